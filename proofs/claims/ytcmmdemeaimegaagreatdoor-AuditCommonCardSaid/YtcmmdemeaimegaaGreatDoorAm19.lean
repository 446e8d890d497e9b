/-
  A part of a proved abstract machine over the model, and of what it tells of this seat's functions. Conditions: as each theorem states them.
-/
import Derived.Test.YtcmmdemeaimegaaGreatDoorAm18
namespace Am
open Go
set_option linter.unusedSimpArgs false
set_option linter.unusedVariables false

/-! the same value -/
theorem eqOpt_spec : ∀ {a b : Option Nat}, eqOpt a b = true → a = b
  | none, none, _ => rfl
  | some a, some b, h => by simp [eqOpt] at h; rw [h]
  | none, some _, h => by simp [eqOpt] at h
  | some _, none, h => by simp [eqOpt] at h
theorem eqFn_spec {a b : Fn} (h : eqFn a b = true) : a = b := by
  cases a <;> cases b <;> simp [eqFn] at h
  rw [h]
mutual
theorem eqAV_spec : ∀ (a b : AV), eqAV a b = true → a = b
  | .undef, b, h => by cases b <;> simp [eqAV] at h <;> rfl
  | .bool x, b, h => by cases b <;> simp [eqAV] at h; rw [h]
  | .int k x, b, h => by cases b <;> simp [eqAV] at h; rw [h.1, h.2]
  | .str x, b, h => by cases b <;> simp [eqAV] at h; rw [h]
  | .pnil, b, h => by cases b <;> simp [eqAV] at h <;> rfl
  | .ptr x y, b, h => by cases b <;> simp [eqAV] at h; rw [h.1, h.2]
  | .iptr x y, b, h => by cases b <;> simp [eqAV] at h; rw [eqAVs_spec _ _ h.1, h.2]
  | .gptr x y, b, h => by cases b <;> simp [eqAV] at h; rw [h.1, h.2]
  | .snil, b, h => by cases b <;> simp [eqAV] at h <;> rfl
  | .sl x y z u v, b, h => by cases b <;> simp [eqAV] at h; obtain ⟨⟨⟨⟨h1, h2⟩, h3⟩, h4⟩, h5⟩ := h; rw [h1, h2, h3, h4, eqOpt_spec h5]
  | .isl x y z, b, h => by cases b <;> simp [eqAV] at h; rw [eqAVs_spec _ _ h.1.1, h.1.2, eqOpt_spec h.2]
  | .mnil, b, h => by cases b <;> simp [eqAV] at h <;> rfl
  | .map x, b, h => by cases b <;> simp [eqAV] at h; rw [h]
  | .func x y z, b, h => by cases b <;> simp [eqAV] at h; rw [eqFn_spec h.1.1, eqAVs_spec _ _ h.1.2, eqAVs_spec _ _ h.2]
  | .fnil, b, h => by cases b <;> simp [eqAV] at h <;> rfl
  | .iface t v, b, h => by cases b <;> simp [eqAV] at h; rw [h.1, eqAV_spec _ _ h.2]
  | .inil, b, h => by cases b <;> simp [eqAV] at h <;> rfl
  | .agg x, b, h => by cases b <;> simp [eqAV] at h; rw [eqAVs_spec _ _ h]
  | .tuple x, b, h => by cases b <;> simp [eqAV] at h; rw [eqAVs_spec _ _ h]
theorem eqAVs_spec : ∀ (a b : List AV), eqAVs a b = true → a = b
  | [], b, h => by cases b <;> simp [eqAVs] at h <;> rfl
  | x :: l, b, h => by cases b <;> simp [eqAVs] at h; rw [eqAV_spec _ _ h.1, eqAVs_spec _ _ h.2]
end
theorem pairs_ext {es es' : List (AV × AV)} (h1 : es.map (·.1) = es'.map (·.1)) (h2 : es.map (·.2) = es'.map (·.2)) : es = es' := by
  induction es generalizing es' with
  | nil => cases es'; · rfl
           · simp at h1
  | cons e es ih =>
    cases es' with
    | nil => simp at h1
    | cons e' es' =>
      simp only [List.map_cons, List.cons.injEq] at h1 h2
      rw [ih h1.2 h2.2, show e = e' from Prod.ext h1.1 h2.1]
theorem eqObj_spec : ∀ (a b : AObj), eqObj a b = true → a = b
  | .dead, b, h => by cases b <;> simp [eqObj] at h <;> rfl
  | .cells x y z u, b, h => by cases b <;> simp [eqObj] at h; obtain ⟨⟨⟨h1, h2⟩, h3⟩, h4⟩ := h; rw [eqAVs_spec _ _ h1, h2, h3, h4]
  | .map x y, b, h => by cases b <;> simp [eqObj] at h; obtain ⟨⟨h1, h2⟩, h3⟩ := h; rw [pairs_ext (eqAVs_spec _ _ h1) (eqAVs_spec _ _ h2), h3]
theorem eqObjs_spec : ∀ (a b : List AObj), eqObjs a b = true → a = b
  | [], b, h => by cases b <;> simp [eqObjs] at h <;> rfl
  | x :: l, b, h => by cases b <;> simp [eqObjs] at h; rw [eqObj_spec _ _ h.1, eqObjs_spec _ _ h.2]
theorem eqSt_spec {s s' : St} (h : eqSt s s' = true) : s = s' := by
  cases s; cases s'
  simp only [eqSt, Bool.and_eq_true] at h
  rw [eqAVs_spec _ _ h.1, eqObjs_spec _ _ h.2]
theorem agree_spec : ∀ {l : List (Option St)} {s : St}, agree l = some s → ∀ r ∈ l, r = some s
  | [], s, h => by simp [agree] at h
  | [r], s, h => by intro r' hr; simp at hr; subst hr; exact h
  | r :: r2 :: l, s, h => by
    unfold agree at h
    cases hr : r with
    | none => rw [hr] at h; cases h
    | some s1 =>
      cases ha : agree (r2 :: l) with
      | none => rw [hr, ha] at h; cases h
      | some s2 =>
        rw [hr, ha] at h
        dsimp only at h
        split at h
        · rename_i he
          cases h
          have e2 := eqSt_spec he
          subst e2
          intro q hq
          rcases List.mem_cons.1 hq with hq | hq
          · exact hq
          · exact agree_spec ha q hq
        · cases h

/-! the state from a function's beginning on -/
structure Inv (M0 : Nat → Prop) (w0 : World) (φ0 : Phi) (h0 : List AObj) (M : Nat → Prop) (w : World) (φ : Phi) (s : St) (a : Act) : Prop where
  st : SRel M w φ s a
  p : PostW M0 w0 φ0 h0 M w φ s.h

/-- The state, whatever its numbers. -/
def At (M0 : Nat → Prop) (w0 : World) (φ0 : Phi) (h0 : List AObj) (s : St) (a : Act) (w : World) : Prop := ∃ M φ, Inv M0 w0 φ0 h0 M w φ s a

section
variable {P : Program} {N : Notes} {E : Env} {f : FuncId} {M0 : Nat → Prop} {w0 : World} {φ0 : Phi} {h0 : List AObj} {Q : Exit → Act → World → Prop}

theorem ARel.set {M : Nat → Prop} {w : World} {φ : Phi} {l : List AV} {xs : Array Value} (h : ARel M w φ l xs) {v : AV} {x : Value} (hv : VRel M w φ v x) (d : Nat) : ARel M w φ (l.set d v) (xs.setIfInBounds d x) := by
  refine ⟨by simp [h.1], fun i hi => ?_⟩
  have hi' : i < l.length := by simpa using hi
  have hx : i < xs.size := by rw [← h.1]; exact hi'
  rw [List.getElem_set]
  by_cases hd : d = i
  · subst hd; simp [Array.getD, hx]; exact hv
  · rw [if_neg hd]
    have := h.2 i hi'
    simpa [Array.getD, hx, Array.getElem_setIfInBounds_ne _ hd] using this

theorem put_rel {M : Nat → Prop} {w : World} {φ : Phi} {s : St} {a : Act} (hs : SRel M w φ s a) {M' : Nat → Prop} {w' : World} {φ' : Phi} {h' : List AObj} (hp : PostW M w φ s.h M' w' φ' h') {v : AV} {x : Value}
    (hv : VRel M' w' φ' v x) (d : Option Tmp) : SRel M' w' φ' ⟨putA s.t d v, h'⟩ (a.put d x) := by
  have ht : ARel M' w' φ' s.t a.tmps := ⟨hs.t.1, fun i hi => hp.val hs.h (hs.t.2 i hi)⟩
  cases d with
  | none => exact ⟨ht, hp.hrel, hs.nodef⟩
  | some d => exact ⟨ht.set hv d, hp.hrel, hs.nodef⟩

theorem wanted_ok {M : Nat → Prop} {w : World} {φ : Phi} {t : List AV} {a : Act} (ht : ARel M w φ t a.tmps) {ops : Array Oper} {o : Oper} {b : Bool} (hw : wantedA ops o t = some b) : Region.wanted o (yielded ops a.tmps) = b := by
  unfold wantedA at hw
  unfold Region.wanted
  cases hg : o.guard with
  | none => rw [hg] at hw; cases hw; rfl
  | some g =>
    obtain ⟨j, want⟩ := g
    rw [hg] at hw
    obtain ⟨y, hy, hyb⟩ := Option.map_eq_some_iff.1 hw
    have : yielded ops a.tmps j = y := by
      unfold yieldedA at hy
      unfold yielded
      cases hd : (ops[j]?).bind (·.dst) with
      | none => rw [hd] at hy; cases hy; rfl
      | some d =>
        rw [hd] at hy
        simp only [Option.bind_some]
        by_cases hlt : d < t.length
        · have hr := ht.2 d hlt
          have hx : d < a.tmps.size := by rw [← ht.1]; exact hlt
          rw [Array.getElem?_eq_getElem hx]
          dsimp only at hy
          rw [getD_getElem _ _ hlt] at hy
          have he : a.tmps.getD d Go.undef = a.tmps[d] := by simp [Array.getD, hx]
          rw [he] at hr
          generalize t[d] = av at hy hr
          generalize a.tmps[d] = xv at hr
          cases hr <;> first | (cases hy; rfl) | (cases hy)
        · rw [Array.getElem?_eq_none (by rw [← ht.1]; exact Nat.le_of_not_lt hlt)]
          dsimp only at hy
          rw [show t.getD d (.tuple []) = .tuple [] by simp only [List.getD, List.getElem?_eq_none (Nat.le_of_not_lt hlt), Option.getD_none]] at hy
          cases hy; rfl
    dsimp only
    rw [this]; exact hyb

theorem step_ok (hE : Sound P E) {ops : Array Oper} {i : Nat} {o : Oper} (ho : ops[i]? = some o) {s s' : St} (hs : stepA P N E f ops o s = some s') {K : Act → World → Prop} {a : Act} {w : World}
    (hI : At M0 w0 φ0 h0 s a w) (hh0 : HRel M0 w0 φ0 h0) (hK : ∀ a' w', At M0 w0 φ0 h0 s' a' w' → K a' w') : wpOp P ops Q i K a w := by
  obtain ⟨M, φ, hI⟩ := hI
  unfold wpOp
  rw [ho]
  dsimp only
  unfold stepA at hs
  split at hs
  · rename_i hw
    rw [wanted_ok hI.st.t hw, if_pos rfl]
    obtain ⟨⟨v, h'⟩, hv, rfl⟩ := Option.map_eq_some_iff.1 hs
    have fin : ∀ x w', Lands M w φ s.h v h' x w' → K (a.put o.dst x) w' := fun x w' ⟨M', φ', hp, hvr⟩ =>
      hK _ _ ⟨M', φ', put_rel hI.st hp hvr o.dst, hI.p.trans hh0 hp⟩
    refine .inl ?_
    unfold Oper.wp
    rcases op_ok hE hI.st.h hI.st.eval hv with ⟨x, w', h1, h2⟩ | ⟨w', h1, h2⟩ | ⟨g, args, w1, h1, h2⟩
    · rw [h1]; exact fin _ _ h2
    · rw [h1]; exact fin _ _ h2
    · rw [h1]
      exact h2.mono fun e w' ⟨x, he, hx⟩ => by subst he; exact fin _ _ hx
  · rename_i hw
    rw [wanted_ok hI.st.t hw]
    cases hs
    exact hK _ _ ⟨M, φ, put_rel hI.st (.refl hI.st.h) (undef_rel _ _ _) o.dst, hI.p⟩
  · cases hs

theorem ops_ok (hE : Sound P E) (hh0 : HRel M0 w0 φ0 h0) {ops : Array Oper} {s' : St} : ∀ (l : List Oper) (k : Nat) (s : St) (a : Act) (w : World), (∀ i o, l[i]? = some o → ops[k + i]? = some o) →
    opsA P N E f ops l s = some s' → At M0 w0 φ0 h0 s a w → (∀ a' w', At M0 w0 φ0 h0 s' a' w' → Q .normal a' w') → wpOps P ops Q (List.range' k l.length) a w
  | [], k, s, a, w, _, hs, hI, hQ => by cases hs; exact hQ _ _ hI
  | o :: l, k, s, a, w, hl, hs, hI, hQ => by
    rw [List.length_cons, List.range'_succ, wpOps_cons]
    unfold opsA at hs
    split at hs
    · rename_i s1 h1
      exact step_ok hE (by simpa using hl 0 o rfl) h1 hI hh0 fun a' w' hI' => ops_ok hE hh0 l (k + 1) s1 a' w' (fun i o' hi => by have := hl (i + 1) o' (by simpa using hi); rwa [show k + 1 + i = k + (i + 1) by omega]) hs hI' hQ
    · cases hs

theorem region_ok (hE : Sound P E) (hh0 : HRel M0 w0 φ0 h0) {id : Nat} {ops : Array Oper} {s s' : St} {a : Act} {w : World} (hs : opsA P N E f ops ops.toList s = some s') (hI : At M0 w0 φ0 h0 s a w)
    (hQ : ∀ a' w', At M0 w0 φ0 h0 s' a' w' → Q .normal a' w') : (Code.region id ops false).wp P Q a w := by
  refine wp_region ?_
  have := ops_ok (Q := Q) hE hh0 ops.toList 0 s a w (fun i o hi => by simpa using hi) hs hI hQ
  rwa [List.range_eq_range', ← Array.length_toList]

/-! packing -/
theorem range_take {m : Nat} {ids : List Nat} (h : (ids.take m == List.range m) = true) : m ≤ ids.length ∧ ∀ i, i < m → ids.getD i 0 = i := by
  have he : ids.take m = List.range m := by simpa using h
  have hl : (ids.take m).length = m := by rw [he]; simp
  have hm : m ≤ ids.length := by rw [List.length_take] at hl; omega
  refine ⟨hm, fun i hi => ?_⟩
  have : (ids.take m)[i]? = some i := by rw [he]; simp [hi]
  rw [List.getElem?_take] at this
  simp [hi] at this
  simp [List.getD, this]

theorem PostW.down {M : Nat → Prop} {w : World} {φ : Phi} {h : List AObj} {ids : List Nat} (hp : PostW M0 w0 φ0 h0 M w φ h) (ht : (ids.take h0.length == List.range h0.length) = true) (hn : nodupB ids = true) (hc : closedIn h ids = true) :
    PostW M0 w0 φ0 h0 M w (downP φ ids) (downO h ids) := by
  obtain ⟨hm, hid⟩ := range_take ht
  have dg : ∀ i, i < h0.length → ((downO h ids).getD i .dead = .dead ↔ h.getD i .dead = .dead) := fun i hi => by
    rw [downO_getD _ _ _ (by omega), hid i hi]; exact renO_dead
  refine ⟨by simp [downO]; exact hm, hp.size, hp.os, hp.tape, hp.output, hp.old, hp.shape, fun id hid' => ?_, fun id hid' hd => (dg id hid').2 (hp.dead id hid' hd), fun id b hb hid' => ?_, hp.memo, hp.memn, hp.hrel.down hn hc⟩
  · simp only [downP, show id < ids.length by omega, if_true, hid id hid']; exact hp.low id hid'
  · unfold downP at hb
    split at hb
    · rename_i hlt
      have hge : h0.length ≤ ids.getD id 0 := by
        rcases Nat.lt_or_ge (ids.getD id 0) h0.length with h1 | h1
        · have := nodupB_spec hn id (ids.getD id 0) hlt (by omega) (hid _ h1).symm
          omega
        · exact h1
      exact (hp.new _ b hb hge).imp (fun h => h) fun ⟨id0, h1, h2, h3, h4⟩ => ⟨id0, h1, h2, h3, (dg _ h1).2 h4⟩
    · cases hb

theorem pack_ok {t : List AV} {h : List AObj} {s' : St} (hk : packA h0.length t h = some s') {M : Nat → Prop} {w : World} {φ : Phi} (hp : PostW M0 w0 φ0 h0 M w φ h) :
    ∃ φ', PostW M0 w0 φ0 h0 M w φ' s'.h ∧ ∀ (M1 : Nat → Prop) (xs : Array Value), ARel M1 w φ t xs → ARel M1 w φ' s'.t xs := by
  unfold packA at hk
  obtain ⟨⟨t', h'⟩, hk, rfl⟩ := Option.map_eq_some_iff.1 hk
  unfold restrictA at hk
  generalize reach h 1000 _ _ = ids at hk
  split at hk
  · rename_i hb
    cases hk
    simp only [Bool.and_eq_true] at hb
    obtain ⟨⟨⟨h1, h2⟩, h3⟩, h4⟩ := hb
    exact ⟨_, hp.down h1 h2 h3, fun M1 xs ht => ht.go _ _ (fun b h1 h2 => ⟨h1, h2, rfl⟩) (fun _ _ _ => rfl) fun id hid b hb => by
      rw [down_get h3 (by simpa using List.all_eq_true.1 h4 id hid)]; exact hb⟩
  · cases hk

theorem pack_at {t : List AV} {s s' : St} {a : Act} {w : World} (hk : packA h0.length t s.h = some s') (hI : At M0 w0 φ0 h0 s a w) (ht : ∀ M φ, ARel M w φ s.t a.tmps → ARel M w φ t a.tmps) : At M0 w0 φ0 h0 s' a w := by
  obtain ⟨M, φ, hI⟩ := hI
  obtain ⟨φ', h1, h2⟩ := pack_ok hk hI.p
  exact ⟨M, φ', ⟨h2 M _ (ht M φ hI.st.t), h1.hrel, hI.st.nodef⟩, h1⟩

theorem mask_rel {M : Nat → Prop} {w : World} {φ : Phi} {t : List AV} {xs : Array Value} (live : List Nat) (ht : ARel M w φ t xs) : ARel M w φ (maskA live t) xs := by
  refine ⟨by simp [maskA, ht.1], fun i hi => ?_⟩
  simp only [maskA, List.getElem_map, List.getElem_zipIdx]
  split
  · exact ht.2 i (by simpa [maskA] using hi)
  · exact .undef _ _

theorem trim_at {live : List Nat} {s s' : St} {a : Act} {w : World} (hk : trimA h0.length live s = some s') (hI : At M0 w0 φ0 h0 s a w) : At M0 w0 φ0 h0 s' a w :=
  pack_at hk hI fun M φ => mask_rel live

/-! every order -/
theorem any_ok (hE : Sound P E) (hh0 : HRel M0 w0 φ0 h0) {md : Region.Mode} {ops : Array Oper} {s' : St} (hQ : ∀ a' w', At M0 w0 φ0 h0 s' a' w' → Q .normal a' w') : ∀ (n : Nat) (listed : Array Bool) (s : St) (a : Act) (w : World),
    anyA P N E f h0.length md ops n listed s = some s' → At M0 w0 φ0 h0 s a w → wpAny P md ops Q n listed a w
  | 0, listed, s, a, w, hs, hI => by
    rw [anyA] at hs
    split at hs
    · rename_i hr
      exact ⟨by simpa using hr, hQ _ _ (pack_at hs hI fun _ _ h => h)⟩
    · cases hs
  | n + 1, listed, s, a, w, hs, hI => by
    rw [anyA] at hs
    split at hs
    · rename_i hr
      exact wpAny_done hr (hQ _ _ (pack_at hs hI fun _ _ h => h)) _
    · rename_i is hne
      refine wpAny_all rfl hne fun i hi => ?_
      have := agree_spec hs _ (List.mem_map_of_mem hi)
      obtain ⟨o, ho, h1⟩ := Option.bind_eq_some_iff.1 this
      obtain ⟨s1, h2, h3⟩ := Option.bind_eq_some_iff.1 h1
      exact step_ok hE ho h2 hI hh0 fun a' w' hI' => any_ok hE hh0 hQ n _ s1 a' w' h3 hI'

theorem At.drawn {s : St} {a : Act} {w : World} (h : At M0 w0 φ0 h0 s a w) : At M0 w0 φ0 h0 s a { w with drawn := w.drawn + 1 } := by
  obtain ⟨M, φ, hI⟩ := h
  have hs : ∀ b, b < w.heap.size → ¬ M b → b < ({ w with drawn := w.drawn + 1 } : World).heap.size ∧ ¬ M b ∧ ({ w with drawn := w.drawn + 1 } : World).heap[b]? = w.heap[b]? := fun b h1 h2 => ⟨h1, h2, rfl⟩
  refine ⟨M, φ, ⟨⟨hI.st.t.1, fun i hi => (hI.st.t.2 i hi).stay hs (fun _ _ _ => rfl) (fun _ _ h => h)⟩, ?_, hI.st.nodef⟩, ?_⟩
  all_goals
    have hr : HRel M { w with drawn := w.drawn + 1 } φ s.h := ⟨⟨hI.st.h.own.own, hI.st.h.own.top⟩, hI.st.h.lt, fun id hid => (hI.st.h.at_ id hid).imp (fun h => h) fun ⟨b, ob, h1, h2, h3⟩ => ⟨b, ob, h1, h2, h3.stay hs (fun _ _ _ => rfl) (fun _ _ h => h)⟩, hI.st.h.inj⟩
  · exact hr
  · exact ⟨hI.p.len, hI.p.size, hI.p.os, hI.p.tape, hI.p.output, hI.p.old, hI.p.shape, hI.p.low, hI.p.dead, hI.p.new, hI.p.memo, hI.p.memn, hr⟩

end
end Am
