/-
  A part of a proved abstract machine over the model, and of what it tells of this seat's functions. Conditions: as each theorem states them.
-/
import Derived.Test.YtcmmdemeaimegaaGreatDoorAm20
namespace Am
open Go
set_option linter.unusedSimpArgs false
set_option linter.unusedVariables false

section
variable {P : Program} {N : Notes} {E : Env} {f : FuncId} {M0 M : Nat → Prop} {w0 w : World} {φ0 φ : Phi} {h0 h : List AObj} {m : Nat}

theorem addr_of {ty : TypeId} {ya y : AV} {x : Value} (hl : loadA P h ty ya = some y) (hx : VRel M w φ ya x) : ∃ a, x = .pointer (some a) := by
  unfold loadA at hl
  split at hl
  · cases hx; exact ⟨_, rfl⟩
  · cases hx; exact ⟨_, rfl⟩
  · cases hl

theorem take_getD {xs : Array Value} {n i : Nat} (hi : i < n) (hn : n ≤ xs.size) : (xs.take n).getD i Go.undef = xs.getD i Go.undef := by
  have h1 : i < (xs.take n).size := by simp; omega
  have h2 : i < xs.size := by omega
  simp only [Array.getD, h1, h2, dif_pos]
  simp

def resS (xs : Array Value) : ResultVar → Sem Value
  | .tmp t => pure (xs.getD t Go.undef)
  | .cell a t => do loadVar t (← asAddr (xs.getD a Go.undef))
theorem results_eq (fn : Func) (xs : Array Value) : results fn xs = (do let vs ← fn.results.mapM (resS xs); pure (if h : vs.size = 1 then vs[0] else .tuple vs)) := by
  unfold results
  have : (fun | .tmp t => pure (xs.getD t Go.undef) | .cell a t => do loadVar t (← asAddr (xs.getD a Go.undef)) : ResultVar → Sem Value) = resS xs := by
    funext r; cases r <;> rfl
  rw [← this]; rfl

theorem resA_ok (hh : HRel M w φ h) {t : List AV} {xs : Array Value} (ht : ARel M w φ t xs) {r : ResultVar} {y : AV} (hr : resA P h t r = some y) :
    ∃ v, (resS xs r).run P w = .ok v w ∧ VRel M w φ y v := by
  cases r with
  | tmp i => cases hr; exact ⟨_, rfl, ht.getD i⟩
  | cell a ty =>
    have ha := ht.getD a
    obtain ⟨v, h1, h2⟩ := load_ok hr ha fun id _ => hh.at' id
    obtain ⟨ad, hq⟩ := addr_of hr ha
    refine ⟨v, ?_, h2⟩
    unfold resS
    dsimp only
    rw [hq] at h1 ⊢
    simpa [asAddr, Instr.loadAt, Instr.sureAddr] using h1

theorem mapM_ok {α : Type} {g : α → Option AV} {gr : α → Sem Value} (hg : ∀ a y, g a = some y → ∃ v, (gr a).run P w = .ok v w ∧ VRel M w φ y v) : ∀ (l : List α) (ys : List AV), l.mapM g = some ys →
    ∃ vs, (l.mapM gr).run P w = .ok vs w ∧ ys.length = vs.length ∧ ∀ i (hi : i < ys.length), VRel M w φ ys[i] (vs.getD i Go.undef)
  | [], ys, hs => by simp at hs; subst hs; exact ⟨[], by simp, rfl, fun i hi => by simp at hi⟩
  | a :: l, ys, hs => by
    rw [List.mapM_cons] at hs
    obtain ⟨y, h1, hs⟩ := Option.bind_eq_some_iff.1 hs
    obtain ⟨ys', h2, hs⟩ := Option.bind_eq_some_iff.1 hs
    cases hs
    obtain ⟨v, h3, h4⟩ := hg _ _ h1
    obtain ⟨vs, h5, h6, h7⟩ := mapM_ok hg l ys' h2
    refine ⟨v :: vs, by simp [List.mapM_cons, h3, h5], by simp [h6], fun i hi => ?_⟩
    match i with
    | 0 => exact h4
    | i + 1 => simpa [List.getD] using h7 i (by simpa using hi)

theorem results_ok (hh : HRel M w φ h) {t : List AV} {xs : Array Value} (ht : ARel M w φ t xs) {fn : Func} {y : AV} (hr : resultsA P fn ⟨t, h⟩ = some y) : ∃ v, (results fn xs).run P w = .ok v w ∧ VRel M w φ y v := by
  unfold resultsA at hr
  dsimp only at hr
  cases hm : fn.results.toList.mapM (resA P h t) with
  | none => rw [hm] at hr; cases hr
  | some ys =>
    rw [hm] at hr
    obtain ⟨vs, h1, h2, h3⟩ := mapM_ok (P := P) (w := w) (gr := resS xs) (fun r y hr => resA_ok hh ht hr) _ _ hm
    have hrun : (results fn xs).run P w = .ok (if h : vs.toArray.size = 1 then vs.toArray[0] else .tuple vs.toArray) w := by
      rw [results_eq, Array.mapM_eq_mapM_toList]
      simp only [Sem.run_bind, map_eq_pure_bind, h1, Result.andThen_ok, Sem.run_pure]
    refine ⟨_, hrun, ?_⟩
    have tup : VRel M w φ (.tuple ys) (.tuple vs.toArray) := .tuple _ _ _ (by simpa using h2) fun i hi => by
      rw [show vs.toArray.getD i Go.undef = vs.getD i Go.undef from arr_getD vs i _]; exact h3 i hi
    clear hm h1 hrun
    match ys, vs, h2, hr, h3, tup with
    | [y1], [v1], _, hr, h3, _ => cases hr; exact h3 0 (by simp)
    | [], [], _, hr, h3, tup => cases hr; exact tup
    | _ :: _ :: _, _ :: _ :: _, h2, hr, h3, tup => cases hr; simp only [List.size_toArray, List.length_cons]; rw [dif_neg (by omega)]; exact tup

/-! freezing -/
theorem noRefs_none {M : Nat → Prop} {w : World} {φ : Phi} {l : List AV} {xs : Array Value} (hn : noRefs l = true) (ha : ARel M w φ l xs) : ARel M w (fun _ => none) l xs := by
  refine ⟨ha.1, fun i hi => ?_⟩
  have := (ha.2 i hi).go (M' := M) (w' := w) (fun i => i) (fun _ => none) (fun b h1 h2 => ⟨h1, h2, rfl⟩) (fun _ _ _ => rfl) fun id hid => by
    have hm := refsL_mem hi hid
    simp [noRefs] at hn
    rw [hn] at hm; cases hm
  rwa [ren_id] at this

structure Fz (M0 M : Nat → Prop) (w : World) (φ : Phi) (h : List AObj) (m : Nat) : Prop where
  hh : HRel M w φ h
  sub : ∀ b, M0 b → M b
  new : ∀ id b, m ≤ id → φ id = some b → ¬ M0 b

theorem Fz.stays (hf : Fz M0 M w φ h m) : ∀ b, b < w.heap.size → ¬ M b → b < w.heap.size ∧ ¬ M0 b ∧ w.heap[b]? = w.heap[b]? := fun b h1 h2 => ⟨h1, fun h3 => h2 (hf.sub b h3), rfl⟩

theorem Fz.weak (hf : Fz M0 M w φ h m) {ψ : Phi} {v : AV} {x : Value} (hv : VRel M w ψ v x) : VRel M0 w ψ v x := hv.stay hf.stays (fun _ _ _ => rfl) (fun _ _ h => h)

theorem obj_frozen (hf : Fz M0 M w φ h m) {id : Nat} (hid : m ≤ id) {cs : List AV} {e : TypeId} {g pr : Bool} (hob : h.getD id .dead = .cells cs e g pr) {b : Nat} (hb : φ id = some b) :
    ∃ xs fr, w.heap[b]? = some (.cells xs e fr) ∧ ¬ M0 b ∧ b < w.heap.size ∧ cs.length ≤ xs.size ∧ (∀ i, i < xs.size → ¬ (fr.1 ≤ i ∧ i < fr.2)) ∧ (∀ i, i < xs.size → (xs.getD i Go.undef).oneCell' = true) ∧
      (∀ i, i < cs.length → w.cell? ⟨b, 0 + i, none⟩ = some (xs.getD i Go.undef)) ∧ ∀ i (hi : i < cs.length), VRel M w (if pr then fun _ => none else φ) cs[i] (xs.getD i Go.undef) := by
  rcases hf.hh.at' id with h1 | ⟨b', ob, h1, h2, h3⟩
  · rw [hob] at h1; cases h1
  rw [hb] at h1; cases h1
  rw [hob] at h3
  obtain ⟨xs, fr, rfl, hr, h4, h5, h6, h7, h8⟩ := obj_reads (id := id) h2 h3
  have hor : ORel M w φ (.cells cs e g pr) (.cells xs e fr) := h3
  exact ⟨xs, fr, h2, hf.new id b hid hb, (hf.hh.own.own _ _ hb).2, h4, h6, h7, fun i hi => (hr i hi).1, hor.2.2.2.2.2⟩

theorem inl_both (hf : Fz M0 M w φ h m) : ∀ n : Nat, (∀ (v v' : AV) (x : Value), inl h m n v = some v' → VRel M w φ v x → VRel M0 w φ v' x) ∧
    (∀ (l l' : List AV) (xs : Array Value), inlL h m n l = some l' → ARel M w φ l xs → ARel M0 w φ l' xs) := by
  intro n
  induction n with
  | zero => exact ⟨fun v v' x hi => by cases v <;> simp [inl] at hi, fun l l' xs hi => by cases l <;> simp [inlL] at hi⟩
  | succ n ih =>
    obtain ⟨ih1, ih2⟩ := ih
    refine ⟨fun v v' x hi hv => ?_, fun l l' xs hi ha => ?_⟩
    · cases v with
      | ptr id off =>
        rw [inl] at hi
        split at hi
        · cases hi; exact hf.weak hv
        · rename_i hid
          split at hi
          · rename_i cs e g pr hob
            cases hv with
            | ptr _ _ _ b hb =>
            obtain ⟨xs, fr, h1, h2, h3, h4, h5, h6, h7, h8⟩ := obj_frozen hf (by omega) hob hb
            have go : ∀ cs' : List AV, cs'.length = cs.length → (∀ i (hi : i < cs'.length), VRel M0 w (fun _ => none) cs'[i] (xs.getD i Go.undef)) → VRel M0 w φ (.iptr cs' off) (.pointer (some ⟨b, off, none⟩)) := by
              intro cs' hl hc
              have := VRel.iptr (M := M0) (w := w) φ cs' off b 0 (fun i => xs.getD i Go.undef) h2 h3 (fun i hi => h7 i (by omega)) (fun i hi => h6 i (by omega)) hc
              rwa [Nat.zero_add] at this
            cases pr with
            | true => cases hi; exact go cs rfl fun i hi => hf.weak (h8 i hi)
            | false =>
              simp only [Bool.false_eq_true, if_false] at hi
              obtain ⟨cs', h9, h10⟩ := Option.bind_eq_some_iff.1 hi
              split at h10
              · rename_i hn
                cases h10
                have ha : ARel M w φ cs (xs.take cs.length) := ⟨by simp; omega, fun i hi => by
                  have := h8 i hi
                  simp only [Bool.false_eq_true, if_false] at this
                  rwa [take_getD hi h4]⟩
                have ha2 := noRefs_none hn (ih2 _ _ _ h9 ha)
                have hl : cs'.length = cs.length := by have := ha2.1; simp at this; omega
                exact go cs' hl fun i hi => by
                  have := ha2.2 i hi
                  rwa [take_getD (by omega) h4] at this
              · cases h10
          · cases hi
      | sl id off len size cap =>
        rw [inl] at hi
        split at hi
        · cases hi; exact hf.weak hv
        · rename_i hid
          split at hi
          · rename_i cs e g pr hob
            cases hv with
            | sl _ _ _ _ _ _ b c hb g1 g2 g3 g4 =>
            obtain ⟨xs, fr, h1, h2, h3, h4, h5, h6, h7, h8⟩ := obj_frozen hf (by omega) hob hb
            have plen : ((cs.drop off).take (len * size)).length ≤ cs.length - off := by simp; omega
            have go : ∀ cs' : List AV, cs'.length = ((cs.drop off).take (len * size)).length → (∀ i (hi : i < cs'.length), VRel M0 w (fun _ => none) cs'[i] (xs.getD (off + i) Go.undef)) → VRel M0 w φ (.isl cs' len none) (.slice (some ⟨b, off, none⟩) len c) := by
              intro cs' hl hc
              refine VRel.isl φ cs' len none ⟨b, off, none⟩ c (fun i => xs.getD (off + i) Go.undef) g1 g2 (fun k hk => by cases hk) (fun _ => ⟨rfl, h2, h3⟩) (fun i hi => ?_) (fun i hi => h6 _ (by omega)) hc
              have := h7 (off + i) (by omega)
              simpa using this
            cases pr with
            | true =>
              simp only [if_true] at hi
              cases hi
              exact go _ rfl fun i hi => by
                have hlt : off + i < cs.length := by omega
                have := hf.weak (h8 (off + i) hlt)
                simp only [List.getElem_take, List.getElem_drop]
                exact this
            | false =>
              simp only [Bool.false_eq_true, if_false] at hi
              obtain ⟨cs', h9, h10⟩ := Option.bind_eq_some_iff.1 hi
              split at h10
              · rename_i hn
                cases h10
                have key : ∀ i, i < ((cs.drop off).take (len * size)).length → ((xs.extract off cs.length).take ((cs.drop off).take (len * size)).length).getD i Go.undef = xs.getD (off + i) Go.undef := by
                  intro i hi
                  have h11 : i < ((xs.extract off cs.length).take ((cs.drop off).take (len * size)).length).size := by simp at hi ⊢; omega
                  have h12 : off + i < xs.size := by omega
                  simp only [Array.getD, h11, h12, dif_pos]
                  simp
                have ha : ARel M w φ ((cs.drop off).take (len * size)) ((xs.extract off cs.length).take ((cs.drop off).take (len * size)).length) := by
                  refine ⟨by simp; omega, fun i hi => ?_⟩
                  rw [key i hi]
                  have hlt : off + i < cs.length := by omega
                  have := h8 (off + i) hlt
                  simp only [Bool.false_eq_true, if_false] at this
                  simp only [List.getElem_take, List.getElem_drop]
                  exact this
                have ha2 := noRefs_none hn (ih2 _ _ _ h9 ha)
                have hl : cs'.length = ((cs.drop off).take (len * size)).length := by rw [ha2.1, ← ha.1]
                exact go cs' hl fun i hi => by
                  have := ha2.2 i hi
                  rwa [key i (by omega)] at this
              · cases h10
          · cases hi
      | map id =>
        rw [inl] at hi
        split at hi
        · cases hi; exact hf.weak hv
        · cases hi
      | func fn a b =>
        rw [inl] at hi
        obtain ⟨a', h1, hi⟩ := Option.bind_eq_some_iff.1 hi
        obtain ⟨b', h2, hi⟩ := Option.bind_eq_some_iff.1 hi
        cases hi
        cases hv with
        | func _ _ _ _ xs ys l1 l2 r1 r2 =>
        have q1 := ih2 _ _ _ h1 ⟨l1, r1⟩
        have q2 := ih2 _ _ _ h2 ⟨l2, r2⟩
        exact .func _ _ _ _ _ _ q1.1 q2.1 q1.2 q2.2
      | iface t u =>
        rw [inl] at hi
        obtain ⟨u', h1, rfl⟩ := Option.map_eq_some_iff.1 hi
        cases hv with
        | iface _ _ _ y hy => exact .iface _ _ _ _ (ih1 _ _ _ h1 hy)
      | agg cs =>
        rw [inl] at hi
        obtain ⟨u', h1, rfl⟩ := Option.map_eq_some_iff.1 hi
        cases hv with
        | agg _ _ ys l1 l2 r1 =>
        have q := ih2 _ _ _ h1 ⟨l1, r1⟩
        exact .agg _ _ _ q.1 (fun i hi => l2 i (by have := q.1; omega)) q.2
      | tuple cs =>
        rw [inl] at hi
        obtain ⟨u', h1, rfl⟩ := Option.map_eq_some_iff.1 hi
        cases hv with
        | tuple _ _ ys l1 r1 =>
        have q := ih2 _ _ _ h1 ⟨l1, r1⟩
        exact .tuple _ _ _ q.1 q.2
      | _ => simp [inl] at hi; subst hi; exact hf.weak hv
    · cases l with
      | nil => simp [inlL] at hi; subst hi; exact ⟨ha.1, fun i hi => by simp at hi⟩
      | cons v l =>
        rw [inlL] at hi
        obtain ⟨v', h1, hi⟩ := Option.bind_eq_some_iff.1 hi
        obtain ⟨l2, h2, hi⟩ := Option.bind_eq_some_iff.1 hi
        cases hi
        have hs : 0 < xs.size := by rw [← ha.1]; simp
        have a1 := ih1 _ _ _ h1 (ha.2 0 (by simp))
        have a2 := ih2 l l2 (xs.extract 1 xs.size) h2 ⟨by have := ha.1; simp at this ⊢; omega, fun i hi => by
          have := ha.2 (i + 1) (by simpa using hi)
          have hx : i + 1 < xs.size := by rw [← ha.1]; simpa using hi
          have hx2 : i < (xs.extract 1 xs.size).size := by simp; omega
          rw [show (xs.extract 1 xs.size).getD i Go.undef = xs.getD (i + 1) Go.undef by simp only [Array.getD, hx, hx2, dif_pos]; simp [Nat.add_comm]]
          simpa using this⟩
        refine ⟨by have := a2.1; simp at this ⊢; omega, fun i hi => ?_⟩
        match i with
        | 0 => exact a1
        | i + 1 =>
          have hi' : i < l2.length := by simpa using hi
          have := a2.2 i hi'
          have hx2 : i < (xs.extract 1 xs.size).size := by rw [← a2.1]; exact hi'
          have hx : i + 1 < xs.size := by simp at hx2; omega
          rw [show (xs.extract 1 xs.size).getD i Go.undef = xs.getD (i + 1) Go.undef by simp only [Array.getD, hx, hx2, dif_pos]; simp [Nat.add_comm]] at this
          simpa using this

theorem inl_ok (hf : Fz M0 M w φ h m) {n : Nat} {v v' : AV} {x : Value} (hi : inl h m n v = some v') (hv : VRel M w φ v x) : VRel M0 w φ v' x := (inl_both hf n).1 _ _ _ hi hv

theorem PostW.shrink (hp : PostW M0 w0 φ0 h0 M w φ h) (hh0 : HRel M0 w0 φ0 h0) (hl : h.length = h0.length) : PostW M0 w0 φ0 h0 M0 w φ h where
  len := hp.len
  size := hp.size
  os := hp.os
  tape := hp.tape
  output := hp.output
  old := hp.old
  shape := hp.shape
  low := hp.low
  dead := hp.dead
  new := hp.new
  memo _ h := h
  memn _ h := .inl h
  hrel := by
    refine ⟨⟨fun id b hb => ?_, fun b hb => Nat.lt_of_lt_of_le (hh0.own.top _ hb) hp.size⟩, hp.hrel.lt, fun id hid => ?_, hp.hrel.inj⟩
    · have hid := hp.hrel.lt _ _ hb
      rw [hp.low id (by omega)] at hb
      have := hh0.own.own _ _ hb
      exact ⟨this.1, Nat.lt_of_lt_of_le this.2 hp.size⟩
    · exact (hp.hrel.at_ id hid).imp (fun h => h) fun ⟨b, ob, h1, h2, h3⟩ => ⟨b, ob, h1, h2, h3.stay (fun b h1 h2 => ⟨h1, fun h3 => h2 (hp.memo b h3), rfl⟩) (fun _ _ _ => rfl) (fun _ _ h => h)⟩

theorem one_rel {r : AV} {x : Value} (hr : VRel M w φ r x) : ARel M w φ [r] #[x] := ⟨rfl, fun i hi => by
  have : i = 0 := by simpa using hi
  subst this; exact hr⟩

theorem leave_ok {keep : Bool} {s : St} {r y : AV} {h' : List AObj} {x : Value} (hl : leaveA keep h0 s r = some (y, h')) (hh0 : HRel M0 w0 φ0 h0) (hp : PostW M0 w0 φ0 h0 M w φ s.h) (hr : VRel M w φ r x) :
    Lands M0 w0 φ0 h0 y h' x w := by
  unfold leaveA at hl
  split at hl
  · split at hl
    · rename_i r' h1 hk
      cases hl
      obtain ⟨φ', h2, h3⟩ := pack_ok hk hp
      exact ⟨M, φ', h2, (h3 M #[x] (one_rel hr)).2 0 (by simp)⟩
    · cases hl
  · split at hl
    · rename_i hd
      split at hl
      · rename_i r2 hi
        have hd' : ∀ id, id < h0.length → h0.getD id .dead ≠ .dead → s.h.getD id .dead ≠ .dead := by
          intro id hid hlive hdead
          have := List.all_eq_true.1 hd id (by simpa using hid)
          rw [hdead] at this
          cases hq : h0.getD id .dead with
          | dead => exact hlive hq
          | cells => rw [hq] at this; simp [AObj.isDead] at this
          | map => rw [hq] at this; simp [AObj.isDead] at this
        have hnew : ∀ id b, h0.length ≤ id → φ id = some b → w0.heap.size ≤ b := by
          intro id b hid hb
          rcases hp.new id b hb hid with h1 | ⟨id0, h1, _, h3, h4⟩
          · exact h1
          · exact absurd h4 (hd' _ h1 h3)
        have hf : Fz M0 M w φ s.h h0.length := ⟨hp.hrel, hp.memo, fun id b hid hb hM => by have := hnew id b hid hb; have := hh0.own.top _ hM; omega⟩
        have hr2 := inl_ok hf hi hr
        split at hl
        · rename_i r3 h1 hk
          split at hl
          · rename_i hlen
            cases hl
            obtain ⟨φ', h2, h3⟩ := pack_ok hk hp
            exact ⟨M0, φ', h2.shrink hh0 hlen, (h3 M0 #[x] (one_rel hr2)).2 0 (by simp)⟩
          · cases hl
        · cases hl
      · cases hl
    · cases hl

end
end Am
