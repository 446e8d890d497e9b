/-
  A part of a proved abstract machine over the model, and of what it tells of this seat's functions. Conditions: as each theorem states them.
-/
import Derived.Test.YtcmmdemeaimegaaGreatDoorAm17
namespace Am
open Go
set_option linter.unusedSimpArgs false
set_option linter.unusedVariables false

theorem constV_rel (M : Nat → Prop) (w : World) (φ : Phi) (v : Value) : VRel M w φ (constV v) v := by
  unfold constV
  split
  · split
    · rename_i cs h
      exact ofV_rel M w φ _ h
    · exact .undef _ _
  · rename_i hne
    have := const_rel M w φ v
    cases v <;> first | exact this | exact absurd rfl (hne _)

/-- The temporaries and the heap. -/
structure SRel (M : Nat → Prop) (w : World) (φ : Phi) (s : St) (a : Act) : Prop where
  t : ARel M w φ s.t a.tmps
  h : HRel M w φ s.h
  nodef : a.defers = []

theorem undef_rel (M : Nat → Prop) (w : World) (φ : Phi) : VRel M w φ (.tuple []) Go.undef := .tuple _ _ _ rfl (fun i hi => by simp at hi)

theorem SRel.eval {M : Nat → Prop} {w : World} {φ : Phi} {s : St} {a : Act} (hs : SRel M w φ s a) (x : Operand) : VRel M w φ (aeval s.t x) (a.eval x) := by
  cases x with
  | tmp i =>
    show VRel M w φ (s.t.getD i (.tuple [])) (a.tmps.getD i Go.undef)
    by_cases hi : i < s.t.length
    · rw [getD_getElem _ _ hi]; exact hs.t.2 i hi
    · have h1 : s.t.getD i (.tuple []) = .tuple [] := by simp only [List.getD, List.getElem?_eq_none (Nat.le_of_not_lt hi), Option.getD_none]
      have h2 : a.tmps.getD i Go.undef = Go.undef := by
        have := hs.t.1
        simp only [Array.getD]
        rw [dif_neg (by rw [← this]; exact hi)]
      rw [h1, h2]; exact undef_rel _ _ _
  | const v => exact constV_rel _ _ _ _
  | global g => exact .gptr _ _ _
  | func f => exact .func _ _ _ _ _ _ rfl rfl (fun i hi => by simp at hi) (fun i hi => by simp at hi)

/-- An operation, in the model. -/
def Goes (P : Program) (ρ : Operand → Value) (o : Oper) (w : World) (R : Value → World → Prop) : Prop :=
  (∃ v w', (execOp ρ o).run P w = .ok (.value v) w' ∧ R v w') ∨ (∃ w', (execOp ρ o).run P w = .ok .skip w' ∧ R Go.undef w') ∨
  (∃ f args w1, (execOp ρ o).run P w = .ok (.enter f args) w1 ∧ Calls P f args w1 fun e w' => ∃ v, e = .returned v ∧ R v w')

section
variable {P : Program} {N : Notes} {E : Env} {f : FuncId} {M : Nat → Prop} {w : World} {φ : Phi} {h h' : List AObj} {ρ : Operand → AV} {ρr : Operand → Value} {o : Oper} {y : AV}

theorem lands_same (hh : HRel M w φ h) {v : Value} (hv : VRel M w φ y v) : Lands M w φ h y h v w := ⟨M, φ, .refl hh, hv⟩
theorem lands_post (hh : HRel M w φ h) {M' : Nat → Prop} {φ' : Phi} {w' : World} {W : List Nat} (hp : Post M w φ h W M' w' φ' h') (hW : ∀ id, id ∈ W → h.getD id .dead ≠ .dead) {v : Value} (hv : VRel M' w' φ' y v) : Lands M w φ h y h' v w' :=
  ⟨M', φ', hp.wide hh hW, hv⟩

theorem map_rel (hρ : ∀ x, VRel M w φ (ρ x) (ρr x)) (xs : Array Operand) : ARel M w φ (xs.toList.map ρ) (xs.map ρr) := by
  refine ⟨by simp, fun i hi => ?_⟩
  have : i < xs.size := by simpa using hi
  simp [Array.getD, this]
  exact hρ _

theorem ARel.append {l l' : List AV} {xs xs' : Array Value} (h1 : ARel M w φ l xs) (h2 : ARel M w φ l' xs') : ARel M w φ (l ++ l') (xs ++ xs') := by
  refine ⟨by simp [h1.1, h2.1], fun i hi => ?_⟩
  rw [app_getD]
  by_cases hl : i < l.length
  · rw [List.getElem_append_left hl, if_pos (by rw [← h1.1]; exact hl)]; exact h1.2 i hl
  · rw [List.getElem_append_right (by omega), if_neg (by rw [← h1.1]; exact hl)]
    rw [← h1.1]
    exact h2.2 (i - l.length) (by simp at hi; omega)

theorem ARel.getD {l : List AV} {xs : Array Value} (h1 : ARel M w φ l xs) (i : Nat) : VRel M w φ (l.getD i .undef) (xs.getD i Go.undef) := by
  by_cases hi : i < l.length
  · rw [getD_getElem _ _ hi]; exact h1.2 i hi
  · rw [show l.getD i .undef = .undef by simp [List.getD, List.getElem?_eq_none (by omega : l.length ≤ i)]]; exact .undef _ _

theorem parts_rel (hρ : ∀ x, VRel M w φ (ρ x) (ρr x)) (parts : Array (Nat × Operand)) (L : List (Nat × AV)) (R : Array (Nat × Value)) (hL : L = parts.toList.map fun (i, x) => (i, ρ x))
    (hR : R = parts.map fun (i, x) => (i, ρr x)) : L.length = R.size ∧ ∀ i (hi : i < L.length), (L[i].1 = (R.toList.getD i (0, Go.undef)).1) ∧ VRel M w φ L[i].2 (R.toList.getD i (0, Go.undef)).2 := by
  subst hL; subst hR
  refine ⟨by simp, fun i hi => ?_⟩
  have : i < parts.size := by simpa using hi
  simp [List.getD, this]
  exact hρ _

theorem arr0 {X : Array Value} (h : 0 < X.size) : X[0]? = some (X.getD 0 Go.undef) := by simp [Array.getD, h]
theorem arr2 {X : Array Value} (h : X.size = 2) : X = #[X.getD 0 Go.undef, X.getD 1 Go.undef] := by
  obtain ⟨l⟩ := X
  match l, h with
  | [a, b], _ => rfl

theorem op_ok (hE : Sound P E) (hh : HRel M w φ h) (hρ : ∀ x, VRel M w φ (ρ x) (ρr x)) (hv : opV P N E f ρ h o = some (y, h')) : Goes P ρr o w (Lands M w φ h y h') := by
  have hf : φ h.length = none := hh.fresh (Nat.le_refl _)
  have hat : ∀ x : AV, ∀ id, id ∈ refs x → HAt M w φ h id := fun _ id _ => hh.at' id
  have quiet : ∀ {r : Option AV}, r.map (fun y => (y, h)) = some (y, h') → r = some y ∧ h' = h := by
    intro r hr
    obtain ⟨z, h1, h2⟩ := Option.map_eq_some_iff.1 hr
    cases h2; exact ⟨h1, rfl⟩
  unfold opV at hv
  dsimp only at hv
  split at hv
  · -- move
    rename_i x hop
    obtain ⟨h1, rfl⟩ := quiet hv; cases h1
    exact .inl ⟨ρr x, w, by simp [execOp, hop], lands_same hh (hρ x)⟩
  · rename_i x hop
    obtain ⟨h1, rfl⟩ := quiet hv; cases h1
    exact .inl ⟨ρr x, w, by simp [execOp, hop], lands_same hh (hρ x)⟩
  · -- pick
    rename_i c a b hop
    have hc := hρ c
    split at hv
    · rename_i hc'
      rw [hc'] at hc
      generalize hcr : ρr c = cr at hc
      cases hc
      obtain ⟨h1, rfl⟩ := quiet hv; cases h1
      exact .inl ⟨ρr a, w, by simp [execOp, hop, hcr, asBool], lands_same hh (hρ a)⟩
    · rename_i hc'
      rw [hc'] at hc
      generalize hcr : ρr c = cr at hc
      cases hc
      obtain ⟨h1, rfl⟩ := quiet hv; cases h1
      exact .inl ⟨ρr b, w, by simp [execOp, hop, hcr, asBool], lands_same hh (hρ b)⟩
    · cases hv
  · -- alloc
    rename_i e hop
    obtain ⟨z, hz, hb⟩ := Option.bind_eq_some_iff.1 hv
    obtain ⟨M', φ', v, w', h1, h2, h3⟩ := alloc_ok hh.own hf hz hb
    exact .inl ⟨v, w', by simp [execOp, hop, h1], lands_post hh h2 (by simp) h3⟩
  · rename_i e x hop
    obtain ⟨M', φ', h1, h2, h3⟩ := box_ok (P := P) hh.own hf hv (hρ x)
    exact .inl ⟨_, _, by simp [execOp, hop, h1], lands_post hh h2 (by simp) h3⟩
  · rename_i t parts hop
    obtain ⟨h1, rfl⟩ := quiet hv
    obtain ⟨p1, p2⟩ := parts_rel hρ parts _ _ rfl rfl
    obtain ⟨v, h2, h3⟩ := build_ok h1 p1 p2
    exact .inl ⟨v, w, by simp [execOp, hop, h2], lands_same hh h3⟩
  · rename_i t len parts hop
    obtain ⟨p1, p2⟩ := parts_rel hρ parts _ _ rfl rfl
    obtain ⟨M', φ', v, w', h1, h2, h3⟩ := buildSlice_ok hh.own hf hv p1 p2
    exact .inl ⟨v, w', by simp [execOp, hop, h1], lands_post hh h2 (by simp) h3⟩
  · rename_i t a hop
    obtain ⟨h1, rfl⟩ := quiet hv
    obtain ⟨v, h2, h3⟩ := load_ok h1 (hρ a) (hat _)
    exact .inl ⟨v, w, by simp [execOp, hop, h2], lands_same hh h3⟩
  · rename_i t a x hop
    obtain ⟨z, h1, h2⟩ := Option.map_eq_some_iff.1 hv
    cases h2
    obtain ⟨w', h3, W, h4, h5⟩ := store_ok hh.own h1 (hρ a) (hρ x) (hat _)
    exact .inr (.inl ⟨w', by simp [execOp, hop, h3], lands_post hh h5 (fun id hid => (h4 id hid).2) (undef_rel _ _ _)⟩)
  · -- nilCheck
    rename_i x hop
    obtain ⟨z, h1, h2⟩ := Option.map_eq_some_iff.1 hv
    cases h2
    have hx := hρ x
    generalize ρ x = ax at hx h1
    generalize hxr : ρr x = xr at hx
    unfold nilCheckA at h1
    split at h1 <;> first | (cases h1; done) | skip
    all_goals
      cases h1
      have hx0 := hx
      cases hx
      exact .inl ⟨_, w, by simp only [execOp, hop, hxr]; rfl, lands_same hh hx0⟩
  · rename_i op t x yy yt hop
    obtain ⟨h1, rfl⟩ := quiet hv
    obtain ⟨v, h2, h3⟩ := bin_ok h1 (hρ x) (hρ yy) rfl
    exact .inl ⟨v, w, by
      have h2' := h2
      simp only [Sem.run_bind] at h2'
      simp only [execOp, hop, Sem.run_bind, h2', Result.andThen_ok, Sem.run_pure], lands_same hh h3⟩
  · rename_i op t x hop
    obtain ⟨h1, rfl⟩ := quiet hv
    obtain ⟨v, h2, h3⟩ := un_ok (P := P) h1 (hρ x)
    exact .inl ⟨v, w, by simp [execOp, hop, h2], lands_same hh h3⟩
  · rename_i src dst x hop
    obtain ⟨h1, rfl⟩ := quiet hv
    obtain ⟨v, w', W, h2, h3, h4, h5⟩ := conv_ok hh.own h1 (hρ x) (hat _)
    exact .inl ⟨v, w', by simp [execOp, hop, h3], lands_post hh h4 (fun id hid => (h2 id hid).2) h5⟩
  · rename_i t x hop
    obtain ⟨h1, rfl⟩ := quiet hv
    obtain ⟨v, h2, h3⟩ := iface_ok h1 (hρ x)
    exact .inl ⟨v, w, by simp [execOp, hop, h2], lands_same hh h3⟩
  · -- makeFunc
    rename_i fn first cap hop
    obtain ⟨h1, rfl⟩ := quiet hv; cases h1
    have r1 := map_rel hρ first
    have r2 := map_rel hρ cap
    exact .inl ⟨.func fn (first.map ρr) (cap.map ρr), w, by simp [execOp, hop, Instr.makeFunc], lands_same hh (.func _ _ _ _ _ _ r1.1 r2.1 r1.2 r2.2)⟩
  · rename_i t hop
    cases hv
    obtain ⟨M', φ', v, w', h1, h2, h3⟩ := makeMap_ok (P := P) hh.own hf t
    exact .inl ⟨v, w', by simp [execOp, hop, h1], lands_post hh h2 (by simp) h3⟩
  · rename_i t l c hop
    obtain ⟨M', φ', v, w', h1, h2, h3⟩ := makeSlice_ok hh.own hf hv (hρ l) (hρ c)
    exact .inl ⟨v, w', by simp [execOp, hop, h1], lands_post hh h2 (by simp) h3⟩
  · rename_i t x lo hi mx hop
    obtain ⟨h1, rfl⟩ := quiet hv
    have om : ∀ z : Option Operand, ORelO M w φ (z.map ρ) (z.map ρr) := fun z => by
      cases z with
      | none => trivial
      | some z => exact hρ z
    obtain ⟨v, h2, h3⟩ := slice_ok h1 (hρ x) (om lo) (om hi) (om mx) (hat _) hh.own
    exact .inl ⟨v, w, by simp [execOp, hop, h2], lands_same hh h3⟩
  · rename_i t x i hop
    obtain ⟨h1, rfl⟩ := quiet hv
    obtain ⟨v, h2, h3⟩ := fieldAddr_ok h1 (hρ x)
    exact .inl ⟨v, w, by simp [execOp, hop, h2], lands_same hh h3⟩
  · rename_i t x i hop
    obtain ⟨h1, rfl⟩ := quiet hv
    obtain ⟨v, h2, h3⟩ := indexAddr_ok h1 (hρ x) (hρ i)
    exact .inl ⟨v, w, by simp [execOp, hop, h2], lands_same hh h3⟩
  · rename_i t x k ok hop
    obtain ⟨h1, rfl⟩ := quiet hv
    obtain ⟨v, h2, h3⟩ := lookup_ok h1 (hρ x) (hρ k) (hat _)
    exact .inl ⟨v, w, by simp [execOp, hop, h2], lands_same hh h3⟩
  · rename_i t i hop
    obtain ⟨h1, rfl⟩ := quiet hv
    obtain ⟨v, h2, h3⟩ := extract_ok (P := P) h1 (hρ t)
    exact .inl ⟨v, w, by simp [execOp, hop, h2], lands_same hh h3⟩
  · rename_i x xt a ok hop
    obtain ⟨h1, rfl⟩ := quiet hv
    obtain ⟨v, h2, h3⟩ := assert_ok (xt := xt) h1 (hρ x)
    exact .inl ⟨v, w, by simp [execOp, hop, h2], lands_same hh h3⟩
  · -- call
    rename_i c hop
    have ra := map_rel hρ c.args
    generalize hA : c.args.toList.map ρ = A at hv ra
    split at hv
    · rename_i hcal
      split at hv
      · rename_i t x rest ht
        obtain ⟨h1, rfl⟩ := quiet hv
        obtain ⟨n, h9, rfl⟩ := Option.map_eq_some_iff.1 h1
        have h0 := ra.getD 0
        have hs : 0 < (c.args.map ρr).size := by have := ra.1; simp at this; simp; omega
        have := len_ok h9 o.type c.argTypes (c.args.map ρr) ht (x := (c.args.map ρr).getD 0 Go.undef) (arr0 hs) (by simpa [List.getD] using h0) (hat _)
        exact .inl ⟨.int .i64 n, w, by simp [execOp, hop, resolve, hcal, invoke, builtin, this], lands_same hh (.int _ _ _)⟩
      · cases hv
    · rename_i hcal
      split at hv
      · rename_i t x rest ht
        obtain ⟨h1, rfl⟩ := quiet hv
        obtain ⟨n, h9, rfl⟩ := Option.map_eq_some_iff.1 h1
        have h0 := ra.getD 0
        have hs : 0 < (c.args.map ρr).size := by have := ra.1; simp at this; simp; omega
        have := cap_ok h9 o.type c.argTypes (c.args.map ρr) ht (x := (c.args.map ρr).getD 0 Go.undef) (arr0 hs) (by simpa [List.getD] using h0) (w := w) (M := M) (φ := φ)
        exact .inl ⟨.int .i64 n, w, by simp [execOp, hop, resolve, hcal, invoke, builtin, this], lands_same hh (.int _ _ _)⟩
      · cases hv
    · rename_i hcal
      split at hv
      · rename_i s x
        have h0 := ra.getD 0
        have h1 := ra.getD 1
        have hs : (c.args.map ρr).size = 2 := ra.1.symm
        have he := arr2 hs
        obtain ⟨M', φ', v, w', W, h2, h3, h4, h5⟩ := append_ok (ty := o.type) hh.own hf hv (show VRel M w φ s ((c.args.map ρr).getD 0 Go.undef) from h0) (show VRel M w φ x ((c.args.map ρr).getD 1 Go.undef) from h1) (hat _) (hat _)
        rw [← he] at h3
        exact .inl ⟨v, w', by simp [execOp, hop, resolve, hcal, invoke, builtin, h3], lands_post hh h4 (fun id hid => (h2 id hid).2) h5⟩
      · cases hv
    · rename_i hcal
      obtain ⟨h1, rfl⟩ := quiet hv
      obtain ⟨v, h2, h3⟩ := min_ok (P := P) c.argTypes o.type h1 ra.1 ra.2
      exact .inl ⟨v, w, by simp [execOp, hop, resolve, hcal, invoke, builtin, h2], lands_same hh h3⟩
    · rename_i hcal
      obtain ⟨h1, rfl⟩ := quiet hv
      obtain ⟨v, h2, h3⟩ := max_ok (P := P) c.argTypes o.type h1 ra.1 ra.2
      exact .inl ⟨v, w, by simp [execOp, hop, resolve, hcal, invoke, builtin, h2], lands_same hh h3⟩
    · cases hv
    · cases hv
    · rename_i g hcal
      have hg := hρ g
      split at hv
      · rename_i gf first cap hgq
        rw [hgq] at hg
        generalize hgr : ρr g = gr at hg
        cases hg with
        | func _ _ _ _ xs ys l1 l2 r1 r2 =>
        have hargs : ARel M w φ (first ++ A ++ cap) ((xs ++ c.args.map ρr) ++ ys) := ARel.append (ARel.append ⟨l1, r1⟩ ra) ⟨l2, r2⟩
        have hrun : ∀ R, (callFunc gf (xs ++ c.args.map ρr ++ ys)).run P w = R → (execOp ρr o).run P w = R := by
          intro R hR
          simp only [execOp, hop, resolve, hcal, hgr, Deferred.ofValue, Sem.run_bind, Sem.run_pure, Result.andThen_ok, invoke]
          exact hR
        rcases call_ok hE hv hh hargs with ⟨h1, h2⟩ | ⟨v, w', h1, h2⟩
        · exact .inr (.inr ⟨_, _, w, hrun _ h1, h2⟩)
        · exact .inl ⟨v, w', hrun _ h1, h2⟩
      · cases hv
  · cases hv

end
end Am
