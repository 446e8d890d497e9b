/-
  A part of a proved abstract machine over the model, and of what it tells of this seat's functions. Conditions: as each theorem states them.
-/
import Derived.Test.YtcmmdemeaimegaaGreatDoorAm6
namespace Am
open Go
set_option linter.unusedSimpArgs false
set_option linter.unusedVariables false

section
variable {P : Program} {M : Nat → Prop} {w : World} {φ : Phi} {h : List AObj}

theorem getD_getElem {α} (l : List α) (d : α) {i : Nat} (hi : i < l.length) : l.getD i d = l[i] := by simp [List.getD, hi]

theorem setCells_getD (vs : List AV) : ∀ (cs : List AV) (off i : Nat), (setCells cs off vs).getD i .undef = if off ≤ i ∧ i < off + vs.length ∧ i < cs.length then vs.getD (i - off) .undef else cs.getD i .undef := by
  induction vs with
  | nil => intro cs off i; simp [setCells]; intro h1 h2; omega
  | cons v vs ih =>
    intro cs off i
    rw [setCells, ih]
    simp only [List.length_set, List.length_cons]
    by_cases h1 : off + 1 ≤ i ∧ i < off + 1 + vs.length ∧ i < cs.length
    · rw [if_pos h1, if_pos (by omega)]
      obtain ⟨k, hk⟩ : ∃ k, i - off = k + 1 := ⟨i - off - 1, by omega⟩
      rw [hk, List.getD_cons_succ]
      congr 1; omega
    · rw [if_neg h1]
      by_cases h2 : i = off
      · subst h2
        by_cases h3 : i < cs.length
        · rw [if_pos (by omega)]
          simp [List.getD, h3]
        · rw [if_neg (by omega)]
          simp [List.getD, h3]
      · rw [if_neg (by omega)]
        simp [List.getD, List.getElem?_set, Ne.symm h2]

theorem setArr_getD (vs : List Value) : ∀ (xs : Array Value) (off i : Nat), (setArr xs off vs).getD i Go.undef = if off ≤ i ∧ i < off + vs.length ∧ i < xs.size then vs.getD (i - off) Go.undef else xs.getD i Go.undef := by
  have g : ∀ (a : Array Value) (i : Nat), a.getD i Go.undef = (a[i]?).getD Go.undef := fun a i => by by_cases h : i < a.size <;> simp [Array.getD, h]
  induction vs with
  | nil => intro xs off i; simp [setArr]; intro h1 h2; omega
  | cons v vs ih =>
    intro xs off i
    rw [setArr, ih]
    simp only [Array.size_setIfInBounds, List.length_cons]
    by_cases h1 : off + 1 ≤ i ∧ i < off + 1 + vs.length ∧ i < xs.size
    · rw [if_pos h1, if_pos (by omega)]
      obtain ⟨k, hk⟩ : ∃ k, i - off = k + 1 := ⟨i - off - 1, by omega⟩
      rw [hk, List.getD_cons_succ]
      congr 1; omega
    · rw [if_neg h1]
      by_cases h2 : i = off
      · subst h2
        by_cases h3 : i < xs.size
        · rw [if_pos (by omega), g]
          simp [h3]
        · rw [if_neg (by omega), g, g]
          simp [h3]
      · rw [if_neg (by omega), g, g]
        simp [Array.getElem?_setIfInBounds, Ne.symm h2]

/-- A BLOCK IS WRITTEN. -/
theorem set_post (ho : Own M w φ) {id b : Nat} (hid : id < h.length) (hb : φ id = some b) (o : AObj) {ob0 ob : Obj} (hob : w.heap[b]? = some ob0)
    (hsh : (match ob0, ob with | .cells c e _, .cells c' e' _ => e = e' ∧ c.size = c'.size | .map _ _, .map _ _ => True | _, _ => False))
    (hr : ∀ (M' : Nat → Prop) (w' : World) (φ' : Phi), (∀ b, b < w.heap.size → ¬ M b → b < w'.heap.size ∧ ¬ M' b ∧ w'.heap[b]? = w.heap[b]?) → (∀ b id, φ id = some b → w'.shape? b = w.shape? b) →
      (∀ id b, φ id = some b → φ' id = some b) → ORel M' w' φ' o ob) :
    Post M w φ h [id] M (putBlock w b ob) φ (h.set id o) := by
  have hlt : b < w.heap.size := (ho.own _ _ hb).2
  have hsz : (putBlock w b ob).heap.size = w.heap.size := by simp [putBlock]
  have hold : ∀ b', b' ≠ b → (putBlock w b ob).heap[b']? = w.heap[b']? := by
    intro b' hb'
    show (w.heap.setIfInBounds b ob)[b']? = _
    rw [Array.getElem?_setIfInBounds, if_neg (Ne.symm hb')]
  have hnew : (putBlock w b ob).heap[b]? = some ob := by
    show (w.heap.setIfInBounds b ob)[b]? = _
    rw [Array.getElem?_setIfInBounds, if_pos rfl, if_pos hlt]
  have hshape : ∀ b', (putBlock w b ob).shape? b' = w.shape? b' := by
    intro b'
    by_cases he : b' = b
    · subst he
      simp only [World.shape?, hnew, hob]
      cases ob0 with
      | cells c e f => cases ob with
        | cells c' e' f' => obtain ⟨h1, h2⟩ := hsh; simp only [h1, h2]
        | _ => exact hsh.elim
      | map x y => cases ob with
        | map x' y' => rfl
        | _ => exact hsh.elim
      | _ => exact hsh.elim
    · simp only [World.shape?, hold b' he]
  refine { len := by simp, size := by rw [hsz]; exact Nat.le_refl _, os := rfl, tape := rfl, output := rfl, old := ?_, shape := fun b' _ => hshape b', mono := fun _ _ h => h, new := fun _ _ h => .inl h, newinj := ?_, mem := ?_, frame := ?_, objs := ?_ }
  · intro b' hb' hn
    exact hold b' fun he => hn id (by simp) (by rw [he]; exact hb)
  · intro id id' b h1 _ h3; rw [h1] at h3; cases h3
  · intro b'
    exact ⟨fun h => .inl h, fun h => h.elim (fun h => h) fun ⟨h1, id, h2⟩ => absurd (ho.own _ _ h2).2 (by omega)⟩
  · intro id' h1 h2
    simp only [List.mem_singleton] at h2
    simp [List.getD, List.getElem?_set, Ne.symm h2]
  · intro id' h1 h2
    simp only [List.length_set, List.mem_singleton] at h1 h2
    have : id' = id := by omega
    subst this
    refine .inr ⟨b, ob, hb, hnew, ?_⟩
    have : (h.set id' o).getD id' .dead = o := by simp [List.getD, hid]
    rw [this]
    refine hr _ _ _ (fun b' hb' hm => ⟨by rw [hsz]; exact hb', hm, hold b' fun he => hm (he ▸ (ho.own _ _ hb).1)⟩) (fun b' _ _ => hshape b') (fun _ _ h => h)

/-- Cells are written over: what the row holds then. -/
theorem cells_set {e : TypeId} {grow pr : Bool} {cs vs : List AV} {xs : Array Value} {fr : Nat × Nat} {off : Nat} {vr : List Value} (ho : ORel M w φ (.cells cs e grow pr) (.cells xs e fr))
    (hl : vs.length = vr.length) (hv : ∀ i (hi : i < vs.length), VRel M w φ vs[i] (vr.getD i Go.undef)) (h1 : ∀ v ∈ vr, v.oneCell' = true)
    (M' : Nat → Prop) (w' : World) (φ' : Phi) (hs : ∀ b, b < w.heap.size → ¬ M b → b < w'.heap.size ∧ ¬ M' b ∧ w'.heap[b]? = w.heap[b]?) (hsh : ∀ b id, φ id = some b → w'.shape? b = w.shape? b)
    (hm : ∀ id b, φ id = some b → φ' id = some b) : ORel M' w' φ' (.cells (setCells cs off vs) e grow (pr && noRefs vs)) (.cells (setArr xs off vr) e fr) := by
  obtain ⟨_, h2, h3, h4, h5, h6⟩ := ho
  refine ⟨rfl, by rw [setCells_length, setArr_size]; exact h2, fun hg => by rw [setCells_length, setArr_size]; exact h3 hg, by rw [setArr_size]; exact h4, fun i hi => ?_, fun i hi => ?_⟩
  · rw [setArr_size] at hi
    rw [setArr_getD]
    by_cases hc : off ≤ i ∧ i < off + vr.length ∧ i < xs.size
    · rw [if_pos hc, getD_getElem _ _ (by omega)]
      exact h1 _ (List.getElem_mem _)
    · rw [if_neg hc]
      exact h5 i hi
  · rw [setCells_length] at hi
    rw [← getD_getElem _ .undef (by rw [setCells_length]; exact hi), setCells_getD, setArr_getD]
    by_cases hc : off ≤ i ∧ i < off + vs.length ∧ i < cs.length
    · have hc2 : off ≤ i ∧ i < off + vr.length ∧ i < xs.size := by omega
      rw [if_pos hc, if_pos hc2]
      have h7 := hv (i - off) (by omega)
      rw [getD_getElem _ _ (by omega)]
      by_cases hp : (pr && noRefs vs) = true
      · rw [if_pos hp]
        have hn : noRefs vs = true := by simp at hp; exact hp.2
        exact (VRel.noref (refsL_nil (by simpa [noRefs] using hn) _ (by omega)) h7).stay hs (fun b id h => by cases h) (fun id b h => by cases h)
      · rw [if_neg hp]
        exact h7.stay hs hsh hm
    · have hc2 : ¬ (off ≤ i ∧ i < off + vr.length ∧ i < xs.size) := by omega
      rw [if_neg hc, if_neg hc2, getD_getElem _ _ hi]
      have h7 := h6 i hi
      by_cases hp : (pr && noRefs vs) = true
      · have hp' : pr = true := by simp at hp; exact hp.1
        rw [if_pos hp'] at h7
        rw [if_pos hp]
        exact h7.stay hs (fun b id h => by cases h) (fun id b h => by cases h)
      · rw [if_neg hp]
        have : VRel M w φ cs[i] (xs.getD i Go.undef) := by
          split at h7
          · exact VRel.weak h7
          · exact h7
        exact this.stay hs hsh hm

theorem store_ok (ho : Own M w φ) {t : TypeId} {a v : AV} {xa xv : Value} {h' : List AObj} (hs : storeA P h t a v = some h') (hx : VRel M w φ a xa) (hv : VRel M w φ v xv) (hh : ∀ id, id ∈ refs a → HAt M w φ h id) :
    ∃ w', (Instr.storeAt t xa xv).run P w = .ok () w' ∧ ∃ W, (∀ id, id ∈ W → id ∈ refs a ∧ h.getD id .dead ≠ .dead) ∧ Post M w φ h W M w' φ h' := by
  unfold storeA at hs
  split at hs
  · rename_i id off
    split at hs
    · rename_i cs e g pr hob
      obtain ⟨vs, hvs, hs2⟩ := Option.bind_eq_some_iff.1 hs
      clear hs
      split at hs2
      · rename_i hc
        obtain ⟨hc1, hc2⟩ := hc
        cases hs2
        cases hx with
        | ptr _ _ _ b hb =>
        have hid : id < h.length := by
          rcases Nat.lt_or_ge id h.length with h' | h'
          · exact h'
          · simp [List.getD, List.getElem?_eq_none h'] at hob
        rcases hh id (by simp [refs]) with h0 | ⟨b', ob, h1, h2, h3⟩
        · rw [hob] at h0; cases h0
        · rw [hb] at h1; cases h1
          rw [hob] at h3
          obtain ⟨xs, fr, rfl, _, hle, _, hfr, _, _⟩ := obj_reads (id := id) h2 h3
          have hl : LRel M w φ vs xv.cells := stored_ok hvs hv
          have hone : ∀ v ∈ xv.cells.toList, v.oneCell' = true := by
            intro u hu
            obtain ⟨i, hi, rfl⟩ := List.getElem_of_mem hu
            have := hl.2.1 i (by simpa using hi)
            simpa [Array.getD, show i < xv.cells.size by simpa using hi] using this
          refine ⟨_, ?_, [id], by intro j hj; simp only [List.mem_singleton] at hj; subst hj; exact ⟨by simp [refs], by rw [hob]; simp⟩, set_post ho hid hb _ h2 ?_ (fun M' w' φ' hs hsh hm => cells_set (vr := xv.cells.toList) h3 (by simpa using hl.1) (fun i hi => ?_) hone M' w' φ' hs hsh hm)⟩
          · have hsz : xv.cells.size = vs.length := hl.1.symm
            simp only [Instr.storeAt, Instr.sureAddr, Sem.run_bind, Sem.run_pure, Result.andThen_ok, storeVar, run_sizeOf' hc1, hsz, ne_eq, not_true_eq_false, if_false]
            exact run_storeCells' b _ fr _ off 0 xs w h2 (by simp [hsz]; omega) hfr hone
          · exact ⟨rfl, by rw [setArr_size]⟩
          · have := hl.2.2 i hi
            rwa [show xv.cells.toList.getD i Go.undef = xv.cells.getD i Go.undef by rw [← arr_getD]]
      · cases hs2
    · cases hs
  · cases hs
end
end Am
