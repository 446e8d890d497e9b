/-
  A part of a proved abstract machine over the model, and of what it tells of this seat's functions. Conditions: as each theorem states them.
-/
import Derived.Test.YtcmmdemeaimegaaGreatDoorAm15
namespace Am
open Go
set_option linter.unusedSimpArgs false
set_option linter.unusedVariables false

def ARel (M : Nat → Prop) (w : World) (φ : Phi) (l : List AV) (xs : Array Value) : Prop :=
  l.length = xs.size ∧ ∀ i (h : i < l.length), VRel M w φ l[i] (xs.getD i Go.undef)

theorem ORel.go {M M' : Nat → Prop} {w w' : World} {φ : Phi} {o : AObj} {ob : Obj} (h : ORel M w φ o ob) (f : Nat → Nat) (φ' : Phi)
    (hs : ∀ b, b < w.heap.size → ¬ M b → b < w'.heap.size ∧ ¬ M' b ∧ w'.heap[b]? = w.heap[b]?)
    (hsh : ∀ b id, φ id = some b → w'.shape? b = w.shape? b)
    (hr : ∀ id, id ∈ o.refs → ∀ b, φ id = some b → φ' (f id) = some b) : ORel M' w' φ' (renO f o) ob := by
  cases o with
  | dead => trivial
  | cells cs e g pr =>
    cases ob <;> try exact h.elim
    obtain ⟨h1, h2, h3, h4, h5, h6⟩ := h
    cases pr with
    | true =>
      refine ⟨h1, h2, h3, h4, h5, fun i hi => ?_⟩
      exact (h6 i hi).stay hs (fun b id h => by simp at h) (fun id b h => by simp at h)
    | false =>
      refine ⟨h1, by rw [renL_length]; exact h2, fun hg => by rw [renL_length]; exact h3 hg, h4, h5, fun i hi => ?_⟩
      rw [renL_get]
      have hi' : i < cs.length := by rwa [renL_length] at hi
      exact (h6 i hi').go f φ' hs hsh (fun id hid b hb => hr id (by simp only [AObj.refs, if_false, Bool.false_eq_true]; exact refsL_mem hi' hid) b hb)
  | map es pr =>
    cases ob <;> try exact h.elim
    obtain ⟨h1, h2⟩ := h
    cases pr with
    | true =>
      refine ⟨h1, fun i hi => ⟨?_, ?_⟩⟩
      · exact (h2 i hi).1.stay hs (fun b id h => by simp at h) (fun id b h => by simp at h)
      · exact (h2 i hi).2.stay hs (fun b id h => by simp at h) (fun id b h => by simp at h)
    | false =>
      refine ⟨by simpa using h1, fun i hi => ?_⟩
      have hi' : i < es.length := by simpa [renO] using hi
      have e1 : ((es.map fun (k, v) => (ren f k, ren f v))[i]'(by simpa using hi')) = (ren f es[i].1, ren f es[i].2) := by simp
      show VRel M' w' φ' ((es.map fun (k, v) => (ren f k, ren f v))[i]'(by simpa using hi')).1 _ ∧ VRel M' w' φ' ((es.map fun (k, v) => (ren f k, ren f v))[i]'(by simpa using hi')).2 _
      rw [e1]
      have r1 : ∀ id, id ∈ refs es[i].1 → id ∈ (AObj.map es false).refs := fun id hid => by
        simp only [AObj.refs, if_false, Bool.false_eq_true]
        exact List.mem_append.2 (.inl (refsL_mem (i := i) (by simpa using hi') (by simpa using hid)))
      have r2 : ∀ id, id ∈ refs es[i].2 → id ∈ (AObj.map es false).refs := fun id hid => by
        simp only [AObj.refs, if_false, Bool.false_eq_true]
        exact List.mem_append.2 (.inr (refsL_mem (i := i) (by simpa using hi') (by simpa using hid)))
      exact ⟨(h2 i hi').1.go f φ' hs hsh (fun id hid b hb => hr id (r1 id hid) b hb), (h2 i hi').2.go f φ' hs hsh (fun id hid b hb => hr id (r2 id hid) b hb)⟩

theorem ARel.go {M M' : Nat → Prop} {w w' : World} {φ : Phi} {l : List AV} {xs : Array Value} (h : ARel M w φ l xs) (f : Nat → Nat) (φ' : Phi)
    (hs : ∀ b, b < w.heap.size → ¬ M b → b < w'.heap.size ∧ ¬ M' b ∧ w'.heap[b]? = w.heap[b]?)
    (hsh : ∀ b id, φ id = some b → w'.shape? b = w.shape? b)
    (hr : ∀ id, id ∈ refsL l → ∀ b, φ id = some b → φ' (f id) = some b) : ARel M' w' φ' (renL f l) xs :=
  ⟨by rw [renL_length]; exact h.1, fun i hi => by
    rw [renL_get]
    have hi' : i < l.length := by rwa [renL_length] at hi
    exact (h.2 i hi').go f φ' hs hsh (fun id hid b hb => hr id (refsL_mem hi' hid) b hb)⟩

/-! the chosen objects alone -/
def downP (φ : Phi) (ids : List Nat) : Phi := fun j => if j < ids.length then φ (ids.getD j 0) else none

theorem pos_mem {i : Nat} : ∀ {l : List Nat}, i ∈ l → pos i l < l.length ∧ l.getD (pos i l) 0 = i
  | [], h => by cases h
  | j :: l, h => by
    rw [pos]
    by_cases hij : i = j
    · subst hij; simp
    · have hm : i ∈ l := by rcases List.mem_cons.1 h with h1 | h1; · exact absurd h1 hij
                            · exact h1
      obtain ⟨h1, h2⟩ := pos_mem hm
      have hb : (i == j) = false := by simpa using hij
      rw [hb]
      simp only [Bool.false_eq_true, if_false, List.length_cons]
      exact ⟨by omega, by simpa [List.getD] using h2⟩

theorem nodupB_spec : ∀ {l : List Nat}, nodupB l = true → ∀ i j, i < l.length → j < l.length → l.getD i 0 = l.getD j 0 → i = j
  | [], _, i, _, h, _, _ => by simp at h
  | a :: l, hn, i, j, hi, hj, he => by
    simp only [nodupB, Bool.and_eq_true, Bool.not_eq_true', List.contains_eq_mem, decide_eq_false_iff_not] at hn
    obtain ⟨hn1, hn2⟩ := hn
    have mem : ∀ k, k < l.length → l.getD k 0 ∈ l := fun k hk => by
      simp only [List.getD, List.getElem?_eq_getElem hk, Option.getD_some]; exact List.getElem_mem hk
    match i, j with
    | 0, 0 => rfl
    | 0, j + 1 => exact absurd (by have := mem j (by simpa using hj); rw [← (by simpa [List.getD] using he : a = l.getD j 0)] at this; exact this) hn1
    | i + 1, 0 => exact absurd (by have := mem i (by simpa using hi); rw [(by simpa [List.getD] using he : l.getD i 0 = a)] at this; exact this) hn1
    | i + 1, j + 1 => exact congrArg (· + 1) (nodupB_spec hn2 i j (by simpa using hi) (by simpa using hj) (by simpa [List.getD] using he))

theorem closed_lt {h : List AObj} {ids : List Nat} (hc : closedIn h ids = true) {i : Nat} (hi : i ∈ ids) : i < h.length := by
  have := List.all_eq_true.1 hc i hi
  simp only [Bool.and_eq_true, decide_eq_true_eq] at this
  exact this.1
theorem closed_refs {h : List AObj} {ids : List Nat} (hc : closedIn h ids = true) {i j : Nat} (hi : i ∈ ids) (hj : j ∈ (h.getD i .dead).refs) : j ∈ ids := by
  have := List.all_eq_true.1 hc i hi
  simp only [Bool.and_eq_true, decide_eq_true_eq] at this
  simpa using List.all_eq_true.1 this.2 j hj

theorem getD_mem {l : List Nat} {j : Nat} (h : j < l.length) : l.getD j 0 ∈ l := by
  simp only [List.getD, List.getElem?_eq_getElem h, Option.getD_some]; exact List.getElem_mem h

theorem downO_getD (h : List AObj) (ids : List Nat) (j : Nat) (hj : j < ids.length) : (downO h ids).getD j .dead = renO (fun i => pos i ids) (h.getD (ids.getD j 0) .dead) := by
  simp only [downO, List.getD, List.getElem?_map, List.getElem?_eq_getElem hj, Option.map_some, Option.getD_some]

theorem renO_dead {f : Nat → Nat} {o : AObj} : renO f o = .dead ↔ o = .dead := by
  cases o with
  | dead => simp [renO]
  | cells cs e g pr => cases pr <;> simp [renO]
  | map es pr => cases pr <;> simp [renO]

section
variable {M : Nat → Prop} {w : World} {φ : Phi} {h : List AObj} {ids : List Nat}

theorem down_get (hc : closedIn h ids = true) {i : Nat} (hi : i ∈ ids) : downP φ ids (pos i ids) = φ i := by
  obtain ⟨h1, h2⟩ := pos_mem hi
  simp only [downP, h1, if_true, h2]

theorem same_stays (ho : Own M w φ) : ∀ b, b < w.heap.size → ¬ M b → b < w.heap.size ∧ ¬ M b ∧ w.heap[b]? = w.heap[b]? := fun b h1 h2 => ⟨h1, h2, rfl⟩

theorem HRel.down (hh : HRel M w φ h) (hn : nodupB ids = true) (hc : closedIn h ids = true) : HRel M w (downP φ ids) (downO h ids) where
  own := ⟨fun id b hb => by
    unfold downP at hb
    split at hb
    · exact hh.own.own _ _ hb
    · exact absurd hb (by simp), hh.own.top⟩
  lt id b hb := by
    unfold downP at hb
    split at hb
    · rename_i h1; simpa [downO] using h1
    · cases hb
  at_ j hj := by
    have hj' : j < ids.length := by simpa [downO] using hj
    have hm := getD_mem hj'
    unfold HAt
    rw [downO_getD _ _ _ hj']
    rcases hh.at_ _ (closed_lt hc hm) with h1 | ⟨b, ob, h1, h2, h3⟩
    · exact .inl (renO_dead.2 h1)
    · refine .inr ⟨b, ob, by simp only [downP, hj', if_true]; exact h1, h2, h3.go _ _ (same_stays hh.own) (fun _ _ _ => rfl) fun id hid b hb => ?_⟩
      rw [down_get hc (closed_refs hc hm hid)]; exact hb
  inj j j' b hb hb' hne := by
    have l1 : j < ids.length := by
      unfold downP at hb; split at hb
      · assumption
      · cases hb
    have l2 : j' < ids.length := by
      unfold downP at hb'; split at hb'
      · assumption
      · cases hb'
    simp only [downP, l1, if_true] at hb
    simp only [downP, l2, if_true] at hb'
    rw [downO_getD _ _ _ l1, downO_getD _ _ _ l2, renO_dead, renO_dead]
    exact hh.inj _ _ b hb hb' fun he => hne (nodupB_spec hn _ _ l1 l2 he)

theorem VRel.down (hh : HRel M w φ h) (hc : closedIn h ids = true) {v : AV} {x : Value} (hv : VRel M w φ v x) (hr : ∀ i, i ∈ refs v → i ∈ ids) : VRel M w (downP φ ids) (ren (fun j => pos j ids) v) x :=
  hv.go _ _ (same_stays hh.own) (fun _ _ _ => rfl) fun id hid b hb => by rw [down_get hc (hr id hid)]; exact hb

theorem ARel.down (hh : HRel M w φ h) (hc : closedIn h ids = true) {l : List AV} {xs : Array Value} (hv : ARel M w φ l xs) (hr : ∀ i, i ∈ refsL l → i ∈ ids) : ARel M w (downP φ ids) (renL (fun j => pos j ids) l) xs :=
  hv.go _ _ (same_stays hh.own) (fun _ _ _ => rfl) fun id hid b hb => by rw [down_get hc (hr id hid)]; exact hb
end

/-! putting back -/
theorem putBack_length (f : Nat → Nat) (h' : List AObj) : ∀ (ids : List Nat) (j : Nat) (h : List AObj), (putBack f h' ids j h).length = h.length
  | [], _, _ => rfl
  | i :: ids, j, h => by rw [putBack, putBack_length f h' ids]; simp

theorem putBack_out (f : Nat → Nat) (h' : List AObj) : ∀ (ids : List Nat) (j : Nat) (h : List AObj) (id : Nat), id ∉ ids → (putBack f h' ids j h).getD id .dead = h.getD id .dead
  | [], _, _, _, _ => rfl
  | i :: ids, j, h, id, hid => by
    rw [putBack, putBack_out f h' ids _ _ _ (fun h1 => hid (List.mem_cons_of_mem _ h1))]
    have : i ≠ id := fun he => hid (he ▸ List.mem_cons_self)
    simp [List.getD, List.getElem?_set_ne this]

theorem putBack_in (f : Nat → Nat) (h' : List AObj) : ∀ (ids : List Nat) (j : Nat) (h : List AObj), nodupB ids = true → (∀ i ∈ ids, i < h.length) → ∀ k, k < ids.length →
    (putBack f h' ids j h).getD (ids.getD k 0) .dead = renO f (h'.getD (j + k) .dead)
  | [], _, _, _, _, k, hk => by simp at hk
  | i :: ids, j, h, hn, hl, k, hk => by
    simp only [nodupB, Bool.and_eq_true, Bool.not_eq_true', List.contains_eq_mem, decide_eq_false_iff_not] at hn
    rw [putBack]
    match k with
    | 0 =>
      rw [putBack_out _ _ _ _ _ _ (by simpa [List.getD] using hn.1)]
      have := hl i List.mem_cons_self
      simp [List.getD, this]
    | k + 1 =>
      have := putBack_in f h' ids (j + 1) (h.set i (renO f (h'.getD j .dead))) hn.2 (fun a ha => by simpa using hl a (List.mem_cons_of_mem _ ha)) k (by simpa using hk)
      rw [show (i :: ids).getD (k + 1) 0 = ids.getD k 0 by simp [List.getD], this, show j + 1 + k = j + (k + 1) by omega]

end Am
