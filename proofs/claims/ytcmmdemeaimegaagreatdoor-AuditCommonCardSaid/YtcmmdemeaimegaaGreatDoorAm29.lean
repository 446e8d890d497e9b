/-
  A part of a proved abstract machine over the model, and of what it tells of this seat's functions. Conditions: as each theorem states them.
-/
import Derived.Test.YtcmmdemeaimegaaGreatDoorAm28
namespace Am
open Go
set_option linter.unusedSimpArgs false
set_option linter.unusedVariables false

theorem calm_map {h : List AObj} (hc : calm h) (ids : List Nat) : calm (ids.map fun i => h.getD i .dead) := fun o ho => by
  obtain ⟨i, _, rfl⟩ := List.mem_map.1 ho
  exact calm_getD hc i

theorem downO_calm {h : List AObj} (hc : calm h) (ids : List Nat) : downO h ids = ids.map fun i => h.getD i .dead := by
  apply List.map_congr_left
  intro i _
  exact renO_calm (calm_getD hc i)

theorem closedIn_calm {h : List AObj} (hc : calm h) {ids : List Nat} (hl : ∀ i ∈ ids, i < h.length) : closedIn h ids = true := by
  simp only [closedIn, List.all_eq_true, Bool.and_eq_true, decide_eq_true_eq]
  intro i hi
  refine ⟨hl i hi, fun j hj => ?_⟩
  rw [calm_getD hc i] at hj
  cases hj

theorem putBack_keep {h : List AObj} (f : Nat → Nat) (hc : calm h) (h' : List AObj) : ∀ (ids : List Nat) (j : Nat), (∀ k, k < ids.length → h'.getD (j + k) .dead = h.getD (ids.getD k 0) .dead) → (∀ i ∈ ids, i < h.length) → putBack f h' ids j h = h
  | [], j, _, _ => rfl
  | i :: ids, j, hq, hl => by
    rw [putBack]
    have h0 : h'.getD j .dead = h.getD i .dead := by simpa using hq 0 (by simp)
    rw [h0, renO_calm (calm_getD hc i)]
    have hi := hl i (List.mem_cons_self ..)
    rw [show h.set i (h.getD i .dead) = h by
      apply List.ext_getElem (by simp)
      intro k h1 h2
      rw [List.getElem_set]
      split
      · rename_i e; subst e; simp [List.getD, hi]
      · rfl]
    refine putBack_keep f hc h' ids (j + 1) (fun k hk => ?_) fun i hi => hl i (List.mem_cons_of_mem _ hi)
    have := hq (k + 1) (by simp; omega)
    rw [show j + 1 + k = j + (k + 1) by omega]
    simpa using this

/-- A call that leaves what it is handed. -/
theorem callA_keep {E : Env} {f : FuncId} {args : List AV} {h : List AObj} {r : AV} (hc : calm h) (ids : List Nat) (hi : reach h 200 (refsL args) [] = ids) (hn : nodupB ids = true) (hl : ∀ i ∈ ids, i < h.length)
    (ha : (refsL args).all (fun i => ids.contains i) = true) (he : E f (renL (fun j => pos j ids) args) (ids.map fun i => h.getD i .dead) = some (r, ids.map fun i => h.getD i .dead)) (hr : refs r = []) : callA E f args h = some (r, h) := by
  unfold callA
  simp only [hi]
  rw [hn, closedIn_calm hc hl, ha, downO_calm hc, he]
  simp only [Bool.and_self, if_true, List.length_map, Nat.le_refl, ren_nr _ r hr]
  rw [putBack_keep _ hc _ ids 0 (fun k hk => by
    rw [Nat.zero_add]
    simp [List.getD, hk]) hl]
  simp

/-- A call among values without memory, whatever the heap. -/
theorem callA_pure {E : Env} {f : FuncId} {args : List AV} {h : List AObj} {r : AV} (ha : refsL args = []) (hr : refs r = []) (he : E f args [] = some (r, [])) : callA E f args h = some (r, h) := by
  simp [callA, ha, reach, nodupB, closedIn, renL_nr, downO, he, putBack, ren_nr, hr]

/-- What is reached is kept, in its new order. -/
theorem pack_ids {t : List AV} {h : List AObj} (hc : calm h) (ids : List Nat) (hi : reach h 1000 (refsL t) [] = ids) (hn : nodupB ids = true) (hl : ∀ i ∈ ids, i < h.length) (ha : (refsL t).all (fun i => ids.contains i) = true) :
    packA 0 t h = some ⟨renL (fun j => pos j ids) t, ids.map fun i => h.getD i .dead⟩ := by
  unfold packA
  simp only [List.range_zero, List.flatMap_nil, List.nil_append, hi]
  unfold restrictA
  rw [hn, closedIn_calm hc hl, ha, downO_calm hc]
  simp

theorem trim_ids {live : List Nat} {t t1 t' : List AV} {h : List AObj} {K : St → Prop} (ht : maskA live t = t1) (hc : calm h) (ids : List Nat) (hi : reach h 1000 (refsL t1) [] = ids) (hn : nodupB ids = true) (hl : ∀ i ∈ ids, i < h.length)
    (ha : (refsL t1).all (fun i => ids.contains i) = true) (h1 : renL (fun j => pos j ids) t1 = t') (hk : K ⟨t', ids.map fun i => h.getD i .dead⟩) : Opt (trimA 0 live ⟨t, h⟩) K := by
  subst h1
  exact ⟨_, by unfold trimA; rw [ht]; exact pack_ids hc ids hi hn hl ha, hk⟩

theorem index_isl {P : Program} {t e : TypeId} (ht : P.underlying t = some (.slice e)) (hk : szA P e = some 1) {cs : List AV} {n : Nat} {cap : Option Nat} (hl : cs.length = n) {i : Nat} (hi : i < n) {k : IntKind} :
    indexAddrA P t (.isl cs n cap) (.int k i) = some (.iptr cs i) := by
  have : cs ≠ [] := by intro hc; simp [hc] at hl; omega
  simp [indexAddrA, ht, hk, hi, this]
theorem len_isl {P : Program} {t e : TypeId} (ht : P.underlying t = some (.slice e)) {h : List AObj} {cs : List AV} {n : Nat} {cap : Option Nat} : lenA P h t (.isl cs n cap) = some (n : Int) := by simp [lenA, ht]
end Am
