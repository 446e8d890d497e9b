/-
  A part of a proved abstract machine over the model, and of what it tells of this seat's functions. Conditions: as each theorem states them.
-/
import Derived.Test.YtcmmdemeaimegaaGreatDoorAm27
namespace Am
open Go
set_option linter.unusedSimpArgs false
set_option linter.unusedVariables false

/-! a heap that stays as it is: its objects refer to nothing -/
def calm (h : List AObj) : Prop := ∀ o ∈ h, o.refs = []

theorem calm_cells {cs : List AV} {e : TypeId} {g : Bool} : (AObj.cells cs e g true).refs = [] := rfl
theorem calm_nil : calm [] := fun o h => by cases h
theorem calm_cons {o : AObj} {h : List AObj} (ho : o.refs = []) (hh : calm h) : calm (o :: h) := fun p hp => by
  rcases List.mem_cons.1 hp with rfl | hp
  · exact ho
  · exact hh p hp

theorem renO_calm {f : Nat → Nat} {o : AObj} (h : o.refs = []) : renO f o = o := by
  cases o with
  | dead => rfl
  | cells cs e g pr =>
    cases pr
    · simp only [AObj.refs, Bool.false_eq_true, if_false] at h
      simp [renO, renL_nr f cs h]
    · rfl
  | map es pr =>
    cases pr
    · simp only [AObj.refs, Bool.false_eq_true, if_false, List.append_eq_nil_iff] at h
      simp only [renO, Bool.false_eq_true, if_false]
      congr 1
      have : ∀ l : List (AV × AV), refsL (l.map (·.1)) = [] → refsL (l.map (·.2)) = [] → l.map (fun (k, v) => (ren f k, ren f v)) = l := by
        intro l
        induction l with
        | nil => intro _ _; rfl
        | cons x l ih =>
          intro h1 h2
          simp only [List.map_cons, refsL, List.append_eq_nil_iff] at h1 h2
          simp only [List.map_cons, ih h1.2 h2.2, ren_nr f _ h1.1, ren_nr f _ h2.1]
      exact this es h.1 h.2
    · rfl

theorem calm_getD {h : List AObj} (hc : calm h) (i : Nat) : (h.getD i .dead).refs = [] := by
  by_cases hi : i < h.length
  · have : h.getD i .dead = h[i] := by simp [List.getD, hi]
    rw [this]; exact hc _ (List.getElem_mem hi)
  · have : h.getD i .dead = .dead := by simp [List.getD, List.getElem?_eq_none (Nat.le_of_not_lt hi)]
    rw [this]; rfl

theorem reach_in {h : List AObj} : ∀ (n : Nat) (todo acc : List Nat), (∀ i ∈ todo, i ∈ acc) → reach h n todo acc = acc
  | 0, _, _, _ => rfl
  | n + 1, [], _, _ => rfl
  | n + 1, i :: todo, acc, hs => by
    have : acc.contains i = true := by simpa using hs i (List.mem_cons_self ..)
    rw [reach, if_pos this]
    exact reach_in n todo acc fun j hj => hs j (List.mem_cons_of_mem _ hj)

theorem pos_range' : ∀ (m a i : Nat), a ≤ i → i < a + m → pos i (List.range' a m) = i - a
  | 0, a, i, h1, h2 => by omega
  | m + 1, a, i, h1, h2 => by
    rw [List.range'_succ, pos]
    by_cases h : i = a
    · subst h; simp
    · have : (i == a) = false := by simp [h]
      rw [this]
      simp only [Bool.false_eq_true, if_false]
      rw [pos_range' m (a + 1) i (by omega) (by omega)]
      omega
theorem pos_range {m i : Nat} (h : i < m) : pos i (List.range m) = i := by
  rw [List.range_eq_range', pos_range' m 0 i (by omega) (by omega)]; omega

theorem nodupB_range' : ∀ (m a : Nat), nodupB (List.range' a m) = true
  | 0, a => rfl
  | m + 1, a => by
    rw [List.range'_succ, nodupB, nodupB_range' m (a + 1)]
    simp
theorem nodupB_range (m : Nat) : nodupB (List.range m) = true := by rw [List.range_eq_range']; exact nodupB_range' m 0

mutual
theorem ren_on {f : Nat → Nat} : ∀ v : AV, (∀ i ∈ refs v, f i = i) → ren f v = v
  | .undef, _ => rfl | .bool _, _ => rfl | .int _ _, _ => rfl | .str _, _ => rfl | .pnil, _ => rfl | .iptr _ _, _ => rfl | .gptr _ _, _ => rfl
  | .snil, _ => rfl | .isl _ _ _, _ => rfl | .mnil, _ => rfl | .fnil, _ => rfl | .inil, _ => rfl
  | .ptr id off, h => by rw [ren, h id (by simp [refs])]
  | .sl id a b c d, h => by rw [ren, h id (by simp [refs])]
  | .map id, h => by rw [ren, h id (by simp [refs])]
  | .func fn a b, h => by
    rw [ren, renL_on a fun i hi => h i (by simp only [refs]; exact List.mem_append.2 (.inl hi)), renL_on b fun i hi => h i (by simp only [refs]; exact List.mem_append.2 (.inr hi))]
  | .iface t v, h => by rw [ren, ren_on v fun i hi => h i (by simpa [refs] using hi)]
  | .agg cs, h => by rw [ren, renL_on cs fun i hi => h i (by simpa [refs] using hi)]
  | .tuple cs, h => by rw [ren, renL_on cs fun i hi => h i (by simpa [refs] using hi)]
theorem renL_on {f : Nat → Nat} : ∀ l : List AV, (∀ i ∈ refsL l, f i = i) → renL f l = l
  | [], _ => rfl
  | v :: vs, h => by
    rw [renL, ren_on v fun i hi => h i (by simp only [refsL]; exact List.mem_append.2 (.inl hi)), renL_on vs fun i hi => h i (by simp only [refsL]; exact List.mem_append.2 (.inr hi))]
end

theorem downO_range {h : List AObj} (hc : calm h) : downO h (List.range h.length) = h := by
  apply List.ext_getElem
  · simp [downO]
  · intro i h1 h2
    simp only [downO, List.getElem_map, List.getElem_range]
    rw [renO_calm (calm_getD hc i)]
    simp [List.getD, h2]

theorem closedIn_range {h : List AObj} (hc : calm h) : closedIn h (List.range h.length) = true := by
  simp only [closedIn, List.all_eq_true, List.mem_range, Bool.and_eq_true, decide_eq_true_eq]
  intro i hi
  refine ⟨hi, fun j hj => ?_⟩
  rw [calm_getD hc i] at hj
  cases hj

/-- Nothing is dropped, nothing renumbered. -/
theorem pack_same {t : List AV} {h : List AObj} (hc : calm h) (hr : ∀ i ∈ refsL t, i < h.length) : packA h.length t h = some ⟨t, h⟩ := by
  have e0 : (List.range h.length).flatMap (fun i => (h.getD i .dead).refs) = [] := by
    rw [List.flatMap_eq_nil_iff]
    intro i _
    exact calm_getD hc i
  have e1 : reach h 1000 ((List.range h.length).flatMap (fun i => (h.getD i .dead).refs) ++ refsL t) (List.range h.length) = List.range h.length := by
    rw [e0]
    exact reach_in _ _ _ fun i hi => by simpa using hr i (by simpa using hi)
  have e2 : (refsL t).all (fun i => (List.range h.length).contains i) = true := by
    simp only [List.all_eq_true]
    intro i hi
    simpa using hr i hi
  have e3 : renL (fun j => pos j (List.range h.length)) t = t := renL_on t fun i hi => pos_range (hr i hi)
  unfold packA
  rw [e1]
  unfold restrictA
  have e4 : (List.take h.length (List.range h.length) == List.range h.length) = true := by
    rw [List.take_of_length_le (by simp)]; simp
  rw [e4, nodupB_range, closedIn_range hc, e2, e3, downO_range hc]
  rfl

theorem trim_same {live : List Nat} {t t' : List AV} {h : List AObj} {m : Nat} {K : St → Prop} (ht : maskA live t = t') (hm : h.length = m) (hc : calm h) (hr : ∀ i ∈ refsL t', i < m) (hk : K ⟨t', h⟩) : Opt (trimA m live ⟨t, h⟩) K := by
  subst hm
  exact ⟨_, by unfold trimA; rw [ht]; exact pack_same hc hr, hk⟩

theorem leave_same {keep : Bool} {r : AV} {t : List AV} {h : List AObj} {K : AV × List AObj → Prop} (hc : calm h) (hi : inl h h.length 60 r = some r) (hr : refs r = []) (hk : K (r, h)) : Opt (leaveA keep h ⟨t, h⟩ r) K := by
  have hp : packA h.length [r] h = some ⟨[r], h⟩ := pack_same hc (by simp [refsL, hr])
  refine ⟨(r, h), ?_, hk⟩
  unfold leaveA
  cases keep
  · have : (List.range h.length).all (fun i => (h.getD i .dead).isDead || !(h.getD i .dead).isDead) = true := by simp
    simp only [Bool.false_eq_true, if_false]
    rw [if_pos this, hi]
    dsimp only
    rw [hp]
    simp
  · simp only [if_true]
    rw [hp]

theorem putBack_range {h' : List AObj} (f : Nat → Nat) (hc : calm h') : ∀ (ids : List Nat) (j : Nat) (h : List AObj), ids = List.range' j ids.length → h'.length = j + ids.length → h.length = h'.length → (∀ i, i < j → h.getD i .dead = h'.getD i .dead) → putBack f h' ids j h = h'
  | [], j, h, he, hl, hl2, hq => by
    rw [putBack]
    apply List.ext_getElem hl2
    intro i h1 h2
    have := hq i (by simp at hl; omega)
    simpa [List.getD, h1, h2] using this
  | i :: ids, j, h, he, hl, hl2, hq => by
    rw [putBack]
    rw [List.length_cons, List.range'_succ, List.cons.injEq] at he
    obtain ⟨rfl, he⟩ := he
    refine putBack_range f hc ids (i + 1) _ he (by simp at hl; omega) (by simpa using hl2) fun k hk => ?_
    by_cases hki : k = i
    · subst hki
      have hlt : k < h.length := by simp at hl; omega
      rw [renO_calm (calm_getD hc k)]
      simp [List.getD, hlt]
    · rw [show (h.set i (renO f (h'.getD i .dead))).getD k .dead = h.getD k .dead by simp [List.getD, List.getElem?_set, Ne.symm hki]]
      exact hq k (by omega)

/-- A call that is handed the whole heap, in its order. -/
theorem callA_all {E : Env} {f : FuncId} {args : List AV} {h h' : List AObj} {r : AV} (hc : calm h) (hc' : calm h') (hi : reach h 200 (refsL args) [] = List.range h.length) (ha : ∀ i ∈ refsL args, i < h.length)
    (he : E f args h = some (r, h')) (hl : h'.length = h.length) (hr : refs r = []) : callA E f args h = some (r, h') := by
  unfold callA
  simp only [hi]
  have e2 : (refsL args).all (fun i => (List.range h.length).contains i) = true := by
    simp only [List.all_eq_true]
    intro i hi
    simpa using ha i hi
  have e3 : renL (fun j => pos j (List.range h.length)) args = args := renL_on args fun i hi => pos_range (ha i hi)
  rw [nodupB_range, closedIn_range hc, e2, e3, downO_range hc, he]
  simp only [Bool.and_self, if_true, List.length_range, hl, Nat.le_refl, ren_nr _ r hr]
  rw [putBack_range _ hc' (List.range h.length) 0 h (by simp [List.range_eq_range']) (by simp [hl]) hl.symm (fun i hi => by omega)]
  rw [show h'.drop h.length = [] by rw [← hl]; simp]
  simp
end Am
