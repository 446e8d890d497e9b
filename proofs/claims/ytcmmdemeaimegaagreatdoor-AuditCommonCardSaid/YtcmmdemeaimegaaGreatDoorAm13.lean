/-
  A part of a proved abstract machine over the model, and of what it tells of this seat's functions. Conditions: as each theorem states them.
-/
import Derived.Test.YtcmmdemeaimegaaGreatDoorAm12
namespace Am
open Go
set_option linter.unusedSimpArgs false
set_option linter.unusedVariables false

section
variable {P : Program} {M : Nat → Prop} {w : World} {φ : Phi} {h : List AObj}

theorem lt_of_cells {l : List AObj} {id : Nat} {cs : List AV} {e : TypeId} {g pr : Bool} (hob : l.getD id .dead = .cells cs e g pr) : id < l.length := by
  rcases Nat.lt_or_ge id l.length with h' | h'
  · exact h'
  · simp [List.getD, List.getElem?_eq_none h'] at hob

theorem app_getD (a b : Array Value) (i : Nat) : (a ++ b).getD i Go.undef = if i < a.size then a.getD i Go.undef else b.getD (i - a.size) Go.undef := by
  by_cases h : i < a.size
  · rw [if_pos h]
    simp [Array.getD, h, Array.getElem_append, show i < a.size + b.size by omega]
  · rw [if_neg h]
    by_cases h2 : i - a.size < b.size
    · simp [Array.getD, h, h2, Array.getElem_append, show i < a.size + b.size by omega]
    · simp [Array.getD, h2, show ¬ i < a.size + b.size by omega]

theorem append_ok (ho : Own M w φ) (hf : φ h.length = none) {ts : Array TypeId} {ty : TypeId} {s x y : AV} {sv xv : Value} {h' : List AObj} (hb : appendA P h ts s x = some (y, h')) (hs : VRel M w φ s sv) (hx : VRel M w φ x xv)
    (hh : ∀ id, id ∈ refs s → HAt M w φ h id) (hh2 : ∀ id, id ∈ refs x → HAt M w φ h id) :
    ∃ M' φ' v w' W, (∀ id, id ∈ W → id ∈ refs s ∧ h.getD id .dead ≠ .dead) ∧ (Builtin.append_ ts ty #[sv, xv]).run P w = .ok v w' ∧ Post M w φ h W M' w' φ' h' ∧ VRel M' w' φ' y v := by
  unfold appendA at hb
  split at hb
  case h_2 => cases hb
  rename_i e hu
  obtain ⟨t0, ht0, hu⟩ := Option.bind_eq_some_iff.1 hu
  have hbq := Option.bind_eq_some_iff.1 hb; clear hb; obtain ⟨k, hk, hb⟩ := hbq
  split at hb
  · cases hb
  rename_i hk0
  have hbq := Option.bind_eq_some_iff.1 hb; clear hb; obtain ⟨⟨new, n⟩, hnew, hb⟩ := hbq
  simp only at hb
  obtain ⟨t1, newR, ht1, hln, hnl, hX⟩ := news_ok hk0 hnew hx hh2
  split at hb
  · -- nothing is appended
    rename_i hn0
    subst hn0
    have hne : newR.toList = [] := by
      have : newR.size = 0 := by rw [← hln.1, hnl]; simp
      exact List.eq_nil_of_length_eq_zero (by simpa using this)
    have same : ∀ base len c, sv = .slice base len c → len ≤ c → (Builtin.append_ ts ty #[sv, xv]).run P w = .ok sv w := by
      intro base len c he hlc
      subst he
      rw [append_room ht0 ht1 hu hk hk0 hX (by omega), hne]
      cases base <;> simp [storeCells]
    split at hb
    · cases hb; cases hs
      exact ⟨M, φ, _, w, [], by simp, same none 0 0 rfl (Nat.le_refl _), Post.refl M w φ h ho, .snil _⟩
    · cases hb
      have hs' := hs
      cases hs with
      | isl _ cs len cap a c f h1 h2 h3 ha hc h4 hv => exact ⟨M, φ, _, w, [], by simp, same _ _ _ rfl h1, Post.refl M w φ h ho, hs'⟩
    · cases hb
      have hs' := hs
      cases hs with
      | sl _ id off len size cap b c hbb h1 h2 h3 h4 => exact ⟨M, φ, _, w, [], by simp, same _ _ _ rfl h1, Post.refl M w φ h ho, hs'⟩
    · cases hb
  · rename_i hn0
    split at hb
    · -- onto nil
      split at hb
      · rename_i hbig
        cases hb; cases hs
        obtain ⟨M', φ', v, w', h1, h2, h3⟩ := appNew_ok (ty := ty) (olds := []) (oldR := #[]) ho hf ht0 ht1 hu hk hk0 hX (sLen := 0) (sCap := 0) (base := none) (by omega) (fun w1 _ => by simp [Builtin.firstCells]) (by rw [Nat.zero_add]; exact hbig) hn0
          ⟨rfl, fun i hi => by simp at hi, fun i hi => by simp at hi⟩ hln (by simp) hnl
        exact ⟨M', φ', v, w', [], by simp, h1, by simpa using h2, by simpa using h3⟩
      · cases hb
    · -- onto a frozen one
      rename_i cs len c
      have hbq := Option.bind_eq_some_iff.1 hb; clear hb; obtain ⟨cs', hcs', hb⟩ := hbq
      split at hb
      · rename_i hc
        obtain ⟨hcl, hbig⟩ := hc
        cases hb
        have hs0 : VRel M w φ (.isl cs len none) sv := by
          cases hs with
          | isl _ _ _ _ a c f h1 h2 h3 ha hc h4 hv => exact .isl _ _ _ _ _ _ f h1 h2 (fun k hk => by cases hk) ha hc h4 hv
        obtain ⟨h1, h2⟩ := slCells_ok (h := h) hcs' hs0 (by simp [refs])
        obtain ⟨oldR, h3, _, h4⟩ := slRel_first (P := P) h1 h2
        cases hs with
        | isl _ _ _ _ a c' f g1 g2 g3 ha hc g4 hv =>
        have hcc := g3 _ rfl
        subst hcc
        obtain ⟨M', φ', v, w', e1, e2, e3⟩ := appNew_ok (ty := ty) ho hf ht0 ht1 hu hk hk0 hX (sLen := len) (base := some a) (by omega) (fun w1 hw => (h4 w1 hw).2) hbig hn0 h3 hln h2 hnl
        exact ⟨M', φ', v, w', [], by simp, e1, e2, e3⟩
      · cases hb
    · -- onto a row
      rename_i id off len size cap
      split at hb
      · rename_i cs e' grow pr hob
        split at hb
        · cases hb
        rename_i hse
        have hse1 : size = k := by omega
        have hse2 : e' = e := Classical.byContradiction fun h => hse (.inr h)
        subst hse1; subst hse2
        cases hs with
        | sl _ _ _ _ _ _ b c hbb g1 g2 g3 g4 =>
        have hid := lt_of_cells hob
        rcases hh id (by simp [refs]) with h0 | ⟨b', ob, h5, h6, h7⟩
        · rw [hob] at h0; cases h0
        rw [hbb] at h5; cases h5
        rw [hob] at h7
        obtain ⟨xs, fr, rfl, hr, hle, hg, hfr, hone, hfx⟩ := obj_reads (id := id) h6 h7
        have hshb : w.shape? b = some (e', xs.size) := by simp [World.shape?, h6]
        have first : off + len * size ≤ cs.length → ∀ w1 : World, w1.heap = w.heap → (Builtin.firstCells size len (.slice (some ⟨b, off, none⟩) len c)).run P w1 = .ok ((List.range (len * size)).map fun i => xs.getD (off + i) Go.undef).toArray w1 := by
          intro hfit w1 hw
          simp only [Builtin.firstCells]
          exact run_loadCells w1 ⟨b, off, none⟩ (len * size) (fun i => xs.getD (off + i) Go.undef) (fun j hj => by
            rw [add_eq, heap_cell hw]
            have := (hr (off + j) (by omega)).1
            simpa using this)
        split at hb
        · rename_i c0
          have hcc := g3 _ rfl
          subst hcc
          split at hb
          · rename_i hroom
            split at hb
            · rename_i hfit
              cases hb
              have : off + (len + n) * size ≤ xs.size := by
                have : (len + n) * size ≤ c * size := Nat.mul_le_mul_right _ hroom
                omega
              obtain ⟨w', e1, e2, e3⟩ := appRoom_ok (ty := ty) ho ht0 ht1 hu hk hk0 hX hroom hid hbb h6 h7 hln hnl this
              exact ⟨M, φ, _, w', [id], by intro j hj; simp only [List.mem_singleton] at hj; subst hj; exact ⟨by simp [refs], by rw [hob]; simp⟩, e1, e3, e3.val ho (.sl _ _ _ _ _ _ _ _ hbb hroom g2 (fun k hk => by cases hk; rfl) (fun hk => by cases hk))⟩
            · cases hb
          · rename_i hroom
            split at hb
            · rename_i hc
              obtain ⟨hfit, hbig⟩ := hc
              cases hb
              have hsub := LRel.sub hr off (len * size) hfit
              obtain ⟨M', φ', v, w', e1, e2, e3⟩ := appNew_ok (ty := ty) ho hf ht0 ht1 hu hk hk0 hX (sLen := len) (sCap := c) (base := some ⟨b, off, none⟩) (by omega) (first hfit) hbig hn0 hsub hln (by simp; omega) hnl
              exact ⟨M', φ', v, w', [], by simp, e1, e2, e3⟩
            · cases hb
        · -- the capacity is not known
          obtain ⟨e2, nn, g5, g6⟩ := g4 rfl
          rw [hshb] at g5; cases g5
          split at hb
          · rename_i hfit
            cases hb
            have hroom : len + n ≤ c := by
              have h8 : (len + n) * size ≤ c * size := by omega
              exact Nat.le_of_mul_le_mul_right h8 (by omega)
            have hfit2 : off + (len + n) * size ≤ xs.size := by omega
            obtain ⟨w', e1, e2, e3⟩ := appRoom_ok (ty := ty) ho ht0 ht1 hu hk hk0 hX hroom hid hbb h6 h7 hln hnl hfit2
            exact ⟨M, φ, _, w', [id], by intro j hj; simp only [List.mem_singleton] at hj; subst hj; exact ⟨by simp [refs], by rw [hob]; simp⟩, e1, e3, e3.val ho (.sl _ _ _ _ _ _ _ _ hbb hroom g2 (fun k hk => by cases hk) (fun _ => ⟨_, _, hshb, g6⟩))⟩
          · split at hb
            · rename_i hc
              obtain ⟨hgr, rfl, hlen, hbig⟩ := hc
              cases hb
              subst hgr
              by_cases hroom : len + n ≤ c
              · -- in place, in truth
                have hfit : 0 + (len + n) * size ≤ xs.size := by
                  have : (len + n) * size ≤ c * size := Nat.mul_le_mul_right _ hroom
                  omega
                obtain ⟨w', e1, e2, e3⟩ := appRoom_ok (ty := ty) ho ht0 ht1 hu hk hk0 hX hroom hid hbb h6 h7 hln hnl hfit
                have hXsz : ∀ i, (setArr xs (0 + len * size) newR.toList).getD i Go.undef = if 0 + len * size ≤ i ∧ i < 0 + len * size + newR.toList.length ∧ i < xs.size then newR.toList.getD (i - (0 + len * size)) Go.undef else xs.getD i Go.undef := fun i => setArr_getD _ _ _ _
                have hnl2 : newR.toList.length = n * size := by rw [← hnl, hln.1, Array.length_toList]
                have hmul : (len + n) * size = len * size + n * size := Nat.add_mul _ _ _
                refine ⟨M, fun i => if i = h.length then some b else φ i, _, w', [id], by intro j hj; simp only [List.mem_singleton] at hj; subst hj; exact ⟨by simp [refs], by rw [hob]; simp⟩, e1, ?_, ?_⟩
                · have hmono : ∀ i b', φ i = some b' → (if i = h.length then some b else φ i) = some b' := by
                    intro i b' hi
                    split
                    · rename_i he; subst he; rw [hf] at hi; cases hi
                    · exact hi
                  refine { len := by simp, size := e3.size, os := e3.os, tape := e3.tape, output := e3.output, old := e3.old, shape := e3.shape, mono := hmono, new := ?_, newinj := ?_, mem := ?_, frame := ?_, objs := ?_ }
                  · intro i b' hi
                    split at hi
                    · rename_i he
                      cases hi
                      refine .inr ⟨by omega, by simp; omega, Nat.lt_of_lt_of_le (ho.own _ _ hbb).2 e3.size, .inr ⟨id, by simp, hbb, ?_⟩⟩
                      simp [List.getD, List.getElem?_append, hid]
                    · exact .inl hi
                  · intro i i' b' h1 h2 h3 h4
                    split at h3
                    · split at h4
                      · omega
                      · rw [h2] at h4; cases h4
                    · rw [h1] at h3; cases h3
                  · intro b'
                    refine ⟨fun h => .inl h, fun h => h.elim (fun h => h) fun ⟨h1, i, h2⟩ => ?_⟩
                    split at h2
                    · cases h2; exact (ho.own _ _ hbb).1
                    · exact absurd (ho.own _ _ h2).2 (by omega)
                  · intro i hi hn
                    simp only [List.mem_singleton] at hn
                    rw [getD_set_ne hn]
                    simp [List.getD, List.getElem?_append, hi]
                  · intro i h1 h2
                    by_cases he : i = id
                    · subst he
                      exact .inl (by simp [List.getD, List.getElem?_append, hid])
                    · have hi : i = h.length := by
                        simp at h1 h2
                        omega
                      subst hi
                      refine .inr ⟨b, .cells (setArr xs (0 + len * size) newR.toList) e' fr, by simp, ?_, ?_⟩
                      · rw [e2]
                        show (w.heap.setIfInBounds b _)[b]? = _
                        rw [Array.getElem?_setIfInBounds, if_pos rfl, if_pos (ho.own _ _ hbb).2]
                      · have hgd : (h.set id AObj.dead ++ [AObj.cells (cs ++ new) e' true (pr && noRefs new)]).getD h.length AObj.dead = .cells (cs ++ new) e' true (pr && noRefs new) := by
                          simp [List.getD, List.getElem?_append]
                        rw [hgd]
                        refine ⟨rfl, (by rw [setArr_size]; simp [hnl]; omega), (fun h => by cases h), (by rw [setArr_size]; exact hfx), fun i hi => ?_, fun i hi => ?_⟩
                        · rw [setArr_size] at hi
                          rw [hXsz]
                          by_cases hq : 0 + len * size ≤ i ∧ i < 0 + len * size + newR.toList.length ∧ i < xs.size
                          · rw [if_pos hq, ← arr_getD]
                            exact hln.2.1 _ (by rw [Array.length_toList] at hq; omega)
                          · rw [if_neg hq]; exact hone i hi
                        · refine app_cells h7 hln (fun i hi => ?_) (fun i hi => ?_) M w' _ (e3.stays ho) (fun b' i hb' => e3.shape b' (ho.own _ _ hb').2) hmono i hi
                          · rw [hXsz, if_neg (by omega)]
                          · have hq : 0 + len * size ≤ cs.length + i ∧ cs.length + i < 0 + len * size + newR.toList.length ∧ cs.length + i < xs.size := by omega
                            rw [hXsz, if_pos hq, ← arr_getD]
                            congr 1; omega
                · refine .sl _ _ _ _ _ _ _ _ (by simp) hroom g2 (fun k hk => by cases hk) (fun _ => ⟨e', xs.size, ?_, g6⟩)
                  rw [e3.shape b (ho.own _ _ hbb).2]; exact hshb
              · -- a new row, in truth
                have hfit : 0 + len * size ≤ cs.length := by omega
                have hsub := LRel.sub hr 0 (len * size) hfit
                have hcs : (cs.drop 0).take (len * size) = cs := by simp [hlen]
                rw [hcs] at hsub
                obtain ⟨hb1, hb2, z, zc, hz, hzc, hzk⟩ := big_of hbig
                obtain ⟨zv, hzv, hzr, hz1, _⟩ := zero_ok hz
                have zk : zv.cells.size = size := by rw [← (stored_ok hzc (hzr M w φ)).1, hzk]
                have hrun := append_grow (ty := ty) ht0 ht1 hu hk hk0 hX (sLen := len) (sCap := c) (base := some ⟨b, 0, none⟩) (by omega) hzv (first hfit) ⟨hb1, hb2⟩ hn0
                have hcap := grownCap_bd w (len + n) c e' hb2
                have hz1' : ∀ i, i < zv.cells.size → (zv.cells.getD i Go.undef).oneCell' = true := by
                  intro i hi
                  simp only [Array.all_eq_true] at hz1
                  simpa [Array.getD, hi] using hz1 i hi
                have hA0 : ∀ i, i < cs.length → (((List.range (len * size)).map fun i => xs.getD (0 + i) Go.undef).toArray).getD i Go.undef = xs.getD i Go.undef := by
                  intro i hi
                  rw [arr_getD, getD_getElem _ _ (by simp; omega)]
                  simp
                generalize ((List.range (len * size)).map fun i => xs.getD (0 + i) Go.undef).toArray = A at hsub hrun hA0
                have hAn := hsub.append hln
                have hzo := zeros_one hz1' (grownCap w (len + n) c e' - (len + n))
                have hzs := zeros_size zv.cells (grownCap w (len + n) c e' - (len + n))
                generalize Builtin.zeroCells zv.cells (grownCap w (len + n) c e' - (len + n)) = Z at hrun hzo hzs
                have hA1 := hsub.1
                have hN1 := hln.1
                have hone' : ∀ i, i < (A ++ newR ++ Z).size → ((A ++ newR ++ Z).getD i Go.undef).oneCell' = true := by
                  intro i hi
                  rw [Array.size_append] at hi
                  rw [app_getD]
                  by_cases hq : i < (A ++ newR).size
                  · rw [if_pos hq]; exact hAn.2.1 i hq
                  · rw [if_neg hq]; exact hzo _ (by omega)
                have hp := alloc_post (w := w) (h := h) ho hf (.cells (cs ++ new) e' true (pr && noRefs new)) (.cells (A ++ newR ++ Z) e' (0, 0)) w.drew rfl rfl rfl rfl (fun M' w' φ' hs hsh hm => by
                  refine ⟨rfl, ?_, (fun h => by cases h), .inl rfl, hone', fun i hi => ?_⟩
                  · simp only [Array.size_append, List.length_append]
                    omega
                  · refine app_cells h7 hln (fun i hi => ?_) (fun i hi => ?_) M' w' φ' hs hsh hm i hi
                    · rw [app_getD, if_pos (by rw [Array.size_append]; omega), app_getD, if_pos (by omega)]
                      exact hA0 i hi
                    · rw [app_getD, if_pos (by rw [Array.size_append]; omega), app_getD, if_neg (by omega)]
                      congr 1; omega)
                refine ⟨fun b => M b ∨ b = w.heap.size, fun i => if i = h.length then some w.heap.size else φ i, _, _, [id], by intro j hj; simp only [List.mem_singleton] at hj; subst hj; exact ⟨by simp [refs], by rw [hob]; simp⟩, hrun, hp.dead hid, .sl _ _ _ _ _ _ _ _ (by simp) hcap.1 hcap.2 (fun k hk => by cases hk) (fun _ => ?_)⟩
                refine ⟨e', _, ?_, rfl⟩
                have hsz : (A ++ newR ++ Z).size = 0 + grownCap w (len + n) c e' * size := by
                  simp only [Array.size_append, hzs, zk]
                  rw [Nat.sub_mul, Nat.add_mul]
                  have := Nat.mul_le_mul_right size hcap.1
                  rw [Nat.add_mul] at this
                  omega
                have : (w.drew.alloc (.cells (A ++ newR ++ Z) e')).heap[w.heap.size]? = some (.cells (A ++ newR ++ Z) e') := by
                  show (w.drew.heap.push _)[w.drew.heap.size]? = _
                  rw [Array.getElem?_push_size]
                simp only [World.shape?, this, hsz]
            · cases hb
      · cases hb
    · cases hb
end
end Am
