/-
  A part of a proved abstract machine over the model, and of what it tells of this seat's functions. Conditions: as each theorem states them.
-/
import Derived.Test.YtcmmdemeaimegaaGreatDoorAm11
namespace Am
open Go
set_option linter.unusedSimpArgs false
set_option linter.unusedVariables false

section
variable {P : Program} {M : Nat → Prop} {w : World} {φ : Phi} {h : List AObj}

theorem app_cells {e : TypeId} {grow pr : Bool} {cs new : List AV} {xs newR X : Array Value} {fr : Nat × Nat} (ho : ORel M w φ (.cells cs e grow pr) (.cells xs e fr)) (hl : LRel M w φ new newR)
    (hX1 : ∀ i, i < cs.length → X.getD i Go.undef = xs.getD i Go.undef) (hX2 : ∀ i, i < new.length → X.getD (cs.length + i) Go.undef = newR.getD i Go.undef)
    (M' : Nat → Prop) (w' : World) (φ' : Phi) (hs : ∀ b, b < w.heap.size → ¬ M b → b < w'.heap.size ∧ ¬ M' b ∧ w'.heap[b]? = w.heap[b]?) (hsh : ∀ b id, φ id = some b → w'.shape? b = w.shape? b)
    (hm : ∀ id b, φ id = some b → φ' id = some b) (i : Nat) (hi : i < (cs ++ new).length) : VRel M' w' (if (pr && noRefs new) then fun _ => none else φ') (cs ++ new)[i] (X.getD i Go.undef) := by
  obtain ⟨_, _, _, _, _, h6⟩ := ho
  by_cases hc : i < cs.length
  · rw [List.getElem_append_left hc, hX1 i hc]
    have h7 := h6 i hc
    by_cases hp : (pr && noRefs new) = true
    · have hp' : pr = true := by simp at hp; exact hp.1
      rw [if_pos hp'] at h7
      rw [if_pos hp]
      exact h7.stay hs (fun b id h => by cases h) (fun id b h => by cases h)
    · rw [if_neg hp]
      have : VRel M w φ cs[i] (xs.getD i Go.undef) := by
        by_cases hp' : pr = true
        · rw [if_pos hp'] at h7; exact VRel.weak h7
        · rw [if_neg hp'] at h7; exact h7
      exact this.stay hs hsh hm
  · simp only [List.length_append] at hi
    rw [List.getElem_append_right (by omega)]
    have e1 : X.getD i Go.undef = newR.getD (i - cs.length) Go.undef := by
      have := hX2 (i - cs.length) (by omega)
      rwa [show cs.length + (i - cs.length) = i by omega] at this
    rw [e1]
    have h7 := hl.2.2 (i - cs.length) (by omega)
    by_cases hp : (pr && noRefs new) = true
    · rw [if_pos hp]
      have hn : noRefs new = true := by simp at hp; exact hp.2
      exact (VRel.noref (refsL_nil (by simpa [noRefs] using hn) _ (by omega)) h7).stay hs (fun b id h => by cases h) (fun id b h => by cases h)
    · rw [if_neg hp]
      exact h7.stay hs hsh hm

theorem getD_set_ne {l : List AObj} {i j : Nat} (hij : j ≠ i) (o : AObj) (l2 : List AObj) : (l.set i o ++ l2).getD j .dead = (l ++ l2).getD j .dead := by
  simp only [List.getD, List.getElem?_append, List.length_set, List.getElem?_set, Ne.symm hij, if_false]

/-- What was there is given up. -/
theorem Post.dead {M' : Nat → Prop} {w' : World} {φ' : Phi} {l : List AObj} {id : Nat} (hp : Post M w φ h [] M' w' φ' (h ++ l)) (hid : id < h.length) : Post M w φ h [id] M' w' φ' (h.set id .dead ++ l) where
  len := by simp
  size := hp.size
  os := hp.os
  tape := hp.tape
  output := hp.output
  old b hb hn := hp.old b hb (fun _ h => by cases h)
  shape := hp.shape
  mono := hp.mono
  new i b hb := by
    rcases hp.new i b hb with h1 | ⟨h1, h2, h3, h4⟩
    · exact .inl h1
    · refine .inr ⟨h1, by simpa using h2, h3, ?_⟩
      rcases h4 with h4 | ⟨_, h5, _⟩
      · exact .inl h4
      · cases h5
  newinj := hp.newinj
  mem := hp.mem
  frame i hi hn := by
    simp only [List.mem_singleton] at hn
    rw [getD_set_ne hn]
    exact hp.frame i hi (by simp)
  objs i h1 h2 := by
    by_cases he : i = id
    · subst he
      refine .inl ?_
      simp [List.getD, List.getElem?_append, hid]
    · have := hp.objs i (.inr (by rcases h1 with h1 | h1; · simp at h1; exact absurd h1 he
                                  · exact h1)) (by simpa using h2)
      unfold HAt at this ⊢
      rwa [getD_set_ne he]

theorem big_of {k m : Nat} {e : TypeId} (hb : bigA P k e m = true) : m * P.bytesOf e ≤ mostA ∧ m ≤ mostA ∧ ∃ z zc, zeroA P e = some z ∧ z.stored = some zc ∧ zc.length = k := by
  unfold bigA at hb
  simp only [Bool.and_eq_true, decide_eq_true_eq] at hb
  obtain ⟨⟨h1, h2⟩, h3⟩ := hb
  refine ⟨h1, h2, ?_⟩
  split at h3
  · rename_i zc hz
    obtain ⟨z, h4, h5⟩ := Option.bind_eq_some_iff.1 hz
    exact ⟨z, zc, h4, h5, by simpa using h3⟩
  · cases h3

theorem appNew_ok (ho : Own M w φ) (hf : φ h.length = none) {k n sLen sCap : Nat} {e t0 t1 ty : TypeId} {ts : Array TypeId} {base : Option Addr} {xv : Value} {olds new : List AV} {newR oldR : Array Value}
    (h0 : ts[0]? = some t0) (h1 : ts[1]? = some t1) (hu : P.underlying t0 = some (.slice e)) (hk : szA P e = some k) (hk0 : k ≠ 0) (hX : AppX P w k e n t1 xv newR) (hgrow : sCap < sLen + n)
    (hold : ∀ w1 : World, w1.heap = w.heap → (Builtin.firstCells k sLen (.slice base sLen sCap)).run P w1 = .ok oldR w1) (hb : bigA P k e (sLen + n) = true)
    (hn : n ≠ 0) (hlo : LRel M w φ olds oldR) (hln : LRel M w φ new newR) (hol : olds.length = sLen * k) (hnl : new.length = n * k) :
    ∃ M' φ' v w', (Builtin.append_ ts ty #[.slice base sLen sCap, xv]).run P w = .ok v w' ∧ Post M w φ h [] M' w' φ' (newCells h (olds ++ new) e true).2 ∧ VRel M' w' φ' (.sl h.length 0 (sLen + n) k none) v := by
  obtain ⟨hb1, hb2, z, zc, hz, hzc, hzk⟩ := big_of hb
  obtain ⟨zv, hzv, hzr, hz1, _⟩ := zero_ok hz
  have zk : zv.cells.size = k := by rw [← (stored_ok hzc (hzr M w φ)).1, hzk]
  have hrun := append_grow (ty := ty) h0 h1 hu hk hk0 hX hgrow hzv hold ⟨hb1, hb2⟩ hn
  have hcap := grownCap_bd w (sLen + n) sCap e hb2
  have hz1' : ∀ i, i < zv.cells.size → (zv.cells.getD i Go.undef).oneCell' = true := by
    intro i hi
    simp only [Array.all_eq_true] at hz1
    simpa [Array.getD, hi] using hz1 i hi
  have hp := row_post (w := w) ho hf (hlo.append hln) e true (Builtin.zeroCells zv.cells (grownCap w (sLen + n) sCap e - (sLen + n))) (fun h => by cases h) (zeros_one hz1' _) (0, 0) (.inl rfl) w.drew rfl rfl rfl rfl
  refine ⟨fun b => M b ∨ b = w.heap.size, fun i => if i = h.length then some w.heap.size else φ i, _, _, hrun, hp, .sl _ _ _ _ _ _ _ _ (by simp) hcap.1 hcap.2 (fun k hk => by cases hk) (fun _ => ?_)⟩
  refine ⟨e, _, ?_, rfl⟩
  have hsz : (oldR ++ newR ++ Builtin.zeroCells zv.cells (grownCap w (sLen + n) sCap e - (sLen + n))).size = 0 + grownCap w (sLen + n) sCap e * k := by
    simp only [Array.size_append, zeros_size, ← hlo.1, ← hln.1, hol, hnl, zk]
    rw [Nat.sub_mul, Nat.add_mul]
    have := Nat.mul_le_mul_right k hcap.1
    rw [Nat.add_mul] at this
    omega
  have : (w.drew.alloc (.cells (oldR ++ newR ++ Builtin.zeroCells zv.cells (grownCap w (sLen + n) sCap e - (sLen + n))) e)).heap[w.heap.size]? = some (.cells (oldR ++ newR ++ Builtin.zeroCells zv.cells (grownCap w (sLen + n) sCap e - (sLen + n))) e) := by
    show (w.drew.heap.push _)[w.drew.heap.size]? = _
    rw [Array.getElem?_push_size]
  simp only [World.shape?, this, hsz]

/-- Appending within the capacity. -/
theorem appRoom_ok (ho : Own M w φ) {k n sLen sCap id b off : Nat} {e t0 t1 ty : TypeId} {ts : Array TypeId} {xv : Value} {cs new : List AV} {newR : Array Value} {grow pr : Bool} {xs : Array Value} {fr : Nat × Nat}
    (h0 : ts[0]? = some t0) (h1 : ts[1]? = some t1) (hu : P.underlying t0 = some (.slice e)) (hk : szA P e = some k) (hk0 : k ≠ 0) (hX : AppX P w k e n t1 xv newR) (hroom : sLen + n ≤ sCap)
    (hid : id < h.length) (hb : φ id = some b) (hob : w.heap[b]? = some (.cells xs e fr)) (hor : ORel M w φ (.cells cs e grow pr) (.cells xs e fr)) (hln : LRel M w φ new newR) (hnl : new.length = n * k)
    (hfit : off + (sLen + n) * k ≤ xs.size) :
    ∃ w', (Builtin.append_ ts ty #[.slice (some ⟨b, off, none⟩) sLen sCap, xv]).run P w = .ok (.slice (some ⟨b, off, none⟩) (sLen + n) sCap) w' ∧ w' = putBlock w b (.cells (setArr xs (off + sLen * k) newR.toList) e fr) ∧
      Post M w φ h [id] M w' φ (h.set id (.cells (setCells cs (off + sLen * k) new) e grow (pr && noRefs new))) := by
  have hor' := hor
  obtain ⟨_, _, _, hfr, _, _⟩ := hor'
  have hone : ∀ v ∈ newR.toList, v.oneCell' = true := by
    intro u hu
    obtain ⟨i, hi, rfl⟩ := List.getElem_of_mem hu
    have := hln.2.1 i (by simpa using hi)
    simpa [Array.getD, show i < newR.size by simpa using hi] using this
  have hst := run_storeCells' (P := P) b e fr newR.toList (off + sLen * k) 0 xs w hob (by
    have : newR.toList.length = n * k := by rw [← hnl, hln.1, Array.length_toList]
    rw [this]; rw [Nat.add_mul] at hfit; omega) (fun j hj => by omega) hone
  refine ⟨_, ?_, rfl, ?_⟩
  · rw [append_room h0 h1 hu hk hk0 hX hroom]
    simp only [add_eq, hst, Result.andThen_ok, Nat.add_zero]
  · exact set_post ho hid hb _ hob ⟨rfl, by rw [setArr_size]⟩ (fun M' w' φ' hs hsh hm => cells_set hor (by rw [hln.1, Array.length_toList]) (fun i hi => by rw [← arr_getD]; exact hln.2.2 i hi) hone M' w' φ' hs hsh hm)

end
end Am
