/-
  A part of a proved abstract machine over the model, and of what it tells of this seat's functions. Conditions: as each theorem states them.
-/
import Derived.Test.YtcmmdemeaimegaaGreatDoorAm9
namespace Am
open Go
set_option linter.unusedSimpArgs false
set_option linter.unusedVariables false

section
variable {P : Program} {M : Nat → Prop} {w : World} {φ : Phi} {h : List AObj}

def ORelO (M : Nat → Prop) (w : World) (φ : Phi) : Option AV → Option Value → Prop
  | none, none => True
  | some a, some v => VRel M w φ a v
  | _, _ => False

theorem bound_ok {x : Option AV} {xr : Option Value} {d top n : Nat} (hx : ORelO M w φ x xr) (hb : boundA x d top = some n) :
    (x = none ∧ xr = none ∧ n = d) ∨ (x.isSome = true ∧ ∃ k i, xr = some (.int k i) ∧ 0 ≤ i ∧ i ≤ (top : Int) ∧ n = i.toNat) := by
  unfold boundA at hb
  split at hb
  · cases hb; cases xr with
    | none => exact .inl ⟨rfl, rfl, rfl⟩
    | some => exact hx.elim
  · split at hb
    · rename_i hc
      cases hb
      cases xr with
      | none => exact hx.elim
      | some v => cases hx; exact .inr ⟨rfl, _, _, rfl, hc.1, hc.2, rfl⟩
    · cases hb
  · cases hb

theorem sliceBounds_run (isS : Bool) (len c : Nat) (lo hi mx : Option Value) (b e m : Nat)
    (hm : (mx = none ∧ m = c) ∨ ∃ k i, mx = some (.int k i) ∧ 0 ≤ i ∧ i ≤ (c : Int) ∧ m = i.toNat)
    (he : (hi = none ∧ mx = none ∧ e = len) ∨ ∃ k i, hi = some (.int k i) ∧ 0 ≤ i ∧ i ≤ (m : Int) ∧ e = i.toNat)
    (hb : (lo = none ∧ b = 0) ∨ ∃ k i, lo = some (.int k i) ∧ 0 ≤ i ∧ i ≤ (e : Int) ∧ b = i.toNat) :
    (Instr.sliceBounds isS len c lo hi mx).run P w = .ok (b, e, m) w := by
  rcases hm with ⟨rfl, rfl⟩ | ⟨k1, i1, rfl, h1, h2, rfl⟩ <;> rcases he with ⟨rfl, h3, rfl⟩ | ⟨k2, i2, rfl, h3, h4, rfl⟩ <;> rcases hb with ⟨rfl, rfl⟩ | ⟨k3, i3, rfl, h5, h6, rfl⟩ <;>
    first
    | (cases h3; done)
    | simp_all [Instr.sliceBounds, Instr.sliceBound, asIntOf]

theorem slice_ok {t : TypeId} {x y : AV} {lo hi mx : Option AV} {xv : Value} {lor hir mxr : Option Value} (hs : sliceA P h t x lo hi mx = some y) (hx : VRel M w φ x xv)
    (hlo : ORelO M w φ lo lor) (hhi : ORelO M w φ hi hir) (hmx : ORelO M w φ mx mxr) (hh : ∀ id, id ∈ refs x → HAt M w φ h id) (ho : Own M w φ) :
    ∃ v, (Instr.sliceAt t xv lor hir mxr).run P w = .ok v w ∧ VRel M w φ y v := by
  have mxi : mx.isSome = mxr.isSome := by cases mx <;> cases mxr <;> first | rfl | exact hmx.elim
  have hii : hi.isSome = hir.isSome := by cases hi <;> cases hir <;> first | rfl | exact hhi.elim
  unfold sliceA at hs
  split at hs
  · cases hs
  rename_i hmh
  split at hs
  · -- a string
    rename_i s hu
    split at hs
    · cases hs
    · rename_i hm0
      obtain ⟨e, he, hs⟩ := Option.bind_eq_some_iff.1 hs
      obtain ⟨b, hb, hs9⟩ := Option.bind_eq_some_iff.1 hs
      cases hs9
      cases hx with
      | str _ s =>
      have hm0' : mxr = none := by cases mxr with
        | none => rfl
        | some => rw [mxi] at hm0; exact absurd rfl hm0
      subst hm0'
      have e1 := bound_ok hhi he
      have e2 := bound_ok hlo hb
      have hl : s.data.toList.length = s.size := by rw [Array.length_toList]; rfl
      have hbr := sliceBounds_run (P := P) (w := w) false s.size s.size lor hir none b e s.size (.inl ⟨rfl, rfl⟩)
        (by rcases e1 with ⟨_, h1, h2⟩ | ⟨_, k, i, h1, h2, h3, h4⟩
            · exact .inl ⟨h1, rfl, by rw [h2, hl]⟩
            · exact .inr ⟨k, i, h1, h2, by rw [hl] at h3; exact h3, h4⟩)
        (by rcases e2 with ⟨_, h1, h2⟩ | ⟨_, k, i, h1, h2, h3, h4⟩
            · exact .inl ⟨h1, h2⟩
            · exact .inr ⟨k, i, h1, h2, h3, h4⟩)
      refine ⟨.string (s.extract b e), ?_, ?_⟩
      · simp [Instr.sliceAt, Instr.slice, run_underlying hu, hbr]
      · have := VRel.str (M := M) (w := w) φ (s.extract b e)
        have e3 : (s.extract b e).data.toList = (s.data.toList.take e).drop b := by
          simp [ByteArray.data_extract, List.extract_eq_take_drop, List.drop_take]
        rwa [e3] at this
  · -- nil
    rename_i el hu
    obtain ⟨ie, hie, hs⟩ := Option.bind_eq_some_iff.1 hs
    obtain ⟨m, hm, hs⟩ := Option.bind_eq_some_iff.1 hs
    obtain ⟨e, he, hs⟩ := Option.bind_eq_some_iff.1 hs
    obtain ⟨b, hb, hs9⟩ := Option.bind_eq_some_iff.1 hs
    cases hs9
    cases hx
    have e0 := bound_ok hmx hm
    have e1 := bound_ok hhi he
    have e2 := bound_ok hlo hb
    have hm0 : m = 0 := by rcases e0 with ⟨_, _, h⟩ | ⟨_, k, i, _, h1, h2, h3⟩ <;> omega
    subst hm0
    have he0 : e = 0 := by rcases e1 with ⟨_, _, h⟩ | ⟨_, k, i, _, h1, h2, h3⟩ <;> omega
    subst he0
    have hb0 : b = 0 := by rcases e2 with ⟨_, _, h⟩ | ⟨_, k, i, _, h1, h2, h3⟩ <;> omega
    subst hb0
    have hbr := sliceBounds_run (P := P) (w := w) true 0 0 lor hir mxr 0 0 0
      (by rcases e0 with ⟨_, h1, h2⟩ | ⟨_, k, i, h1, h2, h3, h4⟩
          · exact .inl ⟨h1, h2⟩
          · exact .inr ⟨k, i, h1, h2, h3, h4⟩)
      (by rcases e1 with ⟨h0, h1, h2⟩ | ⟨_, k, i, h1, h2, h3, h4⟩
          · refine .inl ⟨h1, ?_, h2⟩
            cases mxr with
            | none => rfl
            | some => exact absurd ⟨by rw [mxi]; rfl, by rw [h0]; rfl⟩ hmh
          · exact .inr ⟨k, i, h1, h2, h3, h4⟩)
      (by rcases e2 with ⟨_, h1, h2⟩ | ⟨_, k, i, h1, h2, h3, h4⟩
          · exact .inl ⟨h1, h2⟩
          · exact .inr ⟨k, i, h1, h2, h3, h4⟩)
    exact ⟨.slice none 0 0, by simp [Instr.sliceAt, Instr.slice, run_underlying hu, hbr, run_sizeOf' hie], .snil _⟩
  · -- frozen
    rename_i el cs len cap hu
    obtain ⟨k, hk, hs⟩ := Option.bind_eq_some_iff.1 hs
    split at hs
    · cases hs
    rename_i hcl
    have hcl : cs.length = len * k := by omega
    obtain ⟨m, hm, hs⟩ := Option.bind_eq_some_iff.1 hs
    obtain ⟨e, he, hs⟩ := Option.bind_eq_some_iff.1 hs
    obtain ⟨b, hb, hs9⟩ := Option.bind_eq_some_iff.1 hs
    cases hs9
    cases hx with
    | isl _ _ _ _ a c f h1 h2 h3 ha hc h4 hv =>
    have e0 := bound_ok hmx hm
    have e1 := bound_ok hhi he
    have e2 := bound_ok hlo hb
    let m' := if mx.isSome then m else c
    have hmle : m ≤ len := by rcases e0 with ⟨_, _, h⟩ | ⟨_, k, i, _, h1, h2, h3⟩ <;> omega
    have hele : e ≤ len ∧ e ≤ m := by rcases e1 with ⟨h0, _, h⟩ | ⟨_, k, i, _, h1, h2, h3⟩
                                      · rcases e0 with ⟨_, _, h'⟩ | ⟨h', _⟩
                                        · omega
                                        · exact absurd ⟨h', by rw [h0]; rfl⟩ hmh
                                      · omega
    have hble : b ≤ e := by rcases e2 with ⟨_, _, h⟩ | ⟨_, k, i, _, h1, h2, h3⟩ <;> omega
    have hem : e ≤ m' := by simp only [m']; split <;> omega
    have hbr := sliceBounds_run (P := P) (w := w) true len c lor hir mxr b e m'
      (by rcases e0 with ⟨h0, h1, h2⟩ | ⟨h0, k, i, h1, h2, h3, h4⟩
          · exact .inl ⟨h1, by simp only [m', h0]; rfl⟩
          · exact .inr ⟨k, i, h1, h2, by omega, by simp only [m', h0, if_true]; exact h4⟩)
      (by rcases e1 with ⟨h0, h1, h2⟩ | ⟨_, k, i, h1, h2, h3, h4⟩
          · refine .inl ⟨h1, ?_, h2⟩
            cases mxr with
            | none => rfl
            | some => exact absurd ⟨by rw [mxi]; rfl, by rw [h0]; rfl⟩ hmh
          · exact .inr ⟨k, i, h1, h2, by omega, h4⟩)
      (by rcases e2 with ⟨_, h1, h2⟩ | ⟨_, k, i, h1, h2, h3, h4⟩
          · exact .inl ⟨h1, h2⟩
          · exact .inr ⟨k, i, h1, h2, h3, h4⟩)
    have hm'c : m' ≤ c := by simp only [m']; split <;> omega
    refine ⟨.slice (if m' = b then some a else some (a.add (b * k))) (e - b) (m' - b), ?_, ?_⟩
    · simp [Instr.sliceAt, Instr.slice, run_underlying hu, hbr, run_sizeOf' hk]
    · have hlen : ((cs.drop (b * k)).take ((e - b) * k)).length = (e - b) * k := by
        simp only [List.length_take, List.length_drop, hcl]
        have : e * k ≤ len * k := Nat.mul_le_mul_right _ hele.1
        have h5 : (e - b) * k = e * k - b * k := Nat.sub_mul _ _ _
        omega
      have hq : (if m' = b then some a else some (a.add (b * k))) = some (if m' = b then a else a.add (b * k)) := by split <;> rfl
      rw [hq]
      have hcapr : ∀ j, (if mx.isSome = true then some (m - b) else cap.map (· - b)) = some j → m' - b = j := by
        intro j hj
        by_cases hq : mx.isSome = true
        · rw [if_pos hq] at hj; cases hj; simp only [m', hq, if_true]
        · rw [if_neg hq] at hj
          obtain ⟨c', hc', rfl⟩ := Option.map_eq_some_iff.1 hj
          simp only [m', hq]; rw [h3 _ hc']; rfl
      by_cases hne : cs = []
      · have hz : (cs.drop (b * k)).take ((e - b) * k) = [] := by simp [hne]
        rw [hz]
        exact .isl _ _ _ _ _ _ f (by omega) (by omega) hcapr (fun h => absurd rfl h) (fun i hi => by simp at hi) (fun i hi => by simp at hi) (fun i hi => by simp at hi)
      · obtain ⟨h5, h6, h7⟩ := ha hne
        obtain ⟨ab, ao, as⟩ := a
        simp only at h5 h6 h7 hc; subst h5
        by_cases hbm : m' = b
        · have he0 : e - b = 0 := by omega
          have hz : (cs.drop (b * k)).take ((e - b) * k) = [] := by simp [he0]
          rw [hz, he0]
          exact .isl _ _ _ _ _ _ f (by omega) (by omega) hcapr (fun h => absurd rfl h) (fun i hi => by simp at hi) (fun i hi => by simp at hi) (fun i hi => by simp at hi)
        · rw [if_neg hbm, add_eq]
          refine .isl _ _ _ _ _ _ (fun i => f (b * k + i)) (by omega) (by omega) hcapr (fun _ => ⟨rfl, h6, h7⟩) (fun i hi => ?_) (fun i hi => ?_) (fun i hi => ?_)
          · simp only [List.length_take, List.length_drop] at hi
            have := hc (b * k + i) (by omega)
            simpa [Nat.add_assoc] using this
          · simp only [List.length_take, List.length_drop] at hi
            exact h4 _ (by omega)
          · simp only [List.length_take, List.length_drop] at hi
            have := hv (b * k + i) (by omega)
            simpa using this
  · -- a row
    rename_i el id off len size cap hu
    obtain ⟨k, hk, hs⟩ := Option.bind_eq_some_iff.1 hs
    split at hs
    · rename_i cs e1 g pr hob
      split at hs
      · cases hs
      rename_i hsk
      have hsz : size = k ∧ k ≠ 0 := by omega
      obtain ⟨rfl, hk0⟩ := hsz
      obtain ⟨m, hm, hs⟩ := Option.bind_eq_some_iff.1 hs
      obtain ⟨e, he, hs⟩ := Option.bind_eq_some_iff.1 hs
      obtain ⟨b, hb, hs9⟩ := Option.bind_eq_some_iff.1 hs
      cases hx with
      | sl _ _ _ _ _ _ bb c hbb h1 h2 h3 h4 =>
      rcases hh id (by simp [refs]) with h0 | ⟨b', ob, h5, h6, h7⟩
      · rw [hob] at h0; cases h0
      rw [hbb] at h5; cases h5
      rw [hob] at h7
      obtain ⟨xs, fr, rfl, hr, hle, _⟩ := obj_reads (id := id) h6 h7
      have htop : cap.getD ((cs.length - off) / size) ≤ c := by
        cases hcap : cap with
        | some c' => simp only [Option.getD_some]; rw [h3 _ hcap]; exact Nat.le_refl _
        | none =>
          simp only [Option.getD_none]
          obtain ⟨e', n, h8, h9⟩ := h4 hcap
          have : w.shape? bb = some (e1, xs.size) := by
            obtain ⟨h10, _⟩ := h7
            simp [World.shape?, h6, h10]
          rw [this] at h8; cases h8
          have : cs.length - off ≤ c * size := by omega
          calc (cs.length - off) / size ≤ (c * size) / size := Nat.div_le_div_right this
            _ = c := Nat.mul_div_cancel _ (by omega)
      have e0 := bound_ok hmx hm
      have e1' := bound_ok hhi he
      have e2 := bound_ok hlo hb
      let m' := if mx.isSome then m else c
      have hmle : m ≤ c := by rcases e0 with ⟨_, _, h⟩ | ⟨_, k, i, _, h1, h2, h3⟩ <;> omega
      have hem : e ≤ m' := by
        simp only [m']
        rcases e1' with ⟨h0, _, h⟩ | ⟨_, k, i, _, h1, h2, h3⟩
        · split
          · rename_i hq; exact absurd ⟨hq, by rw [h0]; rfl⟩ hmh
          · omega
        · split <;> omega
      have hble : b ≤ e := by rcases e2 with ⟨_, _, h⟩ | ⟨_, k, i, _, h1, h2, h3⟩ <;> omega
      have hm'c : m' ≤ c := by simp only [m']; split <;> omega
      have hbr := sliceBounds_run (P := P) (w := w) true len c lor hir mxr b e m'
        (by rcases e0 with ⟨h0, h1, h2⟩ | ⟨h0, k, i, h1, h2, h3, h4⟩
            · exact .inl ⟨h1, by simp only [m', h0]; rfl⟩
            · exact .inr ⟨k, i, h1, h2, by omega, by simp only [m', h0, if_true]; exact h4⟩)
        (by rcases e1' with ⟨h0, h1, h2⟩ | ⟨_, k, i, h1, h2, h3, h4⟩
            · refine .inl ⟨h1, ?_, h2⟩
              cases mxr with
              | none => rfl
              | some => exact absurd ⟨by rw [mxi]; rfl, by rw [h0]; rfl⟩ hmh
            · refine .inr ⟨k, i, h1, h2, ?_, h4⟩
              simp only [m']
              split <;> omega)
        (by rcases e2 with ⟨_, h1, h2⟩ | ⟨_, k, i, h1, h2, h3, h4⟩
            · exact .inl ⟨h1, h2⟩
            · exact .inr ⟨k, i, h1, h2, h3, h4⟩)
      have hrun : (Instr.sliceAt t (.slice (some ⟨bb, off, none⟩) len c) lor hir mxr).run P w = .ok (.slice (if m' = b then some ⟨bb, off, none⟩ else some ((⟨bb, off, none⟩ : Addr).add (b * size))) (e - b) (m' - b)) w := by
        simp [Instr.sliceAt, Instr.slice, run_underlying hu, hbr, run_sizeOf' hk]
      refine ⟨_, hrun, ?_⟩
      have hq : (if m' = b then some (⟨bb, off, none⟩ : Addr) else some ((⟨bb, off, none⟩ : Addr).add (b * size))) = some (if m' = b then ⟨bb, off, none⟩ else (⟨bb, off, none⟩ : Addr).add (b * size)) := by split <;> rfl
      rw [hq]
      split at hs9
      · rename_i heb
        cases hs9
        rw [show e - b = 0 by omega]
        exact .isl _ _ _ _ _ _ (fun _ => Go.undef) (by omega) (by omega) (fun j hj => by cases hj) (fun h => absurd rfl h) (fun i hi => by simp at hi) (fun i hi => by simp at hi) (fun i hi => by simp at hi)
      · rename_i heb
        cases hs9
        have hcapr : ∀ j, (if mx.isSome = true then some (m - b) else cap.map (· - b)) = some j → m' - b = j := by
          intro j hj
          by_cases hq : mx.isSome = true
          · rw [if_pos hq] at hj; cases hj; simp only [m', hq, if_true]
          · rw [if_neg hq] at hj
            obtain ⟨c', hc', rfl⟩ := Option.map_eq_some_iff.1 hj
            simp only [m', hq]; rw [h3 _ hc']; rfl
        have haddr : (if m' = b then (⟨bb, off, none⟩ : Addr) else (⟨bb, off, none⟩ : Addr).add (b * size)) = ⟨bb, off + b * size, none⟩ := by
          split
          · have : b = 0 := by omega
            subst this; simp
          · exact add_eq _ _ _
        rw [haddr]
        refine .sl _ _ _ _ _ _ _ _ hbb (by omega) (by omega) hcapr (fun hn => ?_)
        have hmn : mx.isSome = false := by
          cases hq : mx.isSome with
          | false => rfl
          | true => rw [if_pos hq] at hn; cases hn
        have hcn : cap = none := by
          rw [if_neg (by rw [hmn]; simp)] at hn
          cases cap with
          | none => rfl
          | some => cases hn
        obtain ⟨e', n, h8, h9⟩ := h4 hcn
        refine ⟨e', n, h8, ?_⟩
        have : m' = c := by simp only [m', hmn]; rfl
        rw [this, Nat.sub_mul]
        have : b * size ≤ c * size := Nat.mul_le_mul_right _ (by omega)
        omega
    · cases hs
  · cases hs
end
end Am
