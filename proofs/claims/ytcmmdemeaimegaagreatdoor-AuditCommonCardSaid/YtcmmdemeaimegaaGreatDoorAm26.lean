/-
  A part of a proved abstract machine over the model, and of what it tells of this seat's functions. Conditions: as each theorem states them.
-/
import Derived.Test.YtcmmdemeaimegaaGreatDoorAm25
import Derived.ChangeArms
import Derived.SizedLaws
namespace Am
open Go
set_option linter.unusedSimpArgs false
set_option linter.unusedVariables false
section
variable {H : Type} {enc : TypeId × Value → H} {P : Program} {w : World} {base : Nat} {sp : Nat → Bool} {held : Bool} {φ : Phi}

theorem weightsAll_mem {e : TypeId} {d : DataW H} {l : List (DataW H)} {n : Nat} (hd : d ∈ l) (hn : n ∈ d.weights P e) : n ∈ DataW.weightsAll P e l := by
  induction l with
  | nil => cases hd
  | cons x l ih =>
    rw [DataW.weightsAll, List.mem_append]
    rcases List.mem_cons.1 hd with rfl | hd
    · exact .inl hn
    · exact .inr (ih hd)

theorem cells_one {a : Addr} {cs : List Value} (h : w.cells? base a 1 = some cs) : ∃ c, cs = [c] ∧ w.cell? a = some c := by
  have e0 : a.add 0 = a := by simp [Addr.add]
  unfold World.cells? at h
  split at h
  · simp only [List.range_succ, List.range_zero, List.nil_append, List.mapM_cons, List.mapM_nil, e0] at h
    cases hcc : w.cell? a with
    | none => simp [hcc] at h
    | some c => simp [hcc] at h; exact ⟨c, h.symm, rfl⟩
  · cases h

theorem cell_spot {a : Addr} {c : Value} (h : w.cell? a = some c) : a.spot = none ∧ a.block < w.heap.size := by
  unfold World.cell? at h
  split at h
  · rename_i cs t fr hb
    split at h
    · cases h
    · rename_i hs
      exact ⟨by simpa using hs, (Array.getElem?_eq_some_iff.1 hb).1⟩
  · cases h

theorem u8_of_trod {e : TypeId} (he : P.underlying e = some (.int .u8)) {fuel : Nat} {c : Value} {x : DataW H × List MemPlace} (h : DataW.trod enc P w base sp held fuel e [c] = some x) : ∃ b : UInt8, c = .int .u8 b.toNat := by
  cases fuel with
  | zero => simp [DataW.trod] at h
  | succ n =>
    unfold DataW.trod at h
    rw [he] at h
    split at h <;> simp_all
    obtain ⟨⟨rfl, hw⟩, hx⟩ := h
    rename_i hk
    subst hk
    rename_i n1
    simp [Lit.wf, IntKind.min, IntKind.max, IntKind.signed, IntKind.bits] at hw
    refine ⟨UInt8.ofNat n1.toNat, ?_⟩
    rw [UInt8.toNat_ofNat']
    omega

/-- Bytes that are read: a frozen row. -/
theorem bytes_of_trod {t e : TypeId} (ht : P.underlying t = some (.slice e)) (he : P.underlying e = some (.int .u8)) (hc : P.cellsOf e = 1) {fuel : Nat} {cs : List Value} {x : DataW H × List MemPlace} (h : DataW.trod enc P w base sp held fuel t cs = some x) :
    ∃ v a xs, cs = [v] ∧ IsB a xs ∧ (∀ φ, VRel (fun _ => False) w φ a v) ∧ v.oneCell' = true ∧ ((∀ n ∈ x.1.weights P t, n ≤ reachBytes) → xs.length * P.bytesOf e ≤ reachBytes) := by
  rcases DataW.trod_slice ht h with ⟨rfl, _⟩ | ⟨ad, len, cap, elems, rest, n, _, rfl, hxe, _, hl, hcap, hlen, hel, _⟩
  · exact ⟨_, _, _, rfl, .nil, fun φ => .snil φ, rfl, fun _ => by simp⟩
  · have cell : ∀ i, i < len → ∃ b : UInt8, w.cell? (ad.add i) = some (.int .u8 b.toNat) := by
      intro i hi
      have hE := hel i hi
      rw [hc, Nat.mul_one, List.getElem?_eq_getElem (by omega)] at hE
      obtain ⟨c1, h1, h2⟩ := Option.bind_eq_some_iff.1 hE
      obtain ⟨c, rfl, h3⟩ := cells_one h1
      obtain ⟨b, rfl⟩ := u8_of_trod he h2
      exact ⟨b, h3⟩
    have hmax : maxLen ≤ 9223372036854775807 := by decide
    let bs : Nat → UInt8 := fun i => if h : i < len then Classical.choose (cell i h) else 0
    have hbs : ∀ i, i < len → w.cell? (ad.add i) = some (.int .u8 (bs i).toNat) := fun i hi => by
      simp only [bs, hi, dif_pos]; exact Classical.choose_spec (cell i hi)
    refine ⟨_, _, (List.range len).map bs, rfl, .row _ none (by simp; omega), fun φ => ?_, rfl, fun hw => ?_⟩
    case refine_2 =>
      have := hw ((elems.length + rest.length) * P.bytesOf e) (by rw [hxe]; simp [DataW.weights, ht])
      have h2 : len * P.bytesOf e ≤ (elems.length + rest.length) * P.bytesOf e := Nat.mul_le_mul_right _ (by omega)
      simp only [List.length_map, List.length_range]
      omega
    have hlen2 : ((List.range len).map bs).length = len := by simp
    rw [hlen2]
    refine .isl _ _ _ _ ad cap (fun i => .int .u8 (bs i).toNat) hl (by omega) (fun k hk => by cases hk) (fun hne => ?_) (fun i hi => ?_) (fun i hi => rfl) (fun i hi => ?_)
    · have hpos : 0 < len := by
        rcases Nat.eq_zero_or_pos len with h0 | h0
        · subst h0; simp at hne
        · exact h0
      obtain ⟨h1, h2⟩ := cell_spot (hbs 0 hpos)
      exact ⟨by simpa [Addr.add] using h1, id, by simpa [Addr.add] using h2⟩
    · have hi' : i < len := by simpa using hi
      have h1 := hbs i hi'
      have hsp : ad.spot = none := by simpa [Addr.add] using (cell_spot (hbs 0 (by omega))).1
      have e1 : ad.add i = ⟨ad.block, ad.off + i, none⟩ := by
        obtain ⟨b, o, s⟩ := ad
        simp only at hsp; subst hsp
        exact Addr.add_lit _ _ _
      rw [e1] at h1; exact h1
    · simp; exact .int _ _ _

/-- Lists of bytes that are read. -/
theorem lists_of_trod {t e b8 : TypeId} (ht : P.underlying t = some (.slice e)) (he : P.underlying e = some (.slice b8)) (hb : P.underlying b8 = some (.int .u8)) (hc : P.cellsOf e = 1) (hc8 : P.cellsOf b8 = 1) {fuel : Nat} {cs : List Value} {x : DataW H × List MemPlace}
    (h : DataW.trod enc P w base sp held fuel t cs = some x) : ∃ v a ks xss, cs = [v] ∧ IsL a ks xss ∧ (∀ φ, VRel (fun _ => False) w φ a v) ∧
      ((∀ n ∈ x.1.weights P t, n ≤ reachBytes) → ks.length * P.bytesOf e ≤ reachBytes ∧ ∀ i, (xss.getD i []).length * P.bytesOf b8 ≤ reachBytes) := by
  rcases DataW.trod_slice ht h with ⟨rfl, _⟩ | ⟨ad, len, cap, elems, rest, n, _, rfl, hxe, _, hl, hcap, hlen, hel, _⟩
  · exact ⟨_, _, _, _, rfl, .nil, fun φ => .snil φ, fun _ => by simp⟩
  · have cell : ∀ i, i < len → ∃ q : Value × AV × List UInt8, w.cell? (ad.add i) = some q.1 ∧ IsB q.2.1 q.2.2 ∧ (∀ φ, VRel (fun _ => False) w φ q.2.1 q.1) ∧ q.1.oneCell' = true ∧ ((∀ n ∈ x.1.weights P t, n ≤ reachBytes) → q.2.2.length * P.bytesOf b8 ≤ reachBytes) := by
      intro i hi
      have hE := hel i hi
      rw [hc, Nat.mul_one, List.getElem?_eq_getElem (by omega)] at hE
      obtain ⟨c1, h1, h2⟩ := Option.bind_eq_some_iff.1 hE
      obtain ⟨c, rfl, h3⟩ := cells_one h1
      obtain ⟨v, a, xs, h4, h5, h6, h7, h8⟩ := bytes_of_trod he hb hc8 h2
      cases h4
      refine ⟨(c, a, xs), h3, h5, h6, h7, fun hw => h8 fun n hn => hw n ?_⟩
      rw [hxe]
      simp only [DataW.weights, ht, List.mem_cons, List.mem_append]
      refine .inr (.inl (weightsAll_mem (d := (elems[i]'(by omega)).1) ?_ hn))
      exact List.mem_map.2 ⟨_, List.getElem_mem _, rfl⟩
    have hmax : maxLen ≤ 9223372036854775807 := by decide
    let q : Nat → Value × AV × List UInt8 := fun i => if h : i < len then Classical.choose (cell i h) else (Go.undef, .snil, [])
    have hq : ∀ i, i < len → w.cell? (ad.add i) = some (q i).1 ∧ IsB (q i).2.1 (q i).2.2 ∧ (∀ φ, VRel (fun _ => False) w φ (q i).2.1 (q i).1) ∧ (q i).1.oneCell' = true ∧ ((∀ n ∈ x.1.weights P t, n ≤ reachBytes) → (q i).2.2.length * P.bytesOf b8 ≤ reachBytes) := fun i hi => by
      simp only [q, hi, dif_pos]; exact Classical.choose_spec (cell i hi)
    have hk : ((List.range len).map fun i => (q i).2.1).length = len := by simp
    refine ⟨_, .isl ((List.range len).map fun i => (q i).2.1) len none, (List.range len).map (fun i => (q i).2.1), (List.range len).map (fun i => (q i).2.2), rfl, ?_, fun φ => ?_, fun hw => ⟨?_, fun i => ?_⟩⟩
    case refine_3 =>
      have := hw ((elems.length + rest.length) * P.bytesOf e) (by rw [hxe]; simp [DataW.weights, ht])
      have h2 : len * P.bytesOf e ≤ (elems.length + rest.length) * P.bytesOf e := Nat.mul_le_mul_right _ (by omega)
      simp only [List.length_map, List.length_range]
      omega
    case refine_4 =>
      by_cases hi : i < len
      · have := (hq i hi).2.2.2.2 hw
        simpa [List.getD, hi] using this
      · simp [List.getD, hi]
    · have := IsL.row ((List.range len).map fun i => (q i).2.1) ((List.range len).map fun i => (q i).2.2) none (by rw [hk]; omega) (by simp) (fun i hi => by
        have hi' : i < len := by simpa using hi
        have := (hq i hi').2.1
        simpa [List.getD, hi'] using this)
      rwa [hk] at this
    · refine .isl _ _ _ _ ad cap (fun i => (q i).1) hl (by omega) (fun k hk => by cases hk) (fun hne => ?_) (fun i hi => ?_) (fun i hi => (hq i (by simpa using hi)).2.2.2.1) (fun i hi => ?_)
      · have hpos : 0 < len := by
          rcases Nat.eq_zero_or_pos len with h0 | h0
          · subst h0; simp at hne
          · exact h0
        obtain ⟨h1, h2⟩ := cell_spot (hq 0 hpos).1
        exact ⟨by simpa [Addr.add] using h1, id, by simpa [Addr.add] using h2⟩
      · have hi' : i < len := by simpa using hi
        have h1 := (hq i hi').1
        have hsp : ad.spot = none := by simpa [Addr.add] using (cell_spot (hq 0 (by omega)).1).1
        have e1 : ad.add i = ⟨ad.block, ad.off + i, none⟩ := by
          obtain ⟨b, o, s⟩ := ad
          simp only at hsp; subst hsp
          exact Addr.add_lit _ _ _
        rw [e1] at h1; exact h1
      · simp; exact (hq i (by simpa using hi)).2.2.1 _
end
end Am
