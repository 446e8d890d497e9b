/-
  A part of a proved abstract machine over the model, and of what it tells of this seat's functions. Conditions: as each theorem states them.
-/
import Derived.Test.YtcmmdemeaimegaaGreatDoorAm24
namespace Am
open Go
set_option linter.unusedSimpArgs false
set_option linter.unusedVariables false

/-! results that are frozen; rows that grow -/
theorem leave_inl {s : St} {r r' : AV} {K : AV × List AObj → Prop} (hi : inl s.h 0 60 r = some r') (hr : refs r' = []) (hk : K (r', [])) : Opt (leaveA false [] s r) K := by
  have hp : packA 0 [r'] s.h = some ⟨[r'], []⟩ := by
    have : refsL [r'] = [] := by simp [refsL, hr]
    simp [packA, restrictA, this, reach, renL_nr, nodupB, closedIn, downO]
  exact ⟨(r', []), by simp [leaveA, hi, hp], hk⟩

theorem noRefs_nil : noRefs [] = true := rfl
theorem noRefs_cons {v : AV} {cs : List AV} (hv : refs v = []) (hc : noRefs cs = true) : noRefs (v :: cs) = true := by
  simp only [noRefs, List.isEmpty_iff, refsL, List.append_eq_nil_iff] at hc ⊢
  exact ⟨hv, hc⟩
theorem refsL_append (a b : List AV) : refsL (a ++ b) = refsL a ++ refsL b := by
  induction a with
  | nil => rfl
  | cons v vs ih => simp [refsL, ih]
theorem noRefs_append {a b : List AV} (ha : noRefs a = true) (hb : noRefs b = true) : noRefs (a ++ b) = true := by
  simp only [noRefs, List.isEmpty_iff] at *
  rw [refsL_append, ha, hb]; rfl
theorem noRefs_iff {a : List AV} : noRefs a = true ↔ refsL a = [] := by simp [noRefs]
theorem bytes_noRefs (xs : List UInt8) : noRefs (xs.map fun b => AV.int .u8 b.toNat) = true := by
  induction xs with
  | nil => rfl
  | cons x xs ih => exact noRefs_cons rfl ih

section
variable {P : Program} {h : List AObj}

theorem build_none {row : Bool} {t e : TypeId} (ht : P.underlying t = some (.slice e)) {k : Nat} (hk : szA P e = some k) : buildSliceA P row h t 0 [] = some (.isl [] 0 (some 0), h) := by
  simp [buildSliceA, ht, hk]

theorem news_B {t t' e : TypeId} {k : Nat} (ht : P.underlying t' = some (.slice e)) {a : AV} {xs : List UInt8} (ha : IsB a xs) : newsA P 1 e h #[t, t'] a = some (xs.map (fun b => AV.int .u8 b.toNat), xs.length) := by
  cases ha <;> simp [newsA, ht, slCells, slLen]

theorem append_zero {t t' e : TypeId} (ht : P.underlying t = some (.slice e)) (hk : szA P e = some 1) {s x : AV} {new : List AV} (hn : newsA P 1 e h #[t, t'] x = some (new, 0))
    (hs : s = .snil ∨ (∃ a b c, s = .isl a b c) ∨ ∃ a b c d f, s = .sl a b c d f) : appendA P h #[t, t'] s x = some (s, h) := by
  rcases hs with rfl | ⟨a, b, c, rfl⟩ | ⟨a, b, c, d, f, rfl⟩ <;> simp [appendA, ht, hk, hn]

theorem append_snil {t t' e : TypeId} (ht : P.underlying t = some (.slice e)) (hk : szA P e = some 1) {x : AV} {new : List AV} {n : Nat} (hn : newsA P 1 e h #[t, t'] x = some (new, n)) (h0 : n ≠ 0) (hb : bigA P 1 e n = true) :
    appendA P h #[t, t'] .snil x = some (.sl h.length 0 n 1 none, h ++ [.cells new e true (noRefs new)]) := by
  simp [appendA, ht, hk, hn, h0, hb, newCells]

theorem append_isl0 {t t' e : TypeId} (ht : P.underlying t = some (.slice e)) (hk : szA P e = some 1) {x : AV} {new : List AV} {n : Nat} (hn : newsA P 1 e h #[t, t'] x = some (new, n)) (h0 : n ≠ 0) (hb : bigA P 1 e n = true) :
    appendA P h #[t, t'] (.isl [] 0 (some 0)) x = some (.sl h.length 0 n 1 none, h ++ [.cells new e true (noRefs new)]) := by
  have : 0 < n := by omega
  simp [appendA, ht, hk, hn, h0, hb, newCells, slCells, this]

theorem append_own {t t' e : TypeId} (ht : P.underlying t = some (.slice e)) (hk : szA P e = some 1) {id len : Nat} {cs : List AV} {pr : Bool} (hh : h.getD id .dead = .cells cs e true pr) (hl : cs.length = len)
    {x : AV} {new : List AV} {n : Nat} (hn : newsA P 1 e h #[t, t'] x = some (new, n)) (h0 : n ≠ 0) (hb : bigA P 1 e (len + n) = true) :
    appendA P h #[t, t'] (.sl id 0 len 1 none) x = some (.sl h.length 0 (len + n) 1 none, h.set id .dead ++ [.cells (cs ++ new) e true (pr && noRefs new)]) := by
  have hh' : h[id]?.getD .dead = .cells cs e true pr := hh
  have : ¬ (len + n ≤ cs.length) := by omega
  simp [appendA, ht, hk, hn, h0, hb, newCells, hh', this, hl]
  omega
end
end Am
