/-
  A part of a proved abstract machine over the model, and of what it tells of this seat's functions. Conditions: as each theorem states them.
-/
import Derived.Test.YtcmmdemeaimegaaGreatDoorAm22
namespace Am
open Go
set_option linter.unusedSimpArgs false
set_option linter.unusedVariables false

/-! what has no references -/
mutual
theorem ren_nr (f : Nat → Nat) : ∀ v : AV, refs v = [] → ren f v = v
  | .undef, _ => rfl | .bool _, _ => rfl | .int _ _, _ => rfl | .str _, _ => rfl | .pnil, _ => rfl | .iptr _ _, _ => rfl | .gptr _ _, _ => rfl
  | .snil, _ => rfl | .isl _ _ _, _ => rfl | .mnil, _ => rfl | .fnil, _ => rfl | .inil, _ => rfl
  | .ptr _ _, h => by simp [refs] at h
  | .sl _ _ _ _ _, h => by simp [refs] at h
  | .map _, h => by simp [refs] at h
  | .func fn a b, h => by
    simp only [refs, List.append_eq_nil_iff] at h
    rw [ren, renL_nr f a h.1, renL_nr f b h.2]
  | .iface t v, h => by rw [ren, ren_nr f v (by simpa [refs] using h)]
  | .agg cs, h => by rw [ren, renL_nr f cs (by simpa [refs] using h)]
  | .tuple cs, h => by rw [ren, renL_nr f cs (by simpa [refs] using h)]
theorem renL_nr (f : Nat → Nat) : ∀ l : List AV, refsL l = [] → renL f l = l
  | [], _ => rfl
  | v :: vs, h => by
    simp only [refsL, List.append_eq_nil_iff] at h
    rw [renL, ren_nr f v h.1, renL_nr f vs h.2]
end

theorem packA_nil {t : List AV} (h : refsL t = []) : packA 0 t [] = some ⟨t, []⟩ := by
  simp [packA, restrictA, h, reach, renL_nr, nodupB, closedIn, downO]

theorem trimA_nil {live : List Nat} {s : St} (hh : s.h = []) (h : refsL (maskA live s.t) = []) : trimA 0 live s = some ⟨maskA live s.t, []⟩ := by
  unfold trimA
  rw [hh]; exact packA_nil h

/-- A value without memory leaves a function as it is. -/
theorem leave_plain {keep : Bool} {r : AV} {s : St} (hs : s.h = []) (hi : inl [] 0 60 r = some r) (hr : refs r = []) : leaveA keep [] s r = some (r, []) := by
  unfold leaveA
  rw [hs]
  have : packA 0 [r] [] = some ⟨[r], []⟩ := packA_nil (by simp [refsL, hr])
  cases keep
  · simp [this, hi]
  · simp [this]

/-- A call among values without memory. -/
theorem callA_nil {E : Env} {f : FuncId} {args : List AV} {r : AV} (ha : refsL args = []) (hr : refs r = []) (he : E f args [] = some (r, [])) : callA E f args [] = some (r, []) := by
  simp [callA, ha, reach, nodupB, closedIn, renL_nr, downO, he, putBack, ren_nr, hr]

/-! bytes, and lists of them -/
inductive IsB : AV → List UInt8 → Prop
  | nil : IsB .snil []
  | row (xs : List UInt8) (cap : Option Nat) : xs.length ≤ 9223372036854775807 → IsB (.isl (xs.map fun b => .int .u8 b.toNat) xs.length cap) xs

theorem IsB.refs {a : AV} {xs : List UInt8} (h : IsB a xs) : refs a = [] := by cases h <;> rfl

inductive IsL : AV → List AV → List (List UInt8) → Prop
  | nil : IsL .snil [] []
  | row (cs : List AV) (xss : List (List UInt8)) (cap : Option Nat) : cs.length ≤ 9223372036854775807 → cs.length = xss.length → (∀ i (h : i < cs.length), IsB cs[i] (xss.getD i [])) → IsL (.isl cs cs.length cap) cs xss

theorem IsL.refs {a : AV} {cs : List AV} {xss : List (List UInt8)} (h : IsL a cs xss) : Am.refs a = [] := by cases h <;> rfl
theorem IsL.len {a : AV} {cs : List AV} {xss : List (List UInt8)} (h : IsL a cs xss) : cs.length = xss.length ∧ cs.length ≤ 9223372036854775807 := by
  cases h with
  | nil => simp
  | row _ _ _ h1 h2 _ => exact ⟨h2, h1⟩
theorem IsL.get {a : AV} {cs : List AV} {xss : List (List UInt8)} (h : IsL a cs xss) (i : Nat) (hi : i < cs.length) : IsB cs[i] (xss.getD i []) := by
  cases h with
  | nil => simp at hi
  | row _ _ _ h1 h2 h3 => exact h3 i hi

theorem bytes_comp (xs : List UInt8) : List.mapM (byteOf? ∘ fun b => AV.int IntKind.u8 ↑b.toNat) xs = some xs := by
  induction xs with
  | nil => rfl
  | cons x xs ih => rw [List.mapM_cons, ih]; simp [byteOf?]

section
variable {P : Program} {h : List AObj}

theorem conv_str {src dst e : TypeId} (hs : P.underlying src = some (.slice e)) (he : P.underlying e = some (.int .u8)) (hd : P.underlying dst = some .string) {a : AV} {xs : List UInt8} (ha : IsB a xs) :
    convA P h src dst a = some (.str xs) := by
  have hu : isU8 P e = true := by simp [isU8, he]
  cases ha with
  | nil => simp [convA, hs, hd, convA.bytes, hu, slCells]
  | row xs cap => simp [convA, hs, hd, convA.bytes, hu, slCells, bytes_comp]

theorem len_L {t e : TypeId} (ht : P.underlying t = some (.slice e)) {a : AV} {cs : List AV} {xss : List (List UInt8)} (ha : IsL a cs xss) : lenA P h t a = some (cs.length : Int) := by
  cases ha <;> simp [lenA, ht]
theorem len_B {t e : TypeId} (ht : P.underlying t = some (.slice e)) {a : AV} {xs : List UInt8} (ha : IsB a xs) : lenA P h t a = some (xs.length : Int) := by
  cases ha <;> simp [lenA, ht]

theorem index_L {t e : TypeId} (ht : P.underlying t = some (.slice e)) (hk : szA P e = some 1) {a : AV} {cs : List AV} {xss : List (List UInt8)} (ha : IsL a cs xss) {i : Nat} (hi : i < cs.length) {k : IntKind} :
    indexAddrA P t a (.int k i) = some (.iptr cs i) := by
  cases ha with
  | nil => simp at hi
  | row _ _ _ h1 h2 h3 =>
    have : cs ≠ [] := by intro hc; simp [hc] at hi
    simp [indexAddrA, ht, hk, hi, this]
theorem load_L {t e : TypeId} (ht : P.underlying t = some (.slice e)) {cs : List AV} {i : Nat} (hi : i < cs.length) : loadA P h t (.iptr cs i) = some cs[i] := by
  simp [loadA, partA, ht, hi]
theorem index_B {t e : TypeId} (ht : P.underlying t = some (.slice e)) (hk : szA P e = some 1) {a : AV} {xs : List UInt8} (ha : IsB a xs) {i : Nat} (hi : i < xs.length) {k : IntKind} :
    indexAddrA P t a (.int k i) = some (.iptr (xs.map fun b => .int .u8 b.toNat) i) := by
  cases ha with
  | nil => simp at hi
  | row _ _ h1 =>
    have : xs ≠ [] := by intro hc; simp [hc] at hi
    simp [indexAddrA, ht, hk, hi, this]
theorem load_B {t : TypeId} {k : IntKind} (ht : P.underlying t = some (.int k)) {xs : List UInt8} {i : Nat} (hi : i < xs.length) : loadA P h t (.iptr (xs.map fun b => .int .u8 b.toNat) i) = some (.int .u8 xs[i].toNat) := by
  simp [loadA, partA, ht, hi]

/-- The first n of a list. -/
theorem slice_L {t e : TypeId} (ht : P.underlying t = some (.slice e)) (hk : szA P e = some 1) {a : AV} {cs : List AV} {xss : List (List UInt8)} (ha : IsL a cs xss) {n : Nat} (hn : n ≤ cs.length) {k : IntKind} :
    ∃ b, sliceA P h t a none (some (.int k n)) none = some b ∧ IsL b (cs.take n) (xss.take n) := by
  cases ha with
  | nil =>
    have : n = 0 := by simpa using hn
    subst this
    exact ⟨.snil, by simp [sliceA, ht, hk, boundA], by simpa using IsL.nil⟩
  | row _ _ cap h1 h2 h3 =>
    refine ⟨.isl (cs.take n) n (cap.map (· - 0)), ?_, ?_⟩
    · have hn' : (n : Int) ≤ cs.length := by omega
      simp [sliceA, ht, hk, boundA, hn]
    · have hl : (cs.take n).length = n := by simp [hn]
      have := IsL.row (cs.take n) (xss.take n) (cap.map (· - 0)) (by omega) (by simp; omega) (fun i hi => by
        have hi' : i < n := by omega
        have := h3 i (by omega)
        rw [List.getElem_take]
        rwa [show (xss.take n).getD i [] = xss.getD i [] by simp [List.getD, List.getElem?_take, hi']])
      rwa [hl] at this
end
end Am
