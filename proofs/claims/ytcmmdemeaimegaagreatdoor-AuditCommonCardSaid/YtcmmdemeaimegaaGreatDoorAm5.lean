/-
  A part of a proved abstract machine over the model, and of what it tells of this seat's functions. Conditions: as each theorem states them.
-/
import Derived.Test.YtcmmdemeaimegaaGreatDoorAm4
import Derived.Laws.Strings
namespace Am
open Go
set_option linter.unusedSimpArgs false
set_option linter.unusedVariables false

section
variable {P : Program} {M : Nat → Prop} {w : World} {φ : Phi} {h : List AObj}

theorem arr_getD (xs : List Value) (i : Nat) (d : Value) : (⟨xs⟩ : Array Value).getD i d = xs.getD i d := by
  by_cases h : i < xs.length <;> simp [Array.getD, List.getD, h]

theorem strLt_eq : ∀ a b : List UInt8, strLt a b = Op.bytesLess a b
  | _, [] => by cases ‹List UInt8› <;> rfl
  | [], _ :: _ => rfl
  | a :: x, b :: y => by rw [strLt, Op.bytesLess, strLt_eq x y]

theorem toList_data (s : ByteArray) : s.toList = s.data.toList := ByteArray.toList_eq s

theorem bin_ok {lit : Bool} {t : TypeId} {op : BinOp} {a b y : AV} {xa xb : Value} {ox oy : Operand} (hb : binA P lit t op a b = some y) (hx : VRel M w φ a xa) (hy : VRel M w φ b xb)
    (hl : lit = (Region.isConst ox || Region.isConst oy)) :
    ∃ v, (do eqGuard op t ox oy xa xb; binOp op t xa xb : Sem Value).run P w = .ok v w ∧ VRel M w φ y v := by
  unfold binA at hb
  split at hb
  case h_1 | h_2 =>
    split at hb
    · cases hb
    · rename_i hlt
      cases hb; cases hx; cases hy
      refine ⟨_, ?_, .int _ _ _⟩
      simp only [eqGuard_at_int, Sem.run_bind, Sem.run_pure, Result.andThen_ok, binOp_shl, binOp_shr, Op.shift, hlt, if_false]
  case h_3 | h_4 | h_5 =>
    split at hb
    · rename_i hk; subst hk
      cases hb; cases hx; cases hy
      refine ⟨_, ?_, .int _ _ _⟩
      simp only [eqGuard_at_int, Sem.run_bind, Sem.run_pure, Result.andThen_ok, binOp_add, binOp_sub, binOp_mul, Op.intArith]
    · cases hb
  case h_6 | h_7 =>
    split at hb
    · rename_i hk; obtain ⟨hk, h0⟩ := hk; subst hk
      cases hb; cases hx; cases hy
      refine ⟨_, ?_, .int _ _ _⟩
      simp only [eqGuard_at_int, Sem.run_bind, Sem.run_pure, Result.andThen_ok, binOp_quo, binOp_rem, Op.intDiv, h0, if_false]
    · cases hb
  case h_8 | h_9 | h_10 | h_11 =>
    split at hb
    · rename_i hk; subst hk
      cases hx; cases hy
      simp only [bitsA, Option.map_some, Option.some.injEq] at hb
      cases hb
      refine ⟨_, ?_, .int _ _ _⟩
      simp only [eqGuard_at_int, Sem.run_bind, Sem.run_pure, Result.andThen_ok, binOp_and, binOp_or, binOp_xor, binOp_andNot, Op.intBits]
    · cases hb
  case h_12 | h_13 | h_14 | h_15 =>
    split at hb
    · rename_i hk; subst hk
      cases hb; cases hx; cases hy
      refine ⟨_, ?_, .bool _ _⟩
      simp only [eqGuard_at_int, Sem.run_bind, Sem.run_pure, Result.andThen_ok, binOp_lss, binOp_leq, binOp_gtr, binOp_geq]
    · cases hb
  case h_16 =>
    split at hb
    case isFalse => cases hb
    rename_i hsz
    cases hb; cases hx; rename_i s; cases hy; rename_i s'
    have : s.size + s'.size ≤ 9223372036854775807 := by simpa using hsz
    refine ⟨.string (s ++ s'), ?_, by have := VRel.str (M := M) (w := w) φ (s ++ s'); simpa using this⟩
    simp [eqGuard_at_string, binOp, Op.stringOp]
    omega
  case h_17 | h_18 | h_19 | h_20 =>
    cases hb; cases hx; rename_i s; cases hy; rename_i s'
    refine ⟨_, ?_, .bool _ _⟩
    simp only [eqGuard_at_string, Sem.run_bind, Sem.run_pure, Result.andThen_ok, binOp, Op.stringOp, strLt_eq, toList_data]
  case h_21 | h_22 =>
    split at hb
    · rename_i hk; subst hk
      cases hb; cases hx; cases hy
      refine ⟨_, ?_, .bool _ _⟩
      simp only [eqGuard_at_int, Sem.run_bind, Sem.run_pure, Result.andThen_ok, binOp_eql, binOp_neq]
    · cases hb
  case h_23 | h_24 =>
    cases hb; cases hx; rename_i s; cases hy; rename_i s'
    refine ⟨_, ?_, .bool _ _⟩
    simp only [eqGuard_at_string, Sem.run_bind, Sem.run_pure, Result.andThen_ok, binOp, Op.stringOp, strLt_eq, toList_data]
  case h_25 =>
    obtain ⟨r, hr, hb⟩ := Option.map_eq_some_iff.1 hb
    subst hb
    obtain ⟨h1, h2, h3, h4⟩ := eq_ok (P := P) (ox := ox) (oy := oy) hr hx hy hl .eql (.inl rfl)
    refine ⟨.bool r, ?_, .bool _ _⟩
    simp only [Sem.run_bind, h1, Result.andThen_ok, h3, h2, Sem.run_pure]
  case h_26 =>
    obtain ⟨r, hr, hb⟩ := Option.map_eq_some_iff.1 hb
    subst hb
    obtain ⟨h1, h2, h3, h4⟩ := eq_ok (P := P) (ox := ox) (oy := oy) hr hx hy hl .neq (.inr rfl)
    refine ⟨.bool !r, ?_, .bool _ _⟩
    simp only [Sem.run_bind, h1, Result.andThen_ok, h4, h2, Sem.run_pure]
  case h_27 => cases hb

theorem un_ok {op : UnOp} {a y : AV} {x : Value} (hb : unA op a = some y) (hx : VRel M w φ a x) : ∃ v, (Op.unary op x).run P w = .ok v w ∧ VRel M w φ y v := by
  unfold unA at hb
  split at hb
  · cases hb; cases hx; exact ⟨_, by simp only [Op.unary, Op.intArith, Sem.run_pure], .int _ _ _⟩
  · simp only [bitsA, Option.map_some, Option.some.injEq] at hb
    cases hb; cases hx; exact ⟨_, by simp only [Op.unary, Op.intBits, Sem.run_pure], .int _ _ _⟩
  · cases hb; cases hx; exact ⟨_, by simp only [Op.unary, Sem.run_pure], .bool _ _⟩
  · cases hb

theorem extract_ok {a y : AV} {i : Nat} {x : Value} (hb : extractA a i = some y) (hx : VRel M w φ a x) : ∃ v, (Instr.extract x i).run P w = .ok v w ∧ VRel M w φ y v := by
  unfold extractA at hb
  split at hb
  · rename_i vs
    obtain ⟨hi, rfl⟩ := List.getElem?_eq_some_iff.1 hb
    cases hx with
    | tuple _ _ xs h1 hv =>
      have := hv i hi
      refine ⟨xs.getD i Go.undef, ?_, this⟩
      have hi' : i < xs.size := by omega
      simp [Instr.extract, hi', Array.getD]
  · cases hb

theorem iface_ok {t : TypeId} {a y : AV} {x : Value} (hb : ifaceA P t a = some y) (hx : VRel M w φ a x) : ∃ v, (Instr.makeInterface t x).run P w = .ok v w ∧ VRel M w φ y v := by
  unfold ifaceA at hb
  split at hb
  · cases hb
  · rename_i d hn hu
    cases hb
    refine ⟨_, ?_, .iface _ _ _ _ hx⟩
    simp only [Instr.makeInterface, Sem.run_bind, run_underlying hu, Result.andThen_ok]
    cases d <;> first | rfl | exact (hn _ rfl).elim
  · cases hb

theorem assert_ok {a : AV} {ta xt : TypeId} {ok : Bool} {y : AV} {x : Value} (hb : assertA P a ta ok = some y) (hx : VRel M w φ a x) : ∃ v, (Instr.typeAssert x xt ta ok).run P w = .ok v w ∧ VRel M w φ y v := by
  have two : ∀ (u : AV) (v : Value) (b : Bool), VRel M w φ u v → VRel M w φ (.tuple [u, .bool b]) (.tuple #[v, .bool b]) := by
    intro u v b hu
    refine .tuple _ _ _ rfl (fun i hi => ?_)
    match i, hi with
    | 0, _ => exact hu
    | 1, _ => exact .bool _ _
  unfold assertA at hb
  split at hb
  · cases hb
  · cases hb
  · rename_i d hn hu
    split at hb
    · split at hb
      · rename_i hok; subst hok
        obtain ⟨z, hz, rfl⟩ := Option.map_eq_some_iff.1 hb
        obtain ⟨v, h1, h2, _⟩ := zero_ok hz
        cases hx
        refine ⟨_, ?_, two _ _ _ (h2 M w φ)⟩
        simp only [Instr.typeAssert, Sem.run_bind, run_underlying hu, Result.andThen_ok]
        cases d <;> first | (exact (hn _ rfl).elim) | simp [h1]
      · cases hb
    · split at hb
      · rename_i ht; subst ht
        cases hb
        cases hx with
        | iface _ _ _ x hv =>
        refine ⟨if ok then .tuple #[x, .bool true] else x, ?_, ?_⟩
        · simp only [Instr.typeAssert, Sem.run_bind, run_underlying hu, Result.andThen_ok]
          cases d <;> first | (exact (hn _ rfl).elim) | simp
        · cases ok
          · exact hv
          · exact two _ _ _ hv
      · rename_i ht
        split at hb
        · rename_i hok; subst hok
          obtain ⟨z, hz, rfl⟩ := Option.map_eq_some_iff.1 hb
          obtain ⟨v', h1, h2, _⟩ := zero_ok hz
          cases hx
          refine ⟨_, ?_, two _ _ _ (h2 M w φ)⟩
          simp only [Instr.typeAssert, Sem.run_bind, run_underlying hu, Result.andThen_ok]
          cases d <;> first | (exact (hn _ rfl).elim) | simp [h1, ht]
        · cases hb
    · cases hb

theorem min_ok : ∀ {l : List AV} {xs : Array Value} {y : AV} (ts : Array TypeId) (ty : TypeId), minA l = some y → l.length = xs.size → (∀ i (h : i < l.length), VRel M w φ l[i] (xs.getD i Go.undef)) →
    ∃ v, (Builtin.min_ ts ty xs).run P w = .ok v w ∧ VRel M w φ y v := by
  intro l xs y ts ty hm hl hr
  obtain ⟨xs⟩ := xs
  have key : ∀ (l : List AV) (xs : List Value) (k : IntKind) (n : Int) (y : AV), l.foldlM (fun a y => match a, y with | .int k x, .int _ y => some (.int k (if y < x then y else x)) | _, _ => none) (AV.int k n) = some y →
      l.length = xs.length → (∀ i (h : i < l.length), VRel M w φ l[i] (xs.getD i Go.undef)) → ∃ v, (xs.foldlM Builtin.min2 (Value.int k n)).run P w = .ok v w ∧ VRel M w φ y v := by
    intro l
    induction l with
    | nil => intro xs k n y h1 h2 _; cases xs with
      | nil => simp at h1; subst h1; exact ⟨_, rfl, .int _ _ _⟩
      | cons => simp at h2
    | cons a l ih => intro xs k n y h1 h2 h3; cases xs with
      | nil => simp at h2
      | cons x xs =>
        have h0 := h3 0 (by simp)
        simp only [List.getElem_cons_zero, List.getD_cons_zero] at h0
        rw [List.foldlM_cons] at h1
        obtain ⟨b, hb, h1⟩ := Option.bind_eq_some_iff.1 h1
        split at hb
        · rename_i k' n' k2 n2 _ 
          cases hb
          rename_i heq _; cases heq
          cases h0
          obtain ⟨v, h4, h5⟩ := ih xs _ _ _ h1 (by simpa using h2) (fun i hi => by have := h3 (i + 1) (by simpa using hi); simpa using this)
          exact ⟨v, by rw [List.foldlM_cons, Sem.run_bind]; simpa [Builtin.min2] using h4, h5⟩
        · cases hb
  cases l with
  | nil => simp [minA] at hm
  | cons a l => cases xs with
    | nil => simp at hl
    | cons x xs =>
      have h0 := hr 0 (by simp)
      simp [Array.getD] at h0
      unfold minA at hm
      split at hm
      · rename_i heq; cases heq
        cases h0
        obtain ⟨v, h4, h5⟩ := key l xs _ _ _ hm (by simpa using hl) (fun i hi => by have := hr (i + 1) (by simpa using hi); rw [arr_getD] at this; simpa using this)
        exact ⟨v, by simpa [Builtin.min_] using h4, h5⟩
      · cases hm

theorem max_ok : ∀ {l : List AV} {xs : Array Value} {y : AV} (ts : Array TypeId) (ty : TypeId), maxA l = some y → l.length = xs.size → (∀ i (h : i < l.length), VRel M w φ l[i] (xs.getD i Go.undef)) →
    ∃ v, (Builtin.max_ ts ty xs).run P w = .ok v w ∧ VRel M w φ y v := by
  intro l xs y ts ty hm hl hr
  obtain ⟨xs⟩ := xs
  have key : ∀ (l : List AV) (xs : List Value) (k : IntKind) (n : Int) (y : AV), l.foldlM (fun a y => match a, y with | .int k x, .int _ y => some (.int k (if y > x then y else x)) | _, _ => none) (AV.int k n) = some y →
      l.length = xs.length → (∀ i (h : i < l.length), VRel M w φ l[i] (xs.getD i Go.undef)) → ∃ v, (xs.foldlM Builtin.max2 (Value.int k n)).run P w = .ok v w ∧ VRel M w φ y v := by
    intro l
    induction l with
    | nil => intro xs k n y h1 h2 _; cases xs with
      | nil => simp at h1; subst h1; exact ⟨_, rfl, .int _ _ _⟩
      | cons => simp at h2
    | cons a l ih => intro xs k n y h1 h2 h3; cases xs with
      | nil => simp at h2
      | cons x xs =>
        have h0 := h3 0 (by simp)
        simp only [List.getElem_cons_zero, List.getD_cons_zero] at h0
        rw [List.foldlM_cons] at h1
        obtain ⟨b, hb, h1⟩ := Option.bind_eq_some_iff.1 h1
        split at hb
        · rename_i k' n' k2 n2 _ 
          cases hb
          rename_i heq _; cases heq
          cases h0
          obtain ⟨v, h4, h5⟩ := ih xs _ _ _ h1 (by simpa using h2) (fun i hi => by have := h3 (i + 1) (by simpa using hi); simpa using this)
          exact ⟨v, by rw [List.foldlM_cons, Sem.run_bind]; simpa [Builtin.max2] using h4, h5⟩
        · cases hb
  cases l with
  | nil => simp [maxA] at hm
  | cons a l => cases xs with
    | nil => simp at hl
    | cons x xs =>
      have h0 := hr 0 (by simp)
      simp [Array.getD] at h0
      unfold maxA at hm
      split at hm
      · rename_i heq; cases heq
        cases h0
        obtain ⟨v, h4, h5⟩ := key l xs _ _ _ hm (by simpa using hl) (fun i hi => by have := hr (i + 1) (by simpa using hi); rw [arr_getD] at this; simpa using this)
        exact ⟨v, by simpa [Builtin.max_] using h4, h5⟩
      · cases hm
end
end Am
