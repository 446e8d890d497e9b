/-
  A part of a proved abstract machine over the model, and of what it tells of this seat's functions. Conditions: as each theorem states them.
-/
import Derived.Test.YtcmmdemeaimegaaGreatDoorAm24
import Derived.KernelRfl
import Derived.Test.YtcmmdemeaimegaaGreatDoorProg
namespace Am
open Go Go.Proofs
set_option linter.unusedSimpArgs false
set_option linter.unusedVariables false
theorem gff : (some false == some false) = true := rfl
theorem gtt : (some true == some true) = true := rfl
theorem gft : (some false == some true) = false := rfl
theorem gtf : (some true == some false) = false := rfl
theorem gnt : ((none : Option Bool) == some true) = false := rfl
theorem gnf : ((none : Option Bool) == some false) = false := rfl
theorem eqObjs_nil : eqObjs [] [] = true := rfl
theorem wrap_nat {n : Nat} (h : n ≤ 9223372036854775807) : IntKind.i64.wrap (n : Int) = n := by rw [IntKind.wrap_i64]; omega
theorem wrap_succ {n : Nat} (h : n + 1 ≤ 9223372036854775807) : IntKind.i64.wrap ((n : Int) + 1) = ((n + 1 : Nat) : Int) := by have := wrap_nat h; simpa using this
theorem IsB.len {a : AV} {xs : List UInt8} (ha : IsB a xs) : xs.length ≤ 9223372036854775807 := by
  cases ha with
  | nil => simp
  | row _ _ h => exact h
theorem getD_ext {xss yss : List (List UInt8)} (hl : xss.length = yss.length) (h : ∀ j, j < xss.length → xss.getD j [] = yss.getD j []) : xss = yss := by
  apply List.ext_getElem hl
  intro i h1 h2
  have := h i h1
  simpa [List.getD, h1, h2] using this
theorem bytes_ext {xs ys : List UInt8} (hl : xs.length = ys.length) (h : ∀ j, j < xs.length → xs.getD j 0 = ys.getD j 0) : xs = ys := by
  apply List.ext_getElem hl
  intro i h1 h2
  have := h i h1
  simpa [List.getD, h1, h2] using this
theorem byte_ne {xs ys : List UInt8} {i : Nat} (h1 : i < xs.length) (h2 : i < ys.length) : (((xs[i].toNat : Nat) : Int) != ((ys[i].toNat : Nat) : Int)) = !(xs.getD i 0 == ys.getD i 0) := by
  have e1 : xs.getD i 0 = xs[i] := by simp [List.getD, h1]
  have e2 : ys.getD i 0 = ys[i] := by simp [List.getD, h2]
  rw [e1, e2]
  by_cases h : xs[i] = ys[i]
  · simp [h]
  · have : ¬ ((xs[i].toNat : Int) = (ys[i].toNat : Int)) := fun h2 => h (by
      have : xs[i].toNat = ys[i].toNat := by omega
      exact UInt8.toNat_inj.1 this)
    have h1 : (xs[i] == ys[i]) = false := by rw [beq_eq_false_iff_ne]; exact h
    rw [h1, Bool.not_false, bne_iff_ne]; exact this

theorem u76 : Tryz.prog.underlying 76 = some (.slice 25) := Tryz.underlying76
theorem u25 : Tryz.prog.underlying 25 = some (.slice 5) := Tryz.underlying25
theorem u5 : Tryz.prog.underlying 5 = some (.int .u8) := Tryz.underlying5
theorem u9 : Tryz.prog.underlying 9 = some .string := Tryz.underlying9
theorem z25 : szA Tryz.prog 25 = some 1 := by kernel_rfl
theorem z5 : szA Tryz.prog 5 = some 1 := by kernel_rfl

/-! bytes.Equal, slices.EqualFunc, audit.Begins, SameBytes, SameLists -/
theorem res76 : Tryz.f76.results.toList = [.tmp 4] := rfl
theorem res78 : Tryz.f78.results.toList = [.tmp 6] := rfl
theorem res40 : Tryz.f40.results.toList = [.tmp 4] := rfl
theorem res29 : Tryz.f29.results.toList = [.tmp 4] := rfl
theorem res41 : Tryz.f41.results.toList = [.tmp 4] := rfl
theorem res9 : Tryz.f9.results.toList = [.tmp 6] := rfl

def begins (xss yss : List (List UInt8)) : Bool := decide (xss.length ≤ yss.length) && (xss == yss.take xss.length)

def T78 (a b : AV) (n k : Nat) : List AV := [.undef, b, .func (.func 76) [] [], .undef, .undef, .undef, .undef, .undef, .undef, .undef, .undef, .undef, .undef, .undef, .undef, a, .int .i64 n, .int .i64 k, .undef, .undef, .undef, .undef, .undef, .undef, .undef, .undef, .undef, .undef, .undef, .undef, .undef, .undef]
def T29 (a b : AV) (n k : Nat) : List AV := [a, b, .undef, .undef, .undef, .int .i64 k] ++ List.replicate n .undef
theorem T78_refs {a b : AV} {n k : Nat} (ha : refs a = []) (hb : refs b = []) : refsL (T78 a b n k) = [] := by simp [T78, refsL, refs, ha, hb]
theorem T29_refs {a b : AV} {n k : Nat} (ha : refs a = []) (hb : refs b = []) : refsL (T29 a b n k) = [] := by
  have : ∀ n, refsL (List.replicate n AV.undef) = [] := fun n => by induction n <;> simp_all [List.replicate, refsL, refs]
  simp [T29, refsL, refs, ha, hb, this]

section
variable {N : Notes} {E : Env} {L : Nat}
theorem w76 {a b : AV} {xs ys : List UInt8} (ha : IsB a xs) (hb : IsB b ys) {K : AV × List AObj → Prop} (hk : K (.bool (xs == ys), [])) : Opt (bodyA Tryz.prog N E L 76 [a, b] []) K := by
  have ca := conv_str (h := []) u25 u5 u9 ha
  have cb := conv_str (h := []) u25 u5 u9 hb
  refine body_wp Tryz.func76 rfl ?_
  simp only [Tryz.ntmps76, res76, ca, cb, wp_skip, wp_label, wp_exit, wp_ret, wp_seq, wp_cond, wp_block, wp_region, wo_nil, wo_cons, seqK_normal, seqK_exit, seqK_ret, blkK_normal, blkK_exit, blkK_ret, condK_true, condK_false, endK_normal, endK_ret, opt_some, stepA, opV, wantedA, yieldedA, aeval, putA, gff, gtt, gft, gtf, gnt, gnf, List.getD, List.length_cons, List.length_nil, List.cons_append, List.nil_append, List.append_nil, List.set, List.getElem?_cons_zero, List.getElem?_cons_succ, List.getElem?_toArray, List.map_cons, List.map_nil, List.toList_toArray, Option.map_some, Option.map_none, Option.getD_some, Option.bind_some, Option.bind_eq_bind, Option.pure_def, binA, unA, constV, ofV, ofV1, Bool.not_true, Bool.not_false, BEq.rfl, Nat.reduceAdd, Nat.reduceSub, Nat.reduceEqDiff, List.replicate, if_true, if_false, Bool.false_eq_true, resultsA, resA, List.mapM_cons, List.mapM_nil, reduceIte]
  exact leave_wp rfl rfl rfl hk

theorem w78 (hN : N.loop 78 0 = some [1, 2, 15, 16, 17]) (hE : ∀ x y xs ys, IsB x xs → IsB y ys → E 76 [x, y] [] = some (.bool (xs == ys), [])) {a b : AV} {cs ds : List AV} {xss yss : List (List UInt8)} (ha : IsL a cs xss) (hb : IsL b ds yss)
    (hL : cs.length < L) {K : AV × List AObj → Prop} (hk : K (.bool (xss == yss), [])) : Opt (bodyA Tryz.prog N E L 78 [a, b, .func (.func 76) [] []] []) K := by
  have la := len_L (h := []) u76 ha
  have lb := len_L (h := []) u76 hb
  refine body_wp Tryz.func78 rfl ?_
  by_cases hl : cs.length = ds.length
  · have hne : ((cs.length : Int) != (ds.length : Int)) = false := by simp [hl]
    simp only [Tryz.ntmps78, res78, la, lb, hne, wp_skip, wp_label, wp_exit, wp_ret, wp_seq, wp_cond, wp_block, wp_region, wo_nil, wo_cons, seqK_normal, seqK_exit, seqK_ret, blkK_normal, blkK_exit, blkK_ret, condK_true, condK_false, endK_normal, endK_ret, opt_some, stepA, opV, wantedA, yieldedA, aeval, putA, gff, gtt, gft, gtf, gnt, gnf, List.getD, List.length_cons, List.length_nil, List.cons_append, List.nil_append, List.append_nil, List.set, List.getElem?_cons_zero, List.getElem?_cons_succ, List.getElem?_toArray, List.map_cons, List.map_nil, List.toList_toArray, Option.map_some, Option.map_none, Option.getD_some, Option.bind_some, Option.bind_eq_bind, Option.pure_def, binA, unA, constV, ofV, ofV1, Bool.not_true, Bool.not_false, BEq.rfl, Nat.reduceAdd, Nat.reduceSub, Nat.reduceEqDiff, List.replicate, if_true, if_false, Bool.false_eq_true, resultsA, resA, List.mapM_cons, List.mapM_nil, reduceIte]
    refine wp_loop hN (fun k s => s = ⟨T78 a b cs.length k, []⟩ ∧ ∀ j, j < k → xss.getD j [] = yss.getD j []) cs.length hL ?_
      (trim_wp (t' := T78 a b cs.length 0) rfl rfl (T78_refs ha.refs hb.refs) ⟨rfl, fun j hj => by omega⟩)
    rintro k s hk' ⟨rfl, heq⟩
    by_cases hi : k < cs.length
    · have hx := index_L (k := .i64) u76 z25 ha hi
      have hy := index_L (k := .i64) u76 z25 hb (show k < ds.length by omega)
      have lx := load_L (P := Tryz.prog) (h := []) u25 hi
      have ly := load_L (P := Tryz.prog) (h := []) u25 (show k < ds.length by omega)
      have bx := ha.get k hi
      have by_ := hb.get k (show k < ds.length by omega)
      have hc : callA E 76 [cs[k], ds[k]] [] = some (.bool (xss.getD k [] == yss.getD k []), []) := callA_nil (by simp [refsL, bx.refs, by_.refs]) rfl (hE _ _ _ _ bx by_)
      have hw : IntKind.i64.wrap ((k : Int) + 1) = ((k + 1 : Nat) : Int) := wrap_succ (by have := ha.len.2; omega)
      have hlt : (k : Int) < (cs.length : Int) := by omega
      cases hr : (xss.getD k [] == yss.getD k []) with
      | true =>
        simp only [T78, res78, hr] at hc
        simp only [T78, res78, hx, hy, lx, ly, hc, hw, hlt, decide_true, wp_skip, wp_label, wp_exit, wp_ret, wp_seq, wp_cond, wp_block, wp_region, wo_nil, wo_cons, seqK_normal, seqK_exit, seqK_ret, blkK_normal, blkK_exit, blkK_ret, condK_true, condK_false, endK_normal, endK_ret, opt_some, stepA, opV, wantedA, yieldedA, aeval, putA, gff, gtt, gft, gtf, gnt, gnf, List.getD, List.length_cons, List.length_nil, List.cons_append, List.nil_append, List.append_nil, List.set, List.getElem?_cons_zero, List.getElem?_cons_succ, List.getElem?_toArray, List.map_cons, List.map_nil, List.toList_toArray, Option.map_some, Option.map_none, Option.getD_some, Option.bind_some, Option.bind_eq_bind, Option.pure_def, binA, unA, constV, ofV, ofV1, Bool.not_true, Bool.not_false, BEq.rfl, Nat.reduceAdd, Nat.reduceSub, Nat.reduceEqDiff, List.replicate, if_true, if_false, Bool.false_eq_true, resultsA, resA, List.mapM_cons, List.mapM_nil, reduceIte]
        refine ⟨hi, trim_wp (t' := T78 a b cs.length (k + 1)) rfl rfl (T78_refs ha.refs hb.refs) ⟨rfl, fun j hj => ?_⟩⟩
        by_cases hj' : j = k
        · subst hj'; simpa using hr
        · exact heq j (by omega)
      | false =>
        simp only [T78, res78, hr] at hc
        simp only [T78, res78, hx, hy, lx, ly, hc, hw, hlt, decide_true, wp_skip, wp_label, wp_exit, wp_ret, wp_seq, wp_cond, wp_block, wp_region, wo_nil, wo_cons, seqK_normal, seqK_exit, seqK_ret, blkK_normal, blkK_exit, blkK_ret, condK_true, condK_false, endK_normal, endK_ret, opt_some, stepA, opV, wantedA, yieldedA, aeval, putA, gff, gtt, gft, gtf, gnt, gnf, List.getD, List.length_cons, List.length_nil, List.cons_append, List.nil_append, List.append_nil, List.set, List.getElem?_cons_zero, List.getElem?_cons_succ, List.getElem?_toArray, List.map_cons, List.map_nil, List.toList_toArray, Option.map_some, Option.map_none, Option.getD_some, Option.bind_some, Option.bind_eq_bind, Option.pure_def, binA, unA, constV, ofV, ofV1, Bool.not_true, Bool.not_false, BEq.rfl, Nat.reduceAdd, Nat.reduceSub, Nat.reduceEqDiff, List.replicate, if_true, if_false, Bool.false_eq_true, resultsA, resA, List.mapM_cons, List.mapM_nil, reduceIte]
        refine leave_wp rfl rfl rfl ?_
        rwa [show (xss == yss) = false by rw [beq_eq_false_iff_ne]; intro he; subst he; simp at hr] at hk
    · have hke : k = cs.length := by omega
      subst hke
      have hlt : ¬ (cs.length : Int) < (cs.length : Int) := by omega
      simp only [T78, res78, hlt, decide_false, wp_skip, wp_label, wp_exit, wp_ret, wp_seq, wp_cond, wp_block, wp_region, wo_nil, wo_cons, seqK_normal, seqK_exit, seqK_ret, blkK_normal, blkK_exit, blkK_ret, condK_true, condK_false, endK_normal, endK_ret, opt_some, stepA, opV, wantedA, yieldedA, aeval, putA, gff, gtt, gft, gtf, gnt, gnf, List.getD, List.length_cons, List.length_nil, List.cons_append, List.nil_append, List.append_nil, List.set, List.getElem?_cons_zero, List.getElem?_cons_succ, List.getElem?_toArray, List.map_cons, List.map_nil, List.toList_toArray, Option.map_some, Option.map_none, Option.getD_some, Option.bind_some, Option.bind_eq_bind, Option.pure_def, binA, unA, constV, ofV, ofV1, Bool.not_true, Bool.not_false, BEq.rfl, Nat.reduceAdd, Nat.reduceSub, Nat.reduceEqDiff, List.replicate, if_true, if_false, Bool.false_eq_true, resultsA, resA, List.mapM_cons, List.mapM_nil, reduceIte]
      refine leave_wp rfl rfl rfl ?_
      have he : xss = yss := getD_ext (by rw [← ha.len.1, ← hb.len.1, hl]) fun j hj => heq j (by rw [ha.len.1]; exact hj)
      subst he
      simpa using hk
  · have hne : ((cs.length : Int) != (ds.length : Int)) = true := by simp; omega
    simp only [T78, res78, Tryz.ntmps78, res78, la, lb, hne, wp_skip, wp_label, wp_exit, wp_ret, wp_seq, wp_cond, wp_block, wp_region, wo_nil, wo_cons, seqK_normal, seqK_exit, seqK_ret, blkK_normal, blkK_exit, blkK_ret, condK_true, condK_false, endK_normal, endK_ret, opt_some, stepA, opV, wantedA, yieldedA, aeval, putA, gff, gtt, gft, gtf, gnt, gnf, List.getD, List.length_cons, List.length_nil, List.cons_append, List.nil_append, List.append_nil, List.set, List.getElem?_cons_zero, List.getElem?_cons_succ, List.getElem?_toArray, List.map_cons, List.map_nil, List.toList_toArray, Option.map_some, Option.map_none, Option.getD_some, Option.bind_some, Option.bind_eq_bind, Option.pure_def, binA, unA, constV, ofV, ofV1, Bool.not_true, Bool.not_false, BEq.rfl, Nat.reduceAdd, Nat.reduceSub, Nat.reduceEqDiff, List.replicate, if_true, if_false, Bool.false_eq_true, resultsA, resA, List.mapM_cons, List.mapM_nil, reduceIte]
    refine leave_wp rfl rfl rfl ?_
    rwa [show (xss == yss) = false by rw [beq_eq_false_iff_ne]; intro he; exact hl (by rw [ha.len.1, hb.len.1, he])] at hk

theorem w40 (hE : ∀ a b cs ds xss yss, IsL a cs xss → IsL b ds yss → E 78 [a, b, .func (.func 76) [] []] [] = some (.bool (xss == yss), [])) {a b : AV} {cs ds : List AV} {xss yss : List (List UInt8)} (ha : IsL a cs xss) (hb : IsL b ds yss)
    {K : AV × List AObj → Prop} (hk : K (.bool (begins xss yss), [])) : Opt (bodyA Tryz.prog N E L 40 [a, b] []) K := by
  have la := len_L (h := []) u76 ha
  have lb := len_L (h := []) u76 hb
  have ea := ha.len.1
  have eb := hb.len.1
  refine body_wp Tryz.func40 rfl ?_
  by_cases hl : cs.length ≤ ds.length
  · have hle : decide ((cs.length : Int) ≤ (ds.length : Int)) = true := by simp; omega
    have hlt : ¬ ((ds.length : Int) < (cs.length : Int)) := by omega
    obtain ⟨b2, hs, hb2⟩ := slice_L (k := .i64) (h := []) u76 z25 hb hl
    have hc : callA E 78 [a, b2, .func (.func 76) [] []] [] = some (.bool (xss == yss.take cs.length), []) := callA_nil (by simp [refsL, ha.refs, hb2.refs, refs]) rfl (hE _ _ _ _ _ _ ha hb2)
    have hr : begins xss yss = (xss == yss.take cs.length) := by
      unfold begins
      rw [show decide (xss.length ≤ yss.length) = true by simp; omega, Bool.true_and, ea]
    rw [hr] at hk
    simp only [Tryz.ntmps40, res40, la, lb, hle, hs, hc, minA, List.foldlM_cons, List.foldlM_nil, hlt, wp_skip, wp_label, wp_exit, wp_ret, wp_seq, wp_cond, wp_block, wp_region, wo_nil, wo_cons, seqK_normal, seqK_exit, seqK_ret, blkK_normal, blkK_exit, blkK_ret, condK_true, condK_false, endK_normal, endK_ret, opt_some, stepA, opV, wantedA, yieldedA, aeval, putA, gff, gtt, gft, gtf, gnt, gnf, List.getD, List.length_cons, List.length_nil, List.cons_append, List.nil_append, List.append_nil, List.set, List.getElem?_cons_zero, List.getElem?_cons_succ, List.getElem?_toArray, List.map_cons, List.map_nil, List.toList_toArray, Option.map_some, Option.map_none, Option.getD_some, Option.bind_some, Option.bind_eq_bind, Option.pure_def, binA, unA, constV, ofV, ofV1, Bool.not_true, Bool.not_false, BEq.rfl, Nat.reduceAdd, Nat.reduceSub, Nat.reduceEqDiff, List.replicate, if_true, if_false, Bool.false_eq_true, resultsA, resA, List.mapM_cons, List.mapM_nil, reduceIte]
    exact leave_wp rfl rfl rfl hk
  · have hle : decide ((cs.length : Int) ≤ (ds.length : Int)) = false := by simp; omega
    have hr : begins xss yss = false := by
      unfold begins
      rw [show decide (xss.length ≤ yss.length) = false by simp; omega, Bool.false_and]
    rw [hr] at hk
    simp only [Tryz.ntmps40, res40, la, lb, hle, wp_skip, wp_label, wp_exit, wp_ret, wp_seq, wp_cond, wp_block, wp_region, wo_nil, wo_cons, seqK_normal, seqK_exit, seqK_ret, blkK_normal, blkK_exit, blkK_ret, condK_true, condK_false, endK_normal, endK_ret, opt_some, stepA, opV, wantedA, yieldedA, aeval, putA, gff, gtt, gft, gtf, gnt, gnf, List.getD, List.length_cons, List.length_nil, List.cons_append, List.nil_append, List.append_nil, List.set, List.getElem?_cons_zero, List.getElem?_cons_succ, List.getElem?_toArray, List.map_cons, List.map_nil, List.toList_toArray, Option.map_some, Option.map_none, Option.getD_some, Option.bind_some, Option.bind_eq_bind, Option.pure_def, binA, unA, constV, ofV, ofV1, Bool.not_true, Bool.not_false, BEq.rfl, Nat.reduceAdd, Nat.reduceSub, Nat.reduceEqDiff, List.replicate, if_true, if_false, Bool.false_eq_true, resultsA, resA, List.mapM_cons, List.mapM_nil, reduceIte]
    exact leave_wp rfl rfl rfl hk

theorem w29 (hN : N.loop 29 0 = some [0, 1, 5]) {a b : AV} {xs ys : List UInt8} (ha : IsB a xs) (hb : IsB b ys) (hL : xs.length < L) {K : AV × List AObj → Prop} (hk : K (.bool (xs == ys), [])) :
    Opt (bodyA Tryz.prog N E L 29 [a, b] []) K := by
  have la := len_B (h := []) u25 ha
  have lb := len_B (h := []) u25 hb
  refine body_wp Tryz.func29 rfl ?_
  by_cases hl : xs.length = ys.length
  · have hne : ((xs.length : Int) != (ys.length : Int)) = false := by simp [hl]
    simp only [Tryz.ntmps29, res29, la, lb, hne, wp_skip, wp_label, wp_exit, wp_ret, wp_seq, wp_cond, wp_block, wp_region, wo_nil, wo_cons, seqK_normal, seqK_exit, seqK_ret, blkK_normal, blkK_exit, blkK_ret, condK_true, condK_false, endK_normal, endK_ret, opt_some, stepA, opV, wantedA, yieldedA, aeval, putA, gff, gtt, gft, gtf, gnt, gnf, List.getD, List.length_cons, List.length_nil, List.cons_append, List.nil_append, List.append_nil, List.set, List.getElem?_cons_zero, List.getElem?_cons_succ, List.getElem?_toArray, List.map_cons, List.map_nil, List.toList_toArray, Option.map_some, Option.map_none, Option.getD_some, Option.bind_some, Option.bind_eq_bind, Option.pure_def, binA, unA, constV, ofV, ofV1, Bool.not_true, Bool.not_false, BEq.rfl, Nat.reduceAdd, Nat.reduceSub, Nat.reduceEqDiff, List.replicate, if_true, if_false, Bool.false_eq_true, resultsA, resA, List.mapM_cons, List.mapM_nil, reduceIte]
    refine wp_loop hN (fun k s => s = ⟨T29 a b 20 k, []⟩ ∧ ∀ j, j < k → xs.getD j 0 = ys.getD j 0) xs.length hL ?_
      (trim_wp (t' := T29 a b 20 0) rfl rfl (T29_refs ha.refs hb.refs) ⟨rfl, fun j hj => by omega⟩)
    rintro k s hk' ⟨rfl, heq⟩
    by_cases hi : k < xs.length
    · have hx := index_B (k := .i64) u25 z5 ha hi
      have hy := index_B (k := .i64) u25 z5 hb (show k < ys.length by omega)
      have lx := load_B (P := Tryz.prog) (h := []) u5 hi
      have ly := load_B (P := Tryz.prog) (h := []) u5 (show k < ys.length by omega)
      have hw : IntKind.i64.wrap ((k : Int) + 1) = ((k + 1 : Nat) : Int) := wrap_succ (by have := ha.len; omega)
      have hlt : (k : Int) < (xs.length : Int) := by omega
      have hne := byte_ne hi (show k < ys.length by omega)
      simp only [T29, res29, la, hw, hlt, decide_true, wp_skip, wp_label, wp_exit, wp_ret, wp_seq, wp_cond, wp_block, wp_region, wo_nil, wo_cons, seqK_normal, seqK_exit, seqK_ret, blkK_normal, blkK_exit, blkK_ret, condK_true, condK_false, endK_normal, endK_ret, opt_some, stepA, opV, wantedA, yieldedA, aeval, putA, gff, gtt, gft, gtf, gnt, gnf, List.getD, List.length_cons, List.length_nil, List.cons_append, List.nil_append, List.append_nil, List.set, List.getElem?_cons_zero, List.getElem?_cons_succ, List.getElem?_toArray, List.map_cons, List.map_nil, List.toList_toArray, Option.map_some, Option.map_none, Option.getD_some, Option.bind_some, Option.bind_eq_bind, Option.pure_def, binA, unA, constV, ofV, ofV1, Bool.not_true, Bool.not_false, BEq.rfl, Nat.reduceAdd, Nat.reduceSub, Nat.reduceEqDiff, List.replicate, if_true, if_false, Bool.false_eq_true, resultsA, resA, List.mapM_cons, List.mapM_nil, reduceIte]
      refine wp_quiet (by kernel_rfl) ?_
      cases hr : (xs.getD k 0 == ys.getD k 0) with
      | true =>
        rw [hr] at hne
        simp only [T29, res29, hx, hy, lx, ly, hne, eqObjs_nil, wv_nil, wv_cons, stepV, wp_skip, wp_label, wp_exit, wp_ret, wp_seq, wp_cond, wp_block, wp_region, wo_nil, wo_cons, seqK_normal, seqK_exit, seqK_ret, blkK_normal, blkK_exit, blkK_ret, condK_true, condK_false, endK_normal, endK_ret, opt_some, stepA, opV, wantedA, yieldedA, aeval, putA, gff, gtt, gft, gtf, gnt, gnf, List.getD, List.length_cons, List.length_nil, List.cons_append, List.nil_append, List.append_nil, List.set, List.getElem?_cons_zero, List.getElem?_cons_succ, List.getElem?_toArray, List.map_cons, List.map_nil, List.toList_toArray, Option.map_some, Option.map_none, Option.getD_some, Option.bind_some, Option.bind_eq_bind, Option.pure_def, binA, unA, constV, ofV, ofV1, Bool.not_true, Bool.not_false, BEq.rfl, Nat.reduceAdd, Nat.reduceSub, Nat.reduceEqDiff, List.replicate, if_true, if_false, Bool.false_eq_true, resultsA, resA, List.mapM_cons, List.mapM_nil, reduceIte]
        simp only [T29, res29, hw, wp_skip, wp_label, wp_exit, wp_ret, wp_seq, wp_cond, wp_block, wp_region, wo_nil, wo_cons, seqK_normal, seqK_exit, seqK_ret, blkK_normal, blkK_exit, blkK_ret, condK_true, condK_false, endK_normal, endK_ret, opt_some, stepA, opV, wantedA, yieldedA, aeval, putA, gff, gtt, gft, gtf, gnt, gnf, List.getD, List.length_cons, List.length_nil, List.cons_append, List.nil_append, List.append_nil, List.set, List.getElem?_cons_zero, List.getElem?_cons_succ, List.getElem?_toArray, List.map_cons, List.map_nil, List.toList_toArray, Option.map_some, Option.map_none, Option.getD_some, Option.bind_some, Option.bind_eq_bind, Option.pure_def, binA, unA, constV, ofV, ofV1, Bool.not_true, Bool.not_false, BEq.rfl, Nat.reduceAdd, Nat.reduceSub, Nat.reduceEqDiff, List.replicate, if_true, if_false, Bool.false_eq_true, resultsA, resA, List.mapM_cons, List.mapM_nil, reduceIte]
        refine ⟨hi, trim_wp (t' := T29 a b 20 (k + 1)) rfl rfl (T29_refs ha.refs hb.refs) ⟨rfl, fun j hj => ?_⟩⟩
        by_cases hj' : j = k
        · subst hj'; simpa using hr
        · exact heq j (by omega)
      | false =>
        rw [hr] at hne
        simp only [T29, res29, hx, hy, lx, ly, hne, eqObjs_nil, wv_nil, wv_cons, stepV, wp_skip, wp_label, wp_exit, wp_ret, wp_seq, wp_cond, wp_block, wp_region, wo_nil, wo_cons, seqK_normal, seqK_exit, seqK_ret, blkK_normal, blkK_exit, blkK_ret, condK_true, condK_false, endK_normal, endK_ret, opt_some, stepA, opV, wantedA, yieldedA, aeval, putA, gff, gtt, gft, gtf, gnt, gnf, List.getD, List.length_cons, List.length_nil, List.cons_append, List.nil_append, List.append_nil, List.set, List.getElem?_cons_zero, List.getElem?_cons_succ, List.getElem?_toArray, List.map_cons, List.map_nil, List.toList_toArray, Option.map_some, Option.map_none, Option.getD_some, Option.bind_some, Option.bind_eq_bind, Option.pure_def, binA, unA, constV, ofV, ofV1, Bool.not_true, Bool.not_false, BEq.rfl, Nat.reduceAdd, Nat.reduceSub, Nat.reduceEqDiff, List.replicate, if_true, if_false, Bool.false_eq_true, resultsA, resA, List.mapM_cons, List.mapM_nil, reduceIte]
        refine leave_wp rfl rfl rfl ?_
        rwa [show (xs == ys) = false by rw [beq_eq_false_iff_ne]; intro he; subst he; simp at hr] at hk
    · have hke : k = xs.length := by omega
      subst hke
      have hlt : ¬ (xs.length : Int) < (xs.length : Int) := by omega
      simp only [T29, res29, la, hlt, decide_false, wp_skip, wp_label, wp_exit, wp_ret, wp_seq, wp_cond, wp_block, wp_region, wo_nil, wo_cons, seqK_normal, seqK_exit, seqK_ret, blkK_normal, blkK_exit, blkK_ret, condK_true, condK_false, endK_normal, endK_ret, opt_some, stepA, opV, wantedA, yieldedA, aeval, putA, gff, gtt, gft, gtf, gnt, gnf, List.getD, List.length_cons, List.length_nil, List.cons_append, List.nil_append, List.append_nil, List.set, List.getElem?_cons_zero, List.getElem?_cons_succ, List.getElem?_toArray, List.map_cons, List.map_nil, List.toList_toArray, Option.map_some, Option.map_none, Option.getD_some, Option.bind_some, Option.bind_eq_bind, Option.pure_def, binA, unA, constV, ofV, ofV1, Bool.not_true, Bool.not_false, BEq.rfl, Nat.reduceAdd, Nat.reduceSub, Nat.reduceEqDiff, List.replicate, if_true, if_false, Bool.false_eq_true, resultsA, resA, List.mapM_cons, List.mapM_nil, reduceIte]
      refine leave_wp rfl rfl rfl ?_
      have he : xs = ys := bytes_ext hl fun j hj => heq j hj
      subst he
      simpa using hk
  · have hne : ((xs.length : Int) != (ys.length : Int)) = true := by simp; omega
    simp only [T29, res29, Tryz.ntmps29, res29, la, lb, hne, wp_skip, wp_label, wp_exit, wp_ret, wp_seq, wp_cond, wp_block, wp_region, wo_nil, wo_cons, seqK_normal, seqK_exit, seqK_ret, blkK_normal, blkK_exit, blkK_ret, condK_true, condK_false, endK_normal, endK_ret, opt_some, stepA, opV, wantedA, yieldedA, aeval, putA, gff, gtt, gft, gtf, gnt, gnf, List.getD, List.length_cons, List.length_nil, List.cons_append, List.nil_append, List.append_nil, List.set, List.getElem?_cons_zero, List.getElem?_cons_succ, List.getElem?_toArray, List.map_cons, List.map_nil, List.toList_toArray, Option.map_some, Option.map_none, Option.getD_some, Option.bind_some, Option.bind_eq_bind, Option.pure_def, binA, unA, constV, ofV, ofV1, Bool.not_true, Bool.not_false, BEq.rfl, Nat.reduceAdd, Nat.reduceSub, Nat.reduceEqDiff, List.replicate, if_true, if_false, Bool.false_eq_true, resultsA, resA, List.mapM_cons, List.mapM_nil, reduceIte]
    refine leave_wp rfl rfl rfl ?_
    rwa [show (xs == ys) = false by rw [beq_eq_false_iff_ne]; intro he; exact hl (by rw [he])] at hk

theorem w41 (hN : N.loop 41 0 = some [0, 1, 5]) (hE : ∀ (x y : AV) (xs ys : List UInt8), IsB x xs → IsB y ys → E 29 [x, y] [] = some (.bool (xs == ys), [])) {a b : AV} {cs ds : List AV} {xss yss : List (List UInt8)} (ha : IsL a cs xss) (hb : IsL b ds yss)
    (hL : cs.length < L) {K : AV × List AObj → Prop} (hk : K (.bool (xss == yss), [])) : Opt (bodyA Tryz.prog N E L 41 [a, b] []) K := by
  have la := len_L (h := []) u76 ha
  have lb := len_L (h := []) u76 hb
  refine body_wp Tryz.func41 rfl ?_
  by_cases hl : cs.length = ds.length
  · have hne : ((cs.length : Int) != (ds.length : Int)) = false := by simp [hl]
    simp only [Tryz.ntmps41, res41, la, lb, hne, wp_skip, wp_label, wp_exit, wp_ret, wp_seq, wp_cond, wp_block, wp_region, wo_nil, wo_cons, seqK_normal, seqK_exit, seqK_ret, blkK_normal, blkK_exit, blkK_ret, condK_true, condK_false, endK_normal, endK_ret, opt_some, stepA, opV, wantedA, yieldedA, aeval, putA, gff, gtt, gft, gtf, gnt, gnf, List.getD, List.length_cons, List.length_nil, List.cons_append, List.nil_append, List.append_nil, List.set, List.getElem?_cons_zero, List.getElem?_cons_succ, List.getElem?_toArray, List.map_cons, List.map_nil, List.toList_toArray, Option.map_some, Option.map_none, Option.getD_some, Option.bind_some, Option.bind_eq_bind, Option.pure_def, binA, unA, constV, ofV, ofV1, Bool.not_true, Bool.not_false, BEq.rfl, Nat.reduceAdd, Nat.reduceSub, Nat.reduceEqDiff, List.replicate, if_true, if_false, Bool.false_eq_true, resultsA, resA, List.mapM_cons, List.mapM_nil, reduceIte]
    refine wp_loop hN (fun k s => s = ⟨T29 a b 21 k, []⟩ ∧ ∀ j, j < k → xss.getD j [] = yss.getD j []) cs.length hL ?_
      (trim_wp (t' := T29 a b 21 0) rfl rfl (T29_refs ha.refs hb.refs) ⟨rfl, fun j hj => by omega⟩)
    rintro k s hk' ⟨rfl, heq⟩
    by_cases hi : k < cs.length
    · have hx := index_L (k := .i64) u76 z25 ha hi
      have hy := index_L (k := .i64) u76 z25 hb (show k < ds.length by omega)
      have lx := load_L (P := Tryz.prog) (h := []) u25 hi
      have ly := load_L (P := Tryz.prog) (h := []) u25 (show k < ds.length by omega)
      have bx := ha.get k hi
      have by_ := hb.get k (show k < ds.length by omega)
      have hc : callA E 29 [cs[k], ds[k]] [] = some (.bool (xss.getD k [] == yss.getD k []), []) := callA_nil (by simp [refsL, bx.refs, by_.refs]) rfl (hE _ _ _ _ bx by_)
      have hw : IntKind.i64.wrap ((k : Int) + 1) = ((k + 1 : Nat) : Int) := wrap_succ (by have := ha.len.2; omega)
      have hlt : (k : Int) < (cs.length : Int) := by omega
      simp only [T29, res41, la, hw, hlt, decide_true, wp_skip, wp_label, wp_exit, wp_ret, wp_seq, wp_cond, wp_block, wp_region, wo_nil, wo_cons, seqK_normal, seqK_exit, seqK_ret, blkK_normal, blkK_exit, blkK_ret, condK_true, condK_false, endK_normal, endK_ret, opt_some, stepA, opV, wantedA, yieldedA, aeval, putA, gff, gtt, gft, gtf, gnt, gnf, List.getD, List.length_cons, List.length_nil, List.cons_append, List.nil_append, List.append_nil, List.set, List.getElem?_cons_zero, List.getElem?_cons_succ, List.getElem?_toArray, List.map_cons, List.map_nil, List.toList_toArray, Option.map_some, Option.map_none, Option.getD_some, Option.bind_some, Option.bind_eq_bind, Option.pure_def, binA, unA, constV, ofV, ofV1, Bool.not_true, Bool.not_false, BEq.rfl, Nat.reduceAdd, Nat.reduceSub, Nat.reduceEqDiff, List.replicate, if_true, if_false, Bool.false_eq_true, resultsA, resA, List.mapM_cons, List.mapM_nil, reduceIte]
      refine wp_quiet (by kernel_rfl) ?_
      cases hr : (xss.getD k [] == yss.getD k []) with
      | true =>
        simp only [T29, res41, hr] at hc
        simp only [T29, res41, hx, hy, lx, ly, hc, eqObjs_nil, wv_nil, wv_cons, stepV, wp_skip, wp_label, wp_exit, wp_ret, wp_seq, wp_cond, wp_block, wp_region, wo_nil, wo_cons, seqK_normal, seqK_exit, seqK_ret, blkK_normal, blkK_exit, blkK_ret, condK_true, condK_false, endK_normal, endK_ret, opt_some, stepA, opV, wantedA, yieldedA, aeval, putA, gff, gtt, gft, gtf, gnt, gnf, List.getD, List.length_cons, List.length_nil, List.cons_append, List.nil_append, List.append_nil, List.set, List.getElem?_cons_zero, List.getElem?_cons_succ, List.getElem?_toArray, List.map_cons, List.map_nil, List.toList_toArray, Option.map_some, Option.map_none, Option.getD_some, Option.bind_some, Option.bind_eq_bind, Option.pure_def, binA, unA, constV, ofV, ofV1, Bool.not_true, Bool.not_false, BEq.rfl, Nat.reduceAdd, Nat.reduceSub, Nat.reduceEqDiff, List.replicate, if_true, if_false, Bool.false_eq_true, resultsA, resA, List.mapM_cons, List.mapM_nil, reduceIte]
        simp only [T29, res41, hw, wp_skip, wp_label, wp_exit, wp_ret, wp_seq, wp_cond, wp_block, wp_region, wo_nil, wo_cons, seqK_normal, seqK_exit, seqK_ret, blkK_normal, blkK_exit, blkK_ret, condK_true, condK_false, endK_normal, endK_ret, opt_some, stepA, opV, wantedA, yieldedA, aeval, putA, gff, gtt, gft, gtf, gnt, gnf, List.getD, List.length_cons, List.length_nil, List.cons_append, List.nil_append, List.append_nil, List.set, List.getElem?_cons_zero, List.getElem?_cons_succ, List.getElem?_toArray, List.map_cons, List.map_nil, List.toList_toArray, Option.map_some, Option.map_none, Option.getD_some, Option.bind_some, Option.bind_eq_bind, Option.pure_def, binA, unA, constV, ofV, ofV1, Bool.not_true, Bool.not_false, BEq.rfl, Nat.reduceAdd, Nat.reduceSub, Nat.reduceEqDiff, List.replicate, if_true, if_false, Bool.false_eq_true, resultsA, resA, List.mapM_cons, List.mapM_nil, reduceIte]
        refine ⟨hi, trim_wp (t' := T29 a b 21 (k + 1)) rfl rfl (T29_refs ha.refs hb.refs) ⟨rfl, fun j hj => ?_⟩⟩
        by_cases hj' : j = k
        · subst hj'; simpa using hr
        · exact heq j (by omega)
      | false =>
        simp only [T29, res41, hr] at hc
        simp only [T29, res41, hx, hy, lx, ly, hc, eqObjs_nil, wv_nil, wv_cons, stepV, wp_skip, wp_label, wp_exit, wp_ret, wp_seq, wp_cond, wp_block, wp_region, wo_nil, wo_cons, seqK_normal, seqK_exit, seqK_ret, blkK_normal, blkK_exit, blkK_ret, condK_true, condK_false, endK_normal, endK_ret, opt_some, stepA, opV, wantedA, yieldedA, aeval, putA, gff, gtt, gft, gtf, gnt, gnf, List.getD, List.length_cons, List.length_nil, List.cons_append, List.nil_append, List.append_nil, List.set, List.getElem?_cons_zero, List.getElem?_cons_succ, List.getElem?_toArray, List.map_cons, List.map_nil, List.toList_toArray, Option.map_some, Option.map_none, Option.getD_some, Option.bind_some, Option.bind_eq_bind, Option.pure_def, binA, unA, constV, ofV, ofV1, Bool.not_true, Bool.not_false, BEq.rfl, Nat.reduceAdd, Nat.reduceSub, Nat.reduceEqDiff, List.replicate, if_true, if_false, Bool.false_eq_true, resultsA, resA, List.mapM_cons, List.mapM_nil, reduceIte]
        refine leave_wp rfl rfl rfl ?_
        rwa [show (xss == yss) = false by rw [beq_eq_false_iff_ne]; intro he; subst he; simp at hr] at hk
    · have hke : k = cs.length := by omega
      subst hke
      have hlt : ¬ (cs.length : Int) < (cs.length : Int) := by omega
      simp only [T29, res41, la, hlt, decide_false, wp_skip, wp_label, wp_exit, wp_ret, wp_seq, wp_cond, wp_block, wp_region, wo_nil, wo_cons, seqK_normal, seqK_exit, seqK_ret, blkK_normal, blkK_exit, blkK_ret, condK_true, condK_false, endK_normal, endK_ret, opt_some, stepA, opV, wantedA, yieldedA, aeval, putA, gff, gtt, gft, gtf, gnt, gnf, List.getD, List.length_cons, List.length_nil, List.cons_append, List.nil_append, List.append_nil, List.set, List.getElem?_cons_zero, List.getElem?_cons_succ, List.getElem?_toArray, List.map_cons, List.map_nil, List.toList_toArray, Option.map_some, Option.map_none, Option.getD_some, Option.bind_some, Option.bind_eq_bind, Option.pure_def, binA, unA, constV, ofV, ofV1, Bool.not_true, Bool.not_false, BEq.rfl, Nat.reduceAdd, Nat.reduceSub, Nat.reduceEqDiff, List.replicate, if_true, if_false, Bool.false_eq_true, resultsA, resA, List.mapM_cons, List.mapM_nil, reduceIte]
      refine leave_wp rfl rfl rfl ?_
      have he : xss = yss := getD_ext (by rw [← ha.len.1, ← hb.len.1, hl]) fun j hj => heq j (by rw [ha.len.1]; exact hj)
      subst he
      simpa using hk
  · have hne : ((cs.length : Int) != (ds.length : Int)) = true := by simp; omega
    simp only [T29, res41, Tryz.ntmps41, res41, la, lb, hne, wp_skip, wp_label, wp_exit, wp_ret, wp_seq, wp_cond, wp_block, wp_region, wo_nil, wo_cons, seqK_normal, seqK_exit, seqK_ret, blkK_normal, blkK_exit, blkK_ret, condK_true, condK_false, endK_normal, endK_ret, opt_some, stepA, opV, wantedA, yieldedA, aeval, putA, gff, gtt, gft, gtf, gnt, gnf, List.getD, List.length_cons, List.length_nil, List.cons_append, List.nil_append, List.append_nil, List.set, List.getElem?_cons_zero, List.getElem?_cons_succ, List.getElem?_toArray, List.map_cons, List.map_nil, List.toList_toArray, Option.map_some, Option.map_none, Option.getD_some, Option.bind_some, Option.bind_eq_bind, Option.pure_def, binA, unA, constV, ofV, ofV1, Bool.not_true, Bool.not_false, BEq.rfl, Nat.reduceAdd, Nat.reduceSub, Nat.reduceEqDiff, List.replicate, if_true, if_false, Bool.false_eq_true, resultsA, resA, List.mapM_cons, List.mapM_nil, reduceIte]
    refine leave_wp rfl rfl rfl ?_
    rwa [show (xss == yss) = false by rw [beq_eq_false_iff_ne]; intro he; exact hl (by rw [ha.len.1, hb.len.1, he])] at hk
end
end Am
