/-
  A part of a proved abstract machine over the model, and of what it tells of this seat's functions. Conditions: as each theorem states them.
-/
import Derived.Test.YtcmmdemeaimegaaGreatDoorSc1
import Derived.Test.YtcmmdemeaimegaaGreatDoorAm28
namespace Am
open Go Go.Proofs
set_option linter.unusedSimpArgs false
set_option linter.unusedVariables false

theorem u3 : Tryz.prog.underlying 3 = some (.int .i64) := Tryz.underlying3
theorem u78 : Tryz.prog.underlying 78 = some (.slice 76) := Tryz.underlying78
theorem z76 : szA Tryz.prog 76 = some 1 := by kernel_rfl
theorem z3 : szA Tryz.prog 3 = some 1 := by kernel_rfl
theorem res75 : Tryz.f75.results.toList = [.tmp 4] := rfl
theorem res139 : Tryz.f139.results.toList = [.tmp 4] := rfl
theorem res74 : Tryz.f74.results.toList = [.tmp 4] := rfl
theorem eqAVs_bytes (xs : List UInt8) : eqAVs (xs.map fun b => AV.int .u8 b.toNat) (xs.map fun b => AV.int .u8 b.toNat) = true := by
  induction xs with
  | nil => rfl
  | cons x xs ih => simp [eqAVs, eqAV, ih]
theorem eqOpt_refl (o : Option Nat) : eqOpt o o = true := by cases o <;> simp [eqOpt]
theorem IsB.eqv {b : AV} {ys : List UInt8} (h : IsB b ys) : eqAV b b = true := by
  cases h with
  | nil => rfl
  | row _ cap _ => simp [eqAV, eqAVs_bytes, eqOpt_refl]

/-- The two variables that the closure holds. -/
def boxes (k : Nat) (b : AV) : List AObj := [.cells [.int .i64 k] 3 false true, .cells [b] 25 false true]
theorem boxes_calm (k : Nat) (b : AV) : calm (boxes k b) := calm_cons calm_cells (calm_cons calm_cells calm_nil)
theorem boxes_eq {k : Nat} {b : AV} (hb : eqAV b b = true) : eqObjs (boxes k b) (boxes k b) = true := by simp [eqObjs, eqObj, eqAVs, eqAV, hb, boxes]
theorem boxes_k (k : Nat) (b : AV) : loadA Tryz.prog (boxes k b) 3 (.ptr 0 0) = some (.int .i64 k) := by simp [loadA, objCells, boxes, partA, u3]
theorem boxes_b (k : Nat) (b : AV) : loadA Tryz.prog (boxes k b) 25 (.ptr 1 0) = some b := by simp [loadA, objCells, boxes, partA, u25]

/-- Has a list no such octets at a place? -/
def other (k : Nat) (ys : List UInt8) (xss : List (List UInt8)) : Bool := decide (xss.length ≤ k) || !(xss.getD k [] == ys)

section
variable {N : Notes} {E : Env} {L : Nat}
theorem w75 (hE : ∀ x y xs ys h, IsB x xs → IsB y ys → callA E 76 [x, y] h = some (.bool (xs == ys), h)) {l b : AV} {ks : List AV} {xss : List (List UInt8)} {ys : List UInt8} {k : Nat} (hl : IsL l ks xss) (hb : IsB b ys)
    {K : AV × List AObj → Prop} (hk : K (.bool (other k ys xss), boxes k b)) : Opt (bodyA Tryz.prog N E L 75 [l, .ptr 0 0, .ptr 1 0] (boxes k b)) K := by
  have ln := len_L (P := Tryz.prog) (h := boxes k b) u76 hl
  have lk := boxes_k k b
  have lb := boxes_b k b
  have he := boxes_eq (k := k) hb.eqv
  have e0 := hl.len.1
  refine body_wp Tryz.func75 rfl ?_
  simp only [Tryz.ntmps75, res75, wp_skip, wp_label, wp_exit, wp_ret, wp_seq, wp_cond, wp_block, wp_region, wo_nil, wo_cons, seqK_normal, seqK_exit, seqK_ret, blkK_normal, blkK_exit, blkK_ret, condK_true, condK_false, endK_normal, endK_ret, opt_some, stepA, opV, wantedA, yieldedA, aeval, putA, gff, gtt, gft, gtf, gnt, gnf, List.getD, List.length_cons, List.length_nil, List.cons_append, List.nil_append, List.append_nil, List.set, List.getElem?_cons_zero, List.getElem?_cons_succ, List.getElem?_toArray, List.map_cons, List.map_nil, List.toList_toArray, Option.map_some, Option.map_none, Option.getD_some, Option.bind_some, Option.bind_eq_bind, Option.pure_def, binA, unA, constV, ofV, ofV1, Bool.not_true, Bool.not_false, BEq.rfl, Nat.reduceAdd, Nat.reduceSub, Nat.reduceEqDiff, List.replicate, if_true, if_false, Bool.false_eq_true, resultsA, resA, List.mapM_cons, List.mapM_nil, reduceIte]
  refine wp_quiet (by kernel_rfl) ?_
  by_cases hc : ks.length ≤ k
  · have hd : decide ((k : Int) ≥ (ks.length : Int)) = true := by simp; omega
    have hq : other k ys xss = true := by simp [other]; omega
    rw [hq] at hk
    simp only [lk, ln, hd, he, res75, wv_nil, wv_cons, stepV, wp_skip, wp_label, wp_exit, wp_ret, wp_seq, wp_cond, wp_block, wp_region, wo_nil, wo_cons, seqK_normal, seqK_exit, seqK_ret, blkK_normal, blkK_exit, blkK_ret, condK_true, condK_false, endK_normal, endK_ret, opt_some, stepA, opV, wantedA, yieldedA, aeval, putA, gff, gtt, gft, gtf, gnt, gnf, List.getD, List.length_cons, List.length_nil, List.cons_append, List.nil_append, List.append_nil, List.set, List.getElem?_cons_zero, List.getElem?_cons_succ, List.getElem?_toArray, List.map_cons, List.map_nil, List.toList_toArray, Option.map_some, Option.map_none, Option.getD_some, Option.bind_some, Option.bind_eq_bind, Option.pure_def, binA, unA, constV, ofV, ofV1, Bool.not_true, Bool.not_false, BEq.rfl, Nat.reduceAdd, Nat.reduceSub, Nat.reduceEqDiff, List.replicate, if_true, if_false, Bool.false_eq_true, resultsA, resA, List.mapM_cons, List.mapM_nil, reduceIte]
    exact leave_same (boxes_calm k b) rfl rfl hk
  · have hlt : k < ks.length := by omega
    have hd : decide ((k : Int) ≥ (ks.length : Int)) = false := by simp; omega
    have hx := index_L (k := .i64) u76 z25 hl hlt
    have lx := load_L (P := Tryz.prog) (h := boxes k b) u25 hlt
    have hc := hE _ _ _ _ (boxes k b) (hl.get k hlt) hb
    have hq : other k ys xss = !(xss.getD k [] == ys) := by simp [other]; intro h; omega
    rw [hq] at hk
    simp only [lk, lb, ln, hd, he, hx, lx, hc, res75, wv_nil, wv_cons, stepV, wp_skip, wp_label, wp_exit, wp_ret, wp_seq, wp_cond, wp_block, wp_region, wo_nil, wo_cons, seqK_normal, seqK_exit, seqK_ret, blkK_normal, blkK_exit, blkK_ret, condK_true, condK_false, endK_normal, endK_ret, opt_some, stepA, opV, wantedA, yieldedA, aeval, putA, gff, gtt, gft, gtf, gnt, gnf, List.getD, List.length_cons, List.length_nil, List.cons_append, List.nil_append, List.append_nil, List.set, List.getElem?_cons_zero, List.getElem?_cons_succ, List.getElem?_toArray, List.map_cons, List.map_nil, List.toList_toArray, Option.map_some, Option.map_none, Option.getD_some, Option.bind_some, Option.bind_eq_bind, Option.pure_def, binA, unA, constV, ofV, ofV1, Bool.not_true, Bool.not_false, BEq.rfl, Nat.reduceAdd, Nat.reduceSub, Nat.reduceEqDiff, List.replicate, if_true, if_false, Bool.false_eq_true, resultsA, resA, List.mapM_cons, List.mapM_nil, reduceIte]
    exact leave_same (boxes_calm k b) rfl rfl hk
end
end Am
