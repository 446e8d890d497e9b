/-
  A part of a proved abstract machine over the model, and of what it tells of this seat's functions. Conditions: as each theorem states them.
-/
import Derived.Test.YtcmmdemeaimegaaGreatDoorSt1
import Derived.Test.YtcmmdemeaimegaaGreatDoorAm27
namespace Am
open Go Go.Proofs
set_option linter.unusedSimpArgs false
set_option linter.unusedVariables false

theorem z25b : Tryz.prog.bytesOf 25 = 24 := by kernel_rfl
theorem z5b : Tryz.prog.bytesOf 5 = 1 := by kernel_rfl
theorem zero5 : zeroA Tryz.prog 5 = some (.int .u8 0) := by kernel_rfl
theorem zero25 : zeroA Tryz.prog 25 = some .snil := by kernel_rfl
theorem big5 {m : Nat} (h : m ≤ 140737488355328) : bigA Tryz.prog 1 5 m = true := by simp [bigA, z5b, mostA, h, zero5, AV.stored]
theorem big25 {m : Nat} (h : m * 24 ≤ 140737488355328) : bigA Tryz.prog 1 25 m = true := by simp [bigA, z25b, mostA, h, zero25, AV.stored]; omega

theorem res77 : Tryz.f77.results.toList = [.tmp 2] := rfl
section
variable {N : Notes} {E : Env} {L : Nat}
theorem w77 (hN : N.keep 77 = false) {a : AV} {xs : List UInt8} (ha : IsB a xs) (hx : xs.length ≤ 140737488355328) {K : AV × List AObj → Prop} (hk : ∀ r, IsB r xs → K (r, [])) : Opt (bodyA Tryz.prog N E L 77 [a] []) K := by
  refine body_wp Tryz.func77 rfl ?_
  have hb := build_none (P := Tryz.prog) (h := []) (row := N.rows 77) u25 z5
  cases ha with
  | nil =>
    simp only [Tryz.ntmps77, res77, eqA, Tryz.underlying25, Region.isConst, wp_skip, wp_label, wp_exit, wp_ret, wp_seq, wp_cond, wp_block, wp_region, wo_nil, wo_cons, seqK_normal, seqK_exit, seqK_ret, blkK_normal, blkK_exit, blkK_ret, condK_true, condK_false, endK_normal, endK_ret, opt_some, stepA, opV, wantedA, yieldedA, aeval, putA, gff, gtt, gft, gtf, gnt, gnf, List.getD, List.length_cons, List.length_nil, List.cons_append, List.nil_append, List.append_nil, List.set, List.getElem?_cons_zero, List.getElem?_cons_succ, List.getElem?_toArray, List.map_cons, List.map_nil, List.toList_toArray, Option.map_some, Option.map_none, Option.getD_some, Option.bind_some, Option.bind_eq_bind, Option.pure_def, binA, unA, constV, ofV, ofV1, Bool.not_true, Bool.not_false, BEq.rfl, Nat.reduceAdd, Nat.reduceSub, Nat.reduceEqDiff, List.replicate, if_true, if_false, Bool.false_eq_true, resultsA, resA, List.mapM_cons, List.mapM_nil, reduceIte]
    exact leave_wp rfl rfl rfl (hk _ .nil)
  | row _ cap h =>
    have hn := news_B (P := Tryz.prog) (h := []) (t := 25) (k := 1) u25 (.row xs cap h)
    by_cases h0 : xs.length = 0
    · have e0 : xs = [] := List.length_eq_zero_iff.1 h0
      subst e0
      have ha := append_zero (s := .isl [] 0 (some 0)) u25 z5 hn (.inr (.inl ⟨_, _, _, rfl⟩))
      simp only [List.map_nil, List.length_nil] at ha
      simp only [Tryz.ntmps77, res77, eqA, Tryz.underlying25, Region.isConst, hb, ha, wp_skip, wp_label, wp_exit, wp_ret, wp_seq, wp_cond, wp_block, wp_region, wo_nil, wo_cons, seqK_normal, seqK_exit, seqK_ret, blkK_normal, blkK_exit, blkK_ret, condK_true, condK_false, endK_normal, endK_ret, opt_some, stepA, opV, wantedA, yieldedA, aeval, putA, gff, gtt, gft, gtf, gnt, gnf, List.getD, List.length_cons, List.length_nil, List.cons_append, List.nil_append, List.append_nil, List.set, List.getElem?_cons_zero, List.getElem?_cons_succ, List.getElem?_toArray, List.map_cons, List.map_nil, List.toList_toArray, Option.map_some, Option.map_none, Option.getD_some, Option.bind_some, Option.bind_eq_bind, Option.pure_def, binA, unA, constV, ofV, ofV1, Bool.not_true, Bool.not_false, BEq.rfl, Nat.reduceAdd, Nat.reduceSub, Nat.reduceEqDiff, List.replicate, if_true, if_false, Bool.false_eq_true, resultsA, resA, List.mapM_cons, List.mapM_nil, reduceIte]
      have hk0 : K (.isl [] 0 (some 0), []) := hk _ (.row [] (some 0) (by simp))
      exact leave_wp rfl rfl rfl hk0
    · have ha := append_isl0 u25 z5 hn h0 (big5 hx)
      simp only [Tryz.ntmps77, res77, eqA, Tryz.underlying25, Region.isConst, hb, ha, hN, bytes_noRefs, wp_skip, wp_label, wp_exit, wp_ret, wp_seq, wp_cond, wp_block, wp_region, wo_nil, wo_cons, seqK_normal, seqK_exit, seqK_ret, blkK_normal, blkK_exit, blkK_ret, condK_true, condK_false, endK_normal, endK_ret, opt_some, stepA, opV, wantedA, yieldedA, aeval, putA, gff, gtt, gft, gtf, gnt, gnf, List.getD, List.length_cons, List.length_nil, List.cons_append, List.nil_append, List.append_nil, List.set, List.getElem?_cons_zero, List.getElem?_cons_succ, List.getElem?_toArray, List.map_cons, List.map_nil, List.toList_toArray, Option.map_some, Option.map_none, Option.getD_some, Option.bind_some, Option.bind_eq_bind, Option.pure_def, binA, unA, constV, ofV, ofV1, Bool.not_true, Bool.not_false, BEq.rfl, Nat.reduceAdd, Nat.reduceSub, Nat.reduceEqDiff, List.replicate, if_true, if_false, Bool.false_eq_true, resultsA, resA, List.mapM_cons, List.mapM_nil, reduceIte]
      refine leave_inl (r' := .isl (xs.map fun b => AV.int .u8 b.toNat) xs.length none) ?_ rfl (hk _ (.row xs none h))
      simp [inl, List.take_of_length_le]
end
end Am
