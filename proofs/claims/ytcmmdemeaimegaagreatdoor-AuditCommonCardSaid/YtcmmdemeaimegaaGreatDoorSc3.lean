/-
  A part of a proved abstract machine over the model, and of what it tells of this seat's functions. Conditions: as each theorem states them.
-/
import Derived.Test.YtcmmdemeaimegaaGreatDoorSc2
import Derived.Test.YtcmmdemeaimegaaGreatDoorAm29
namespace Am
open Go Go.Proofs
set_option linter.unusedSimpArgs false
set_option linter.unusedVariables false

/-- Lists of lists, laid in a row. -/
structure IsLs (ls : List AV) (xs : List (List (List UInt8))) : Prop where
  len : ls.length = xs.length
  most : ls.length ≤ 9223372036854775807
  at_ : ∀ i (h : i < ls.length), ∃ ks, IsL ls[i] ks (xs.getD i [])

def fn75 (i j : Nat) : AV := .func (.func 75) [] [.ptr i 0, .ptr j 0]
def T139 (ls : List AV) (cap : Option Nat) (n i : Nat) : List AV := [.isl ls ls.length cap, fn75 0 1, .undef, .undef, .undef, .undef, .undef, .int .i64 n, .int .i64 i, .undef, .undef, .undef, .undef, .undef, .undef, .undef, .undef, .undef, .undef]

section
variable {N : Notes} {E : Env} {L : Nat}

theorem c75 {k : Nat} {b : AV} {ys : List UInt8} (hE : ∀ l ks xss, IsL l ks xss → E 75 [l, .ptr 0 0, .ptr 1 0] (boxes k b) = some (.bool (other k ys xss), boxes k b)) {l : AV} {ks : List AV} {xss : List (List UInt8)} (hl : IsL l ks xss) :
    callA E 75 [l, .ptr 0 0, .ptr 1 0] (boxes k b) = some (.bool (other k ys xss), boxes k b) :=
  callA_all (boxes_calm k b) (boxes_calm k b) (by simp only [refsL, refs, hl.refs]; rfl) (by simp [refsL, refs, hl.refs, boxes]) (hE _ _ _ hl) rfl rfl

theorem w139 (hN : N.loop 139 0 = some [0, 1, 7, 8]) {k : Nat} {b : AV} {ys : List UInt8} (hE : ∀ l ks xss, IsL l ks xss → E 75 [l, .ptr 0 0, .ptr 1 0] (boxes k b) = some (.bool (other k ys xss), boxes k b))
    {ls : List AV} {xs : List (List (List UInt8))} {cap : Option Nat} (hl : IsLs ls xs) (hL : ls.length < L) {K : AV × List AObj → Prop}
    (hk : ∀ z : Int, (z = -1 ∧ xs.any (other k ys) = false ∨ 0 ≤ z ∧ xs.any (other k ys) = true) → K (.int .i64 z, boxes k b)) :
    Opt (bodyA Tryz.prog N E L 139 [.isl ls ls.length cap, fn75 0 1] (boxes k b)) K := by
  have ll := len_isl (h := boxes k b) (cs := ls) (n := ls.length) (cap := cap) u78
  refine body_wp Tryz.func139 rfl ?_
  simp only [Tryz.ntmps139, res139, ll, wp_skip, wp_label, wp_exit, wp_ret, wp_seq, wp_cond, wp_block, wp_region, wo_nil, wo_cons, seqK_normal, seqK_exit, seqK_ret, blkK_normal, blkK_exit, blkK_ret, condK_true, condK_false, endK_normal, endK_ret, opt_some, stepA, opV, wantedA, yieldedA, aeval, putA, gff, gtt, gft, gtf, gnt, gnf, List.getD, List.length_cons, List.length_nil, List.cons_append, List.nil_append, List.append_nil, List.set, List.getElem?_cons_zero, List.getElem?_cons_succ, List.getElem?_toArray, List.map_cons, List.map_nil, List.toList_toArray, Option.map_some, Option.map_none, Option.getD_some, Option.bind_some, Option.bind_eq_bind, Option.pure_def, binA, unA, constV, ofV, ofV1, Bool.not_true, Bool.not_false, BEq.rfl, Nat.reduceAdd, Nat.reduceSub, Nat.reduceEqDiff, List.replicate, if_true, if_false, Bool.false_eq_true, resultsA, resA, List.mapM_cons, List.mapM_nil, reduceIte]
  refine wp_loop hN (fun i s => s = ⟨T139 ls cap ls.length i, boxes k b⟩ ∧ ∀ j, j < i → other k ys (xs.getD j []) = false) ls.length hL ?_
    (trim_same (t' := T139 ls cap ls.length 0) rfl rfl (boxes_calm k b) (by simp [T139, fn75, refsL, refs, boxes]) ⟨rfl, fun j hj => by omega⟩)
  rintro i s hi' ⟨rfl, heq⟩
  by_cases hi : i < ls.length
  · obtain ⟨ks, hx⟩ := hl.at_ i hi
    have ix := index_isl (k := .i64) (cap := cap) u78 z76 rfl hi
    have lx := load_L (P := Tryz.prog) (h := boxes k b) u76 hi
    have hc := c75 hE hx
    have hw : IntKind.i64.wrap ((i : Int) + 1) = ((i + 1 : Nat) : Int) := wrap_succ (by have := hl.most; omega)
    have hlt : (i : Int) < (ls.length : Int) := by omega
    cases hr : other k ys (xs.getD i []) with
    | false =>
      rw [hr] at hc
      simp only [T139, fn75, ix, lx, hc, hw, hlt, decide_true, wp_skip, wp_label, wp_exit, wp_ret, wp_seq, wp_cond, wp_block, wp_region, wo_nil, wo_cons, seqK_normal, seqK_exit, seqK_ret, blkK_normal, blkK_exit, blkK_ret, condK_true, condK_false, endK_normal, endK_ret, opt_some, stepA, opV, wantedA, yieldedA, aeval, putA, gff, gtt, gft, gtf, gnt, gnf, List.getD, List.length_cons, List.length_nil, List.cons_append, List.nil_append, List.append_nil, List.set, List.getElem?_cons_zero, List.getElem?_cons_succ, List.getElem?_toArray, List.map_cons, List.map_nil, List.toList_toArray, Option.map_some, Option.map_none, Option.getD_some, Option.bind_some, Option.bind_eq_bind, Option.pure_def, binA, unA, constV, ofV, ofV1, Bool.not_true, Bool.not_false, BEq.rfl, Nat.reduceAdd, Nat.reduceSub, Nat.reduceEqDiff, List.replicate, if_true, if_false, Bool.false_eq_true, resultsA, resA, List.mapM_cons, List.mapM_nil, reduceIte]
      refine ⟨hi, trim_same (t' := T139 ls cap ls.length (i + 1)) rfl rfl (boxes_calm k b) (by simp [T139, fn75, refsL, refs, boxes]) ⟨rfl, fun j hj => ?_⟩⟩
      by_cases hj' : j = i
      · subst hj'; exact hr
      · exact heq j (by omega)
    | true =>
      rw [hr] at hc
      simp only [T139, fn75, ix, lx, hc, hw, hlt, decide_true, res139, wp_skip, wp_label, wp_exit, wp_ret, wp_seq, wp_cond, wp_block, wp_region, wo_nil, wo_cons, seqK_normal, seqK_exit, seqK_ret, blkK_normal, blkK_exit, blkK_ret, condK_true, condK_false, endK_normal, endK_ret, opt_some, stepA, opV, wantedA, yieldedA, aeval, putA, gff, gtt, gft, gtf, gnt, gnf, List.getD, List.length_cons, List.length_nil, List.cons_append, List.nil_append, List.append_nil, List.set, List.getElem?_cons_zero, List.getElem?_cons_succ, List.getElem?_toArray, List.map_cons, List.map_nil, List.toList_toArray, Option.map_some, Option.map_none, Option.getD_some, Option.bind_some, Option.bind_eq_bind, Option.pure_def, binA, unA, constV, ofV, ofV1, Bool.not_true, Bool.not_false, BEq.rfl, Nat.reduceAdd, Nat.reduceSub, Nat.reduceEqDiff, List.replicate, if_true, if_false, Bool.false_eq_true, resultsA, resA, List.mapM_cons, List.mapM_nil, reduceIte]
      refine leave_same (boxes_calm k b) rfl rfl (hk _ (.inr ⟨by omega, ?_⟩))
      rw [List.any_eq_true]
      exact ⟨xs.getD i [], by simp [List.getD, show i < xs.length by have := hl.len; omega], hr⟩
  · have hie : i = ls.length := by omega
    subst hie
    have hlt : ¬ (ls.length : Int) < (ls.length : Int) := by omega
    simp only [T139, fn75, hlt, decide_false, res139, wp_skip, wp_label, wp_exit, wp_ret, wp_seq, wp_cond, wp_block, wp_region, wo_nil, wo_cons, seqK_normal, seqK_exit, seqK_ret, blkK_normal, blkK_exit, blkK_ret, condK_true, condK_false, endK_normal, endK_ret, opt_some, stepA, opV, wantedA, yieldedA, aeval, putA, gff, gtt, gft, gtf, gnt, gnf, List.getD, List.length_cons, List.length_nil, List.cons_append, List.nil_append, List.append_nil, List.set, List.getElem?_cons_zero, List.getElem?_cons_succ, List.getElem?_toArray, List.map_cons, List.map_nil, List.toList_toArray, Option.map_some, Option.map_none, Option.getD_some, Option.bind_some, Option.bind_eq_bind, Option.pure_def, binA, unA, constV, ofV, ofV1, Bool.not_true, Bool.not_false, BEq.rfl, Nat.reduceAdd, Nat.reduceSub, Nat.reduceEqDiff, List.replicate, if_true, if_false, Bool.false_eq_true, resultsA, resA, List.mapM_cons, List.mapM_nil, reduceIte]
    refine leave_same (boxes_calm k b) rfl rfl (hk _ (.inl ⟨rfl, ?_⟩))
    rw [List.any_eq_false]
    intro x hx
    obtain ⟨j, hj, rfl⟩ := List.getElem_of_mem hx
    have := heq j (by rw [hl.len]; exact hj)
    simpa [List.getD, hj] using this

theorem w74 {k : Nat} {b : AV} {ys : List UInt8} {ls : List AV} {xs : List (List (List UInt8))} {cap : Option Nat}
    (hE : ∃ z : Int, (z = -1 ∧ xs.any (other k ys) = false ∨ 0 ≤ z ∧ xs.any (other k ys) = true) ∧ E 139 [.isl ls ls.length cap, fn75 0 1] (boxes k b) = some (.int .i64 z, boxes k b)) {K : AV × List AObj → Prop}
    (hk : K (.bool (xs.any (other k ys)), boxes k b)) : Opt (bodyA Tryz.prog N E L 74 [.isl ls ls.length cap, fn75 0 1] (boxes k b)) K := by
  obtain ⟨z, hz, he⟩ := hE
  have hc : callA E 139 [.isl ls ls.length cap, fn75 0 1] (boxes k b) = some (.int .i64 z, boxes k b) :=
    callA_all (boxes_calm k b) (boxes_calm k b) rfl (by simp [refsL, refs, boxes, fn75]) he rfl rfl
  have hd : decide (z ≥ 0) = xs.any (other k ys) := by
    rcases hz with ⟨rfl, h⟩ | ⟨h1, h⟩
    · rw [h]; rfl
    · rw [h]; simpa using h1
  refine body_wp Tryz.func74 rfl ?_
  simp only [Tryz.ntmps74, res74, hc, hd, wp_skip, wp_label, wp_exit, wp_ret, wp_seq, wp_cond, wp_block, wp_region, wo_nil, wo_cons, seqK_normal, seqK_exit, seqK_ret, blkK_normal, blkK_exit, blkK_ret, condK_true, condK_false, endK_normal, endK_ret, opt_some, stepA, opV, wantedA, yieldedA, aeval, putA, gff, gtt, gft, gtf, gnt, gnf, List.getD, List.length_cons, List.length_nil, List.cons_append, List.nil_append, List.append_nil, List.set, List.getElem?_cons_zero, List.getElem?_cons_succ, List.getElem?_toArray, List.map_cons, List.map_nil, List.toList_toArray, Option.map_some, Option.map_none, Option.getD_some, Option.bind_some, Option.bind_eq_bind, Option.pure_def, binA, unA, constV, ofV, ofV1, Bool.not_true, Bool.not_false, BEq.rfl, Nat.reduceAdd, Nat.reduceSub, Nat.reduceEqDiff, List.replicate, if_true, if_false, Bool.false_eq_true, resultsA, resA, List.mapM_cons, List.mapM_nil, reduceIte]
  exact leave_same (boxes_calm k b) rfl rfl hk
end
end Am
