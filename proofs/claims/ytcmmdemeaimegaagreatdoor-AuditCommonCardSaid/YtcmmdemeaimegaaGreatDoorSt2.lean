/-
  A part of a proved abstract machine over the model, and of what it tells of this seat's functions. Conditions: as each theorem states them.
-/
import Derived.Test.YtcmmdemeaimegaaGreatDoorSt1
namespace Am
open Go Go.Proofs
set_option linter.unusedSimpArgs false
set_option linter.unusedVariables false
theorem begins_iff {xss yss : List (List UInt8)} : begins xss yss = true ↔ xss.length ≤ yss.length ∧ xss = yss.take xss.length := by simp [begins]
theorem begins_refl (xss : List (List UInt8)) : begins xss xss = true := by rw [begins_iff]; simp
theorem begins_trans {xss yss zss : List (List UInt8)} (h1 : begins xss yss = true) (h2 : begins yss zss = true) : begins xss zss = true := by
  rw [begins_iff] at *
  obtain ⟨a1, a2⟩ := h1
  obtain ⟨b1, b2⟩ := h2
  refine ⟨by omega, ?_⟩
  rw [b2, List.take_take, Nat.min_eq_left a1] at a2
  exact a2
theorem begins_anti {xss yss : List (List UInt8)} (h1 : begins xss yss = true) (h2 : begins yss xss = true) : xss = yss := by
  rw [begins_iff] at *
  obtain ⟨a1, a2⟩ := h1
  obtain ⟨b1, b2⟩ := h2
  have : xss.length = yss.length := by omega
  rw [a2, this, List.take_length]

section
variable {N : Notes} {E : Env} {L : Nat}
theorem w9 (h38 : E 38 [] [] = some (.bool true, [])) (h40 : ∀ (a b : AV) (cs ds : List AV) (xss yss : List (List UInt8)), IsL a cs xss → IsL b ds yss → E 40 [a, b] [] = some (.bool (begins xss yss), []))
    (h41 : ∀ (a b : AV) (cs ds : List AV) (xss yss : List (List UInt8)), IsL a cs xss → IsL b ds yss → cs.length < L → E 41 [a, b] [] = some (.bool (xss == yss), [])) {a b c : AV} {cs ds es : List AV} {xss yss zss : List (List UInt8)}
    (ha : IsL a cs xss) (hb : IsL b ds yss) (hc : IsL c es zss) (hL : cs.length < L) {K : AV × List AObj → Prop} (hk : K (.bool true, [])) : Opt (bodyA Tryz.prog N E L 9 [a, b, c] []) K := by
  have c38 : callA E 38 [] [] = some (.bool true, []) := callA_nil rfl rfl h38
  have c40 : ∀ {a b : AV} {cs ds : List AV} {xss yss : List (List UInt8)}, IsL a cs xss → IsL b ds yss → callA E 40 [a, b] [] = some (.bool (begins xss yss), []) := fun h1 h2 => callA_nil (by simp [refsL, h1.refs, h2.refs]) rfl (h40 _ _ _ _ _ _ h1 h2)
  have kx := c40 ha hb
  have ky := c40 hb hc
  have kz := c40 ha hc
  have ka := c40 ha ha
  have kw := c40 hb ha
  have ke : callA E 41 [a, b] [] = some (.bool (xss == yss), []) := callA_nil (by simp [refsL, ha.refs, hb.refs]) rfl (h41 _ _ _ _ _ _ ha hb hL)
  rw [begins_refl] at ka
  have t := @begins_trans xss yss zss
  have an := @begins_anti xss yss
  generalize begins xss yss = x at kx t an
  generalize begins yss zss = y at ky t
  generalize begins xss zss = z at kz t
  generalize begins yss xss = w at kw an
  have ee : x = true → w = true → (xss == yss) = true := fun h1 h2 => by rw [an h1 h2]; simp
  generalize (xss == yss) = e at ke ee
  refine body_wp Tryz.func9 rfl ?_
  cases x with
  | false =>
    simp only [Tryz.ntmps9, res9, c38, kx, ky, kz, ka, kw, ke, wp_skip, wp_label, wp_exit, wp_ret, wp_seq, wp_cond, wp_block, wp_region, wo_nil, wo_cons, seqK_normal, seqK_exit, seqK_ret, blkK_normal, blkK_exit, blkK_ret, condK_true, condK_false, endK_normal, endK_ret, opt_some, stepA, opV, wantedA, yieldedA, aeval, putA, gff, gtt, gft, gtf, gnt, gnf, List.getD, List.length_cons, List.length_nil, List.cons_append, List.nil_append, List.append_nil, List.set, List.getElem?_cons_zero, List.getElem?_cons_succ, List.getElem?_toArray, List.map_cons, List.map_nil, List.toList_toArray, Option.map_some, Option.map_none, Option.getD_some, Option.bind_some, Option.bind_eq_bind, Option.pure_def, binA, unA, constV, ofV, ofV1, Bool.not_true, Bool.not_false, BEq.rfl, Nat.reduceAdd, Nat.reduceSub, Nat.reduceEqDiff, List.replicate, if_true, if_false, Bool.false_eq_true, resultsA, resA, List.mapM_cons, List.mapM_nil, reduceIte]
    exact leave_wp rfl rfl rfl hk
  | true =>
    cases y with
    | false =>
      cases w with
      | false =>
        simp only [Tryz.ntmps9, res9, c38, kx, ky, kz, ka, kw, ke, wp_skip, wp_label, wp_exit, wp_ret, wp_seq, wp_cond, wp_block, wp_region, wo_nil, wo_cons, seqK_normal, seqK_exit, seqK_ret, blkK_normal, blkK_exit, blkK_ret, condK_true, condK_false, endK_normal, endK_ret, opt_some, stepA, opV, wantedA, yieldedA, aeval, putA, gff, gtt, gft, gtf, gnt, gnf, List.getD, List.length_cons, List.length_nil, List.cons_append, List.nil_append, List.append_nil, List.set, List.getElem?_cons_zero, List.getElem?_cons_succ, List.getElem?_toArray, List.map_cons, List.map_nil, List.toList_toArray, Option.map_some, Option.map_none, Option.getD_some, Option.bind_some, Option.bind_eq_bind, Option.pure_def, binA, unA, constV, ofV, ofV1, Bool.not_true, Bool.not_false, BEq.rfl, Nat.reduceAdd, Nat.reduceSub, Nat.reduceEqDiff, List.replicate, if_true, if_false, Bool.false_eq_true, resultsA, resA, List.mapM_cons, List.mapM_nil, reduceIte]
        exact leave_wp rfl rfl rfl hk
      | true =>
        have := ee rfl rfl
        subst this
        simp only [Tryz.ntmps9, res9, c38, kx, ky, kz, ka, kw, ke, wp_skip, wp_label, wp_exit, wp_ret, wp_seq, wp_cond, wp_block, wp_region, wo_nil, wo_cons, seqK_normal, seqK_exit, seqK_ret, blkK_normal, blkK_exit, blkK_ret, condK_true, condK_false, endK_normal, endK_ret, opt_some, stepA, opV, wantedA, yieldedA, aeval, putA, gff, gtt, gft, gtf, gnt, gnf, List.getD, List.length_cons, List.length_nil, List.cons_append, List.nil_append, List.append_nil, List.set, List.getElem?_cons_zero, List.getElem?_cons_succ, List.getElem?_toArray, List.map_cons, List.map_nil, List.toList_toArray, Option.map_some, Option.map_none, Option.getD_some, Option.bind_some, Option.bind_eq_bind, Option.pure_def, binA, unA, constV, ofV, ofV1, Bool.not_true, Bool.not_false, BEq.rfl, Nat.reduceAdd, Nat.reduceSub, Nat.reduceEqDiff, List.replicate, if_true, if_false, Bool.false_eq_true, resultsA, resA, List.mapM_cons, List.mapM_nil, reduceIte]
        exact leave_wp rfl rfl rfl hk
    | true =>
      have := t rfl rfl
      subst this
      cases w with
      | false =>
        simp only [Tryz.ntmps9, res9, c38, kx, ky, kz, ka, kw, ke, wp_skip, wp_label, wp_exit, wp_ret, wp_seq, wp_cond, wp_block, wp_region, wo_nil, wo_cons, seqK_normal, seqK_exit, seqK_ret, blkK_normal, blkK_exit, blkK_ret, condK_true, condK_false, endK_normal, endK_ret, opt_some, stepA, opV, wantedA, yieldedA, aeval, putA, gff, gtt, gft, gtf, gnt, gnf, List.getD, List.length_cons, List.length_nil, List.cons_append, List.nil_append, List.append_nil, List.set, List.getElem?_cons_zero, List.getElem?_cons_succ, List.getElem?_toArray, List.map_cons, List.map_nil, List.toList_toArray, Option.map_some, Option.map_none, Option.getD_some, Option.bind_some, Option.bind_eq_bind, Option.pure_def, binA, unA, constV, ofV, ofV1, Bool.not_true, Bool.not_false, BEq.rfl, Nat.reduceAdd, Nat.reduceSub, Nat.reduceEqDiff, List.replicate, if_true, if_false, Bool.false_eq_true, resultsA, resA, List.mapM_cons, List.mapM_nil, reduceIte]
        exact leave_wp rfl rfl rfl hk
      | true =>
        have := ee rfl rfl
        subst this
        simp only [Tryz.ntmps9, res9, c38, kx, ky, kz, ka, kw, ke, wp_skip, wp_label, wp_exit, wp_ret, wp_seq, wp_cond, wp_block, wp_region, wo_nil, wo_cons, seqK_normal, seqK_exit, seqK_ret, blkK_normal, blkK_exit, blkK_ret, condK_true, condK_false, endK_normal, endK_ret, opt_some, stepA, opV, wantedA, yieldedA, aeval, putA, gff, gtt, gft, gtf, gnt, gnf, List.getD, List.length_cons, List.length_nil, List.cons_append, List.nil_append, List.append_nil, List.set, List.getElem?_cons_zero, List.getElem?_cons_succ, List.getElem?_toArray, List.map_cons, List.map_nil, List.toList_toArray, Option.map_some, Option.map_none, Option.getD_some, Option.bind_some, Option.bind_eq_bind, Option.pure_def, binA, unA, constV, ofV, ofV1, Bool.not_true, Bool.not_false, BEq.rfl, Nat.reduceAdd, Nat.reduceSub, Nat.reduceEqDiff, List.replicate, if_true, if_false, Bool.false_eq_true, resultsA, resA, List.mapM_cons, List.mapM_nil, reduceIte]
        exact leave_wp rfl rfl rfl hk
end
end Am
