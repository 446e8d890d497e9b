/-
  A part of a proved abstract machine over the model, and of what it tells of this seat's functions. Conditions: as each theorem states them.
-/
import Derived.Test.YtcmmdemeaimegaaGreatDoorSc4
import Derived.Test.YtcmmdemeaimegaaGreatDoorSt2
namespace Am
open Go Go.Proofs
set_option linter.unusedSimpArgs false
set_option linter.unusedVariables false
theorem res8 : Tryz.f8.results.toList = [.tmp 6] := rfl

theorem begins_shared {n : Nat} {xss yss : List (List UInt8)} {xs : List (List (List UInt8))} (h : Shared n xss xs) (hy : yss ∈ xs) : begins (xss.take n) yss = true := by
  have hle := h.le
  have key : ∀ j, j < n → j < yss.length ∧ yss.getD j [] = xss.getD j [] := fun j hj => by
    have := h.all j hj
    rw [List.any_eq_false] at this
    have := this yss hy
    simp only [other, Bool.or_eq_true, decide_eq_true_eq, Bool.not_eq_true', not_or, Nat.not_le, Bool.not_eq_false] at this
    exact ⟨this.1, by simpa using this.2⟩
  rw [begins_iff]
  have hn : n ≤ yss.length := by
    rcases Nat.eq_zero_or_pos n with h0 | h0
    · omega
    · have := (key (n - 1) (by omega)).1; omega
  have hl : (xss.take n).length = n := by simp [hle]
  refine ⟨by omega, ?_⟩
  rw [hl]
  apply List.ext_getElem
  · simp; omega
  · intro i h1 h2
    have hi : i < n := by omega
    have := (key i hi).2
    simp only [List.getElem_take]
    have e1 : xss.getD i [] = xss[i]'(by omega) := by simp [List.getD, show i < xss.length by omega]
    have e2 : yss.getD i [] = yss[i]'(by omega) := by simp [List.getD, show i < yss.length by omega]
    rw [e1, e2] at this
    exact this.symm

theorem stop_shared {n : Nat} {xss yss zss : List (List UInt8)} (h : Shared n xss [xss, yss, zss]) (hx : n < xss.length) (hy : n < yss.length) (hz : n < zss.length) : (xss.getD n [] == yss.getD n []) = false ∨ (xss.getD n [] == zss.getD n []) = false := by
  have := h.stop hx
  simp only [List.any_cons, List.any_nil, Bool.or_false, other, Bool.or_eq_true, decide_eq_true_eq, Bool.not_eq_true'] at this
  rcases this with (h1 | h1) | (h1 | h1) | (h1 | h1)
  · omega
  · simp at h1
  · omega
  · left; rw [beq_eq_false_iff_ne] at *; exact fun h => h1 h.symm
  · omega
  · right; rw [beq_eq_false_iff_ne] at *; exact fun h => h1 h.symm

section
variable {N : Notes} {E : Env} {L : Nat}
set_option maxHeartbeats 4000000 in
theorem w8 (hR : N.rows 8 = false) (h38 : E 38 [] [] = some (.bool true, [])) (h40 : ∀ (a b : AV) (cs ds : List AV) (xss yss : List (List UInt8)), IsL a cs xss → IsL b ds yss → E 40 [a, b] [] = some (.bool (begins xss yss), []))
    {a b c : AV} {cs ds es : List AV} {xss yss zss : List (List UInt8)} (ha : IsL a cs xss) (hb : IsL b ds yss) (hc : IsL c es zss)
    (h39 : ∃ r ks' n, IsL r ks' (xss.take n) ∧ Shared n xss [xss, yss, zss] ∧ E 39 [.isl [a, b, c] 3 (some 3)] [] = some (r, [])) {K : AV × List AObj → Prop} (hk : K (.bool true, [])) : Opt (bodyA Tryz.prog N E L 8 [a, b, c] []) K := by
  obtain ⟨r, ks', n, hr, hs, he⟩ := h39
  have c38 : callA E 38 [] [] = some (.bool true, []) := callA_nil rfl rfl h38
  have c39 : callA E 39 [.isl [a, b, c] 3 (some 3)] [] = some (r, []) := callA_nil rfl hr.refs he
  have c40 : ∀ {a b : AV} {cs ds : List AV} {xss yss : List (List UInt8)}, IsL a cs xss → IsL b ds yss → callA E 40 [a, b] [] = some (.bool (begins xss yss), []) := fun h1 h2 => callA_nil (by simp [refsL, h1.refs, h2.refs]) rfl (h40 _ _ _ _ _ _ h1 h2)
  have ka := c40 hr ha
  have kb := c40 hr hb
  have kc := c40 hr hc
  rw [begins_shared hs (by simp)] at ka kb kc
  have lr := len_L (P := Tryz.prog) (h := []) u76 hr
  have la := len_L (P := Tryz.prog) (h := []) u76 ha
  have lb := len_L (P := Tryz.prog) (h := []) u76 hb
  have lc := len_L (P := Tryz.prog) (h := []) u76 hc
  have en : ks'.length = n := by have := hr.len.1; have := hs.le; simp at *; omega
  rw [en] at lr
  have ea := ha.len.1
  have eb := hb.len.1
  have ec := hc.len.1
  have sa : a.stored = some [a] := by cases ha <;> rfl
  have sb : b.stored = some [b] := by cases hb <;> rfl
  have sc : c.stored = some [c] := by cases hc <;> rfl
  have zs : AV.snil.stored = some [.snil] := rfl
  have z0 : zeroA Tryz.prog 76 = some .snil := by kernel_rfl
  have nr : noRefs [a, b, c] = true := noRefs_cons ha.refs (noRefs_cons hb.refs (noRefs_cons hc.refs rfl))
  have bs : buildSliceA Tryz.prog false [] 78 3 [(0, a), (1, b), (2, c)] = some (.isl [a, b, c] 3 (some 3), []) := by
    simp [buildSliceA, u78, z76, z0, zs, zerosA, fillA, sa, sb, sc, setCells, nr]
  refine body_wp Tryz.func8 rfl ?_
  by_cases ga : cs.length ≤ n
  · have da : decide ((n : Int) ≥ (cs.length : Int)) = true := by simp; omega
    simp only [Tryz.ntmps8, res8, c38, bs, hR, c39, ka, kb, kc, lr, la, da, wp_skip, wp_label, wp_exit, wp_ret, wp_seq, wp_cond, wp_block, wp_region, wo_nil, wo_cons, seqK_normal, seqK_exit, seqK_ret, blkK_normal, blkK_exit, blkK_ret, condK_true, condK_false, endK_normal, endK_ret, opt_some, stepA, opV, wantedA, yieldedA, aeval, putA, gff, gtt, gft, gtf, gnt, gnf, List.getD, List.length_cons, List.length_nil, List.cons_append, List.nil_append, List.append_nil, List.set, List.getElem?_cons_zero, List.getElem?_cons_succ, List.getElem?_toArray, List.map_cons, List.map_nil, List.toList_toArray, Option.map_some, Option.map_none, Option.getD_some, Option.bind_some, Option.bind_eq_bind, Option.pure_def, binA, unA, constV, ofV, ofV1, Bool.not_true, Bool.not_false, BEq.rfl, Nat.reduceAdd, Nat.reduceSub, Nat.reduceEqDiff, List.replicate, if_true, if_false, Bool.false_eq_true, resultsA, resA, List.mapM_cons, List.mapM_nil, reduceIte]
    exact leave_wp rfl rfl rfl hk
  have da : decide ((n : Int) ≥ (cs.length : Int)) = false := by simp; omega
  by_cases gb : ds.length ≤ n
  · have db : decide ((n : Int) ≥ (ds.length : Int)) = true := by simp; omega
    simp only [Tryz.ntmps8, res8, c38, bs, hR, c39, ka, kb, kc, lr, la, lb, da, db, wp_skip, wp_label, wp_exit, wp_ret, wp_seq, wp_cond, wp_block, wp_region, wo_nil, wo_cons, seqK_normal, seqK_exit, seqK_ret, blkK_normal, blkK_exit, blkK_ret, condK_true, condK_false, endK_normal, endK_ret, opt_some, stepA, opV, wantedA, yieldedA, aeval, putA, gff, gtt, gft, gtf, gnt, gnf, List.getD, List.length_cons, List.length_nil, List.cons_append, List.nil_append, List.append_nil, List.set, List.getElem?_cons_zero, List.getElem?_cons_succ, List.getElem?_toArray, List.map_cons, List.map_nil, List.toList_toArray, Option.map_some, Option.map_none, Option.getD_some, Option.bind_some, Option.bind_eq_bind, Option.pure_def, binA, unA, constV, ofV, ofV1, Bool.not_true, Bool.not_false, BEq.rfl, Nat.reduceAdd, Nat.reduceSub, Nat.reduceEqDiff, List.replicate, if_true, if_false, Bool.false_eq_true, resultsA, resA, List.mapM_cons, List.mapM_nil, reduceIte]
    exact leave_wp rfl rfl rfl hk
  have db : decide ((n : Int) ≥ (ds.length : Int)) = false := by simp; omega
  by_cases gc : es.length ≤ n
  · have dc : decide ((n : Int) ≥ (es.length : Int)) = true := by simp; omega
    simp only [Tryz.ntmps8, res8, c38, bs, hR, c39, ka, kb, kc, lr, la, lb, lc, da, db, dc, wp_skip, wp_label, wp_exit, wp_ret, wp_seq, wp_cond, wp_block, wp_region, wo_nil, wo_cons, seqK_normal, seqK_exit, seqK_ret, blkK_normal, blkK_exit, blkK_ret, condK_true, condK_false, endK_normal, endK_ret, opt_some, stepA, opV, wantedA, yieldedA, aeval, putA, gff, gtt, gft, gtf, gnt, gnf, List.getD, List.length_cons, List.length_nil, List.cons_append, List.nil_append, List.append_nil, List.set, List.getElem?_cons_zero, List.getElem?_cons_succ, List.getElem?_toArray, List.map_cons, List.map_nil, List.toList_toArray, Option.map_some, Option.map_none, Option.getD_some, Option.bind_some, Option.bind_eq_bind, Option.pure_def, binA, unA, constV, ofV, ofV1, Bool.not_true, Bool.not_false, BEq.rfl, Nat.reduceAdd, Nat.reduceSub, Nat.reduceEqDiff, List.replicate, if_true, if_false, Bool.false_eq_true, resultsA, resA, List.mapM_cons, List.mapM_nil, reduceIte]
    exact leave_wp rfl rfl rfl hk
  have dc : decide ((n : Int) ≥ (es.length : Int)) = false := by simp; omega
  have ia := index_L (k := .i64) u76 z25 ha (show n < cs.length by omega)
  have ib := index_L (k := .i64) u76 z25 hb (show n < ds.length by omega)
  have ic := index_L (k := .i64) u76 z25 hc (show n < es.length by omega)
  have xa := load_L (P := Tryz.prog) (h := []) u25 (show n < cs.length by omega)
  have xb := load_L (P := Tryz.prog) (h := []) u25 (show n < ds.length by omega)
  have xc := load_L (P := Tryz.prog) (h := []) u25 (show n < es.length by omega)
  have va := conv_str (h := []) u25 u5 u9 (ha.get n (by omega))
  have vb := conv_str (h := []) u25 u5 u9 (hb.get n (by omega))
  have vc := conv_str (h := []) u25 u5 u9 (hc.get n (by omega))
  simp only [Tryz.ntmps8, res8, c38, bs, hR, c39, ka, kb, kc, lr, la, lb, lc, da, db, dc, wp_skip, wp_label, wp_exit, wp_ret, wp_seq, wp_cond, wp_block, wp_region, wo_nil, wo_cons, seqK_normal, seqK_exit, seqK_ret, blkK_normal, blkK_exit, blkK_ret, condK_true, condK_false, endK_normal, endK_ret, opt_some, stepA, opV, wantedA, yieldedA, aeval, putA, gff, gtt, gft, gtf, gnt, gnf, List.getD, List.length_cons, List.length_nil, List.cons_append, List.nil_append, List.append_nil, List.set, List.getElem?_cons_zero, List.getElem?_cons_succ, List.getElem?_toArray, List.map_cons, List.map_nil, List.toList_toArray, Option.map_some, Option.map_none, Option.getD_some, Option.bind_some, Option.bind_eq_bind, Option.pure_def, binA, unA, constV, ofV, ofV1, Bool.not_true, Bool.not_false, BEq.rfl, Nat.reduceAdd, Nat.reduceSub, Nat.reduceEqDiff, List.replicate, if_true, if_false, Bool.false_eq_true, resultsA, resA, List.mapM_cons, List.mapM_nil, reduceIte]
  refine wp_quiet (by kernel_rfl) ?_
  rcases stop_shared hs (by omega) (by omega) (by omega) with h1 | h1
  · simp only [List.getD] at h1
    simp only [ia, ib, xa, xb, va, vb, h1, eqObjs_nil, res8, wv_nil, wv_cons, stepV, wp_skip, wp_label, wp_exit, wp_ret, wp_seq, wp_cond, wp_block, wp_region, wo_nil, wo_cons, seqK_normal, seqK_exit, seqK_ret, blkK_normal, blkK_exit, blkK_ret, condK_true, condK_false, endK_normal, endK_ret, opt_some, stepA, opV, wantedA, yieldedA, aeval, putA, gff, gtt, gft, gtf, gnt, gnf, List.getD, List.length_cons, List.length_nil, List.cons_append, List.nil_append, List.append_nil, List.set, List.getElem?_cons_zero, List.getElem?_cons_succ, List.getElem?_toArray, List.map_cons, List.map_nil, List.toList_toArray, Option.map_some, Option.map_none, Option.getD_some, Option.bind_some, Option.bind_eq_bind, Option.pure_def, binA, unA, constV, ofV, ofV1, Bool.not_true, Bool.not_false, BEq.rfl, Nat.reduceAdd, Nat.reduceSub, Nat.reduceEqDiff, List.replicate, if_true, if_false, Bool.false_eq_true, resultsA, resA, List.mapM_cons, List.mapM_nil, reduceIte]
    exact leave_wp rfl rfl rfl hk
  · cases h2 : (xss.getD n [] == yss.getD n []) with
    | false =>
      simp only [List.getD] at h2
      simp only [ia, ib, xa, xb, va, vb, h2, eqObjs_nil, res8, wv_nil, wv_cons, stepV, wp_skip, wp_label, wp_exit, wp_ret, wp_seq, wp_cond, wp_block, wp_region, wo_nil, wo_cons, seqK_normal, seqK_exit, seqK_ret, blkK_normal, blkK_exit, blkK_ret, condK_true, condK_false, endK_normal, endK_ret, opt_some, stepA, opV, wantedA, yieldedA, aeval, putA, gff, gtt, gft, gtf, gnt, gnf, List.getD, List.length_cons, List.length_nil, List.cons_append, List.nil_append, List.append_nil, List.set, List.getElem?_cons_zero, List.getElem?_cons_succ, List.getElem?_toArray, List.map_cons, List.map_nil, List.toList_toArray, Option.map_some, Option.map_none, Option.getD_some, Option.bind_some, Option.bind_eq_bind, Option.pure_def, binA, unA, constV, ofV, ofV1, Bool.not_true, Bool.not_false, BEq.rfl, Nat.reduceAdd, Nat.reduceSub, Nat.reduceEqDiff, List.replicate, if_true, if_false, Bool.false_eq_true, resultsA, resA, List.mapM_cons, List.mapM_nil, reduceIte]
      exact leave_wp rfl rfl rfl hk
    | true =>
      simp only [List.getD] at h1 h2
      simp only [ia, ib, ic, xa, xb, xc, va, vb, vc, h1, h2, eqObjs_nil, res8, wv_nil, wv_cons, stepV, wp_skip, wp_label, wp_exit, wp_ret, wp_seq, wp_cond, wp_block, wp_region, wo_nil, wo_cons, seqK_normal, seqK_exit, seqK_ret, blkK_normal, blkK_exit, blkK_ret, condK_true, condK_false, endK_normal, endK_ret, opt_some, stepA, opV, wantedA, yieldedA, aeval, putA, gff, gtt, gft, gtf, gnt, gnf, List.getD, List.length_cons, List.length_nil, List.cons_append, List.nil_append, List.append_nil, List.set, List.getElem?_cons_zero, List.getElem?_cons_succ, List.getElem?_toArray, List.map_cons, List.map_nil, List.toList_toArray, Option.map_some, Option.map_none, Option.getD_some, Option.bind_some, Option.bind_eq_bind, Option.pure_def, binA, unA, constV, ofV, ofV1, Bool.not_true, Bool.not_false, BEq.rfl, Nat.reduceAdd, Nat.reduceSub, Nat.reduceEqDiff, List.replicate, if_true, if_false, Bool.false_eq_true, resultsA, resA, List.mapM_cons, List.mapM_nil, reduceIte]
      exact leave_wp rfl rfl rfl hk
end
end Am
