/-
  A part of a proved abstract machine over the model, and of what it tells of this seat's functions. Conditions: as each theorem states them.
-/
import Derived.Test.YtcmmdemeaimegaaGreatDoorSc3
namespace Am
open Go Go.Proofs
set_option linter.unusedSimpArgs false
set_option linter.unusedVariables false
theorem zero3 : zeroA Tryz.prog 3 = some (.int .i64 0) := by kernel_rfl
theorem res39 : Tryz.f39.results.toList = [.tmp 2] := rfl

/-- What is gathered: each as its list has it. -/
def Gathered (cl : List AV) (xss : List (List UInt8)) : Prop := ∀ i (h : i < cl.length), IsB cl[i] (xss.getD i [])
theorem Gathered.noRefs {cl : List AV} : ∀ {xss : List (List UInt8)}, Gathered cl xss → noRefs cl = true := by
  induction cl with
  | nil => intro _ _; rfl
  | cons v cl ih =>
    intro xss h
    refine noRefs_cons (h 0 (by simp)).refs (ih (xss := xss.tail) fun i hi => ?_)
    have := h (i + 1) (by simpa using hi)
    cases xss with
    | nil => simpa [List.getD] using this
    | cons x xss => simpa [List.getD] using this
theorem Gathered.snoc {cl : List AV} {xss : List (List UInt8)} {r : AV} (h : Gathered cl xss) (hr : IsB r (xss.getD cl.length [])) : Gathered (cl ++ [r]) xss := by
  intro i hi
  by_cases hlt : i < cl.length
  · rw [List.getElem_append_left hlt]; exact h i hlt
  · have : i = cl.length := by simp at hi; omega
    subst this
    simpa using hr

theorem IsB.stored {a : AV} {xs : List UInt8} (h : IsB a xs) : a.stored = some [a] := by cases h <;> rfl
theorem build_one {h : List AObj} {r : AV} (hs : r.stored = some [r]) (hr : refs r = []) : buildSliceA Tryz.prog false h 76 1 [(0, r)] = some (.isl [r] 1 (some 1), h) := by
  have hn : noRefs [r] = true := noRefs_cons hr rfl
  have zs : AV.snil.stored = some [.snil] := rfl
  simp [buildSliceA, u76, z25, zero25, zs, zerosA, fillA, hs, setCells, hn]
theorem news_one {h : List AObj} {r : AV} {cap : Option Nat} : newsA Tryz.prog 1 25 h #[76, 76] (.isl [r] 1 cap) = some ([r], 1) := by simp [newsA, u76, slCells, slLen]
theorem st_int {k : IntKind} {n : Int} : (AV.int k n).stored = some [.int k n] := rfl
theorem st_snil : AV.snil.stored = some [.snil] := rfl
theorem alloc3 (h : List AObj) : (boxA h 3 (.int .i64 0)) = some (.ptr h.length 0, h ++ [.cells [.int .i64 0] 3 false true]) := rfl
theorem alloc25 (h : List AObj) : (boxA h 25 .snil) = some (.ptr h.length 0, h ++ [.cells [.snil] 25 false true]) := rfl

theorem gathered_row {cl : List AV} {xss : List (List UInt8)} (hg : Gathered cl xss) (hl : cl.length ≤ xss.length) (hm : cl.length ≤ 9223372036854775807) : IsL (.isl cl cl.length none) cl (xss.take cl.length) := by
  refine IsL.row cl _ none hm (by simp; omega) fun i hi => ?_
  have := hg i hi
  rwa [show (xss.take cl.length).getD i [] = xss.getD i [] by simp [List.getD, List.getElem?_take, hi]]

def outV (k : Nat) : AV := if k = 0 then .snil else .sl 0 0 k 1 none
def outH (cl : List AV) : List AObj := if cl.length = 0 then [] else [.cells cl 25 true true]
def T39 (logs a : AV) (out : AV) (n k : Nat) : List AV := [logs, .undef, .undef, out, .undef, .undef, .undef, .undef, .undef, .undef, .undef, .undef, a, .int .i64 n, .int .i64 k, .undef, .undef, .undef, .undef, .undef, .undef, .undef, .undef, .undef, .undef, .undef, .undef, .undef, .undef]
theorem T39_refs0 {logs a : AV} {n k : Nat} (h0 : refs logs = []) (ha : refs a = []) : refsL (T39 logs a .snil n k) = [] := by simp [T39, refsL, refs, h0, ha]
theorem T39_refs1 {logs a : AV} {n k i len : Nat} (h0 : refs logs = []) (ha : refs a = []) : refsL (T39 logs a (.sl i 0 len 1 none) n k) = [i] := by simp [T39, refsL, refs, h0, ha]

theorem T39_ren {f : Nat → Nat} {logs a : AV} {n k i len : Nat} (h0 : refs logs = []) (ha : refs a = []) : renL f (T39 logs a (.sl i 0 len 1 none) n k) = T39 logs a (.sl (f i) 0 len 1 none) n k := by simp [T39, renL, ren, ren_nr f logs h0, ren_nr f a ha]

/-- The result: as many of the first as all have. -/
structure Shared (n : Nat) (xss : List (List UInt8)) (xs : List (List (List UInt8))) : Prop where
  le : n ≤ xss.length
  all : ∀ j, j < n → xs.any (other j (xss.getD j [])) = false
  stop : n < xss.length → xs.any (other n (xss.getD n [])) = true

section
variable {N : Notes} {E : Env} {L : Nat}
theorem w39 (hN : N.loop 39 0 = some [0, 3, 12, 13, 14]) (hK : N.keep 39 = false) (hR : N.rows 39 = false)
    (hE : ∀ (k : Nat) (b : AV) (ys : List UInt8) (ls : List AV) (xs : List (List (List UInt8))) (cap : Option Nat), IsB b ys → IsLs ls xs → E 74 [.isl ls ls.length cap, fn75 0 1] (boxes k b) = some (.bool (xs.any (other k ys)), boxes k b))
    (hC : ∀ (b : AV) (ys : List UInt8), IsB b ys → ys.length ≤ 140737488355328 → ∃ r, IsB r ys ∧ E 77 [b] [] = some (r, []))
    {a : AV} {ls ks : List AV} {xss : List (List UInt8)} {xs : List (List (List UInt8))} {cap : Option Nat} (hl : IsLs ls xs) (h0 : 0 < ls.length) (ha0 : ls[0] = a) (ha : IsL a ks xss) (hL : ks.length < L)
    (hb : ∀ i, (xss.getD i []).length ≤ 140737488355328) (hm : ks.length * 24 ≤ 140737488355328) {K : AV × List AObj → Prop} (hk : ∀ r ks' n, IsL r ks' (xss.take n) → Shared n xss xs → K (r, [])) :
    Opt (bodyA Tryz.prog N E L 39 [.isl ls ls.length cap] []) K := by
  have ll := len_isl (h := []) (cs := ls) (n := ls.length) (cap := cap) u78
  have l0 : ((ls.length : Int) == 0) = false := by rw [beq_eq_false_iff_ne]; omega
  have ix0 : indexAddrA Tryz.prog 78 (.isl ls ls.length cap) (.int .i64 0) = some (.iptr ls 0) := index_isl (i := 0) (k := .i64) (cap := cap) u78 z76 rfl h0
  have lx0 := load_L (P := Tryz.prog) (h := []) u76 h0
  rw [ha0] at lx0
  have la := len_L (P := Tryz.prog) (h := []) u76 ha
  have ea := ha.len.1
  refine body_wp Tryz.func39 rfl ?_
  simp only [Tryz.ntmps39, res39, ll, l0, ix0, lx0, la, wp_skip, wp_label, wp_exit, wp_ret, wp_seq, wp_cond, wp_block, wp_region, wo_nil, wo_cons, seqK_normal, seqK_exit, seqK_ret, blkK_normal, blkK_exit, blkK_ret, condK_true, condK_false, endK_normal, endK_ret, opt_some, stepA, opV, wantedA, yieldedA, aeval, putA, gff, gtt, gft, gtf, gnt, gnf, List.getD, List.length_cons, List.length_nil, List.cons_append, List.nil_append, List.append_nil, List.set, List.getElem?_cons_zero, List.getElem?_cons_succ, List.getElem?_toArray, List.map_cons, List.map_nil, List.toList_toArray, Option.map_some, Option.map_none, Option.getD_some, Option.bind_some, Option.bind_eq_bind, Option.pure_def, binA, unA, constV, ofV, ofV1, Bool.not_true, Bool.not_false, BEq.rfl, Nat.reduceAdd, Nat.reduceSub, Nat.reduceEqDiff, List.replicate, if_true, if_false, Bool.false_eq_true, resultsA, resA, List.mapM_cons, List.mapM_nil, reduceIte]
  refine wp_loop hN (fun k s => ∃ cl, s = ⟨T39 (.isl ls ls.length cap) a (outV k) ks.length k, outH cl⟩ ∧ cl.length = k ∧ Gathered cl xss ∧ ∀ j, j < k → xs.any (other j (xss.getD j [])) = false) ks.length hL ?_
    (trim_wp (t' := T39 (.isl ls ls.length cap) a .snil ks.length 0) rfl rfl (T39_refs0 rfl ha.refs) ⟨[], rfl, rfl, fun i hi => by simp at hi, fun j hj => by omega⟩)
  rintro k s hk' ⟨cl, rfl, hcl, hg, heq⟩
  by_cases hi : k < ks.length
  · have hx := index_L (k := .i64) u76 z25 ha hi
    have hlt : (k : Int) < (ks.length : Int) := by omega
    have hw : IntKind.i64.wrap ((k : Int) + 1) = ((k + 1 : Nat) : Int) := wrap_succ (by have := ha.len.2; omega)
    have bx := ha.get k hi
    have lx := fun h => load_L (P := Tryz.prog) (h := h) u25 hi
    obtain ⟨r, hr, hcl2⟩ := hC _ _ bx (hb k)
    have c77 := fun h => callA_pure (E := E) (f := 77) (args := [ks[k]]) (h := h) (r := r) (by simp [refsL, bx.refs]) hr.refs hcl2
    have c74 := hE k ks[k] _ ls xs cap bx hl
    have s3 := bx.stored
    have nr : noRefs [ks[k]] = true := noRefs_cons bx.refs rfl
    have ni : noRefs [.int .i64 (k : Int)] = true := rfl
    have bo := fun h => build_one (h := h) hr.stored hr.refs
    have all' : xs.any (other k (xss.getD k [])) = false → ∀ j, j < k + 1 → xs.any (other j (xss.getD j [])) = false := fun hq j hj => by
      by_cases hj' : j = k
      · subst hj'; exact hq
      · exact heq j (by omega)
    have nr1 : noRefs [r] = true := noRefs_cons hr.refs rfl
    by_cases hz : k = 0
    · have ecl : cl = [] := List.length_eq_zero_iff.1 (by omega)
      subst ecl
      have e1 : outV k = .snil := by simp [outV, hz]
      have e2 : outH [] = [] := rfl
      have cc : callA E 74 [.isl ls ls.length cap, .func (.func 75) [] [.ptr 0 0, .ptr 1 0]] [.cells [.int .i64 k] 3 false true, .cells [ks[k]] 25 false true] = some (.bool (xs.any (other k (xss.getD k []))), [.cells [.int .i64 k] 3 false true, .cells [ks[k]] 25 false true]) :=
        callA_all (boxes_calm k ks[k]) (boxes_calm k ks[k]) rfl (by simp [refsL, refs]) c74 rfl rfl
      rw [e1, e2]
      cases hq : xs.any (other k (xss.getD k [])) with
      | true =>
        rw [hq] at cc
        simp only [T39, hx, lx, hlt, decide_true, zero3, zero25, alloc3, alloc25, storeA, st_int, st_snil, s3, z3, z25, setCells, nr, ni, Nat.zero_add, Nat.le_refl, and_self, Bool.and_self, cc, res39, hK, wp_skip, wp_label, wp_exit, wp_ret, wp_seq, wp_cond, wp_block, wp_region, wo_nil, wo_cons, seqK_normal, seqK_exit, seqK_ret, blkK_normal, blkK_exit, blkK_ret, condK_true, condK_false, endK_normal, endK_ret, opt_some, stepA, opV, wantedA, yieldedA, aeval, putA, gff, gtt, gft, gtf, gnt, gnf, List.getD, List.length_cons, List.length_nil, List.cons_append, List.nil_append, List.append_nil, List.set, List.getElem?_cons_zero, List.getElem?_cons_succ, List.getElem?_toArray, List.map_cons, List.map_nil, List.toList_toArray, Option.map_some, Option.map_none, Option.getD_some, Option.bind_some, Option.bind_eq_bind, Option.pure_def, binA, unA, constV, ofV, ofV1, Bool.not_true, Bool.not_false, BEq.rfl, Nat.reduceAdd, Nat.reduceSub, Nat.reduceEqDiff, List.replicate, if_true, if_false, Bool.false_eq_true, resultsA, resA, List.mapM_cons, List.mapM_nil, reduceIte]
        exact leave_inl (r' := .snil) rfl rfl (hk _ _ 0 (by simpa using IsL.nil) ⟨by omega, fun j hj => by omega, fun _ => by rw [hz] at hq; exact hq⟩)
      | false =>
        rw [hq] at cc
        have lb : loadA Tryz.prog [.cells [.int .i64 k] 3 false true, .cells [ks[k]] 25 false true] 25 (.ptr 1 0) = some ks[k] := boxes_b k ks[k]
        have ap := append_snil (P := Tryz.prog) (h := [.cells [.int .i64 k] 3 false true, .cells [ks[k]] 25 false true]) (t := 76) u76 z25 (news_one (r := r) (cap := some 1)) (by simp) (big25 (m := 1) (by omega))
        simp only [T39, hx, lx, hlt, hw, decide_true, zero3, zero25, alloc3, alloc25, storeA, st_int, st_snil, s3, z3, z25, setCells, nr, ni, Nat.zero_add, Nat.le_refl, and_self, Bool.and_self, cc, res39, lb, c77, bo, hR, ap, nr1, wp_skip, wp_label, wp_exit, wp_ret, wp_seq, wp_cond, wp_block, wp_region, wo_nil, wo_cons, seqK_normal, seqK_exit, seqK_ret, blkK_normal, blkK_exit, blkK_ret, condK_true, condK_false, endK_normal, endK_ret, opt_some, stepA, opV, wantedA, yieldedA, aeval, putA, gff, gtt, gft, gtf, gnt, gnf, List.getD, List.length_cons, List.length_nil, List.cons_append, List.nil_append, List.append_nil, List.set, List.getElem?_cons_zero, List.getElem?_cons_succ, List.getElem?_toArray, List.map_cons, List.map_nil, List.toList_toArray, Option.map_some, Option.map_none, Option.getD_some, Option.bind_some, Option.bind_eq_bind, Option.pure_def, binA, unA, constV, ofV, ofV1, Bool.not_true, Bool.not_false, BEq.rfl, Nat.reduceAdd, Nat.reduceSub, Nat.reduceEqDiff, List.replicate, if_true, if_false, Bool.false_eq_true, resultsA, resA, List.mapM_cons, List.mapM_nil, reduceIte]
        refine ⟨hi, trim_ids (t1 := T39 (.isl ls ls.length cap) a (.sl 2 0 1 1 none) ks.length (k + 1)) (t' := T39 (.isl ls ls.length cap) a (outV (k + 1)) ks.length (k + 1)) rfl (calm_cons rfl (calm_cons rfl (calm_cons rfl calm_nil))) [2]
          (by rw [T39_refs1 rfl ha.refs]; rfl) rfl (by simp) (by rw [T39_refs1 rfl ha.refs]; rfl) (by rw [T39_ren rfl ha.refs, hz]; rfl) ⟨[r], rfl, by simp [hz], fun i hi' => ?_, all' hq⟩⟩
        have : i = 0 := by simpa using hi'
        subst this
        rw [hz] at hr
        simpa using hr
    · have hne : cl.length ≠ 0 := by omega
      have e1 : outV k = .sl 0 0 k 1 none := by simp [outV, hz]
      have e2 : outH cl = [.cells cl 25 true true] := by simp [outH, hne]
      have cc : callA E 74 [.isl ls ls.length cap, .func (.func 75) [] [.ptr 1 0, .ptr 2 0]] [.cells cl 25 true true, .cells [.int .i64 k] 3 false true, .cells [ks[k]] 25 false true] = some (.bool (xs.any (other k (xss.getD k []))), [.cells cl 25 true true, .cells [.int .i64 k] 3 false true, .cells [ks[k]] 25 false true]) :=
        callA_keep (calm_cons rfl (calm_cons rfl (calm_cons rfl calm_nil))) [1, 2] rfl rfl (by simp) rfl c74 rfl
      have sh : xs.any (other k (xss.getD k [])) = true → Shared k xss xs := fun hq => ⟨by omega, heq, fun _ => hq⟩
      rw [e1, e2]
      cases hq : xs.any (other k (xss.getD k [])) with
      | true =>
        rw [hq] at cc
        simp only [T39, hx, lx, hlt, decide_true, zero3, zero25, alloc3, alloc25, storeA, st_int, st_snil, s3, z3, z25, setCells, nr, ni, Nat.zero_add, Nat.le_refl, and_self, Bool.and_self, cc, res39, hK, wp_skip, wp_label, wp_exit, wp_ret, wp_seq, wp_cond, wp_block, wp_region, wo_nil, wo_cons, seqK_normal, seqK_exit, seqK_ret, blkK_normal, blkK_exit, blkK_ret, condK_true, condK_false, endK_normal, endK_ret, opt_some, stepA, opV, wantedA, yieldedA, aeval, putA, gff, gtt, gft, gtf, gnt, gnf, List.getD, List.length_cons, List.length_nil, List.cons_append, List.nil_append, List.append_nil, List.set, List.getElem?_cons_zero, List.getElem?_cons_succ, List.getElem?_toArray, List.map_cons, List.map_nil, List.toList_toArray, Option.map_some, Option.map_none, Option.getD_some, Option.bind_some, Option.bind_eq_bind, Option.pure_def, binA, unA, constV, ofV, ofV1, Bool.not_true, Bool.not_false, BEq.rfl, Nat.reduceAdd, Nat.reduceSub, Nat.reduceEqDiff, List.replicate, if_true, if_false, Bool.false_eq_true, resultsA, resA, List.mapM_cons, List.mapM_nil, reduceIte]
        refine leave_inl (r' := .isl cl k none) ?_ rfl (hk _ cl k ?_ (sh hq))
        · simp [inl, ← hcl, List.take_of_length_le]
        · rw [← hcl]
          exact gathered_row hg (by omega) (by omega)
      | false =>
        rw [hq] at cc
        have lb : loadA Tryz.prog [.cells cl 25 true true, .cells [.int .i64 k] 3 false true, .cells [ks[k]] 25 false true] 25 (.ptr 2 0) = some ks[k] := by simp [loadA, objCells, partA, u25]
        have ap := append_own (P := Tryz.prog) (h := [.cells cl 25 true true, .cells [.int .i64 k] 3 false true, .cells [ks[k]] 25 false true]) (t := 76) (id := 0) (len := k) (cs := cl) (pr := true) u76 z25 rfl hcl (news_one (r := r) (cap := some 1)) (by simp) (big25 (m := k + 1) (by omega))
        simp only [T39, hx, lx, hlt, hw, decide_true, zero3, zero25, alloc3, alloc25, storeA, st_int, st_snil, s3, z3, z25, setCells, nr, ni, Nat.zero_add, Nat.le_refl, and_self, Bool.and_self, cc, res39, lb, c77, bo, hR, ap, nr1, wp_skip, wp_label, wp_exit, wp_ret, wp_seq, wp_cond, wp_block, wp_region, wo_nil, wo_cons, seqK_normal, seqK_exit, seqK_ret, blkK_normal, blkK_exit, blkK_ret, condK_true, condK_false, endK_normal, endK_ret, opt_some, stepA, opV, wantedA, yieldedA, aeval, putA, gff, gtt, gft, gtf, gnt, gnf, List.getD, List.length_cons, List.length_nil, List.cons_append, List.nil_append, List.append_nil, List.set, List.getElem?_cons_zero, List.getElem?_cons_succ, List.getElem?_toArray, List.map_cons, List.map_nil, List.toList_toArray, Option.map_some, Option.map_none, Option.getD_some, Option.bind_some, Option.bind_eq_bind, Option.pure_def, binA, unA, constV, ofV, ofV1, Bool.not_true, Bool.not_false, BEq.rfl, Nat.reduceAdd, Nat.reduceSub, Nat.reduceEqDiff, List.replicate, if_true, if_false, Bool.false_eq_true, resultsA, resA, List.mapM_cons, List.mapM_nil, reduceIte]
        refine ⟨hi, trim_ids (t1 := T39 (.isl ls ls.length cap) a (.sl 3 0 (k + 1) 1 none) ks.length (k + 1)) (t' := T39 (.isl ls ls.length cap) a (outV (k + 1)) ks.length (k + 1)) rfl (calm_cons rfl (calm_cons rfl (calm_cons rfl (calm_cons rfl calm_nil)))) [3]
          (by rw [T39_refs1 rfl ha.refs]; rfl) rfl (by simp) (by rw [T39_refs1 rfl ha.refs]; rfl) (by rw [T39_ren rfl ha.refs, show outV (k + 1) = .sl 0 0 (k + 1) 1 none by simp [outV]]; rfl) ⟨cl ++ [r], ?_, by simp [hcl], hg.snoc (by rw [hcl]; exact hr), all' hq⟩⟩
        rw [show outH (cl ++ [r]) = [.cells (cl ++ [r]) 25 true true] by simp [outH]]
        rfl
  · have hke : k = ks.length := by omega
    have hlt : ¬ (k : Int) < (ks.length : Int) := by omega
    have sh : Shared k xss xs := ⟨by omega, heq, fun h => by omega⟩
    by_cases hz : k = 0
    · have ecl : cl = [] := List.length_eq_zero_iff.1 (by omega)
      subst ecl
      have e1 : outV k = .snil := by simp [outV, hz]
      have e2 : outH [] = [] := rfl
      rw [e1, e2]
      simp only [T39, hlt, decide_false, res39, hK, wp_skip, wp_label, wp_exit, wp_ret, wp_seq, wp_cond, wp_block, wp_region, wo_nil, wo_cons, seqK_normal, seqK_exit, seqK_ret, blkK_normal, blkK_exit, blkK_ret, condK_true, condK_false, endK_normal, endK_ret, opt_some, stepA, opV, wantedA, yieldedA, aeval, putA, gff, gtt, gft, gtf, gnt, gnf, List.getD, List.length_cons, List.length_nil, List.cons_append, List.nil_append, List.append_nil, List.set, List.getElem?_cons_zero, List.getElem?_cons_succ, List.getElem?_toArray, List.map_cons, List.map_nil, List.toList_toArray, Option.map_some, Option.map_none, Option.getD_some, Option.bind_some, Option.bind_eq_bind, Option.pure_def, binA, unA, constV, ofV, ofV1, Bool.not_true, Bool.not_false, BEq.rfl, Nat.reduceAdd, Nat.reduceSub, Nat.reduceEqDiff, List.replicate, if_true, if_false, Bool.false_eq_true, resultsA, resA, List.mapM_cons, List.mapM_nil, reduceIte]
      exact leave_inl (r' := .snil) rfl rfl (hk _ _ k (by rw [hz]; simpa using IsL.nil) sh)
    · have hne : cl.length ≠ 0 := by omega
      have e1 : outV k = .sl 0 0 k 1 none := by simp [outV, hz]
      have e2 : outH cl = [.cells cl 25 true true] := by simp [outH, hne]
      rw [e1, e2]
      simp only [T39, hlt, decide_false, res39, hK, wp_skip, wp_label, wp_exit, wp_ret, wp_seq, wp_cond, wp_block, wp_region, wo_nil, wo_cons, seqK_normal, seqK_exit, seqK_ret, blkK_normal, blkK_exit, blkK_ret, condK_true, condK_false, endK_normal, endK_ret, opt_some, stepA, opV, wantedA, yieldedA, aeval, putA, gff, gtt, gft, gtf, gnt, gnf, List.getD, List.length_cons, List.length_nil, List.cons_append, List.nil_append, List.append_nil, List.set, List.getElem?_cons_zero, List.getElem?_cons_succ, List.getElem?_toArray, List.map_cons, List.map_nil, List.toList_toArray, Option.map_some, Option.map_none, Option.getD_some, Option.bind_some, Option.bind_eq_bind, Option.pure_def, binA, unA, constV, ofV, ofV1, Bool.not_true, Bool.not_false, BEq.rfl, Nat.reduceAdd, Nat.reduceSub, Nat.reduceEqDiff, List.replicate, if_true, if_false, Bool.false_eq_true, resultsA, resA, List.mapM_cons, List.mapM_nil, reduceIte]
      refine leave_inl (r' := .isl cl k none) ?_ rfl (hk _ cl k ?_ sh)
      · simp [inl, ← hcl, List.take_of_length_le]
      · rw [← hcl]
        exact gathered_row hg (by omega) (by omega)
end
end Am
