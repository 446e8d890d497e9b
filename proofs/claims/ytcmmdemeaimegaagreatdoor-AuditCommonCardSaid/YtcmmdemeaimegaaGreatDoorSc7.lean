/-
  PROVED: whatever three lists of octets undercroftlaw23.AuditCommon is called with, it answers true and leaves what it was handed as it was (the tied card). Conditions: as each theorem states them.
-/
import Derived.Test.YtcmmdemeaimegaaGreatDoorSc6
namespace Go.Proofs.YtcmmdemeaimegaaGreatDoor
open Go Go.ChangeShapes Go.RowKit Go.WideShapes Am
set_option maxRecDepth 100000
set_option maxHeartbeats 40000000

theorem auditCommon_contract (H : Type) (enc : TypeId × Value → H) (W : World) (base : Nat) (args : Array Value) (ds gs : List (DataW H)) (before : List MemPlace)
    (hval0 : ∀ (j : Nat) t v, Tryz.f8.params[j]? = some t → args[j]? = some v → Value.okWide Tryz.prog W .any base t v)
    (hW : DataW.Whole enc Tryz.prog Tryz.f8.params.toList Rows.auditCommonSpec.vars Rows.auditCommonRow.apart W args.toList ds gs before)
    (hwt : (DataW.weightsEach Tryz.prog (Tryz.f8.params.toList ++ (OpenSpec.ofChange Rows.auditCommonSpec).bare.plain.varTypes Tryz.prog) (ds ++ gs)).all (· ≤ reachBytes) = true) :
    Calls Tryz.prog 8 args W fun e W' => ∃ v, e = .returned v ∧ Rows.auditCommonSpec.post enc Tryz.prog Tryz.f8 Rows.auditCommonRow.apart Rows.auditCommonRow.fresh Rows.auditCommonRow.handsOn Rows.auditCommonRow.again W args v W' := by
  have hW' := hW
  obtain ⟨p, q, hA0, hV, rfl, hfz, hnd⟩ := hW
  have hA : DataW.TrodAll enc Tryz.prog W 0 (fun _ => true) true [76, 76, 76] args.toList ds p := hA0
  have hval : ∀ (j : Nat) t v, (#[76, 76, 76] : Array TypeId)[j]? = some t → args[j]? = some v → Value.okWide Tryz.prog W .any base t v := hval0
  obtain ⟨v0, v1, v2, d0, d1, d2, p0, p1, p2, rfl, rfl, rfl, h0, h1, h2⟩ := trodAll_three hA
  have hV' : DataW.TrodVars enc Tryz.prog W (fun _ => true) [] gs q := hV
  obtain ⟨rfl, rfl⟩ := trodVars_none hV'
  obtain ⟨a0, k0, x0, g0, r0, q0⟩ := open_lists (hval 0 76 v0 rfl rfl) h0
  obtain ⟨a1, k1, x1, g1, r1, q1⟩ := open_lists (hval 1 76 v1 rfl rfl) h1
  obtain ⟨a2, k2, x2, g2, r2, q2⟩ := open_lists (hval 2 76 v2 rfl rfl) h2
  have w0 : ∀ n ∈ d0.weights Tryz.prog 76, n ≤ reachBytes := fun n hn => by
    have := List.all_eq_true.1 hwt n (DataW.weights_mem_each (j := 0) (t := 76) (d := d0) rfl rfl n hn)
    simpa using this
  obtain ⟨m1, m2⟩ := q0 w0
  refine law_contract (s := Rows.auditCommonSpec) Tryz.func8 (named _ _ Tryz.func8) rfl lo (fun t ht => ?_) Tryz.underlying4 rfl rfl hW' ⟨rfl, rfl, rfl⟩ (M := fun _ => False) (common_goes g0 g1 g2 m2 m1 (arel3 (r0 _) (r1 _) (r2 _)))
  have ht' : t ∈ ([76, 76, 76] : List TypeId) := ht
  simp only [List.mem_cons, List.mem_nil_iff, or_false, or_self] at ht'
  subst ht'
  exact read76
theorem auditCommon_stand (t : TypeId) (hm : t ∈ ([76, 76, 76] : List TypeId)) : Tryz.prog.wantsStandIn t = false := by
  simp only [List.mem_cons, List.mem_nil_iff, or_false, or_self] at hm
  subst hm
  exact stand76
set_option linter.unusedVariables false
def auditCommon_nils : Array Value := #[.slice none 0 0, .slice none 0 0, .slice none 0 0]
theorem auditCommon_reads (os : Os) {H : Type} (enc : TypeId × Value → H) : ∃ places, DataW.whole enc Tryz.prog ((laidWorld os).forCall (fun _ _ => 0) ⟨#[], auditCommon_nils, []⟩).memory Tryz.f8.params.toList Rows.auditCommonSpec.vars Rows.auditCommonRow.apart auditCommon_nils.toList 8 = some ([.nil, .nil, .nil], [], places) :=
  ⟨[], by kernel_rfl⟩
theorem auditCommon_lifted (os : Os) (started : os.Started) (H : Type) (enc : TypeId × Value → H) (F : Stop.Interp) :
    ReturnsInHanded {} Tryz.checked os 8 .any ((OpenSpec.ofChange Rows.auditCommonSpec).preRow enc Tryz.prog Tryz.f8 Rows.auditCommonRow.domain Rows.auditCommonRow.apart Rows.auditCommonRow.laid)
      (((OpenSpec.ofChange Rows.auditCommonSpec).at F).post enc Tryz.prog Tryz.f8 Rows.auditCommonRow.apart Rows.auditCommonRow.fresh Rows.auditCommonRow.handsOn Rows.auditCommonRow.again) := by
  obtain ⟨places, hx⟩ := auditCommon_reads os enc
  refine returnsInHanded_of_row (C := Tryz.checked) (s := OpenSpec.ofChange Rows.auditCommonSpec) own started (by kernel_rfl) Tryz.func8
    (witness_row_at (enc := enc) (C := Tryz.checked) false (laidWorld os) auditCommon_nils rfl (by kernel_rfl) (by kernel_rfl) (by kernel_rfl)
      (OpenSpec.preRow_of_cond 8 hx (by kernel_rfl) (fun k hk => by cases hk) (by kernel_rfl) (laidWorld_met os _))) ?_
  intro W base args ds gs before hval hW _ _ hwt hL _ _
  exact auditCommon_contract H enc W base args ds gs before hval hW hwt

theorem auditCommon_f1 : Tryz.pinned.checked.prog.funcNamed Rows.auditCommonRow.func = some 8 := by kernel_rfl
theorem auditCommon_f2 : joinedFacts Tryz.pinned.checked.prog 8 Tryz.f8 (OpenSpec.ofChange Rows.auditCommonSpec).bare Rows.auditCommonRow = true := by
  unfold joinedFacts
  simp only [Bool.and_eq_true]
  and_intros
  all_goals (as_aux_lemma => kernel_rfl)
theorem auditCommon_f3 : Tryz.f8.isInstance Tryz.pinned.checked.prog Rows.auditCommonRow.origin Rows.auditCommonRow.targs := of_decide_eq_true (by kernel_rfl)
theorem auditCommon_f4 : Tryz.f8.isWrapper Tryz.pinned.checked.prog Rows.auditCommonRow.wrapper Rows.auditCommonRow.mainSum := by unfold Func.isWrapper; first | (rw [if_pos (by decide +kernel)]; kernel_rfl) | (rw [if_neg (by decide +kernel)]; exact ⟨rfl, rfl⟩)
theorem auditCommon_said : Rows.AuditCommonSaid :=
  OpenClaim.holds_of_cond 8 Tryz.f8 rfl rfl rfl rfl rfl rfl rfl ⟨rfl, rfl, rfl, rfl, rfl⟩ rfl rfl rfl rfl rfl auditCommon_f1 Tryz.func8 auditCommon_f2 auditCommon_f3 auditCommon_f4
    (fun os started H enc _ F => by rw [OpenClaim.pre_eq_preRow]; exact auditCommon_lifted os started H enc F)

theorem auditCommon_plain (f : FuncId) (fn : Func) (hf : Tryz.pinned.checked.prog.funcNamed "undercroft/undercroftlaw23.AuditCommon" = some f) (hfn : Tryz.pinned.checked.prog.funcs[f]? = some fn) :
    true = Tryz.pinned.checked.prog.looks [] ∧ ∀ (j : Nat) t, fn.params[j]? = some t → Tryz.pinned.checked.prog.wantsStandIn t = false := by
  obtain rfl : f = 8 := Option.some.inj (auditCommon_f1.symm.trans hf) |>.symm
  obtain rfl : fn = Tryz.f8 := (Option.some.inj (Tryz.func8.symm.trans hfn)).symm
  refine ⟨looks, fun j t ht => ?_⟩
  have hm : t ∈ ([76, 76, 76] : List TypeId) := by
    have := Array.mem_of_getElem? ht
    have e : Tryz.f8.params = #[76, 76, 76] := rfl
    rw [e] at this
    simpa using this
  exact auditCommon_stand t hm
theorem auditCommon_f5 : Rows.auditCommonRow.wfByText (OpenSpec.ofChange Rows.auditCommonSpec) = true := by kernel_rfl
theorem auditCommon_f7 : false = Rows.auditCommonRow.goesBy Tryz.pinned.checked.prog := by kernel_rfl

/-- THE CARD. -/
theorem auditCommon_card : Rows.AuditCommonCardSaid :=
  Claim7.holds_tied_plain_at .later [] _ _ _ _ auditCommon_said (fun _ h => by cases h) auditCommon_f5 (fun _ h => by cases h) auditCommon_row_tie rfl ⟨rfl, rfl⟩ main_is rfl auditCommon_plain auditCommon_f7
end Go.Proofs.YtcmmdemeaimegaaGreatDoor
#print axioms Go.Proofs.YtcmmdemeaimegaaGreatDoor.auditCommon_card
