/-
  A part of a proved abstract machine over the model, and of what it tells of this seat's functions. Conditions: as each theorem states them.
-/
import Derived.Test.YtcmmdemeaimegaaGreatDoorSt5
namespace Go.Proofs.YtcmmdemeaimegaaGreatDoor
open Go Go.ChangeShapes Go.RowKit Go.WideShapes Am
set_option maxRecDepth 100000
set_option maxHeartbeats 40000000

theorem begins_reads (os : Os) {H : Type} (enc : TypeId × Value → H) : ∃ places, DataW.whole enc Tryz.prog ((laidWorld os).forCall (fun _ _ => 0) ⟨#[], nils, []⟩).memory Tryz.f9.params.toList Rows.auditBeginsSpec.vars Rows.auditBeginsRow.apart nils.toList 8 = some ([.nil, .nil, .nil], [], places) :=
  ⟨[], by kernel_rfl⟩

theorem begins_lifted (os : Os) (started : os.Started) (H : Type) (enc : TypeId × Value → H) (F : Stop.Interp) :
    ReturnsInHanded {} Tryz.checked os 9 .any ((OpenSpec.ofChange Rows.auditBeginsSpec).preRow enc Tryz.prog Tryz.f9 Rows.auditBeginsRow.domain Rows.auditBeginsRow.apart Rows.auditBeginsRow.laid)
      (((OpenSpec.ofChange Rows.auditBeginsSpec).at F).post enc Tryz.prog Tryz.f9 Rows.auditBeginsRow.apart Rows.auditBeginsRow.fresh Rows.auditBeginsRow.handsOn Rows.auditBeginsRow.again) := by
  obtain ⟨places, hx⟩ := begins_reads os enc
  refine returnsInHanded_of_row (C := Tryz.checked) (s := OpenSpec.ofChange Rows.auditBeginsSpec) own started (by kernel_rfl) Tryz.func9
    (witness_row_at (enc := enc) (C := Tryz.checked) false (laidWorld os) nils rfl (by kernel_rfl) (by kernel_rfl) (by kernel_rfl)
      (OpenSpec.preRow_of_cond 8 hx (by kernel_rfl) (fun k hk => by cases hk) (by kernel_rfl) (laidWorld_met os _))) ?_
  intro W base args ds gs before hval hW _ _ _ hL _ _
  exact begins_contract H enc W base args ds gs before hval hW

theorem begins_f1 : Tryz.pinned.checked.prog.funcNamed Rows.auditBeginsRow.func = some 9 := by kernel_rfl
theorem begins_f2 : joinedFacts Tryz.pinned.checked.prog 9 Tryz.f9 (OpenSpec.ofChange Rows.auditBeginsSpec).bare Rows.auditBeginsRow = true := by
  unfold joinedFacts
  simp only [Bool.and_eq_true]
  and_intros
  all_goals (as_aux_lemma => kernel_rfl)
end Go.Proofs.YtcmmdemeaimegaaGreatDoor
