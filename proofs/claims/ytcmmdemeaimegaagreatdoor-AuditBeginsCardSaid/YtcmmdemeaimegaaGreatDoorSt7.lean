/-
  PROVED: whatever three lists of octets undercroftlaw23.AuditBegins is called with, it answers true and leaves what it was handed as it was (the tied card). Conditions: as each theorem states them.
-/
import Derived.Test.YtcmmdemeaimegaaGreatDoorSt6b
namespace Go.Proofs.YtcmmdemeaimegaaGreatDoor
open Go Go.ChangeShapes Go.RowKit Go.WideShapes Am
set_option maxRecDepth 100000
set_option maxHeartbeats 40000000
theorem begins_f3 : Tryz.f9.isInstance Tryz.pinned.checked.prog Rows.auditBeginsRow.origin Rows.auditBeginsRow.targs := of_decide_eq_true (by kernel_rfl)
theorem begins_f4 : Tryz.f9.isWrapper Tryz.pinned.checked.prog Rows.auditBeginsRow.wrapper Rows.auditBeginsRow.mainSum := by unfold Func.isWrapper; first | (rw [if_pos (by decide +kernel)]; kernel_rfl) | (rw [if_neg (by decide +kernel)]; exact ⟨rfl, rfl⟩)
theorem begins_said : Rows.AuditBeginsSaid :=
  OpenClaim.holds_of_cond 9 Tryz.f9 rfl rfl rfl rfl rfl rfl rfl ⟨rfl, rfl, rfl, rfl, rfl⟩ rfl rfl rfl rfl rfl begins_f1 Tryz.func9 begins_f2 begins_f3 begins_f4
    (fun os started H enc _ F => by rw [OpenClaim.pre_eq_preRow]; exact begins_lifted os started H enc F)

theorem begins_plain (f : FuncId) (fn : Func) (hf : Tryz.pinned.checked.prog.funcNamed "undercroft/undercroftlaw23.AuditBegins" = some f) (hfn : Tryz.pinned.checked.prog.funcs[f]? = some fn) :
    true = Tryz.pinned.checked.prog.looks [] ∧ ∀ (j : Nat) t, fn.params[j]? = some t → Tryz.pinned.checked.prog.wantsStandIn t = false := by
  obtain rfl : f = 9 := Option.some.inj (begins_f1.symm.trans hf) |>.symm
  obtain rfl : fn = Tryz.f9 := (Option.some.inj (Tryz.func9.symm.trans hfn)).symm
  refine ⟨by kernel_rfl, fun j t ht => ?_⟩
  have hm : t ∈ ([76, 76, 76] : List TypeId) := by
    have := Array.mem_of_getElem? ht
    have e : Tryz.f9.params = #[76, 76, 76] := rfl
    rw [e] at this
    simpa using this
  simp only [List.mem_cons, List.mem_nil_iff, or_false, or_self] at hm
  subst hm
  exact (show Tryz.prog.wantsStandIn 76 = false by kernel_rfl)
theorem begins_f5 : Rows.auditBeginsRow.wfByText (OpenSpec.ofChange Rows.auditBeginsSpec) = true := by kernel_rfl
theorem begins_f6 : Tryz.pinned.checked.prog.mainIs = some (true, "a1466d6f130501e3b5cc440aae60509b7300028bd32af7d4dc8e6dc415007a21".toList) := by kernel_rfl
theorem begins_f7 : false = Rows.auditBeginsRow.goesBy Tryz.pinned.checked.prog := by kernel_rfl

/-- THE CARD. -/
theorem begins_card : Rows.AuditBeginsCardSaid :=
  Claim7.holds_tied_plain_at .later [] _ _ _ _ begins_said (fun _ h => by cases h) begins_f5 (fun _ h => by cases h) auditBegins_row_tie rfl ⟨rfl, rfl⟩ begins_f6 rfl begins_plain begins_f7
end Go.Proofs.YtcmmdemeaimegaaGreatDoor
#print axioms Go.Proofs.YtcmmdemeaimegaaGreatDoor.begins_card
