/-
  A part of a proved abstract machine over the model, and of what it tells of this seat's functions. Conditions: as each theorem states them.
-/
import Derived.Test.YtcmmdemeaimegaaGreatDoorSt1
import Derived.Test.YtcmmdemeaimegaaGreatDoorSt3
import Derived.Test.YtcmmdemeaimegaaGreatDoorAm26
import Derived.Test.YtcmmdemeaimegaaGreatDoorCards
import Derived.Test.YtcmmdemeaimegaaGreatDoorTie
import Derived.WalkKit
import Derived.Deep.DeepHandedRow
namespace Go.Proofs.YtcmmdemeaimegaaGreatDoor
open Go Go.ChangeShapes Go.RowKit Go.WideShapes Am
set_option maxRecDepth 100000
set_option maxHeartbeats 40000000

theorem own : ownKnob Tryz.prog.godebug = none := by kernel_rfl
theorem lo : laidOutB Tryz.prog = true := by kernel_rfl
theorem c25 : Tryz.prog.cellsOf 25 = 1 := by kernel_rfl
theorem c5 : Tryz.prog.cellsOf 5 = 1 := by kernel_rfl
theorem b25 : Tryz.prog.bytesOf 25 = 24 := by kernel_rfl
theorem b5 : Tryz.prog.bytesOf 5 = 1 := by kernel_rfl
theorem read76 : Tryz.prog.readableRec 76 = true ∧ 76 < Tryz.prog.types.size := ⟨by kernel_rfl, of_decide_eq_true (by kernel_rfl)⟩
theorem stand76 : Tryz.prog.wantsStandIn 76 = false := by kernel_rfl
theorem looks : true = Tryz.pinned.checked.prog.looks [] := by kernel_rfl
theorem main_is : Tryz.pinned.checked.prog.mainIs = some (true, "a1466d6f130501e3b5cc440aae60509b7300028bd32af7d4dc8e6dc415007a21".toList) := by kernel_rfl

theorem arel3 {w : World} {a b c : AV} {x y z : Value} (h0 : VRel (fun _ => False) w (fun _ => none) a x) (h1 : VRel (fun _ => False) w (fun _ => none) b y) (h2 : VRel (fun _ => False) w (fun _ => none) c z) :
    ARel (fun _ => False) w (fun _ => none) [a, b, c] #[x, y, z] := by
  refine ⟨rfl, fun i hi => ?_⟩
  match i, hi with
  | 0, _ => exact h0
  | 1, _ => exact h1
  | 2, _ => exact h2

/-- One argument: a list of lists of bytes. -/
theorem open_lists {H : Type} {enc : TypeId × Value → H} {W : World} {base : Nat} {sp : Nat → Bool} {held : Bool} {v : Value} {d : DataW H} {p : List MemPlace} (hv : Value.okWide Tryz.prog W .any base 76 v) (h : DataW.Trod enc Tryz.prog W 0 sp held 76 v d p) :
    ∃ a ks xss, IsL a ks xss ∧ (∀ φ, VRel (fun _ => False) W φ a v) ∧ ((∀ n ∈ d.weights Tryz.prog 76, n ≤ reachBytes) → ks.length * 24 ≤ 140737488355328 ∧ ∀ i, (xss.getD i []).length ≤ 140737488355328) := by
  obtain ⟨ad, len, cap, rfl⟩ := okWide_slice u76 hv
  obtain ⟨n, hn⟩ := h
  obtain ⟨x, a, ks, xss, e, g, r, q⟩ := lists_of_trod u76 u25 u5 c25 c5 hn
  have hx : x = .slice ad len cap := by simpa [Value.cells] using e.symm
  subst hx
  refine ⟨a, ks, xss, g, r, fun hw => ?_⟩
  obtain ⟨q1, q2⟩ := q hw
  have hr : reachBytes ≤ 140737488355328 := by decide
  rw [b25] at q1
  refine ⟨by omega, fun i => ?_⟩
  have := q2 i
  rw [b5] at this
  omega

/-! a world for the witness -/
def flat1 : DataW Unit → List Value
  | .lit (.int k n) => [.int k n]
  | _ => []
def flat2 : DataW Unit → List Value
  | .agg ps => ps.flatMap fun d => match d with
    | .agg qs => qs.flatMap flat1
    | d => flat1 d
  | _ => []
noncomputable def rt : TypeId := ((Tryz.prog.cutTypes.find? (·.1 == "internal/reflectlite.rtype")).map (·.2)).getD 0
noncomputable def et : Nat := ((List.range Tryz.prog.types.size).filter fun t => Tryz.prog.rowNamed t [101, 114, 114, 111, 114]).headD 0
noncomputable def laidWorld (os : Os) : World :=
  let w0 := World.holding Tryz.prog os ⟨#[], #[], []⟩
  let lay (g : Nat) (cs : List Value) (h : Array Obj) : Array Obj := h.modify g fun
      | .cells _ t frozen => .cells cs.toArray t frozen
      | o => o
  { w0 with heap := lay 3 (flat2 Rows.laid_unicode_utf8_acceptRanges) (lay 2 (flat2 Rows.laid_unicode_utf8_first) (lay 0 [.iface rt (.agg #[.pointer (some ⟨Tryz.prog.globals.size, et, none⟩)])] w0.heap)) }

def laidAll : List (String × DataW Unit) := [("unicode/utf8.acceptRanges", Rows.laid_unicode_utf8_acceptRanges), ("errors.errorType", Rows.laid_errors_errorType), ("unicode/utf8.first", Rows.laid_unicode_utf8_first)]
theorem laidWorld_met (os : Os) (args : Array Value) : laidMetH Tryz.prog laidAll ((laidWorld os).forCall (fun _ _ => 0) ⟨#[], args, []⟩).memory :=
  laidMetH_of_parts (laidMet_of_run' 8 (by kernel_rfl) (by kernel_rfl)) (by kernel_rfl)
end Go.Proofs.YtcmmdemeaimegaaGreatDoor
