/-
  A part of a proved abstract machine over the model, and of what it tells of this seat's functions. Conditions: as each theorem states them.
-/
import Derived.Test.YtcmmdemeaimegaaGreatDoorSt4
import Derived.Test.YtcmmdemeaimegaaGreatDoorAm26
import Derived.Test.YtcmmdemeaimegaaGreatDoorCards
import Derived.Test.YtcmmdemeaimegaaGreatDoorTie
import Derived.WalkKit
import Derived.Deep.DeepHandedRow
namespace Go.Proofs.YtcmmdemeaimegaaGreatDoor
open Go Go.ChangeShapes Go.RowKit Go.WideShapes Am
set_option maxRecDepth 100000
set_option maxHeartbeats 40000000

theorem own : ownKnob Tryz.prog.godebug = none := by kernel_rfl
theorem lo : laidOutB Tryz.prog = true := by kernel_rfl
theorem c25 : Tryz.prog.cellsOf 25 = 1 := by kernel_rfl
theorem c5 : Tryz.prog.cellsOf 5 = 1 := by kernel_rfl
theorem read76 : Tryz.prog.readableRec 76 = true ∧ 76 < Tryz.prog.types.size := ⟨by kernel_rfl, of_decide_eq_true (by kernel_rfl)⟩

theorem arel3 {w : World} {a b c : AV} {x y z : Value} (h0 : VRel (fun _ => False) w (fun _ => none) a x) (h1 : VRel (fun _ => False) w (fun _ => none) b y) (h2 : VRel (fun _ => False) w (fun _ => none) c z) :
    ARel (fun _ => False) w (fun _ => none) [a, b, c] #[x, y, z] := by
  refine ⟨rfl, fun i hi => ?_⟩
  match i, hi with
  | 0, _ => exact h0
  | 1, _ => exact h1
  | 2, _ => exact h2

/-- One argument: a list of lists of bytes. -/
theorem open_lists {H : Type} {enc : TypeId × Value → H} {W : World} {base : Nat} {sp : Nat → Bool} {held : Bool} {v : Value} {d : DataW H} {p : List MemPlace} (hv : Value.okWide Tryz.prog W .any base 76 v) (h : DataW.Trod enc Tryz.prog W 0 sp held 76 v d p) :
    ∃ a ks xss, IsL a ks xss ∧ ∀ φ, VRel (fun _ => False) W φ a v := by
  obtain ⟨ad, len, cap, rfl⟩ := okWide_slice u76 hv
  obtain ⟨n, hn⟩ := h
  obtain ⟨x, a, ks, xss, e, g, r⟩ := lists_of_trod u76 u25 u5 c25 c5 hn
  have hx : x = .slice ad len cap := by simpa [Value.cells] using e.symm
  subst hx
  exact ⟨a, ks, xss, g, r⟩

theorem begins_contract (H : Type) (enc : TypeId × Value → H) (W : World) (base : Nat) (args : Array Value) (ds gs : List (DataW H)) (before : List MemPlace)
    (hval0 : ∀ (j : Nat) t v, Tryz.f9.params[j]? = some t → args[j]? = some v → Value.okWide Tryz.prog W .any base t v)
    (hW : DataW.Whole enc Tryz.prog Tryz.f9.params.toList Rows.auditBeginsSpec.vars Rows.auditBeginsRow.apart W args.toList ds gs before) :
    Calls Tryz.prog 9 args W fun e W' => ∃ v, e = .returned v ∧ Rows.auditBeginsSpec.post enc Tryz.prog Tryz.f9 Rows.auditBeginsRow.apart Rows.auditBeginsRow.fresh Rows.auditBeginsRow.handsOn Rows.auditBeginsRow.again W args v W' := by
  have hW' := hW
  obtain ⟨p, q, hA0, hV, rfl, hfz, hnd⟩ := hW
  have hA : DataW.TrodAll enc Tryz.prog W 0 (fun _ => true) true [76, 76, 76] args.toList ds p := hA0
  have hval : ∀ (j : Nat) t v, (#[76, 76, 76] : Array TypeId)[j]? = some t → args[j]? = some v → Value.okWide Tryz.prog W .any base t v := hval0
  obtain ⟨v0, v1, v2, d0, d1, d2, p0, p1, p2, rfl, rfl, rfl, h0, h1, h2⟩ := trodAll_three hA
  have hV' : DataW.TrodVars enc Tryz.prog W (fun _ => true) [] gs q := hV
  obtain ⟨rfl, rfl⟩ := trodVars_none hV'
  obtain ⟨a0, k0, x0, g0, r0⟩ := open_lists (hval 0 76 v0 rfl rfl) h0
  obtain ⟨a1, k1, x1, g1, r1⟩ := open_lists (hval 1 76 v1 rfl rfl) h1
  obtain ⟨a2, k2, x2, g2, r2⟩ := open_lists (hval 2 76 v2 rfl rfl) h2
  refine law_contract (s := Rows.auditBeginsSpec) Tryz.func9 (named _ _ Tryz.func9) rfl lo (fun t ht => ?_) Tryz.underlying4 rfl rfl hW' ⟨rfl, rfl, rfl⟩ (M := fun _ => False) (begins_goes g0 g1 g2 (arel3 (r0 _) (r1 _) (r2 _)))
  have ht' : t ∈ ([76, 76, 76] : List TypeId) := ht
  simp only [List.mem_cons, List.mem_nil_iff, or_false, or_self] at ht'
  subst ht'
  exact read76

/-! a world for the witness -/
def flat1 : DataW Unit → List Value
  | .lit (.int k n) => [.int k n]
  | _ => []
def flat2 : DataW Unit → List Value
  | .agg ps => ps.flatMap fun d => match d with
    | .agg qs => qs.flatMap flat1
    | d => flat1 d
  | _ => []

theorem gErr : Tryz.prog.globalNamed "errors.errorType" = some 0 := by kernel_rfl
theorem gFirst : Tryz.prog.globalNamed "unicode/utf8.first" = some 2 := by kernel_rfl
theorem gRanges : Tryz.prog.globalNamed "unicode/utf8.acceptRanges" = some 3 := by kernel_rfl
noncomputable def rt : TypeId := ((Tryz.prog.cutTypes.find? (·.1 == "internal/reflectlite.rtype")).map (·.2)).getD 0
noncomputable def et : Nat := ((List.range Tryz.prog.types.size).filter fun t => Tryz.prog.rowNamed t [101, 114, 114, 111, 114]).headD 0

noncomputable def laidWorld (os : Os) : World :=
  let w0 := World.holding Tryz.prog os ⟨#[], #[], []⟩
  let lay (g : Nat) (cs : List Value) (h : Array Obj) : Array Obj := h.modify g fun
      | .cells _ t frozen => .cells cs.toArray t frozen
      | o => o
  { w0 with heap := lay 3 (flat2 Rows.laid_unicode_utf8_acceptRanges) (lay 2 (flat2 Rows.laid_unicode_utf8_first) (lay 0 [.iface rt (.agg #[.pointer (some ⟨Tryz.prog.globals.size, et, none⟩)])] w0.heap)) }

def nils : Array Value := #[.slice none 0 0, .slice none 0 0, .slice none 0 0]
theorem laidWorld_met (os : Os) (args : Array Value) : laidMetH Tryz.prog Rows.auditBeginsRow.laid ((laidWorld os).forCall (fun _ _ => 0) ⟨#[], args, []⟩).memory :=
  laidMetH_of_parts (laidMet_of_run' 8 (by kernel_rfl) (by kernel_rfl)) (by kernel_rfl)
end Go.Proofs.YtcmmdemeaimegaaGreatDoor
