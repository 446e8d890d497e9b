/-
  A part of a proved abstract machine over the model, and of what it tells of this seat's functions. Conditions: as each theorem states them.
-/
import Derived.Test.YtcmmdemeaimegaaGreatDoorAm23
import Derived.KernelRfl
import Derived.Test.YtcmmdemeaimegaaGreatDoorProg
namespace Am
open Go Go.Proofs
def keepL : List Nat := [123, 229, 94, 91, 92, 93, 211]
def rowsL : List Nat := [56, 38]
def N0 : Notes := { keep := fun f => keepL.contains f, rows := fun f => rowsL.contains f, loop := fun _ _ => none }
def X0 : Env := fun _ _ _ => none
theorem aliveA : evalA Tryz.prog N0 1000 X0 14 38 [] [] = some (.bool true, []) := by kernel_rfl
theorem named : Am.Named Tryz.prog := by
  have h : Tryz.prog.funcs.all (fun fn => !(fn.name == "runtime.NumGoroutine")) = true := by kernel_rfl
  intro f fn hf
  have := Array.all_eq_true_iff_forall_mem.1 h fn (Array.mem_of_getElem? hf)
  simpa using this

/-- law23.alive answers true. -/
def X1 : Env := fun f args h => if f = 38 ∧ args.length = 0 ∧ h.length = 0 then some (.bool true, []) else none
theorem soundX1 : Sound Tryz.prog X1 := by
  intro f args h r h' hx
  unfold X1 at hx
  split at hx
  · rename_i hc
    obtain ⟨rfl, h1, h2⟩ := hc
    cases hx
    have e1 : args = [] := List.length_eq_zero_iff.1 h1
    have e2 : h = [] := List.length_eq_zero_iff.1 h2
    subst e1; subst e2
    exact eval_ok named sound_none 1000 14 _ _ _ _ _ aliveA
  · cases hx

/-- The world without anything of ours. -/
theorem hrel_none (w : World) : HRel (fun _ => False) w (fun _ => none) [] := 
  ⟨⟨fun _ _ h => (by cases h), fun _ (h : False) => h.elim⟩, fun _ _ h => (by cases h), fun _ h => (by simp at h), fun _ _ _ h => (by cases h)⟩
end Am
