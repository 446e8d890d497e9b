/-
  A part of a proved abstract machine over the model, and of what it tells of this seat's functions. Conditions: as each theorem states them.
-/
import Derived.Test.YtcmmdemeaimegaaGreatDoorSt2
import Derived.Test.YtcmmdemeaimegaaGreatDoorSt3
namespace Am
open Go Go.Proofs
set_option linter.unusedSimpArgs false
set_option linter.unusedVariables false
/-- The slots that live at a loop's head. -/
def loops1 (f blk : Nat) : Option (List Nat) := if f = 78 ∧ blk = 0 then some [1, 2, 15, 16, 17] else if (f = 29 ∨ f = 41) ∧ blk = 0 then some [0, 1, 5] else none
def N1 : Notes := { keep := fun _ => false, rows := fun _ => false, loop := loops1 }
def L1 : Nat := 9223372036854775808

theorem ev {n f : Nat} {args : List AV} {v : AV} (hf : f ≠ 38) (h : Opt (bodyA Tryz.prog N1 (evalA Tryz.prog N1 L1 X1 n) L1 f args []) (· = (v, []))) : evalA Tryz.prog N1 L1 X1 (n + 1) f args [] = some (v, []) := by
  rw [evalA]
  have : X1 f args [] = none := by unfold X1; rw [if_neg (fun hc => hf hc.1)]
  dsimp only
  rw [this]
  obtain ⟨x, hx, rfl⟩ := h
  exact hx

theorem e76 (n : Nat) {a b : AV} {xs ys : List UInt8} (ha : IsB a xs) (hb : IsB b ys) : evalA Tryz.prog N1 L1 X1 (n + 1) 76 [a, b] [] = some (.bool (xs == ys), []) := ev (by decide) (w76 ha hb rfl)
theorem e29 (n : Nat) {a b : AV} {xs ys : List UInt8} (ha : IsB a xs) (hb : IsB b ys) : evalA Tryz.prog N1 L1 X1 (n + 1) 29 [a, b] [] = some (.bool (xs == ys), []) := ev (by decide) (w29 rfl ha hb (by have := ha.len; unfold L1; omega) rfl)
theorem e78 (n : Nat) {a b : AV} {cs ds : List AV} {xss yss : List (List UInt8)} (ha : IsL a cs xss) (hb : IsL b ds yss) : evalA Tryz.prog N1 L1 X1 (n + 2) 78 [a, b, .func (.func 76) [] []] [] = some (.bool (xss == yss), []) :=
  ev (by decide) (w78 rfl (fun _ _ _ _ h1 h2 => e76 n h1 h2) ha hb (by have := ha.len.2; unfold L1; omega) rfl)
theorem e40 (n : Nat) {a b : AV} {cs ds : List AV} {xss yss : List (List UInt8)} (ha : IsL a cs xss) (hb : IsL b ds yss) : evalA Tryz.prog N1 L1 X1 (n + 3) 40 [a, b] [] = some (.bool (begins xss yss), []) :=
  ev (by decide) (w40 (fun _ _ _ _ _ _ h1 h2 => e78 n h1 h2) ha hb rfl)
theorem e41 (n : Nat) {a b : AV} {cs ds : List AV} {xss yss : List (List UInt8)} (ha : IsL a cs xss) (hb : IsL b ds yss) : evalA Tryz.prog N1 L1 X1 (n + 2) 41 [a, b] [] = some (.bool (xss == yss), []) :=
  ev (by decide) (w41 rfl (fun _ _ _ _ h1 h2 => e29 n h1 h2) ha hb (by have := ha.len.2; unfold L1; omega) rfl)
theorem e38 (n : Nat) : evalA Tryz.prog N1 L1 X1 (n + 1) 38 [] [] = some (.bool true, []) := by rw [evalA]; rfl
theorem e9 {a b c : AV} {cs ds es : List AV} {xss yss zss : List (List UInt8)} (ha : IsL a cs xss) (hb : IsL b ds yss) (hc : IsL c es zss) : evalA Tryz.prog N1 L1 X1 4 9 [a, b, c] [] = some (.bool true, []) :=
  ev (by decide) (w9 (e38 2) (fun _ _ _ _ _ _ h1 h2 => e40 0 h1 h2) (fun _ _ _ _ _ _ h1 h2 _ => e41 1 h1 h2) ha hb hc (by have := ha.len.2; unfold L1; omega) rfl)

theorem begins_goes {a b c : AV} {cs ds es : List AV} {xss yss zss : List (List UInt8)} (ha : IsL a cs xss) (hb : IsL b ds yss) (hc : IsL c es zss) {w : World} {vs : Array Value} (hv : ARel (fun _ => False) w (fun _ => none) [a, b, c] vs) :
    CallGoes Tryz.prog 9 vs w (Lands (fun _ => False) w (fun _ => none) [] (.bool true) []) :=
  eval_ok named soundX1 L1 4 _ _ _ _ _ (e9 ha hb hc) _ _ _ _ (hrel_none w) hv
end Am
