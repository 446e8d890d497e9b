/-
  A part of a proved abstract machine over the model, and of what it tells of this seat's functions. Conditions: as each theorem states them.
-/
import Derived.Test.YtcmmdemeaimegaaGreatDoorSc5
import Derived.Test.YtcmmdemeaimegaaGreatDoorSb1
namespace Am
open Go Go.Proofs
set_option linter.unusedSimpArgs false
set_option linter.unusedVariables false
/-- The slots that live at a loop's head. -/
def loops2 (f blk : Nat) : Option (List Nat) := if f = 78 ∧ blk = 0 then some [1, 2, 15, 16, 17] else if f = 139 ∧ blk = 0 then some [0, 1, 7, 8] else if f = 39 ∧ blk = 0 then some [0, 3, 12, 13, 14] else none
def N2 : Notes := { keep := fun _ => false, rows := fun _ => false, loop := loops2 }
def L2 : Nat := 9223372036854775808

theorem ev2 {n f : Nat} {args : List AV} {h : List AObj} {r : AV × List AObj} (hf : f ≠ 38) (hb : Opt (bodyA Tryz.prog N2 (evalA Tryz.prog N2 L2 X1 n) L2 f args h) (· = r)) : evalA Tryz.prog N2 L2 X1 (n + 1) f args h = some r := by
  rw [evalA]
  have : X1 f args h = none := by unfold X1; rw [if_neg (fun hc => hf hc.1)]
  dsimp only
  rw [this]
  obtain ⟨x, hx, rfl⟩ := hb
  exact hx
theorem ev2' {n f : Nat} {args : List AV} {h : List AObj} {K : AV × List AObj → Prop} (hf : f ≠ 38) (hb : Opt (bodyA Tryz.prog N2 (evalA Tryz.prog N2 L2 X1 n) L2 f args h) K) : ∃ r, K r ∧ evalA Tryz.prog N2 L2 X1 (n + 1) f args h = some r := by
  obtain ⟨x, hx, hk⟩ := hb
  exact ⟨x, hk, ev2 hf ⟨x, hx, rfl⟩⟩

theorem f76 (n : Nat) {a b : AV} {xs ys : List UInt8} (ha : IsB a xs) (hb : IsB b ys) : evalA Tryz.prog N2 L2 X1 (n + 1) 76 [a, b] [] = some (.bool (xs == ys), []) := ev2 (by decide) (w76 ha hb rfl)
theorem f78 (n : Nat) {a b : AV} {cs ds : List AV} {xss yss : List (List UInt8)} (ha : IsL a cs xss) (hb : IsL b ds yss) : evalA Tryz.prog N2 L2 X1 (n + 2) 78 [a, b, .func (.func 76) [] []] [] = some (.bool (xss == yss), []) :=
  ev2 (by decide) (w78 rfl (fun _ _ _ _ h1 h2 => f76 n h1 h2) ha hb (by have := ha.len.2; unfold L2; omega) rfl)
theorem f40 (n : Nat) {a b : AV} {cs ds : List AV} {xss yss : List (List UInt8)} (ha : IsL a cs xss) (hb : IsL b ds yss) : evalA Tryz.prog N2 L2 X1 (n + 3) 40 [a, b] [] = some (.bool (begins xss yss), []) :=
  ev2 (by decide) (w40 (fun _ _ _ _ _ _ h1 h2 => f78 n h1 h2) ha hb rfl)
theorem f77 (n : Nat) {b : AV} {ys : List UInt8} (hb : IsB b ys) (hl : ys.length ≤ 140737488355328) : ∃ r, IsB r ys ∧ evalA Tryz.prog N2 L2 X1 (n + 1) 77 [b] [] = some (r, []) := by
  obtain ⟨r, ⟨h1, h2⟩, h3⟩ := ev2' (n := n) (by decide) (w77 (K := fun r => IsB r.1 ys ∧ r.2 = []) rfl hb hl fun r hr => ⟨hr, rfl⟩)
  obtain ⟨r1, r2⟩ := r
  subst h2
  exact ⟨r1, h1, h3⟩
theorem f75 (n : Nat) {k : Nat} {l b : AV} {ks : List AV} {xss : List (List UInt8)} {ys : List UInt8} (hl : IsL l ks xss) (hb : IsB b ys) : evalA Tryz.prog N2 L2 X1 (n + 2) 75 [l, .ptr 0 0, .ptr 1 0] (boxes k b) = some (.bool (other k ys xss), boxes k b) :=
  ev2 (by decide) (w75 (fun x y xs ys h hx hy => callA_pure (by simp [refsL, hx.refs, hy.refs]) rfl (f76 n hx hy)) hl hb rfl)
theorem f139 (n : Nat) {k : Nat} {b : AV} {ys : List UInt8} {ls : List AV} {xs : List (List (List UInt8))} {cap : Option Nat} (hb : IsB b ys) (hl : IsLs ls xs) :
    ∃ z : Int, (z = -1 ∧ xs.any (other k ys) = false ∨ 0 ≤ z ∧ xs.any (other k ys) = true) ∧ evalA Tryz.prog N2 L2 X1 (n + 3) 139 [.isl ls ls.length cap, fn75 0 1] (boxes k b) = some (.int .i64 z, boxes k b) := by
  obtain ⟨r, ⟨z, rfl, hz⟩, h3⟩ := ev2' (n := n + 2) (by decide) (w139 (K := fun r => ∃ z : Int, r = (.int .i64 z, boxes k b) ∧ (z = -1 ∧ xs.any (other k ys) = false ∨ 0 ≤ z ∧ xs.any (other k ys) = true)) (k := k) (b := b) (ys := ys) (cap := cap) rfl
    (fun l ks xss h => f75 n h hb) hl (by have := hl.most; unfold L2; omega) fun z hz => ⟨z, rfl, hz⟩)
  exact ⟨z, hz, h3⟩
theorem f74 (n : Nat) (k : Nat) (b : AV) (ys : List UInt8) (ls : List AV) (xs : List (List (List UInt8))) (cap : Option Nat) (hb : IsB b ys) (hl : IsLs ls xs) : evalA Tryz.prog N2 L2 X1 (n + 4) 74 [.isl ls ls.length cap, fn75 0 1] (boxes k b) = some (.bool (xs.any (other k ys)), boxes k b) :=
  ev2 (by decide) (w74 (f139 n hb hl) rfl)
theorem f39 (n : Nat) {a b c : AV} {cs ds es : List AV} {xss yss zss : List (List UInt8)} (ha : IsL a cs xss) (hb : IsL b ds yss) (hc : IsL c es zss) (hx : ∀ i, (xss.getD i []).length ≤ 140737488355328) (hm : cs.length * 24 ≤ 140737488355328) :
    ∃ r ks' n', IsL r ks' (xss.take n') ∧ Shared n' xss [xss, yss, zss] ∧ evalA Tryz.prog N2 L2 X1 (n + 5) 39 [.isl [a, b, c] 3 (some 3)] [] = some (r, []) := by
  have hl : IsLs [a, b, c] [xss, yss, zss] := ⟨rfl, by simp, fun i hi => by
    match i, hi with
    | 0, _ => exact ⟨_, ha⟩
    | 1, _ => exact ⟨_, hb⟩
    | 2, _ => exact ⟨_, hc⟩⟩
  obtain ⟨r, ⟨r1, ks', n', rfl, h1, h2⟩, h3⟩ := ev2' (n := n + 4) (by decide) (w39 (K := fun r => ∃ r1 ks' n', r = (r1, []) ∧ IsL r1 ks' (xss.take n') ∧ Shared n' xss [xss, yss, zss]) (cap := some 3) rfl rfl rfl (fun k b ys ls xs cap h1 h2 => f74 n k b ys ls xs cap h1 h2)
    (fun b ys h1 h2 => f77 (n + 3) h1 h2) hl (by simp) rfl ha (by have := ha.len.2; unfold L2; omega) hx hm fun r ks' n' h1 h2 => ⟨r, ks', n', rfl, h1, h2⟩)
  exact ⟨r1, ks', n', h1, h2, h3⟩
theorem f38 (n : Nat) : evalA Tryz.prog N2 L2 X1 (n + 1) 38 [] [] = some (.bool true, []) := by rw [evalA]; rfl
theorem f8 {a b c : AV} {cs ds es : List AV} {xss yss zss : List (List UInt8)} (ha : IsL a cs xss) (hb : IsL b ds yss) (hc : IsL c es zss) (hx : ∀ i, (xss.getD i []).length ≤ 140737488355328) (hm : cs.length * 24 ≤ 140737488355328) :
    evalA Tryz.prog N2 L2 X1 6 8 [a, b, c] [] = some (.bool true, []) :=
  ev2 (by decide) (w8 rfl (f38 4) (fun _ _ _ _ _ _ h1 h2 => f40 2 h1 h2) ha hb hc (f39 0 ha hb hc hx hm) rfl)

theorem common_goes {a b c : AV} {cs ds es : List AV} {xss yss zss : List (List UInt8)} (ha : IsL a cs xss) (hb : IsL b ds yss) (hc : IsL c es zss) (hx : ∀ i, (xss.getD i []).length ≤ 140737488355328) (hm : cs.length * 24 ≤ 140737488355328)
    {w : World} {vs : Array Value} (hv : ARel (fun _ => False) w (fun _ => none) [a, b, c] vs) :
    CallGoes Tryz.prog 8 vs w (Lands (fun _ => False) w (fun _ => none) [] (.bool true) []) :=
  eval_ok named soundX1 L2 6 _ _ _ _ _ (f8 ha hb hc hx hm) _ _ _ _ (hrel_none w) hv
end Am
