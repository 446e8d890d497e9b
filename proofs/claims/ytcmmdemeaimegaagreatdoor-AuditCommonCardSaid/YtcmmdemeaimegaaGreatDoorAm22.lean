/-
  A part of a proved abstract machine over the model, and of what it tells of this seat's functions. Conditions: as each theorem states them.
-/
import Derived.Test.YtcmmdemeaimegaaGreatDoorAm21
namespace Am
open Go
set_option linter.unusedSimpArgs false
set_option linter.unusedVariables false

section
variable {P : Program} {N : Notes}

/-- No function has the name that a call looks for. -/
def Named (P : Program) : Prop := ∀ (f : FuncId) (fn : Func), P.funcs[f]? = some fn → (fn.name == "runtime.NumGoroutine") = false

theorem run_enter {f : FuncId} {fn : Func} {c : Code} (hf : P.funcs[f]? = some fn) (hname : (fn.name == "runtime.NumGoroutine") = false) (hb : fn.body = some c) (args : Array Value) (w : World) :
    (callFunc f args).run P w = .ok (.enter f args) w := by
  have h1 : fn.name ≠ "runtime.NumGoroutine" := by simpa using hname
  simp [callFunc, hf, h1, hb]

theorem rep_rel (M : Nat → Prop) (w : World) (φ : Phi) (n : Nat) : ARel M w φ (List.replicate n (.tuple [])) (Array.replicate n Go.undef) := by
  refine ⟨by simp, fun i hi => ?_⟩
  have : i < n := by simpa using hi
  simp [Array.getD, this]
  exact undef_rel _ _ _

theorem body_ok {E : Env} (hE : Sound P E) (hN : Named P) (L : Nat) {f : FuncId} {args : List AV} {h h' : List AObj} {r : AV} (hb : bodyA P N E L f args h = some (r, h')) {M : Nat → Prop} {w : World} {φ : Phi} {vs : Array Value}
    (hh : HRel M w φ h) (ha : ARel M w φ args vs) : CallGoes P f vs w (Lands M w φ h r h') := by
  unfold bodyA at hb
  cases hf : P.funcs[f]? with
  | none => rw [hf] at hb; cases hb
  | some fn =>
  rw [hf] at hb
  dsimp only at hb
  cases hc : fn.body with
  | none => rw [hc] at hb; cases hb
  | some c =>
  rw [hc] at hb
  dsimp only at hb
  cases hq : codeA P N E L f h.length 0 c ⟨args ++ List.replicate (fn.ntmps - args.length) (.tuple []), h⟩ with
  | none => rw [hq] at hb; cases hb
  | some es =>
  obtain ⟨e, s⟩ := es
  rw [hq] at hb
  have fin : (∃ r0, resultsA P fn s = some r0 ∧ leaveA (N.keep f) h s r0 = some (r, h')) ∧ (e = .normal ∨ e = .ret) := by
    cases e with
    | exit id => cases hb
    | normal =>
      dsimp only at hb
      cases hr : resultsA P fn s with
      | none => rw [hr] at hb; cases hb
      | some r0 => rw [hr] at hb; exact ⟨⟨r0, rfl, hb⟩, .inl rfl⟩
    | ret =>
      dsimp only at hb
      cases hr : resultsA P fn s with
      | none => rw [hr] at hb; cases hb
      | some r0 => rw [hr] at hb; exact ⟨⟨r0, rfl, hb⟩, .inr rfl⟩
  obtain ⟨⟨r0, hr, hl⟩, he⟩ := fin
  refine .inl ⟨run_enter hf (hN f fn hf) hc _ _, calls_of_wp hf hc ?_⟩
  have hI : At M w φ h ⟨args ++ List.replicate (fn.ntmps - args.length) (.tuple []), h⟩ { tmps := vs ++ Array.replicate (fn.ntmps - vs.size) Go.undef, defers := [] } w :=
    ⟨M, φ, ⟨ARel.append ha (by rw [ha.1]; exact rep_rel _ _ _ _), hh, rfl⟩, .refl hh⟩
  refine code_ok hE hh L c 0 _ _ _ hq _ _ _ hI fun a' w' ⟨M', φ', hI'⟩ => ?_
  obtain ⟨v, hv1, hv2⟩ := results_ok hI'.st.h hI'.st.t (by cases s; exact hr)
  have hland := leave_ok hl hh hI'.p hv2
  have : bodyPost P fn (fun e w' => ∃ v, e = .returned v ∧ Lands M w φ h r h' v w') .normal a' w' := ⟨hI'.st.nodef, v, hv1, v, rfl, hland⟩
  rcases he with rfl | rfl <;> exact this

theorem eval_ok (hN : Named P) {X : Env} (hX : Sound P X) (L : Nat) : ∀ n, Sound P (evalA P N L X n)
  | 0 => fun f args h r h' hs => by cases hs
  | n + 1 => fun f args h r h' hs M w φ vs hh ha => by
    rw [evalA] at hs
    dsimp only at hs
    cases hq : X f args h with
    | some res => rw [hq] at hs; cases hs; exact hX _ _ _ _ _ hq M w φ vs hh ha
    | none => rw [hq] at hs; exact body_ok (eval_ok hN hX L n) hN L hs hh ha

theorem sound_none : Sound P (fun _ _ _ => none) := fun _ _ _ _ _ h => by cases h
end
end Am
