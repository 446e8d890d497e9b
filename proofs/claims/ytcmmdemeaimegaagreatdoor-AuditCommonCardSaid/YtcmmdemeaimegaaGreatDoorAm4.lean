/-
  A part of a proved abstract machine over the model, and of what it tells of this seat's functions. Conditions: as each theorem states them.
-/
import Derived.Test.YtcmmdemeaimegaaGreatDoorAm3
namespace Am
open Go
set_option linter.unusedVariables false
set_option linter.unusedSimpArgs false

section
variable {P : Program} {M : Nat → Prop} {w : World} {φ : Phi} {h : List AObj}

theorem ofV1_rel (M : Nat → Prop) (w : World) (φ : Phi) (v : Value) : VRel M w φ (ofV1 v) v := by
  unfold ofV1
  split
  · exact .bool _ _
  · exact .int _ _ _
  · exact .str _ _
  · exact .pnil _
  · exact .snil _
  · exact .mnil _
  · exact .fnil _
  · exact .inil _
  · exact .undef _ _

theorem ofV_rel (M : Nat → Prop) (w : World) (φ : Phi) (v : Value) (hz : v.cells.all (·.oneCell') = true) : VRel M w φ (ofV v) v := by
  unfold ofV
  split
  · rename_i cs
    refine .agg _ _ _ (by simp) (fun i hi => ?_) (fun i hi => ?_)
    · simp only [List.length_map, Array.length_toList] at hi
      simp only [Value.cells, Array.all_eq_true] at hz
      simpa [Array.getD, hi] using hz i hi
    · simp only [List.length_map, Array.length_toList] at hi
      simp only [List.getElem_map, Array.getElem_toList, Array.getD, hi, dite_true]
      exact ofV1_rel _ _ _ _
  · exact .tuple _ _ _ rfl (fun i hi => by simp at hi)
  · exact ofV1_rel _ _ _ _

theorem const_rel (M : Nat → Prop) (w : World) (φ : Phi) (v : Value) : VRel M w φ (match v with | .agg _ => .undef | v => ofV v) v := by
  split
  · exact .undef _ _
  · rename_i hv
    unfold ofV
    split
    · rename_i cs; exact absurd rfl (hv cs)
    · exact .tuple _ _ _ rfl (fun i hi => by simp at hi)
    · exact ofV1_rel _ _ _ _

theorem zero_ok {t : TypeId} {z : AV} (hz : zeroA P t = some z) : ∃ v, (∀ w, (zeroValue t).run P w = .ok v w) ∧ (∀ M w φ, VRel M w φ z v) ∧ v.cells.all (·.oneCell') = true ∧ z = ofV v := by
  obtain ⟨v, hv, h2⟩ := Option.bind_eq_some_iff.1 hz
  obtain ⟨i, hi, hv⟩ := Option.bind_eq_some_iff.1 hv
  split at h2
  · rename_i hc
    cases h2
    exact ⟨v, fun w => by simp [zeroValue, typeInfo, hi, hv], fun M w φ => ofV_rel M w φ v hc, hc, rfl⟩
  · cases h2

theorem equal_run {t : TypeId} {d : TypeDesc} (hu : P.underlying t = some d) (x y : Value) (r : Bool)
    (hd : ∀ n, (Op.equalIn (n + 1) t x y).run P w = .ok r w) : (Op.equal t x y).run P w = .ok r w := hd 9999

theorem eq_ok {lit : Bool} {t : TypeId} {a b : AV} {r : Bool} {x y : Value} {ox oy : Operand} (he : eqA P lit t a b = some r) (hx : VRel M w φ a x) (hy : VRel M w φ b y)
    (hl : lit = (Region.isConst ox || Region.isConst oy)) (op : BinOp) (hop : op = .eql ∨ op = .neq) :
    (eqGuard op t ox oy x y).run P w = .ok () w ∧ (Op.equal t x y).run P w = .ok r w ∧
      binOp .eql t x y = (do pure (.bool (← Op.equal t x y))) ∧ binOp .neq t x y = (do pure (.bool (!(← Op.equal t x y)))) := by
  unfold eqA at he
  split at he
  all_goals (try cases he)
  all_goals (try (rename_i hu; cases hx; cases hy; refine ⟨by simp only [eqGuard_at_pointer, eqGuard_at_slice, eqGuard_at_map, eqGuard_at_func, eqGuard_at_nilFunc, eqGuard_at_iface, eqGuard_at_bool, eqGuard_nil_iface]; rfl, equal_run hu _ _ _ fun n => ?_, rfl, rfl⟩; simp only [Op.equalIn, Sem.run_bind, run_underlying hu, Result.andThen_ok, Sem.run_pure, Option.isNone_none, Option.isNone_some]; done))
  · rename_i hu
    split at he
    · rename_i hlit
      cases he
      cases hx; cases hy
      refine ⟨?_, equal_run hu _ _ _ fun n => by simp only [Op.equalIn, Sem.run_bind, run_underlying hu, Result.andThen_ok, Sem.run_pure], rfl, rfl⟩
      rw [hl] at hlit
      unfold eqGuard
      rcases hop with rfl | rfl <;> cases ox <;> cases oy <;> simp_all [Region.isConst]
    · cases he
end
end Am
