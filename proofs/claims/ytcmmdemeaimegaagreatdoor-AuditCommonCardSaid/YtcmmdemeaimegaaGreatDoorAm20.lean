/-
  A part of a proved abstract machine over the model, and of what it tells of this seat's functions. Conditions: as each theorem states them.
-/
import Derived.Test.YtcmmdemeaimegaaGreatDoorAm19b
namespace Am
open Go
set_option linter.unusedSimpArgs false
set_option linter.unusedVariables false

def AExit.real : AExit → Exit
  | .normal => .normal
  | .exit id => .exit id
  | .ret => .ret

section
variable {P : Program} {N : Notes} {E : Env} {f : FuncId} {M0 : Nat → Prop} {w0 : World} {φ0 : Phi} {h0 : List AObj}

/-- A piece of code does what the body says. -/
def CodeOk (P : Program) (M0 : Nat → Prop) (w0 : World) (φ0 : Phi) (h0 : List AObj) (c : Code) (body : St → Option (AExit × St)) : Prop :=
  ∀ (s : St) (e : AExit) (s' : St), body s = some (e, s') → ∀ (Q : Exit → Act → World → Prop) (a : Act) (w : World), At M0 w0 φ0 h0 s a w → (∀ a' w', At M0 w0 φ0 h0 s' a' w' → Q e.real a' w') → c.wp P Q a w

theorem loop_ok {c : Code} {body : St → Option (AExit × St)} (hb : CodeOk P M0 w0 φ0 h0 c body) (L : Nat) : CodeOk P M0 w0 φ0 h0 (.loop c) (loopA body L) := by
  have key : ∀ (n : Nat) (s : St) (e : AExit) (s' : St), loopA body n s = some (e, s') → ∀ (Q : Exit → Act → World → Prop) (a : Act) (w : World), At M0 w0 φ0 h0 s a w → (∀ a' w', At M0 w0 φ0 h0 s' a' w' → Q e.real a' w') →
      ∀ (b : Frame) (k : List Item) (cs : List Frame), ∃ e a' w', Q e a' w' ∧ Arrives P (lone (b.at a (.code c :: .inLoop c :: k)) cs w) b k cs e a' w' := by
    intro n
    induction n with
    | zero => intro s e s' hs; cases hs
    | succ n ih =>
      intro s e s' hs Q a w hI hQ b k cs
      rw [loopA] at hs
      cases h1 : body s with
      | none => rw [h1] at hs; cases hs
      | some r =>
        obtain ⟨e1, s1⟩ := r
        rw [h1] at hs
        cases e1 with
        | normal =>
          dsimp only at hs
          obtain ⟨e2, a1, w1, hq, harr⟩ := hb s _ _ h1 (fun e a' w' => e = .normal ∧ At M0 w0 φ0 h0 s1 a' w') a w hI (fun _ _ h => ⟨rfl, h⟩) b (.inLoop c :: k) cs
          obtain ⟨rfl, hI1⟩ := hq
          obtain ⟨e3, a2, w2, hq2, harr2⟩ := ih s1 e s' hs Q a1 w1 hI1 hQ b k cs
          exact ⟨e3, a2, w2, hq2, .of_steps (Steps.trans harr (.one step_inLoop)) harr2⟩
        | exit id =>
          cases hs
          obtain ⟨e2, a1, w1, hq, harr⟩ := hb s _ _ h1 (fun e a' w' => e = .exit id ∧ At M0 w0 φ0 h0 s' a' w') a w hI (fun _ _ h => ⟨rfl, h⟩) b (.inLoop c :: k) cs
          obtain ⟨rfl, hI1⟩ := hq
          exact ⟨_, a1, w1, hQ _ _ hI1, .pass (x := .inLoop c) rfl (fun _ _ => .inl (by simp [AExit.real])) harr⟩
        | ret =>
          cases hs
          obtain ⟨e2, a1, w1, hq, harr⟩ := hb s _ _ h1 (fun e a' w' => e = .ret ∧ At M0 w0 φ0 h0 s' a' w') a w hI (fun _ _ h => ⟨rfl, h⟩) b (.inLoop c :: k) cs
          obtain ⟨rfl, hI1⟩ := hq
          exact ⟨_, a1, w1, hQ _ _ hI1, .pass (x := .inLoop c) rfl (fun _ _ => .inl (by simp [AExit.real])) harr⟩
  intro s e s' hs Q a w hI hQ b k cs
  obtain ⟨e1, a1, w1, hq, harr⟩ := key L s e s' hs Q a w hI hQ b k cs
  exact ⟨e1, a1, w1, hq, .of_steps (.one step_loop) harr⟩

theorem code_ok (hE : Sound P E) (hh0 : HRel M0 w0 φ0 h0) (L : Nat) : ∀ (c : Code) (blk : Nat), CodeOk P M0 w0 φ0 h0 c (codeA P N E L f h0.length blk c) := by
  intro c
  induction c with
  | skip => intro blk s e s' hs Q a w hI hQ; cases hs; exact wp_skip (hQ _ _ hI)
  | label l => intro blk s e s' hs Q a w hI hQ; cases hs; exact wp_label (hQ _ _ hI)
  | region id ops draw =>
    intro blk s e s' hs Q a w hI hQ
    cases draw with
    | false =>
      obtain ⟨s1, h1, h2⟩ := Option.map_eq_some_iff.1 hs
      cases h2
      exact region_ok hE hh0 h1 hI hQ
    | true =>
      obtain ⟨s1, h1, h2⟩ := Option.map_eq_some_iff.1 hs
      cases h2
      exact drawn_ok hE hh0 h1 hI hQ
  | seq x y ihx ihy =>
    intro blk s e s' hs Q a w hI hQ
    refine wp_seq ?_
    rw [codeA] at hs
    cases h1 : codeA P N E L f h0.length blk x s with
    | none => rw [h1] at hs; cases hs
    | some r =>
      obtain ⟨e1, s1⟩ := r
      rw [h1] at hs
      cases e1 with
      | normal => exact ihx blk _ _ _ h1 _ a w hI fun a' w' hI' => ihy blk _ _ _ hs Q a' w' hI' hQ
      | exit id => cases hs; exact ihx blk _ _ _ h1 _ a w hI fun a' w' hI' => hQ a' w' hI'
      | ret => cases hs; exact ihx blk _ _ _ h1 _ a w hI fun a' w' hI' => hQ a' w' hI'
  | cond c x y ihx ihy =>
    intro blk s e s' hs Q a w hI hQ
    rw [codeA] at hs
    obtain ⟨M, φ, hI0⟩ := hI
    have hc := hI0.st.eval c
    split at hs
    · rename_i hv
      rw [hv] at hc
      generalize hcr : a.eval c = cr at hc
      cases hc
      exact wp_cond_true hcr (ihx blk _ _ _ hs Q a w ⟨M, φ, hI0⟩ hQ)
    · rename_i hv
      rw [hv] at hc
      generalize hcr : a.eval c = cr at hc
      cases hc
      exact wp_cond_false hcr (ihy blk _ _ _ hs Q a w ⟨M, φ, hI0⟩ hQ)
    · cases hs
  | block id c ih =>
    intro blk s e s' hs Q a w hI hQ
    refine wp_block ?_
    rw [codeA] at hs
    cases h1 : codeA P N E L f h0.length id c s with
    | none => rw [h1] at hs; cases hs
    | some r =>
      obtain ⟨e1, s1⟩ := r
      rw [h1] at hs
      refine ih id _ _ _ h1 _ a w hI fun a' w' hI' => ?_
      cases e1 with
      | normal => cases hs; exact hQ a' w' hI'
      | exit id' =>
        dsimp only at hs
        by_cases he : id' = id
        · rw [if_pos he] at hs; cases hs
          show Exit.inBlock id Q (.exit id') a' w'
          subst he
          first | (simp only [Exit.inBlock, if_true]; exact hQ a' w' hI') | (simp [Exit.inBlock]; exact hQ a' w' hI')
        · rw [if_neg he] at hs; cases hs
          show Exit.inBlock id Q (.exit id') a' w'
          first | (simp only [Exit.inBlock, he, if_false]; exact hQ a' w' hI') | (simp [Exit.inBlock, he]; exact hQ a' w' hI')
      | ret => cases hs; exact hQ a' w' hI'
  | loop c ih =>
    intro blk s e s' hs
    rw [codeA] at hs
    split at hs
    · rename_i live hl
      refine loop_ok (body := fun s => (trimA h0.length live s).bind (codeA P N E L f h0.length blk c)) ?_ L s e s' hs
      intro s e s' hs Q a w hI hQ
      obtain ⟨s1, h1, h2⟩ := Option.bind_eq_some_iff.1 hs
      exact ih blk _ _ _ h2 Q a w (trim_at h1 hI) hQ
    · exact loop_ok (ih blk) L s e s' hs
  | exit id => intro blk s e s' hs Q a w hI hQ; cases hs; exact wp_exit (hQ _ _ hI)
  | ret => intro blk s e s' hs Q a w hI hQ; cases hs; exact wp_ret (hQ _ _ hI)
  | rangeFunc g ps as body _ _ => intro blk s e s' hs; cases hs
  | scope c _ => intro blk s e s' hs; cases hs
  | goto l => intro blk s e s' hs; cases hs
  | refuse why => intro blk s e s' hs; cases hs

end
end Am
