/-
  A part of a proved abstract machine over the model, and of what it tells of this seat's functions. Conditions: as each theorem states them.
-/
import Derived.Test.YtcmmdemeaimegaaGreatDoorAm23
namespace Am
open Go
set_option linter.unusedSimpArgs false
set_option linter.unusedVariables false

/-- What an option holds. -/
def Opt {α : Type} (o : Option α) (K : α → Prop) : Prop := ∃ x, o = some x ∧ K x
theorem opt_some {α : Type} {x : α} {K : α → Prop} : Opt (some x) K ↔ K x := by simp [Opt]
theorem opt_map {α β : Type} {o : Option α} {g : α → β} {K : β → Prop} : Opt (o.map g) K ↔ Opt o (fun x => K (g x)) := by
  cases o <;> simp [Opt]
theorem opt_bind {α β : Type} {o : Option α} {g : α → Option β} {K : β → Prop} : Opt (o.bind g) K ↔ Opt o (fun x => Opt (g x) K) := by
  cases o <;> simp [Opt]
theorem opt_mono {α : Type} {o : Option α} {K K' : α → Prop} (h : Opt o K) (hk : ∀ x, K x → K' x) : Opt o K' := by
  obtain ⟨x, hx, h⟩ := h; exact ⟨x, hx, hk x h⟩

section
variable (P : Program) (N : Notes) (E : Env) (L : Nat) (f : FuncId) (m : Nat)

/-- The code goes through, and leaves what is said. -/
def WP (blk : Nat) (c : Code) (s : St) (Q : AExit → St → Prop) : Prop := Opt (codeA P N E L f m blk c s) (fun r => Q r.1 r.2)
/-- Operations, one behind the other. -/
def WO (ops : Array Oper) (l : List Oper) (s : St) (K : St → Prop) : Prop := Opt (opsA P N E f ops l s) K
/-- Quiet ones. -/
def WV (ops : Array Oper) (l : List Oper) (t : List AV) (h : List AObj) (K : List AV → Prop) : Prop := Opt (quietA P N E f ops l t h) K

def seqK (blk : Nat) (b : Code) (Q : AExit → St → Prop) : AExit → St → Prop
  | .normal, s => WP P N E L f m blk b s Q
  | .exit i, s => Q (.exit i) s
  | .ret, s => Q .ret s

def blkK (id : Nat) (Q : AExit → St → Prop) : AExit → St → Prop
  | .normal, s => Q .normal s
  | .exit i, s => if i = id then Q .normal s else Q (.exit i) s
  | .ret, s => Q .ret s

def condK (v : AV) (p q : Prop) : Prop := (v = .bool true ∧ p) ∨ (v = .bool false ∧ q)
end

theorem condK_true {p q : Prop} : condK (.bool true) p q ↔ p := by simp [condK]
theorem condK_false {p q : Prop} : condK (.bool false) p q ↔ q := by simp [condK]
theorem condK_bool {b : Bool} {p q : Prop} : condK (.bool b) p q ↔ (b = true → p) ∧ (b = false → q) := by cases b <;> simp [condK]
theorem condK_dec {c : Prop} [Decidable c] {p q : Prop} : condK (.bool (decide c)) p q ↔ (c → p) ∧ (¬ c → q) := by by_cases h : c <;> simp [condK, h]
theorem blkK_normal {id : Nat} {Q : AExit → St → Prop} {s : St} : blkK id Q .normal s ↔ Q .normal s := Iff.rfl
theorem blkK_ret {id : Nat} {Q : AExit → St → Prop} {s : St} : blkK id Q .ret s ↔ Q .ret s := Iff.rfl
theorem blkK_exit {id i : Nat} {Q : AExit → St → Prop} {s : St} : blkK id Q (.exit i) s ↔ if i = id then Q .normal s else Q (.exit i) s := Iff.rfl

section
variable {P : Program} {N : Notes} {E : Env} {L : Nat} {f : FuncId} {m : Nat}

theorem seqK_normal {blk : Nat} {b : Code} {Q : AExit → St → Prop} {s : St} : seqK P N E L f m blk b Q .normal s ↔ WP P N E L f m blk b s Q := Iff.rfl
theorem seqK_exit {blk i : Nat} {b : Code} {Q : AExit → St → Prop} {s : St} : seqK P N E L f m blk b Q (.exit i) s ↔ Q (.exit i) s := Iff.rfl
theorem seqK_ret {blk : Nat} {b : Code} {Q : AExit → St → Prop} {s : St} : seqK P N E L f m blk b Q .ret s ↔ Q .ret s := Iff.rfl

theorem wp_mono {blk : Nat} {c : Code} {s : St} {Q Q' : AExit → St → Prop} (h : WP P N E L f m blk c s Q) (hq : ∀ e s', Q e s' → Q' e s') : WP P N E L f m blk c s Q' :=
  opt_mono h fun r => hq r.1 r.2

theorem wp_skip {blk : Nat} {s : St} {Q : AExit → St → Prop} : WP P N E L f m blk .skip s Q ↔ Q .normal s := by simp [WP, codeA, Opt]
theorem wp_label {blk i : Nat} {s : St} {Q : AExit → St → Prop} : WP P N E L f m blk (.label i) s Q ↔ Q .normal s := by simp [WP, codeA, Opt]
theorem wp_exit {blk i : Nat} {s : St} {Q : AExit → St → Prop} : WP P N E L f m blk (.exit i) s Q ↔ Q (.exit i) s := by simp [WP, codeA, Opt]
theorem wp_ret {blk : Nat} {s : St} {Q : AExit → St → Prop} : WP P N E L f m blk .ret s Q ↔ Q .ret s := by simp [WP, codeA, Opt]
theorem wp_seq {blk : Nat} {a b : Code} {s : St} {Q : AExit → St → Prop} : WP P N E L f m blk (.seq a b) s Q ↔ WP P N E L f m blk a s (seqK P N E L f m blk b Q) := by
  unfold WP
  rw [codeA]
  cases hq : codeA P N E L f m blk a s with
  | none => simp [Opt]
  | some r =>
    obtain ⟨e, s'⟩ := r
    cases e <;> simp [Opt, seqK, WP]
theorem wp_cond {blk : Nat} {x : Operand} {a b : Code} {s : St} {Q : AExit → St → Prop} :
    WP P N E L f m blk (.cond x a b) s Q ↔ condK (aeval s.t x) (WP P N E L f m blk a s Q) (WP P N E L f m blk b s Q) := by
  unfold WP
  rw [codeA]
  cases hq : aeval s.t x with
  | bool v => cases v <;> simp [condK]
  | _ => simp [condK, Opt]
theorem wp_block {blk id : Nat} {c : Code} {s : St} {Q : AExit → St → Prop} : WP P N E L f m blk (.block id c) s Q ↔ WP P N E L f m id c s (blkK id Q) := by
  unfold WP
  rw [codeA]
  cases hq : codeA P N E L f m id c s with
  | none => simp [Opt]
  | some r =>
    obtain ⟨e, s'⟩ := r
    cases e with
    | exit i => by_cases h : i = id <;> simp [Opt, blkK, h]
    | _ => simp [Opt, blkK]
theorem wp_region {blk k : Nat} {ops : Array Oper} {s : St} {Q : AExit → St → Prop} : WP P N E L f m blk (.region k ops false) s Q ↔ WO P N E f ops ops.toList s (Q .normal) := by
  unfold WP WO
  rw [codeA, opt_map]
theorem wp_drawn {blk k : Nat} {ops : Array Oper} {s : St} {Q : AExit → St → Prop} : WP P N E L f m blk (.region k ops true) s Q ↔ Opt (drawnA P N E f m ops s) (Q .normal) := by
  unfold WP
  rw [codeA, opt_map]

theorem wo_nil {ops : Array Oper} {s : St} {K : St → Prop} : WO P N E f ops [] s K ↔ K s := by simp [WO, opsA, opt_some]
theorem wo_cons {ops : Array Oper} {o : Oper} {os : List Oper} {s : St} {K : St → Prop} : WO P N E f ops (o :: os) s K ↔ Opt (stepA P N E f ops o s) (fun s' => WO P N E f ops os s' K) := by
  unfold WO
  rw [opsA]
  cases stepA P N E f ops o s <;> simp [Opt]

theorem wv_nil {ops : Array Oper} {t : List AV} {h : List AObj} {K : List AV → Prop} : WV P N E f ops [] t h K ↔ K t := by simp [WV, quietA, opt_some]
theorem wv_cons {ops : Array Oper} {o : Oper} {os : List Oper} {t : List AV} {h : List AObj} {K : List AV → Prop} :
    WV P N E f ops (o :: os) t h K ↔ Opt (stepV P N E f ops o t h) (fun v => WV P N E f ops os (putA t o.dst v) h K) := by
  unfold WV
  rw [quietA]
  cases stepV P N E f ops o t h <;> simp [Opt]

/-- A drawn region of quiet operations. -/
theorem wp_quiet {blk k : Nat} {ops : Array Oper} {t : List AV} {h : List AObj} {Q : AExit → St → Prop} (ht : tidy ops = true) (hv : WV P N E f ops ops.toList t h (fun t' => Q .normal ⟨t', h⟩)) :
    WP P N E L f m blk (.region k ops true) ⟨t, h⟩ Q := by
  rw [wp_drawn]
  obtain ⟨t', h1, h2⟩ := hv
  refine ⟨⟨t', h⟩, ?_, h2⟩
  unfold drawnA
  rw [if_pos ht, h1]

/-- A step without a guard. -/
theorem stepA_plain {ops : Array Oper} {d : Option Tmp} {op : Op} {ty : TypeId} {ps : String} {aft : Array Edge} {s : St} :
    stepA P N E f ops { dst := d, op := op, type := ty, pos := ps, after := aft, guard := none } s = (opV P N E f (aeval s.t) s.h { dst := d, op := op, type := ty, pos := ps, after := aft, guard := none }).map fun r => ⟨putA s.t d r.1, r.2⟩ := rfl

/-- A loop: what stands at its head, round by round. -/
theorem wp_loop {blk : Nat} {c : Code} {live : List Nat} (hN : N.loop f blk = some live) {Q : AExit → St → Prop} (I : Nat → St → Prop) (n : Nat) (hn : n < L)
    (step : ∀ k s, k ≤ n → I k s → WP P N E L f m blk c s (fun e s' => match e with | .normal => k < n ∧ Opt (trimA m live s') (I (k + 1)) | .exit i => Q (.exit i) s' | .ret => Q .ret s'))
    {s : St} (h0 : Opt (trimA m live s) (I 0)) : WP P N E L f m blk (.loop c) s Q := by
  unfold WP
  rw [codeA]
  simp only [hN]
  suffices h : ∀ (j k : Nat) (s : St) (M : Nat), k + j = n → j < M → Opt (trimA m live s) (I k) → Opt (loopA (fun s => (trimA m live s).bind (codeA P N E L f m blk c)) M s) (fun r => Q r.1 r.2) from
    h n 0 s L (by omega) hn h0
  intro j
  induction j with
  | zero =>
    intro k s M hk hM hI
    obtain ⟨M, rfl⟩ : ∃ M', M = M' + 1 := ⟨M - 1, by omega⟩
    obtain ⟨s1, h1, h2⟩ := hI
    obtain ⟨r, h3, h4⟩ := step k s1 (by omega) h2
    rw [loopA, h1, Option.bind_some, h3]
    obtain ⟨e, s'⟩ := r
    cases e with
    | normal => exact absurd h4.1 (by omega)
    | exit i => exact ⟨_, rfl, h4⟩
    | ret => exact ⟨_, rfl, h4⟩
  | succ j ih =>
    intro k s M hk hM hI
    obtain ⟨M, rfl⟩ : ∃ M', M = M' + 1 := ⟨M - 1, by omega⟩
    obtain ⟨s1, h1, h2⟩ := hI
    obtain ⟨r, h3, h4⟩ := step k s1 (by omega) h2
    rw [loopA, h1, Option.bind_some, h3]
    obtain ⟨e, s'⟩ := r
    cases e with
    | normal => exact ih (k + 1) s' M (by omega) (by omega) h4.2
    | exit i => exact ⟨_, rfl, h4⟩
    | ret => exact ⟨_, rfl, h4⟩

/-- How a body ends. -/
def endK (P : Program) (N : Notes) (f : FuncId) (fn : Func) (h0 : List AObj) (K : AV × List AObj → Prop) (e : AExit) (s : St) : Prop :=
  (∀ i, e ≠ .exit i) ∧ Opt (resultsA P fn s) (fun r => Opt (leaveA (N.keep f) h0 s r) K)
theorem endK_normal {fn : Func} {h0 : List AObj} {K : AV × List AObj → Prop} {s : St} : endK P N f fn h0 K .normal s ↔ Opt (resultsA P fn s) (fun r => Opt (leaveA (N.keep f) h0 s r) K) := by simp [endK]
theorem endK_ret {fn : Func} {h0 : List AObj} {K : AV × List AObj → Prop} {s : St} : endK P N f fn h0 K .ret s ↔ Opt (resultsA P fn s) (fun r => Opt (leaveA (N.keep f) h0 s r) K) := by simp [endK]

/-- A body's result by its code. -/
theorem body_wp {fn : Func} {c : Code} {args : List AV} {h0 : List AObj} {K : AV × List AObj → Prop} (hf : P.funcs[f]? = some fn) (hc : fn.body = some c)
    (h : WP P N E L f h0.length 0 c ⟨args ++ List.replicate (fn.ntmps - args.length) (.tuple []), h0⟩ (endK P N f fn h0 K)) : Opt (bodyA P N E L f args h0) K := by
  obtain ⟨⟨e, s⟩, h1, h2, r, h3, x, h4, h5⟩ := h
  unfold bodyA
  simp only [hf, hc]
  rw [h1]
  cases e with
  | exit i => exact absurd rfl (h2 i)
  | normal => dsimp only; rw [h3]; exact ⟨x, h4, h5⟩
  | ret => dsimp only; rw [h3]; exact ⟨x, h4, h5⟩
end

theorem leave_wp {keep : Bool} {r : AV} {s : St} {K : AV × List AObj → Prop} (hs : s.h = []) (hi : inl [] 0 60 r = some r) (hr : refs r = []) (hk : K (r, [])) : Opt (leaveA keep [] s r) K :=
  ⟨_, leave_plain hs hi hr, hk⟩

theorem trim_wp {live : List Nat} {s : St} {t' : List AV} {K : St → Prop} (ht : maskA live s.t = t') (hs : s.h = []) (hr : refsL t' = []) (hk : K ⟨t', []⟩) : Opt (trimA 0 live s) K :=
  ⟨_, trimA_nil hs (by rw [ht]; exact hr), by rw [ht]; exact hk⟩

theorem callA_wp {E : Env} {f : FuncId} {args : List AV} {r : AV} (ha : refsL args = []) (hr : refs r = []) (he : E f args [] = some (r, [])) : callA E f args [] = some (r, []) := callA_nil ha hr he

/-! the loops in a code, in their order -/
def loopsOf : Code → List Code
  | .seq a b => loopsOf a ++ loopsOf b
  | .cond _ a b => loopsOf a ++ loopsOf b
  | .block _ c => loopsOf c
  | .loop c => c :: loopsOf c
  | _ => []
def loopN (fn : Func) (i : Nat) : Code := (loopsOf (fn.body.getD .skip)).getD i .skip
end Am
