/-
  A part of a proved abstract machine over the model, and of what it tells of this seat's functions. Conditions: as each theorem states them.
-/
import Derived.Test.YtcmmdemeaimegaaGreatDoorAm19
namespace Am
open Go
set_option linter.unusedSimpArgs false
set_option linter.unusedVariables false

section
variable {P : Program} {N : Notes} {E : Env} {f : FuncId}

theorem aeval_congr {t t' : List AV} {x : Operand} (h : ∀ u, x = .tmp u → t.getD u (.tuple []) = t'.getD u (.tuple [])) : aeval t x = aeval t' x := by
  cases x with
  | tmp u => exact h u rfl
  | _ => rfl

theorem opV_congr {ρ ρ' : Operand → AV} {h : List AObj} {o : Oper} (hc : ∀ x, x ∈ o.op.operands → ρ x = ρ' x) : opV P N E f ρ h o = opV P N E f ρ' h o := by
  have two : ∀ ps : Array (Nat × Operand), (∀ x, x ∈ (ps.toList.map (·.2)).toArray → ρ x = ρ' x) → (ps.toList.map fun (i, x) => (i, ρ x)) = (ps.toList.map fun (i, x) => (i, ρ' x)) := by
    intro ps hp
    apply List.map_congr_left
    rintro ⟨i, x⟩ hm
    have : ρ x = ρ' x := hp x (by simp; exact ⟨i, by simpa using hm⟩)
    simp [this]
  have arr : ∀ ps : Array Operand, (∀ x, x ∈ ps → ρ x = ρ' x) → ps.toList.map ρ = ps.toList.map ρ' := fun ps hp => List.map_congr_left fun x hx => hp x (by simpa using hx)
  have opt : ∀ z : Option Operand, (∀ x, x ∈ z.toArray → ρ x = ρ' x) → z.map ρ = z.map ρ' := fun z hz => by
    cases z with
    | none => rfl
    | some z => simp [hz z (by simp)]
  unfold opV
  cases hop : o.op <;> simp only [hop, Op.operands] at hc <;> dsimp only <;> (try rfl)
  case move x => rw [hc x (by simp)]
  case assign x => rw [hc x (by simp)]
  case pick c a b => rw [hc c (by simp), hc a (by simp), hc b (by simp)]
  case box e x => rw [hc x (by simp)]
  case build t ps => rw [two ps hc]
  case buildSlice t l ps => rw [two ps hc]
  case load t x => rw [hc x (by simp)]
  case store t a x => rw [hc a (by simp), hc x (by simp)]
  case nilCheck x => rw [hc x (by simp)]
  case binOp op t x y _ => rw [hc x (by simp), hc y (by simp)]
  case unOp op t x => rw [hc x (by simp)]
  case convert a b x => rw [hc x (by simp)]
  case makeInterface t x => rw [hc x (by simp)]
  case makeFunc fn a b => rw [arr a fun x hx => hc x (by simp [hx]), arr b fun x hx => hc x (by simp [hx])]
  case makeSlice t l c => rw [hc l (by simp), hc c (by simp)]
  case slice t x lo hi mx => rw [hc x (by simp), opt lo fun y hy => hc y (by simp at hy; simp [hy]), opt hi fun y hy => hc y (by simp at hy; simp [hy]), opt mx fun y hy => hc y (by simp at hy; simp [hy])]
  case fieldAddr t x i => rw [hc x (by simp)]
  case indexAddr t x i => rw [hc x (by simp), hc i (by simp)]
  case lookup t x k ok => rw [hc x (by simp), hc k (by simp)]
  case makeMap t r => cases r <;> rfl
  case extract x i => rw [hc x (by simp)]
  case typeAssert x a b c => rw [hc x (by simp)]
  case call c =>
    have ha : c.args.toList.map ρ = c.args.toList.map ρ' := arr c.args fun x hx => hc x (by unfold Call.operands; simp [hx])
    rw [ha]
    cases hcal : c.callee with
    | value g => dsimp only; rw [hc g (by unfold Call.operands; simp [hcal])]
    | builtin b => cases b <;> rfl
    | invoke a b => rfl

theorem stepV_congr {ops : Array Oper} {o : Oper} {t t' : List AV} {h : List AObj} (hc : ∀ u, u ∈ o.looksAt ops → t.getD u (.tuple []) = t'.getD u (.tuple [])) : stepV P N E f ops o t h = stepV P N E f ops o t' h := by
  have hw : wantedA ops o t = wantedA ops o t' := by
    unfold wantedA
    cases hg : o.guard with
    | none => rfl
    | some g =>
      obtain ⟨j, want⟩ := g
      dsimp only
      unfold yieldedA
      cases hd : (ops[j]?).bind (·.dst) with
      | none => rfl
      | some d => dsimp only; rw [hc d (by simp [Oper.looksAt, hg, hd])]
  have ho : opV P N E f (aeval t) h o = opV P N E f (aeval t') h o := opV_congr fun x hx => aeval_congr fun u hu => hc u (by
    subst hu
    unfold Oper.looksAt
    refine List.mem_append.2 (.inl ?_)
    rw [List.mem_filterMap]
    exact ⟨.tmp u, by simpa using hx, rfl⟩)
  unfold stepV
  rw [hw, ho]

theorem stepV_step {ops : Array Oper} {o : Oper} {t : List AV} {h : List AObj} {v : AV} (hv : stepV P N E f ops o t h = some v) : stepA P N E f ops o ⟨t, h⟩ = some ⟨putA t o.dst v, h⟩ := by
  unfold stepV at hv
  unfold stepA
  dsimp only
  split at hv
  · obtain ⟨⟨v', h'⟩, h1, h2⟩ := Option.bind_eq_some_iff.1 hv
    split at h2
    · rename_i he
      cases h2
      have := eqObjs_spec _ _ he
      dsimp only at this
      subst this
      rw [h1]; rfl
    · cases h2
  · cases hv; rfl
  · cases hv
end

section
variable {P : Program} {N : Notes} {E : Env} {f : FuncId}

def runT (P : Program) (N : Notes) (E : Env) (f : FuncId) (ops : Array Oper) (t : List AV) (h : List AObj) : Nat → List AV
  | 0 => t
  | i + 1 => match ops[i]? with
    | some o => putA (runT P N E f ops t h i) o.dst ((stepV P N E f ops o (runT P N E f ops t h i) h).getD .undef)
    | none => runT P N E f ops t h i

def valT (P : Program) (N : Notes) (E : Env) (f : FuncId) (ops : Array Oper) (t : List AV) (h : List AObj) (i : Nat) : AV := match ops[i]? with
  | some o => (stepV P N E f ops o (runT P N E f ops t h i) h).getD .undef
  | none => .undef

def dstOf (ops : Array Oper) (i : Nat) : Option Tmp := (ops[i]?).bind (·.dst)

theorem quiet_spec {ops : Array Oper} {t t' : List AV} {h : List AObj} : ∀ (l : List Oper) (i : Nat), (∀ k, l[k]? = ops[i + k]?) → quietA P N E f ops l (runT P N E f ops t h i) h = some t' →
    t' = runT P N E f ops t h (i + l.length) ∧ ∀ k o, i ≤ k → ops[k]? = some o → k < i + l.length → stepV P N E f ops o (runT P N E f ops t h k) h = some (valT P N E f ops t h k)
  | [], i, _, hq => by cases hq; exact ⟨rfl, fun k o h1 _ h2 => by simp at h2; omega⟩
  | o :: l, i, hl, hq => by
    have h0 : ops[i]? = some o := by have := hl 0; simpa using this.symm
    rw [quietA] at hq
    obtain ⟨v, h1, h2⟩ := Option.bind_eq_some_iff.1 hq
    have hr : runT P N E f ops t h (i + 1) = putA (runT P N E f ops t h i) o.dst v := by rw [runT, h0]; simp [h1]
    rw [← hr] at h2
    obtain ⟨h3, h4⟩ := quiet_spec l (i + 1) (fun k => by have := hl (k + 1); simp at this; rw [this]; congr 1; omega) h2
    refine ⟨by rw [h3, List.length_cons]; congr 1; omega, fun k o' h5 h6 h7 => ?_⟩
    by_cases hk : k = i
    · subst hk
      rw [h0] at h6; cases h6
      simp only [valT, h0, h1, Option.getD_some]
    · exact h4 k o' (by omega) h6 (by simp at h7; omega)

theorem putA_length (t : List AV) (d : Option Tmp) (v : AV) : (putA t d v).length = t.length := by cases d <;> simp [putA]
theorem putA_other (t : List AV) (d : Option Tmp) (v : AV) (u : Nat) (hd : d ≠ some u) : (putA t d v).getD u (.tuple []) = t.getD u (.tuple []) := by
  cases d with
  | none => rfl
  | some d => simp only [putA, List.getD, List.getElem?_set_ne (fun h => hd (by rw [h]) : d ≠ u)]
theorem putA_self (t : List AV) (v : AV) (u : Nat) (hu : u < t.length) : (putA t (some u) v).getD u (.tuple []) = v := by
  simp [putA, List.getD, hu]

structure Tidy (ops : Array Oper) : Prop where
  dep : Region.departs ops = false
  on : ∀ (i : Nat) (o : Oper), ops[i]? = some o → ∀ e : Edge, e ∈ o.after → e.on < i
  apart : ∀ (i j : Nat) (u : Tmp), dstOf ops i = some u → dstOf ops j = some u → i = j
  looks : ∀ (i : Nat) (o : Oper) (j : Nat) (u : Tmp), ops[i]? = some o → dstOf ops j = some u → u ∈ o.looksAt ops → j < i ∧ ∃ e : Edge, e ∈ o.after ∧ Region.binds .any e = true ∧ e.on = j

theorem tidy_spec {ops : Array Oper} (ht : tidy ops = true) : Tidy ops := by
  unfold tidy at ht
  simp only [Bool.and_eq_true, Bool.not_eq_true'] at ht
  obtain ⟨h1, h2⟩ := ht
  have lt : ∀ {i : Nat} {o : Oper}, ops[i]? = some o → i < ops.size := fun h => (Array.getElem?_eq_some_iff.1 h).1
  have key : ∀ (i : Nat) (o : Oper), ops[i]? = some o → (∀ e : Edge, e ∈ o.after → e.on < i) ∧ ∀ (j : Nat) (u : Tmp), dstOf ops j = some u → (i = j ∨ o.dst ≠ some u) ∧ (u ∈ o.looksAt ops → j < i ∧ ∃ e : Edge, e ∈ o.after ∧ Region.binds .any e = true ∧ e.on = j) := by
    intro i o ho
    have := List.all_eq_true.1 h2 i (by simpa using lt ho)
    rw [ho] at this
    simp only [Bool.and_eq_true] at this
    obtain ⟨h3, h4⟩ := this
    refine ⟨fun e he => by simpa using Array.all_eq_true_iff_forall_mem.1 h3 e he, fun j u hj => ?_⟩
    have hjl : j < ops.size := by
      unfold dstOf at hj
      cases hq : ops[j]? with
      | none => rw [hq] at hj; cases hj
      | some o' => exact lt hq
    have := List.all_eq_true.1 h4 j (by simpa using hjl)
    rw [show (ops[j]?).bind (·.dst) = some u from hj] at this
    simp only [Bool.and_eq_true, Bool.or_eq_true, beq_iff_eq, bne_iff_ne, Bool.not_eq_true', List.contains_eq_mem, decide_eq_false_iff_not, decide_eq_true_eq] at this
    obtain ⟨h5, h6⟩ := this
    refine ⟨h5, fun hu => ?_⟩
    rcases h6 with h6 | ⟨h6, h7⟩
    · exact absurd hu h6
    · obtain ⟨e, he, hb⟩ := Array.any_eq_true'.1 h7
      simp only [Bool.and_eq_true, beq_iff_eq] at hb
      exact ⟨h6, e, he, hb.1, hb.2⟩
  refine ⟨h1, fun i o ho => (key i o ho).1, fun i j u hi hj => ?_, fun i o j u ho hj hu => ((key i o ho).2 j u hj).2 hu⟩
  unfold dstOf at hi
  cases hq : ops[i]? with
  | none => rw [hq] at hi; cases hi
  | some o =>
    rw [hq] at hi
    rcases ((key i o hq).2 j u hj).1 with h | h
    · exact h
    · exact absurd hi h

/-- Some have been done. -/
structure Ov (P : Program) (N : Notes) (E : Env) (f : FuncId) (ops : Array Oper) (t : List AV) (h : List AObj) (D : Nat → Prop) (t' : List AV) : Prop where
  len : t'.length = t.length
  out : ∀ u, (∀ j, D j → dstOf ops j ≠ some u) → t'.getD u (.tuple []) = t.getD u (.tuple [])
  ins : ∀ j u, D j → dstOf ops j = some u → u < t.length → t'.getD u (.tuple []) = valT P N E f ops t h j

theorem Ov.step {ops : Array Oper} (ht : Tidy ops) {t t' : List AV} {h : List AObj} {D D' : Nat → Prop} (ho : Ov P N E f ops t h D t') {i : Nat} {o : Oper} (hi : ops[i]? = some o) (hD : ∀ j, D' j ↔ D j ∨ j = i) :
    Ov P N E f ops t h D' (putA t' o.dst (valT P N E f ops t h i)) := by
  have hdi : dstOf ops i = o.dst := by simp [dstOf, hi]
  refine ⟨by rw [putA_length]; exact ho.len, fun u hu => ?_, fun j u hj hd hu => ?_⟩
  · rw [putA_other _ _ _ _ (by rw [← hdi]; exact hu i ((hD i).2 (.inr rfl)))]
    exact ho.out u fun j hj => hu j ((hD j).2 (.inl hj))
  · by_cases hji : j = i
    · subst hji
      rw [← hdi, hd]
      exact putA_self _ _ _ (by rw [ho.len]; exact hu)
    · rw [putA_other _ _ _ _ fun h => hji (ht.apart j i u hd (by rw [hdi]; exact h))]
      exact ho.ins j u (((hD j).1 hj).resolve_right hji) hd hu

theorem runT_ov {ops : Array Oper} (ht : Tidy ops) {t : List AV} {h : List AObj} : ∀ i, i ≤ ops.size → Ov P N E f ops t h (fun j => j < i) (runT P N E f ops t h i)
  | 0, _ => ⟨rfl, fun _ _ => rfl, fun j u hj => by omega⟩
  | i + 1, hi => by
    have hlt : i < ops.size := by omega
    have hq : ops[i]? = some ops[i] := Array.getElem?_eq_getElem hlt
    have hprev : Ov P N E f ops t h (fun j => j < i) (runT P N E f ops t h i) := runT_ov ht i (by omega)
    have := hprev.step ht hq (D' := fun j => j < i + 1) (fun j => by omega)
    have he : runT P N E f ops t h (i + 1) = putA (runT P N E f ops t h i) ops[i].dst (valT P N E f ops t h i) := by
      simp only [runT, valT, hq]
    rw [he]; exact this

theorem Ov.looks {ops : Array Oper} (ht : Tidy ops) {t t' : List AV} {h : List AObj} {D : Nat → Prop} (ho : Ov P N E f ops t h D t') {i : Nat} {o : Oper} (hi : ops[i]? = some o) (hD : ∀ e ∈ o.after, Region.binds .any e = true → D e.on) :
    ∀ u, u ∈ o.looksAt ops → t'.getD u (.tuple []) = (runT P N E f ops t h i).getD u (.tuple []) := by
  have hlt : i < ops.size := (Array.getElem?_eq_some_iff.1 hi).1
  have hr := runT_ov (P := P) (N := N) (E := E) (f := f) ht (t := t) (h := h) i (by omega)
  intro u hu
  by_cases hw : ∃ j, dstOf ops j = some u
  · obtain ⟨j, hj⟩ := hw
    obtain ⟨hji, e, he, hb, hon⟩ := ht.looks i o j u hi hj hu
    by_cases hul : u < t.length
    · rw [ho.ins j u (by rw [← hon]; exact hD e he hb) hj hul, hr.ins j u hji hj hul]
    · simp only [List.getD]
      rw [List.getElem?_eq_none (by rw [ho.len]; exact Nat.le_of_not_lt hul), List.getElem?_eq_none (by rw [hr.len]; exact Nat.le_of_not_lt hul)]
  · rw [ho.out u fun j _ hd => hw ⟨j, hd⟩, hr.out u fun j _ hd => hw ⟨j, hd⟩]

theorem Ov.all {ops : Array Oper} (ht : Tidy ops) {t t' : List AV} {h : List AObj} {D : Nat → Prop} (ho : Ov P N E f ops t h D t') (hD : ∀ j, j < ops.size → D j) : t' = runT P N E f ops t h ops.size := by
  have hr := runT_ov (P := P) (N := N) (E := E) (f := f) ht (t := t) (h := h) ops.size (Nat.le_refl _)
  have hlt : ∀ {j u}, dstOf ops j = some u → j < ops.size := by
    intro j u hj
    unfold dstOf at hj
    cases hq : ops[j]? with
    | none => rw [hq] at hj; cases hj
    | some o' => exact (Array.getElem?_eq_some_iff.1 hq).1
  apply List.ext_getElem (by rw [ho.len, hr.len])
  intro u h1 h2
  have key : t'.getD u (.tuple []) = (runT P N E f ops t h ops.size).getD u (.tuple []) := by
    by_cases hw : ∃ j, dstOf ops j = some u
    · obtain ⟨j, hj⟩ := hw
      have hul : u < t.length := by rw [← ho.len]; exact h1
      rw [ho.ins j u (hD j (hlt hj)) hj hul, hr.ins j u (hlt hj) hj hul]
    · rw [ho.out u fun j _ hd => hw ⟨j, hd⟩, hr.out u fun j _ hd => hw ⟨j, hd⟩]
  rwa [getD_getElem _ _ h1, getD_getElem _ _ h2] at key
end

section
variable {P : Program} {N : Notes} {E : Env} {f : FuncId} {M0 : Nat → Prop} {w0 : World} {φ0 : Phi} {h0 : List AObj} {Q : Exit → Act → World → Prop}
theorem count_set {l : List Bool} {i : Nat} (hi : i < l.length) (hf : l[i] = false) : (l.set i true).count false + 1 = l.count false := by
  induction l generalizing i with
  | nil => simp at hi
  | cons b l ih =>
    cases i with
    | zero => simp at hf; subst hf; simp
    | succ i =>
      have := ih (i := i) (by simpa using hi) (by simpa using hf)
      cases b <;> simp <;> omega

theorem quiet_any (hE : Sound P E) (hh0 : HRel M0 w0 φ0 h0) {ops : Array Oper} (ht : Tidy ops) {t : List AV} {h : List AObj}
    (hcan : ∀ k o, ops[k]? = some o → stepV P N E f ops o (runT P N E f ops t h k) h = some (valT P N E f ops t h k)) (hQ : ∀ a' w', At M0 w0 φ0 h0 ⟨runT P N E f ops t h ops.size, h⟩ a' w' → Q .normal a' w') :
    ∀ (n : Nat) (listed : Array Bool) (t' : List AV) (a : Act) (w : World), listed.size = ops.size → listed.toList.count false ≤ n → Ov P N E f ops t h (fun j => listed.getD j false = true) t' → At M0 w0 φ0 h0 ⟨t', h⟩ a w → wpAny P .any ops Q n listed a w := by
  have done : ∀ (listed : Array Bool) (t' : List AV) (a : Act) (w : World), listed.size = ops.size → Region.ready .any ops listed = [] → Ov P N E f ops t h (fun j => listed.getD j false = true) t' → At M0 w0 φ0 h0 ⟨t', h⟩ a w → Q .normal a w := by
    intro listed t' a w hs hr ho hI
    have all : ∀ j, j < ops.size → listed.getD j false = true := by
      intro j
      induction j using Nat.strongRecOn with
      | _ j ih =>
        intro hj
        cases hl : listed.getD j false with
        | true => rfl
        | false =>
          have hq : ops[j]? = some ops[j] := Array.getElem?_eq_getElem hj
          have hm : j ∈ Region.ready .any ops listed := mem_ready.2 ⟨by
            have hjl : j < listed.size := by omega
            simp only [Array.getD, hjl, dif_pos] at hl ⊢
            exact hl, _, hq, fun e he _ => ih e.on (ht.on j _ hq e he) (by have := ht.on j _ hq e he; omega)⟩
          rw [hr] at hm; cases hm
    have := ho.all ht all
    subst this
    exact hQ _ _ hI
  intro n
  induction n with
  | zero =>
    intro listed t' a w hs hc ho hI
    have hr : Region.ready .any ops listed = [] := by
      cases hq : Region.ready .any ops listed with
      | nil => rfl
      | cons i is =>
        have hm : i ∈ Region.ready .any ops listed := by rw [hq]; exact List.mem_cons_self
        obtain ⟨h1, o, h2, _⟩ := mem_ready.1 hm
        have hil : i < listed.size := by rw [hs]; exact (Array.getElem?_eq_some_iff.1 h2).1
        simp only [Array.getD, hil, dif_pos] at h1
        have hpos : 0 < listed.toList.count false := List.count_pos_iff.2 (by
          rw [← h1]
          exact Array.getElem_mem_toList hil)
        omega
    exact ⟨hr, done _ _ _ _ hs hr ho hI⟩
  | succ n ih =>
    intro listed t' a w hs hc ho hI
    refine ⟨fun hr => done _ _ _ _ hs hr ho hI, fun i hi => ?_⟩
    obtain ⟨h1, o, h2, h3⟩ := mem_ready.1 hi
    have hil : i < listed.size := by rw [hs]; exact (Array.getElem?_eq_some_iff.1 h2).1
    simp only [Array.getD, hil, dif_pos] at h1
    have hv : stepV P N E f ops o t' h = some (valT P N E f ops t h i) := by
      rw [stepV_congr (t' := runT P N E f ops t h i) (ho.looks ht h2 h3)]
      exact hcan i o h2
    refine step_ok hE h2 (stepV_step hv) hI hh0 fun a' w' hI' => ih _ _ a' w' (by simpa using hs) ?_ (ho.step ht h2 fun j => ?_) hI'
    · have := count_set (l := listed.toList) (i := i) (by simpa using hil) (by simpa using h1)
      rw [Array.toList_setIfInBounds]
      omega
    · by_cases hj : i = j
      · subst hj; simp [hil]
      · rw [Go.getD_set_ne false hj]
        constructor
        · exact fun h => .inl h
        · rintro (h | h)
          · exact h
          · exact absurd h.symm hj

theorem drawn_ok (hE : Sound P E) (hh0 : HRel M0 w0 φ0 h0) {id : Nat} {ops : Array Oper} {s s' : St} {a : Act} {w : World} (hs : drawnA P N E f h0.length ops s = some s') (hI : At M0 w0 φ0 h0 s a w)
    (hQ : ∀ a' w', At M0 w0 φ0 h0 s' a' w' → Q .normal a' w') : (Code.region id ops true).wp P Q a w := by
  refine wp_region_draw fun t => ?_
  unfold drawnA at hs
  split at hs
  case h_1 =>
    rename_i t' hq
    cases hs
    split at hq
    case isFalse => cases hq
    rename_i htd
    have ht := tidy_spec htd
    have hsp := quiet_spec (P := P) (N := N) (E := E) (f := f) (t := s.t) (h := s.h) ops.toList 0 (fun k => by simp) hq
    obtain ⟨h1, h2⟩ := hsp
    have e0 : 0 + ops.toList.length = ops.size := by simp
    rw [e0] at h1
    subst h1
    unfold Region.schedule
    simp only [ht.dep, Bool.not_false, Bool.or_true, if_true]
    refine wpAny_sound _ t _ _ _ (quiet_any hE hh0 ht (fun k o ho => h2 k o (Nat.zero_le _) ho (by rw [e0]; exact (Array.getElem?_eq_some_iff.1 ho).1)) hQ _ _ s.t a _ (by simp) ?_ ⟨rfl, fun _ _ => rfl, fun j u hj => ?_⟩ hI.drawn)
    · simp [List.count_replicate]
    · simp [Array.getD] at hj
  unfold fullA at hs
  dsimp only at hs
  unfold Region.schedule
  by_cases hd : Region.departs ops = true
  · rw [if_pos hd] at hs
    have all := agree_spec hs
    have go : ∀ md, anyA P N E f h0.length md ops ops.size (Array.replicate ops.size false) s = some s' → ∀ t, wpOps P ops Q (Region.linearise md ops t) a { w with drawn := w.drawn + 1 } := fun md h t =>
      wpAny_sound _ t _ _ _ (any_ok hE hh0 hQ _ _ s a _ h hI.drawn)
    split
    · exact go _ (all _ (by simp)) _
    · split
      · exact go _ (all _ (by simp)) _
      · exact go _ (all _ (by simp)) _
  · have hd' : Region.departs ops = false := by simpa using hd
    rw [if_neg hd] at hs
    simp only [hd', Bool.not_false, Bool.or_true, if_true]
    exact wpAny_sound _ t _ _ _ (any_ok hE hh0 hQ _ _ s a _ hs hI.drawn)

end
end Am
