/-
  A part of a proved abstract machine over the model, and of what it tells of this seat's functions. Conditions: as each theorem states them.
-/
import Derived.Test.YtcmmdemeaimegaaGreatDoorAm1
import Derived.Laws.World
import Derived.Laws.Sem
import Derived.Laws.Entries
namespace Am
open Go
set_option linter.unusedVariables false

abbrev Phi := Nat → Option Nat

/-- A value of the machine's, and one of the model's. M: the blocks that may be written. -/
inductive VRel (M : Nat → Prop) (w : World) : Phi → AV → Value → Prop
  | undef (φ : Phi) (x : Value) : VRel M w φ .undef x
  | bool (φ : Phi) (b : Bool) : VRel M w φ (.bool b) (.bool b)
  | int (φ : Phi) (k : IntKind) (n : Int) : VRel M w φ (.int k n) (.int k n)
  | str (φ : Phi) (s : ByteArray) : VRel M w φ (.str s.data.toList) (.string s)
  | pnil (φ : Phi) : VRel M w φ .pnil (.pointer none)
  | ptr (φ : Phi) (id off b : Nat) : φ id = some b → VRel M w φ (.ptr id off) (.pointer (some ⟨b, off, none⟩))
  | iptr (φ : Phi) (cs : List AV) (off b o : Nat) (f : Nat → Value) : ¬ M b → b < w.heap.size →
      (∀ i, i < cs.length → w.cell? ⟨b, o + i, none⟩ = some (f i)) → (∀ i, i < cs.length → (f i).oneCell' = true) →
      (∀ i (h : i < cs.length), VRel M w (fun _ => none) cs[i] (f i)) → VRel M w φ (.iptr cs off) (.pointer (some ⟨b, o + off, none⟩))
  | gptr (φ : Phi) (g off : Nat) : VRel M w φ (.gptr g off) (.pointer (some ⟨g, off, none⟩))
  | snil (φ : Phi) : VRel M w φ .snil (.slice none 0 0)
  | sl (φ : Phi) (id off len size : Nat) (cap : Option Nat) (b c : Nat) : φ id = some b → len ≤ c → c ≤ 9223372036854775807 →
      (∀ k, cap = some k → c = k) → (cap = none → ∃ e n, w.shape? b = some (e, n) ∧ off + c * size = n) →
      VRel M w φ (.sl id off len size cap) (.slice (some ⟨b, off, none⟩) len c)
  | isl (φ : Phi) (cs : List AV) (len : Nat) (cap : Option Nat) (a : Addr) (c : Nat) (f : Nat → Value) : len ≤ c → c ≤ 9223372036854775807 →
      (∀ k, cap = some k → c = k) → (cs ≠ [] → a.spot = none ∧ ¬ M a.block ∧ a.block < w.heap.size) →
      (∀ i, i < cs.length → w.cell? ⟨a.block, a.off + i, none⟩ = some (f i)) → (∀ i, i < cs.length → (f i).oneCell' = true) →
      (∀ i (h : i < cs.length), VRel M w (fun _ => none) cs[i] (f i)) → VRel M w φ (.isl cs len cap) (.slice (some a) len c)
  | mnil (φ : Phi) : VRel M w φ .mnil (.map none)
  | map (φ : Phi) (id b : Nat) : φ id = some b → VRel M w φ (.map id) (.map (some b))
  | func (φ : Phi) (fn : Fn) (first cap : List AV) (xs ys : Array Value) : first.length = xs.size → cap.length = ys.size →
      (∀ i (h : i < first.length), VRel M w φ first[i] (xs.getD i Go.undef)) → (∀ i (h : i < cap.length), VRel M w φ cap[i] (ys.getD i Go.undef)) →
      VRel M w φ (.func fn first cap) (.func fn xs ys)
  | fnil (φ : Phi) : VRel M w φ .fnil .nilFunc
  | iface (φ : Phi) (t : TypeId) (v : AV) (x : Value) : VRel M w φ v x → VRel M w φ (.iface t v) (.iface t x)
  | inil (φ : Phi) : VRel M w φ .inil .nilIface
  | agg (φ : Phi) (cs : List AV) (xs : Array Value) : cs.length = xs.size → (∀ i, i < cs.length → (xs.getD i Go.undef).oneCell' = true) →
      (∀ i (h : i < cs.length), VRel M w φ cs[i] (xs.getD i Go.undef)) → VRel M w φ (.agg cs) (.agg xs)
  | tuple (φ : Phi) (cs : List AV) (xs : Array Value) : cs.length = xs.size →
      (∀ i (h : i < cs.length), VRel M w φ cs[i] (xs.getD i Go.undef)) → VRel M w φ (.tuple cs) (.tuple xs)

theorem refsL_mem {l : List AV} {i : Nat} (h : i < l.length) {id : Nat} (hr : id ∈ refs l[i]) : id ∈ refsL l := by
  induction l generalizing i with
  | nil => simp at h
  | cons v vs ih =>
    rw [refsL]
    cases i with
    | zero => exact List.mem_append.2 (.inl (by simpa using hr))
    | succ i => exact List.mem_append.2 (.inr (ih (i := i) (by simpa using h) (by simpa using hr)))

theorem renL_length (f : Nat → Nat) (l : List AV) : (renL f l).length = l.length := by
  induction l with
  | nil => rfl
  | cons v vs ih => simp [renL, ih]
theorem renL_get (f : Nat → Nat) (l : List AV) (i : Nat) (h : i < (renL f l).length) : (renL f l)[i] = ren f (l[i]'(by rw [renL_length] at h; exact h)) := by
  induction l generalizing i with
  | nil => simp [renL] at h
  | cons v vs ih =>
    cases i with
    | zero => simp [renL]
    | succ i => simp only [renL, List.getElem_cons_succ]; exact ih i _

mutual
theorem ren_id : ∀ v : AV, ren (fun i => i) v = v
  | .undef => rfl | .bool _ => rfl | .int _ _ => rfl | .str _ => rfl | .pnil => rfl | .ptr _ _ => rfl | .iptr _ _ => rfl | .gptr _ _ => rfl
  | .snil => rfl | .sl _ _ _ _ _ => rfl | .isl _ _ _ => rfl | .mnil => rfl | .map _ => rfl | .fnil => rfl | .inil => rfl
  | .func fn a b => by rw [ren, renL_id a, renL_id b]
  | .iface t v => by rw [ren, ren_id v]
  | .agg cs => by rw [ren, renL_id cs]
  | .tuple cs => by rw [ren, renL_id cs]
theorem renL_id : ∀ l : List AV, renL (fun i => i) l = l
  | [] => rfl
  | v :: vs => by rw [renL, ren_id v, renL_id vs]
end

/-- THE WORLD GOES ON, THE NUMBERS CHANGE: what is frozen stands, what is referred to is known. -/
theorem VRel.go {M M' : Nat → Prop} {w w' : World} {φ : Phi} {v : AV} {x : Value} (h : VRel M w φ v x) (f : Nat → Nat) (φ' : Phi)
    (hs : ∀ b, b < w.heap.size → ¬ M b → b < w'.heap.size ∧ ¬ M' b ∧ w'.heap[b]? = w.heap[b]?)
    (hsh : ∀ b id, φ id = some b → w'.shape? b = w.shape? b)
    (hr : ∀ id, id ∈ refs v → ∀ b, φ id = some b → φ' (f id) = some b) : VRel M' w' φ' (ren f v) x := by
  induction h generalizing f φ' with
  | undef φ x => exact .undef _ _
  | bool φ b => exact .bool _ _
  | int φ k n => exact .int _ _ _
  | str φ s => exact .str _ _
  | pnil φ => exact .pnil _
  | ptr φ id off b hb => exact .ptr _ _ _ _ (hr id (by simp [refs]) b hb)
  | iptr φ cs off b o g hm hb hc h1 hv ih =>
    obtain ⟨hb', hm', he⟩ := hs b hb hm
    refine .iptr _ _ _ _ _ g hm' hb' (fun i hi => ?_) h1 (fun i hi => ?_)
    · rw [← hc i hi]; simp only [World.cell?, he]
    · have := ih i hi (fun i => i) (fun _ => none) (fun b id h => by cases h) (fun id _ b h => by cases h)
      rwa [show ren (fun i => i) cs[i] = cs[i] from ?_] at this
      exact ren_id _
  | gptr φ g off => exact .gptr _ _ _
  | snil φ => exact .snil _
  | sl φ id off len size cap b c hb h1 h2 h3 h4 =>
    refine .sl _ _ _ _ _ _ _ _ (hr id (by simp [refs]) b hb) h1 h2 h3 fun h => ?_
    obtain ⟨e, n, h5, h6⟩ := h4 h
    exact ⟨e, n, by rw [hsh b id hb]; exact h5, h6⟩
  | isl φ cs len cap a c g h1 h2 h3 ha hc h4 hv ih =>
    refine .isl _ _ _ _ _ _ g h1 h2 h3 (fun hne => ?_) (fun i hi => ?_) h4 (fun i hi => ?_)
    · obtain ⟨h5, h6, h7⟩ := ha hne
      obtain ⟨hb', hm', he⟩ := hs _ h7 h6
      exact ⟨h5, hm', hb'⟩
    · obtain ⟨h5, h6, h7⟩ := ha (by intro h; simp [h] at hi)
      obtain ⟨hb', hm', he⟩ := hs _ h7 h6
      rw [← hc i hi]; simp only [World.cell?, he]
    · have := ih i hi (fun i => i) (fun _ => none) (fun b id h => by cases h) (fun id _ b h => by cases h)
      rwa [show ren (fun i => i) cs[i] = cs[i] from ?_] at this
      exact ren_id _
  | mnil φ => exact .mnil _
  | map φ id b hb => exact .map _ _ _ (hr id (by simp [refs]) b hb)
  | func φ fn first cap xs ys h1 h2 hx hy ihx ihy =>
    refine .func _ _ _ _ _ _ (by rw [renL_length]; exact h1) (by rw [renL_length]; exact h2) (fun i hi => ?_) (fun i hi => ?_)
    · rw [renL_get]
      exact ihx i (by rwa [renL_length] at hi) f φ' hsh (fun id hid b hb => hr id (by simp only [refs]; exact List.mem_append.2 (.inl (refsL_mem _ hid))) b hb)
    · rw [renL_get]
      exact ihy i (by rwa [renL_length] at hi) f φ' hsh (fun id hid b hb => hr id (by simp only [refs]; exact List.mem_append.2 (.inr (refsL_mem _ hid))) b hb)
  | fnil φ => exact .fnil _
  | iface φ t v x hv ih => exact .iface _ _ _ _ (ih f φ' hsh (fun id hid b hb => hr id (by simpa [refs] using hid) b hb))
  | inil φ => exact .inil _
  | agg φ cs xs h1 h2 hv ih =>
    refine .agg _ _ _ (by rw [renL_length]; exact h1) (fun i hi => h2 i (by rwa [renL_length] at hi)) (fun i hi => ?_)
    rw [renL_get]
    exact ih i (by rwa [renL_length] at hi) f φ' hsh (fun id hid b hb => hr id (by simp only [refs]; exact refsL_mem _ hid) b hb)
  | tuple φ cs xs h1 hv ih =>
    refine .tuple _ _ _ (by rw [renL_length]; exact h1) (fun i hi => ?_)
    rw [renL_get]
    exact ih i (by rwa [renL_length] at hi) f φ' hsh (fun id hid b hb => hr id (by simp only [refs]; exact refsL_mem _ hid) b hb)

/-- The same numbers. -/
theorem VRel.stay {M M' : Nat → Prop} {w w' : World} {φ φ' : Phi} {v : AV} {x : Value} (h : VRel M w φ v x)
    (hs : ∀ b, b < w.heap.size → ¬ M b → b < w'.heap.size ∧ ¬ M' b ∧ w'.heap[b]? = w.heap[b]?)
    (hsh : ∀ b id, φ id = some b → w'.shape? b = w.shape? b)
    (hr : ∀ id b, φ id = some b → φ' id = some b) : VRel M' w' φ' v x := by
  have := h.go (fun i => i) φ' hs hsh (fun id _ b hb => hr id b hb)
  rwa [ren_id] at this

def ORel (M : Nat → Prop) (w : World) (φ : Phi) : AObj → Obj → Prop
  | .dead, _ => True
  | .cells cs e grow pr, .cells xs e' fr => e' = e ∧ cs.length ≤ xs.size ∧ (grow = false → cs.length = xs.size) ∧ (fr.1 = fr.2 ∨ xs.size ≤ fr.1) ∧
      (∀ i, i < xs.size → (xs.getD i Go.undef).oneCell' = true) ∧ ∀ i (h : i < cs.length), VRel M w (if pr then fun _ => none else φ) cs[i] (xs.getD i Go.undef)
  | .map es pr, .map xs _ => es.length = xs.size ∧ ∀ i (h : i < es.length), VRel M w (if pr then fun _ => none else φ) es[i].1 ((xs[i]?).map (·.key) |>.getD Go.undef) ∧
      VRel M w (if pr then fun _ => none else φ) es[i].2 ((xs[i]?).map (·.val) |>.getD Go.undef)
  | _, _ => False

/-- An object stands where it is said to. -/
def HAt (M : Nat → Prop) (w : World) (φ : Phi) (h : List AObj) (id : Nat) : Prop :=
  h.getD id .dead = .dead ∨ ∃ b ob, φ id = some b ∧ w.heap[b]? = some ob ∧ ORel M w φ (h.getD id .dead) ob

structure Own (M : Nat → Prop) (w : World) (φ : Phi) : Prop where
  own : ∀ id b, φ id = some b → M b ∧ b < w.heap.size
  top : ∀ b, M b → b < w.heap.size

/-- What an operation leaves. W: what it writes. -/
structure Post (M : Nat → Prop) (w : World) (φ : Phi) (h : List AObj) (W : List Nat) (M' : Nat → Prop) (w' : World) (φ' : Phi) (h' : List AObj) : Prop where
  len : h.length ≤ h'.length
  size : w.heap.size ≤ w'.heap.size
  os : w'.os = w.os
  tape : w'.tape = w.tape
  output : w'.output = w.output
  old : ∀ b, b < w.heap.size → (∀ id, id ∈ W → φ id ≠ some b) → w'.heap[b]? = w.heap[b]?
  shape : ∀ b, b < w.heap.size → w'.shape? b = w.shape? b
  mono : ∀ id b, φ id = some b → φ' id = some b
  new : ∀ id b, φ' id = some b → φ id = some b ∨ (h.length ≤ id ∧ id < h'.length ∧ b < w'.heap.size ∧ (w.heap.size ≤ b ∨ ∃ id0, id0 ∈ W ∧ φ id0 = some b ∧ h'.getD id0 .dead = .dead))
  newinj : ∀ id id' b, φ id = none → φ id' = none → φ' id = some b → φ' id' = some b → id = id'
  mem : ∀ b, M' b ↔ M b ∨ (w.heap.size ≤ b ∧ ∃ id, φ' id = some b)
  frame : ∀ id, id < h.length → id ∉ W → h'.getD id .dead = h.getD id .dead
  objs : ∀ id, (id ∈ W ∨ h.length ≤ id) → id < h'.length → HAt M' w' φ' h' id

theorem Post.refl (M : Nat → Prop) (w : World) (φ : Phi) (h : List AObj) (ho : Own M w φ) : Post M w φ h [] M w φ h where
  len := Nat.le_refl _
  size := Nat.le_refl _
  os := rfl
  tape := rfl
  output := rfl
  old _ _ _ := rfl
  shape _ _ := rfl
  mono _ _ h := h
  new _ _ h := .inl h
  newinj _ _ _ h _ h2 := by rw [h] at h2; cases h2
  mem b := ⟨fun h => .inl h, fun h => h.elim id fun ⟨h1, id, h2⟩ => absurd (ho.own _ _ h2).2 (by omega)⟩
  frame _ _ _ := rfl
  objs id h1 h2 := by rcases h1 with h1 | h1; · cases h1
                      · omega

theorem Post.owns {M M' : Nat → Prop} {w w' : World} {φ φ' : Phi} {h h' : List AObj} {W : List Nat} (hp : Post M w φ h W M' w' φ' h') (ho : Own M w φ) : Own M' w' φ' where
  own id b hb := by
    rcases hp.new id b hb with h1 | ⟨_, _, h2, h3⟩
    · obtain ⟨h4, h5⟩ := ho.own _ _ h1
      exact ⟨(hp.mem b).2 (.inl h4), Nat.lt_of_lt_of_le h5 hp.size⟩
    · refine ⟨?_, h2⟩
      rcases h3 with h3 | ⟨id0, _, h4, _⟩
      · exact (hp.mem b).2 (.inr ⟨h3, id, hb⟩)
      · exact (hp.mem b).2 (.inl (ho.own _ _ h4).1)
  top b hb := by
    rcases (hp.mem b).1 hb with h1 | ⟨_, id, h2⟩
    · exact Nat.lt_of_lt_of_le (ho.top _ h1) hp.size
    · rcases hp.new id b h2 with h3 | ⟨_, _, h4, _⟩
      · exact Nat.lt_of_lt_of_le (ho.own _ _ h3).2 hp.size
      · exact h4

/-- What is frozen stands. -/
theorem Post.stays {M M' : Nat → Prop} {w w' : World} {φ φ' : Phi} {h h' : List AObj} {W : List Nat} (hp : Post M w φ h W M' w' φ' h') (ho : Own M w φ) :
    ∀ b, b < w.heap.size → ¬ M b → b < w'.heap.size ∧ ¬ M' b ∧ w'.heap[b]? = w.heap[b]? := by
  intro b hb hm
  refine ⟨Nat.lt_of_lt_of_le hb hp.size, fun h => ?_, hp.old b hb fun id _ h => hm (ho.own _ _ h).1⟩
  rcases (hp.mem b).1 h with h1 | ⟨h1, _⟩
  · exact hm h1
  · omega

theorem Post.val {M M' : Nat → Prop} {w w' : World} {φ φ' : Phi} {h h' : List AObj} {W : List Nat} (hp : Post M w φ h W M' w' φ' h') (ho : Own M w φ) {v : AV} {x : Value} (hv : VRel M w φ v x) : VRel M' w' φ' v x :=
  hv.stay (hp.stays ho) (fun b id hb => hp.shape b (ho.own _ _ hb).2) hp.mono

/-- What the operation comes to in the model. -/
def OpGoes (P : Program) (ρ : Operand → Value) (o : Oper) (w : World) (R : Value → World → Prop) : Prop :=
  (∃ v w', (execOp ρ o).run P w = .ok (.value v) w' ∧ R v w') ∨ (∃ w', (execOp ρ o).run P w = .ok .skip w' ∧ R Go.undef w') ∨
  (∃ f args w1, (execOp ρ o).run P w = .ok (.enter f args) w1 ∧ Calls P f args w1 fun e w' => ∃ v, e = .returned v ∧ R v w')

end Am
