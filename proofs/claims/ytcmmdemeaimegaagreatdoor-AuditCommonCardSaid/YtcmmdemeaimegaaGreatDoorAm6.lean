/-
  A part of a proved abstract machine over the model, and of what it tells of this seat's functions. Conditions: as each theorem states them.
-/
import Derived.Test.YtcmmdemeaimegaaGreatDoorAm5
namespace Am
open Go
set_option linter.unusedSimpArgs false
set_option linter.unusedVariables false

section
variable {P : Program} {M : Nat → Prop} {w : World} {φ : Phi} {h : List AObj}

theorem VRel.noref {v : AV} {x : Value} (hr : refs v = []) (hv : VRel M w φ v x) : VRel M w (fun _ => none) v x := by
  have := hv.go (fun i => i) (fun _ => none) (fun b hb hm => ⟨hb, hm, rfl⟩) (fun b id _ => rfl) (fun id hid b _ => by rw [hr] at hid; cases hid)
  rwa [ren_id] at this

theorem refsL_nil {l : List AV} (hl : refsL l = []) : ∀ i (h : i < l.length), refs l[i] = [] := by
  intro i hi
  cases hr : refs l[i] with
  | nil => rfl
  | cons a b =>
    have := refsL_mem (l := l) hi (id := a) (by rw [hr]; simp)
    rw [hl] at this; cases this

/-- Cells that are stored. -/
def LRel (M : Nat → Prop) (w : World) (φ : Phi) (cs : List AV) (xs : Array Value) : Prop :=
  cs.length = xs.size ∧ (∀ i, i < xs.size → (xs.getD i Go.undef).oneCell' = true) ∧ ∀ i (h : i < cs.length), VRel M w φ cs[i] (xs.getD i Go.undef)

theorem LRel.pr {cs : List AV} {xs : Array Value} (hl : LRel M w φ cs xs) (i : Nat) (hi : i < cs.length) :
    VRel M w (if noRefs cs then fun _ => none else φ) cs[i] (xs.getD i Go.undef) := by
  split
  · rename_i hn
    refine VRel.noref (refsL_nil (by simpa [noRefs] using hn) i hi) (hl.2.2 i hi)
  · exact hl.2.2 i hi

theorem stored_ok {v : AV} {vs : List AV} {x : Value} (hs : v.stored = some vs) (hx : VRel M w φ v x) : LRel M w φ vs x.cells := by
  cases hx with
  | undef => simp [AV.stored] at hs
  | tuple => simp [AV.stored] at hs
  | agg _ cs xs h1 h2 h3 =>
    simp only [AV.stored, Option.some.injEq] at hs
    subst hs
    exact ⟨h1, fun i hi => h2 i (by simp only [Value.cells] at hi; omega), h3⟩
  | iptr _ cs off b o f hm hb hc h1 hv =>
    simp only [AV.stored, Option.some.injEq] at hs
    subst hs
    exact ⟨rfl, fun i hi => by simp [Value.cells] at hi; subst hi; rfl, fun i hi => by simp at hi; subst hi; exact VRel.iptr _ _ _ _ _ f hm hb hc h1 hv⟩
  | isl _ cs len cap a c f h1 h2 h3 ha hc h4 hv =>
    simp only [AV.stored, Option.some.injEq] at hs
    subst hs
    exact ⟨rfl, fun i hi => by simp [Value.cells] at hi; subst hi; rfl, fun i hi => by simp at hi; subst hi; exact VRel.isl _ _ _ _ _ _ f h1 h2 h3 ha hc h4 hv⟩
  | sl _ id off len size cap b c hb h1 h2 h3 h4 =>
    simp only [AV.stored, Option.some.injEq] at hs
    subst hs
    exact ⟨rfl, fun i hi => by simp [Value.cells] at hi; subst hi; rfl, fun i hi => by simp at hi; subst hi; exact VRel.sl _ _ _ _ _ _ _ _ hb h1 h2 h3 h4⟩
  | func _ fn first cap xs ys h1 h2 hx hy =>
    simp only [AV.stored, Option.some.injEq] at hs
    subst hs
    exact ⟨rfl, fun i hi => by simp [Value.cells] at hi; subst hi; rfl, fun i hi => by simp at hi; subst hi; exact VRel.func _ _ _ _ _ _ h1 h2 hx hy⟩
  | iface _ t v x hv =>
    simp only [AV.stored, Option.some.injEq] at hs
    subst hs
    exact ⟨rfl, fun i hi => by simp [Value.cells] at hi; subst hi; rfl, fun i hi => by simp at hi; subst hi; exact VRel.iface _ _ _ _ hv⟩
  | ptr _ id off b hb =>
    simp only [AV.stored, Option.some.injEq] at hs
    subst hs
    exact ⟨rfl, fun i hi => by simp [Value.cells] at hi; subst hi; rfl, fun i hi => by simp at hi; subst hi; exact VRel.ptr _ _ _ _ hb⟩
  | map _ id b hb =>
    simp only [AV.stored, Option.some.injEq] at hs
    subst hs
    exact ⟨rfl, fun i hi => by simp [Value.cells] at hi; subst hi; rfl, fun i hi => by simp at hi; subst hi; exact VRel.map _ _ _ hb⟩
  | _ =>
    simp only [AV.stored, Option.some.injEq] at hs
    subst hs
    refine ⟨rfl, fun i hi => by simp [Value.cells] at hi; subst hi; rfl, fun i hi => by simp at hi; subst hi; simp [Value.cells, Array.getD]; constructor⟩

theorem getD_append_left {α} (l l' : List α) (d : α) {i : Nat} (hi : i < l.length) : (l ++ l').getD i d = l.getD i d := by
  simp [List.getD, List.getElem?_append_left hi]
theorem getD_append_at {α} (l : List α) (a d : α) : (l ++ [a]).getD l.length d = a := by
  simp [List.getD]

/-- A NEW BLOCK. -/
theorem alloc_post (ho : Own M w φ) (hf : φ h.length = none) (o : AObj) (ob : Obj) (w1 : World) (hw : w1.heap = w.heap) (hw1 : w1.os = w.os) (hw2 : w1.tape = w.tape) (hw3 : w1.output = w.output)
    (hr : ∀ (M' : Nat → Prop) (w' : World) (φ' : Phi), (∀ b, b < w.heap.size → ¬ M b → b < w'.heap.size ∧ ¬ M' b ∧ w'.heap[b]? = w.heap[b]?) → (∀ b id, φ id = some b → w'.shape? b = w.shape? b) →
      (∀ id b, φ id = some b → φ' id = some b) → ORel M' w' φ' o ob) :
    Post M w φ h [] (fun b => M b ∨ b = w.heap.size) (w1.alloc ob) (fun i => if i = h.length then some w.heap.size else φ i) (h ++ [o]) := by
  have hmono : ∀ id b, φ id = some b → (if id = h.length then some w.heap.size else φ id) = some b := by
    intro id b hb
    split
    · rename_i he; subst he; rw [hf] at hb; cases hb
    · exact hb
  have hold : ∀ b, b < w.heap.size → (w1.alloc ob).heap[b]? = w.heap[b]? := by
    intro b hb
    show (w1.heap.push ob)[b]? = _
    rw [hw]
    rw [Array.getElem?_push, if_neg (Nat.ne_of_lt hb)]
  have hsh : ∀ b, b < w.heap.size → (w1.alloc ob).shape? b = w.shape? b := by
    intro b hb
    simp only [World.shape?, hold b hb]
  refine { len := by simp, size := by simp [hw], os := hw1, tape := hw2, output := hw3, old := fun b hb _ => hold b hb, shape := hsh, mono := hmono, new := ?_, newinj := ?_, mem := ?_, frame := ?_, objs := ?_ }
  · intro id b hb
    split at hb
    · rename_i he; cases hb; exact .inr ⟨by omega, by simp; omega, by simp [hw], .inl (Nat.le_refl _)⟩
    · exact .inl hb
  · intro id id' b h1 h2 h3 h4
    split at h3
    · split at h4
      · omega
      · rw [h2] at h4; cases h4
    · rw [h1] at h3; cases h3
  · intro b
    constructor
    · rintro (hb | rfl)
      · exact .inl hb
      · exact .inr ⟨Nat.le_refl _, h.length, by simp⟩
    · rintro (hb | ⟨hb, id, hid⟩)
      · exact .inl hb
      · split at hid
        · cases hid; exact .inr rfl
        · have := (ho.own _ _ hid).2; omega
  · intro id hid _
    exact getD_append_left _ _ _ hid
  · intro id h1 h2
    have : id = h.length := by
      rcases h1 with h1 | h1
      · cases h1
      · simp at h2; omega
    subst this
    refine .inr ⟨w.heap.size, ob, by simp, by show (w1.heap.push ob)[_]? = _; rw [hw]; simp, ?_⟩
    rw [getD_append_at]
    refine hr _ _ _ (fun b hb hm => ⟨by simp [hw]; omega, fun h' => h'.elim hm (fun h' => by omega), hold b hb⟩) (fun b id hb => hsh b (ho.own _ _ hb).2) hmono

/-- A new row. -/
theorem row_post (ho : Own M w φ) (hf : φ h.length = none) {cs : List AV} {xs : Array Value} (hl : LRel M w φ cs xs) (e : TypeId) (grow : Bool) (extra : Array Value) (hg : grow = false → extra.size = 0)
    (hx : ∀ i, i < extra.size → (extra.getD i Go.undef).oneCell' = true) (fr : Nat × Nat) (hfr : fr.1 = fr.2 ∨ (xs ++ extra).size ≤ fr.1) (w1 : World) (hw : w1.heap = w.heap) (hw1 : w1.os = w.os) (hw2 : w1.tape = w.tape) (hw3 : w1.output = w.output) :
    Post M w φ h [] (fun b => M b ∨ b = w.heap.size) (w1.alloc (.cells (xs ++ extra) e fr)) (fun i => if i = h.length then some w.heap.size else φ i) (newCells h cs e grow).2 := by
  refine alloc_post ho hf _ _ w1 hw hw1 hw2 hw3 fun M' w' φ' hs hsh hm => ⟨rfl, by rw [hl.1]; simp, fun h0 => by rw [hl.1]; simp [hg h0], hfr, fun i hi => ?_, fun i hi => ?_⟩
  · by_cases h' : i < xs.size
    · have := hl.2.1 i h'
      simpa [Array.getD, h', Array.getElem_append, show i < xs.size + extra.size by omega] using this
    · simp only [Array.size_append] at hi
      have := hx (i - xs.size) (by omega)
      simpa [Array.getD, h', Array.getElem_append, hi, show i - xs.size < extra.size by omega] using this
  · have h' : i < xs.size := by have := hl.1; omega
    have hv := hl.pr i hi
    have e1 : (xs ++ extra).getD i Go.undef = xs.getD i Go.undef := by simp [Array.getD, h', Array.getElem_append, show i < xs.size + extra.size by omega]
    rw [e1]
    by_cases hn : noRefs cs = true
    · rw [if_pos hn] at hv ⊢
      exact hv.stay hs (fun b id h => by cases h) (fun id b h => by cases h)
    · rw [if_neg hn] at hv ⊢
      exact hv.stay hs hsh hm

def setArr (xs : Array Value) (off : Nat) : List Value → Array Value
  | [] => xs
  | v :: vs => setArr (xs.setIfInBounds off v) (off + 1) vs

theorem setArr_size (xs : Array Value) (off : Nat) (vs : List Value) : (setArr xs off vs).size = xs.size := by
  induction vs generalizing xs off with
  | nil => rfl
  | cons v vs ih => rw [setArr, ih]; simp

theorem setCells_length (cs : List AV) (off : Nat) (vs : List AV) : (setCells cs off vs).length = cs.length := by
  induction vs generalizing cs off with
  | nil => rfl
  | cons v vs ih => rw [setCells, ih]; simp

def putBlock (w : World) (b : Nat) (ob : Obj) : World := { w with heap := w.heap.setIfInBounds b ob }

theorem run_storeCells' (b : Nat) (e : TypeId) (fr : Nat × Nat) : ∀ (vs : List Value) (o i : Nat) (xs : Array Value) (w : World), w.heap[b]? = some (.cells xs e fr) → o + i + vs.length ≤ xs.size →
    (∀ j, j < xs.size → ¬ (fr.1 ≤ j ∧ j < fr.2)) → (∀ v ∈ vs, v.oneCell' = true) →
    (storeCells ⟨b, o, none⟩ vs i).run P w = .ok () (putBlock w b (.cells (setArr xs (o + i) vs) e fr)) := by
  intro vs
  induction vs with
  | nil =>
    intro o i xs w hb _ _ _
    have hlt : b < w.heap.size := by
      rcases Nat.lt_or_ge b w.heap.size with h | h
      · exact h
      · rw [Array.getElem?_eq_none h] at hb; cases hb
    have : putBlock w b (.cells xs e fr) = w := by
      unfold putBlock
      have : w.heap.setIfInBounds b (.cells xs e fr) = w.heap := by
        apply Array.ext_getElem?
        intro j
        rw [Array.getElem?_setIfInBounds]
        by_cases hj : b = j
        · subst hj; rw [if_pos rfl, if_pos hlt, hb]
        · rw [if_neg hj]
      rw [this]
    simp [storeCells, setArr, this]
  | cons v vs ih =>
    intro o i xs w hb hl hf h1
    have hcell : w.cell? ⟨b, o + i, none⟩ = some (xs[o + i]'(by simp at hl; omega)) := by
      simp [World.cell?, hb]
    have hfz : w.frozen? ⟨b, o + i, none⟩ = false := by
      have := hf (o + i) (by simp at hl; omega)
      simp only [World.frozen?, hb]
      simpa using this
    have hset : w.setCell ⟨b, o + i, none⟩ v = putBlock w b (.cells (xs.setIfInBounds (o + i) v) e fr) := by
      have hlt : b < w.heap.size := by
        rcases Nat.lt_or_ge b w.heap.size with h | h
        · exact h
        · rw [Array.getElem?_eq_none h] at hb; cases hb
      unfold World.setCell putBlock
      have : (w.heap.modify b fun
          | .cells c elem frozen => .cells (if (⟨b, o + i, none⟩ : Addr).spot.isSome then c else c.setIfInBounds (o + i) v) elem frozen
          | o => o) = w.heap.setIfInBounds b (.cells (xs.setIfInBounds (o + i) v) e fr) := by
        apply Array.ext_getElem?
        intro j
        rw [Array.getElem?_modify, Array.getElem?_setIfInBounds]
        by_cases hj : b = j
        · subst hj; rw [if_pos rfl, if_pos rfl, if_pos hlt, hb]; simp
        · rw [if_neg hj, if_neg hj]
      exact congrArg (fun h => ({ w with heap := h } : World)) this
    rw [storeCells]
    rw [Sem.run_bind, show (⟨b, o, none⟩ : Addr).add i = ⟨b, o + i, none⟩ from Addr.add_lit _ _ _, run_store P w _ v _ (h1 v (by simp)), hcell]
    simp only [hfz, Bool.false_eq_true, if_false, Result.andThen_ok, hset]
    have hb' : (putBlock w b (.cells (xs.setIfInBounds (o + i) v) e fr)).heap[b]? = some (.cells (xs.setIfInBounds (o + i) v) e fr) := by
      have : b < w.heap.size := by
        rcases Nat.lt_or_ge b w.heap.size with h | h
        · exact h
        · rw [Array.getElem?_eq_none h] at hb; cases hb
      simp [putBlock, Array.getElem?_setIfInBounds, this]
    rw [ih o (i + 1) _ _ hb' (by simp at hl ⊢; omega) (by simpa using hf) (fun v hv => h1 v (by simp [hv]))]
    simp only [setArr, Nat.add_assoc]
    congr 1
    unfold putBlock
    simp

end
end Am
