/-
  A part of a proved abstract machine over the model, and of what it tells of this seat's functions. Conditions: as each theorem states them.
-/
import Derived.Test.YtcmmdemeaimegaaGreatDoorAm13
namespace Am
open Go
set_option linter.unusedSimpArgs false
set_option linter.unusedVariables false

section
variable {P : Program} {M : Nat → Prop} {w : World} {φ : Phi} {h : List AObj}

theorem ba_beq (x y : Array UInt8) : ((⟨x⟩ : ByteArray) == ⟨y⟩) = (x == y) := by
  first | rfl | (show _ = _; simp [BEq.beq]; done) | (unfold BEq.beq; rfl)
theorem ba2 (x y : ByteArray) : (x == y) = (x.data.toList == y.data.toList) := by
  cases x; cases y
  rw [ba_beq, Bool.eq_iff_iff]
  simp only [beq_iff_eq]
  exact ⟨fun h => by rw [h], fun h => Array.ext' h⟩

theorem run_checkKey_basic {t : TypeId} {d : TypeDesc} (hu : P.underlying t = some d) (hd : basicD d = true) (b : Bool) (n : Nat) (x : Value) : (Instr.checkKey b (n + 1) t x).run P w = .ok () w := by
  cases d <;> first | (simp [basicD] at hd; done) | simp [Instr.checkKey, run_underlying hu]

theorem run_part_basic {t : TypeId} {d : TypeDesc} (hu : P.underlying t = some d) (hd : basicD d = true) (cs : Array Value) (off : Nat) (ho : off < cs.size) : (part t cs off).run P w = .ok (cs[off]) w := by
  have : (isAgg t).run P w = .ok false w := by
    simp only [isAgg, Sem.run_bind, run_underlying hu, Result.andThen_ok]
    cases d <;> first | rfl | (simp [basicD] at hd; done)
  simp [part, this, ho]

theorem forIn_unit {α : Type} (l : List α) (f : α → Sem (ForInStep PUnit)) (hf : ∀ a ∈ l, (f a).run P w = .ok (.yield ⟨⟩) w) : (forIn l PUnit.unit (fun a _ => f a)).run P w = .ok ⟨⟩ w := by
  induction l with
  | nil => simp
  | cons a l ih =>
    rw [List.forIn_cons, Sem.run_bind, hf a (by simp)]
    simp only [Result.andThen_ok]
    exact ih (fun b hb => hf b (by simp [hb]))

theorem checkKey_ok {t : TypeId} {v : AV} {x : Value} (hk : keyOkA P t v = true) (hx : VRel M w φ v x) (b : Bool) (n : Nat) : (Instr.checkKey b (n + 2) t x).run P w = .ok () w := by
  unfold keyOkA at hk
  split at hk
  · rename_i fs cs hu
    cases hx with
    | agg _ _ xs h1 h2 h3 =>
    rw [Array.all_eq_true_iff_forall_mem] at hk
    obtain ⟨fs⟩ := fs
    have := forIn_unit (P := P) (w := w) fs (fun f => if f.name ≠ "_" then (do
        let v ← part f.type xs f.offset
        Instr.checkKey b (n + 1) f.type v
        pure (.yield ⟨⟩)) else pure (.yield ⟨⟩)) (fun f hf => by
        have hq := hk f (by simpa using hf)
        simp only [Bool.and_eq_true, decide_eq_true_eq] at hq
        obtain ⟨hq1, hq2⟩ := hq
        split at hq1
        · rename_i d hd
          by_cases hn : f.name = "_"
          · simp [hn]
          · simp only [ne_eq, hn, not_false_eq_true, if_true, Sem.run_bind, run_part_basic hd hq1 xs f.offset (by omega), Result.andThen_ok, run_checkKey_basic hd hq1, Sem.run_pure]
        · cases hq1)
    show (Instr.checkKey b (n + 1 + 1) t _).run P w = _
    rw [Instr.checkKey]
    simp only [Sem.run_bind, run_underlying hu, Result.andThen_ok, List.forIn_toArray]
    first | exact this | (rw [this]; rfl)
  · rename_i d hu _
    exact run_checkKey_basic hu hk b (n + 1) x
  · cases hk

def OptRel (M : Nat → Prop) (w : World) (φ : Phi) : Option (Nat × AV) → Option (Nat × Value) → Prop
  | none, none => True
  | some a, some b => a.1 = b.1 ∧ VRel M w φ a.2 b.2
  | _, _ => False

theorem findKey_ok {d : TypeDesc} {k : AV} {xk : Value} (hx : VRel M w φ k xk) : ∀ (es : List (AV × AV)) (xs : List MapEntry) (i : Nat) (r : Option (Nat × AV)), findKeyA d k es i = some r → es.length = xs.length →
    (∀ j (hj : j < es.length), VRel M w φ es[j].1 ((xs[j]?).map (·.key) |>.getD Go.undef) ∧ VRel M w φ es[j].2 ((xs[j]?).map (·.val) |>.getD Go.undef)) →
    ∃ rr, Instr.findNow d xk xs i = some rr ∧ OptRel M w φ r rr := by
  intro es
  induction es with
  | nil =>
    intro xs i r hf hl hr
    cases xs with
    | nil => simp only [findKeyA, Option.some.injEq] at hf; subst hf; exact ⟨none, rfl, trivial⟩
    | cons => simp at hl
  | cons e es ih =>
    intro xs i r hf hl hr
    obtain ⟨k', v⟩ := e
    cases xs with
    | nil => simp at hl
    | cons x xs =>
      have h0 := hr 0 (by simp)
      simp only [List.getElem_cons_zero, List.getElem?_cons_zero, Option.map_some, Option.getD_some] at h0
      have hnow : ∀ bb, keyEqA d k k' = some bb → Instr.sameNow d xk x.key = some bb := by
        intro bb hbb
        have h1 := h0.1
        generalize x.key = y at h1
        unfold keyEqA at hbb
        split at hbb
        · cases hbb; cases hx; cases h1; rfl
        · split at hbb
          · rename_i hkk; subst hkk; cases hbb; cases hx; cases h1; simp [Instr.sameNow]
          · cases hbb
        · cases hbb; cases hx; cases h1; rename_i s s'
          simp only [Instr.sameNow, Option.some.injEq]
          exact ba2 s s'
        · cases hbb
      rw [findKeyA] at hf
      split at hf
      · rename_i hk'
        cases hf
        exact ⟨some (i, x.val), by rw [Instr.findNow, hnow _ hk'], rfl, h0.2⟩
      · rename_i hk'
        obtain ⟨rr, h1, h2⟩ := ih xs (i + 1) r hf (by simpa using hl) (fun j hj => by have := hr (j + 1) (by simpa using hj); simpa using this)
        exact ⟨rr, by rw [Instr.findNow, hnow _ hk']; exact h1, h2⟩
      · cases hf


theorem lookup_ok {t : TypeId} {m k y : AV} {ok : Bool} {xm xk : Value} (hl : lookupA P h t m k ok = some y) (hm : VRel M w φ m xm) (hk : VRel M w φ k xk) (hh : ∀ id, id ∈ refs m → HAt M w φ h id) :
    ∃ v, (Instr.lookup t xm xk ok).run P w = .ok v w ∧ VRel M w φ y v := by
  unfold lookupA at hl
  split at hl
  case h_2 => cases hl
  rename_i kt e hu
  split at hl
  · cases hl
  rename_i d hd
  split at hl
  · cases hl
  rename_i hko
  have hko' : keyOkA P kt k = true := by cases hq : keyOkA P kt k with
    | true => rfl
    | false => exact absurd hq hko
  obtain ⟨es, hes, hl⟩ := Option.bind_eq_some_iff.1 hl
  obtain ⟨r, hr, hl⟩ := Option.bind_eq_some_iff.1 hl
  obtain ⟨z, hz, hl⟩ := Option.bind_eq_some_iff.1 hl
  obtain ⟨zv, hzv, hzr, _⟩ := zero_ok hz
  have two : ∀ (u : AV) (v : Value) (b : Bool), VRel M w φ u v → VRel M w φ (.tuple [u, .bool b]) (.tuple #[v, .bool b]) := by
    intro u v b hu
    refine .tuple _ _ _ rfl (fun i hi => ?_)
    match i, hi with
    | 0, _ => exact hu
    | 1, _ => exact .bool _ _
  have hck : ∀ b, (Instr.checkKey b 10000 kt xk).run P w = .ok () w := fun b => checkKey_ok hko' hk b 9998
  have key : ∀ xs : List MapEntry, es.length = xs.length → (∀ j (hj : j < es.length), VRel M w φ es[j].1 ((xs[j]?).map (·.key) |>.getD Go.undef) ∧ VRel M w φ es[j].2 ((xs[j]?).map (·.val) |>.getD Go.undef)) →
      ∃ rr, (Instr.findKey kt xk xs).run P w = .ok rr w ∧ OptRel M w φ r rr := by
    intro xs hlen hrel
    obtain ⟨rr, h1, h2⟩ := findKey_ok hk es xs 0 r hr hlen hrel
    exact ⟨rr, by simp [Instr.findKey, run_underlying hd, h1], h2⟩
  have fin : ∀ xs : Array MapEntry, es.length = xs.size → (∀ j (hj : j < es.length), VRel M w φ es[j].1 ((xs[j]?).map (·.key) |>.getD Go.undef) ∧ VRel M w φ es[j].2 ((xs[j]?).map (·.val) |>.getD Go.undef)) →
      (xm = .map none ∧ xs = #[] ∨ ∃ b cl, xm = .map (some b) ∧ w.heap[b]? = some (.map xs cl)) → ∃ v, (Instr.lookup t xm xk ok).run P w = .ok v w ∧ VRel M w φ y v := by
    intro xs hlen hrel hxm
    obtain ⟨rr, hfk, h2⟩ := key xs.toList (by simpa using hlen) (by simpa using hrel)
    rcases hxm with ⟨rfl, rfl⟩ | ⟨b, cl, rfl, hb⟩
    · cases r with
      | none => cases rr with
        | none =>
          simp only [Option.some.injEq] at hl
          subst hl
          refine ⟨if ok then .tuple #[zv, .bool false] else zv, ?_, ?_⟩
          · simp [Instr.lookup, run_underlying hu, hck, hfk, hzv]
          · cases ok
            · exact hzr M w φ
            · exact two _ _ _ (hzr M w φ)
        | some => exact h2.elim
      | some r => cases rr with
        | none => exact h2.elim
        | some rr =>
          simp only [Option.some.injEq] at hl
          subst hl
          refine ⟨if ok then .tuple #[rr.2, .bool true] else rr.2, ?_, ?_⟩
          · simp [Instr.lookup, run_underlying hu, hck, hfk, hzv]
          · cases ok
            · exact h2.2
            · exact two _ _ _ h2.2
    · cases r with
      | none => cases rr with
        | none =>
          simp only [Option.some.injEq] at hl
          subst hl
          refine ⟨if ok then .tuple #[zv, .bool false] else zv, ?_, ?_⟩
          · simp [Instr.lookup, run_underlying hu, getObj, Sem.run, hb, hck, hfk, hzv]
          · cases ok
            · exact hzr M w φ
            · exact two _ _ _ (hzr M w φ)
        | some => exact h2.elim
      | some r => cases rr with
        | none => exact h2.elim
        | some rr =>
          simp only [Option.some.injEq] at hl
          subst hl
          refine ⟨if ok then .tuple #[rr.2, .bool true] else rr.2, ?_, ?_⟩
          · simp [Instr.lookup, run_underlying hu, getObj, Sem.run, hb, hck, hfk, hzv]
          · cases ok
            · exact h2.2
            · exact two _ _ _ h2.2
  unfold lookupA.mapEs at hes
  split at hes
  · cases hes; cases hm
    exact fin #[] rfl (fun j hj => by simp at hj) (.inl ⟨rfl, rfl⟩)
  · rename_i id
    split at hes
    · rename_i es' pr hob
      cases hes; cases hm with
      | map _ _ b hb =>
      rcases hh id (by simp [refs]) with h0 | ⟨b', ob, h1, h2, h3⟩
      · rw [hob] at h0; cases h0
      · rw [hb] at h1; cases h1
        rw [hob] at h3
        cases ob with
        | map xs cl =>
          obtain ⟨h4, h5⟩ := h3
          refine fin xs h4 (fun j hj => ?_) (.inr ⟨b, cl, rfl, h2⟩)
          have := h5 j hj
          by_cases hp : pr = true
          · simp only [hp, if_true] at this; exact ⟨VRel.weak this.1, VRel.weak this.2⟩
          · simp only [hp] at this; exact this
        | _ => exact h3.elim
    · cases hes
  · cases hes

theorem makeMap_ok (ho : Own M w φ) (hf : φ h.length = none) (t : TypeId) :
    ∃ M' φ' v w', (Instr.makeMap t none).run P w = .ok v w' ∧ Post M w φ h [] M' w' φ' (h ++ [.map [] true]) ∧ VRel M' w' φ' (.map h.length) v := by
  have hp := alloc_post (w := w) (h := h) ho hf (.map [] true) (.map #[] 0) w rfl rfl rfl rfl (fun M' w' φ' hs hsh hm => ⟨rfl, fun i hi => by simp at hi⟩)
  exact ⟨fun b => M b ∨ b = w.heap.size, fun i => if i = h.length then some w.heap.size else φ i, .map (some w.heap.size), (w.alloc (.map #[] 0)), by simp [Instr.makeMap], hp, .map _ _ w.heap.size (by simp)⟩

end
end Am
