/-
  A part of a proved abstract machine over the model, and of what it tells of this seat's functions. Conditions: as each theorem states them.
-/
import Derived.Test.YtcmmdemeaimegaaGreatDoorAm7
import Derived.Laws.Tables
import Derived.Laws.MakeOwn
import Derived.Great.BuildSlice
namespace Am
open Go
set_option linter.unusedSimpArgs false
set_option linter.unusedVariables false

section
variable {P : Program} {M : Nat → Prop} {w : World} {φ : Phi} {h : List AObj}

theorem foldl_setArr (off : Nat) : ∀ (l : List Value) (k : Nat) (cs : Array Value), (l.zipIdx k).foldl (fun cs (x : Value × Nat) => cs.setIfInBounds (off + x.2) x.1) cs = setArr cs (off + k) l := by
  intro l
  induction l with
  | nil => intro k cs; rfl
  | cons v l ih => intro k cs; rw [List.zipIdx_cons, List.foldl_cons, ih, setArr, Nat.add_assoc]

theorem fold_cells (v : Array Value) (off : Nat) (cs : Array Value) : v.zipIdx.foldl (fun cs (c, j) => cs.setIfInBounds (off + j) c) cs = setArr cs off v.toList := by
  rw [← Array.foldl_toList, Array.toList_zipIdx]
  exact foldl_setArr off v.toList 0 cs

theorem LRel.set {cs vs : List AV} {xs : Array Value} {vr : Array Value} {off : Nat} (h1 : LRel M w φ cs xs) (h2 : LRel M w φ vs vr) : LRel M w φ (setCells cs off vs) (setArr xs off vr.toList) := by
  obtain ⟨a1, a2, a3⟩ := h1
  obtain ⟨b1, b2, b3⟩ := h2
  refine ⟨by rw [setCells_length, setArr_size]; exact a1, fun i hi => ?_, fun i hi => ?_⟩
  · rw [setArr_size] at hi
    rw [setArr_getD]
    by_cases hc : off ≤ i ∧ i < off + vr.toList.length ∧ i < xs.size
    · rw [if_pos hc, ← arr_getD]
      exact b2 _ (by simp at hc; omega)
    · rw [if_neg hc]; exact a2 i hi
  · rw [setCells_length] at hi
    rw [← getD_getElem _ .undef (by rw [setCells_length]; exact hi), setCells_getD, setArr_getD]
    by_cases hc : off ≤ i ∧ i < off + vs.length ∧ i < cs.length
    · have hc2 : off ≤ i ∧ i < off + vr.toList.length ∧ i < xs.size := by simp; omega
      rw [if_pos hc, if_pos hc2, getD_getElem _ _ (by omega), ← arr_getD]
      exact b3 _ (by omega)
    · have hc2 : ¬ (off ≤ i ∧ i < off + vr.toList.length ∧ i < xs.size) := by simp; omega
      rw [if_neg hc, if_neg hc2, getD_getElem _ _ hi]
      exact a3 i hi

theorem fill_ok {place place' : Nat → Option (Nat × Nat)} : ∀ (parts : List (Nat × AV)) (partsR : List (Nat × Value)) (cs : List AV) (xs : Array Value) (cs' : List AV),
    (∀ i r, place i = some r → place' i = some r) → fillA place cs parts = some cs' → LRel M w φ cs xs → parts.length = partsR.length →
    (∀ i (hi : i < parts.length), (parts[i].1 = (partsR.getD i (0, Go.undef)).1) ∧ VRel M w φ parts[i].2 (partsR.getD i (0, Go.undef)).2) →
    ∃ xs', Instr.fill place' xs partsR = some xs' ∧ LRel M w φ cs' xs' := by
  intro parts
  induction parts with
  | nil =>
    intro partsR cs xs cs' hp hf hl hlen _
    cases partsR with
    | nil => simp only [fillA, Option.some.injEq] at hf; subst hf; exact ⟨xs, rfl, hl⟩
    | cons => simp at hlen
  | cons p parts ih =>
    intro partsR cs xs cs' hp hf hl hlen hr
    cases partsR with
    | nil => simp at hlen
    | cons q partsR =>
      obtain ⟨i, v⟩ := p
      obtain ⟨j, x⟩ := q
      have h0 := hr 0 (by simp)
      simp only [List.getElem_cons_zero, List.getD_cons_zero] at h0
      obtain ⟨rfl, hv⟩ := h0
      unfold fillA at hf
      split at hf
      · rename_i off size vs hpl hvs
        split at hf
        · rename_i hc
          obtain ⟨hc1, hc2⟩ := hc
          have hs := stored_ok hvs hv
          obtain ⟨xs', h1, h2⟩ := ih partsR _ (setArr xs off x.cells.toList) _ hp hf (hl.set hs) (by simpa using hlen) (fun k hk => by have := hr (k + 1) (by simpa using hk); simpa using this)
          refine ⟨xs', ?_, h2⟩
          rw [Instr.fill, hp _ _ hpl]
          have e1 : x.cells.size = size := by have := hs.1; omega
          have e2 : ¬ (off + x.cells.size > xs.size) := by have := hl.1; omega
          simp only [e1, bne_self_eq_false, Bool.false_or, decide_eq_true_eq]
          rw [if_neg (by rw [← e1]; simpa using e2), fold_cells]
          exact h1
        · cases hf
      · cases hf

theorem places_map (fs : List Field) (hs : ∀ f ∈ fs, (szA P f.type).isSome = true) :
    fs.mapM (fun f => (P.info? f.type).map fun i => (f.offset, i.size)) = some (fs.map fun f => (f.offset, (szA P f.type).getD 0)) := by
  induction fs with
  | nil => rfl
  | cons f fs ih =>
    obtain ⟨k, hk⟩ := Option.isSome_iff_exists.1 (hs f (by simp))
    unfold szA at hk
    obtain ⟨i, hi, rfl⟩ := Option.map_eq_some_iff.1 hk
    simp [List.mapM_cons, hi, ih (fun f hf => hs f (by simp [hf])), szA]

theorem build_ok {t : TypeId} {parts : List (Nat × AV)} {partsR : Array (Nat × Value)} {y : AV} (hb : buildA P t parts = some y) (hl : parts.length = partsR.size)
    (hr : ∀ i (hi : i < parts.length), (parts[i].1 = (partsR.toList.getD i (0, Go.undef)).1) ∧ VRel M w φ parts[i].2 (partsR.toList.getD i (0, Go.undef)).2) :
    ∃ v, (Instr.build t partsR).run P w = .ok v w ∧ VRel M w φ y v := by
  unfold buildA at hb
  obtain ⟨z, hz, hb2⟩ := Option.bind_eq_some_iff.1 hb
  clear hb
  obtain ⟨zc, hzc, hb3⟩ := Option.bind_eq_some_iff.1 hb2
  clear hb2
  obtain ⟨zv, _, hzr, hz1, hzv⟩ := zero_ok hz
  obtain ⟨zv', hzz, hif⟩ := Option.bind_eq_some_iff.1 hz
  obtain ⟨it, hit, hitz⟩ := Option.bind_eq_some_iff.1 hzz
  split at hif
  case isFalse => cases hif
  rename_i hz1'
  cases hif
  have hlz : LRel M w φ zc zv'.cells := stored_ok hzc (ofV_rel M w φ zv' hz1')
  split at hb3
  · rename_i fs hu
    split at hb3
    · rename_i hall
      obtain ⟨cs, hcs, rfl⟩ := Option.map_eq_some_iff.1 hb3
      have hall' : ∀ f ∈ fs.toList, (szA P f.type).isSome = true := by
        intro f hf
        rw [Array.all_eq_true_iff_forall_mem] at hall
        exact hall f (by simpa using hf)
      obtain ⟨xs, h1, h2⟩ := fill_ok (place' := fun i => ((fs.toList.map fun f => (f.offset, (szA P f.type).getD 0)).toArray)[i]?) parts partsR.toList zc zv'.cells cs (fun i r hr => by
        obtain ⟨f, hf, hr⟩ := Option.bind_eq_some_iff.1 hr
        obtain ⟨k, hk, rfl⟩ := Option.map_eq_some_iff.1 hr
        have : fs.toList[i]? = some f := by simpa using hf
        simp [this, hf, hk]) hcs hlz (by simpa using hl) hr
      refine ⟨_, run_build w t partsR xs ?_, .agg _ _ _ h2.1 (fun i hi => h2.2.1 i (by have := h2.1; omega)) h2.2.2⟩
      simp only [Program.built, hit, hu, hitz, places_map fs.toList hall']
      exact h1
    · cases hb3
  · rename_i n e hu
    obtain ⟨k, hk, hb4⟩ := Option.bind_eq_some_iff.1 hb3
    obtain ⟨cs, hcs, rfl⟩ := Option.map_eq_some_iff.1 hb4
    obtain ⟨xs, h1, h2⟩ := fill_ok (place' := fun i => some (i * k, k)) parts partsR.toList zc zv'.cells cs (fun i r hr => hr) hcs hlz (by simpa using hl) hr
    refine ⟨_, run_build w t partsR xs ?_, .agg _ _ _ h2.1 (fun i hi => h2.2.1 i (by have := h2.1; omega)) h2.2.2⟩
    unfold szA at hk
    obtain ⟨ie, hie, rfl⟩ := Option.map_eq_some_iff.1 hk
    simp only [Program.built, hit, hu, hitz, hie]
    exact h1
  · cases hb3

theorem box_ok (ho : Own M w φ) (hf : φ h.length = none) {e : TypeId} {v y : AV} {x : Value} {h' : List AObj} (hb : boxA h e v = some (y, h')) (hx : VRel M w φ v x) :
    ∃ M' φ', (Instr.box e x).run P w = .ok (.pointer (some ⟨w.heap.size, 0, none⟩)) (w.alloc (.cells x.cells e)) ∧ Post M w φ h [] M' (w.alloc (.cells x.cells e)) φ' h' ∧
      VRel M' (w.alloc (.cells x.cells e)) φ' y (.pointer (some ⟨w.heap.size, 0, none⟩)) := by
  unfold boxA at hb
  obtain ⟨cs, hcs, hb⟩ := Option.map_eq_some_iff.1 hb
  cases hb
  have hl := stored_ok hcs hx
  have hp := row_post (w := w) ho hf hl e false #[] (fun _ => rfl) (fun i hi => by simp at hi) (0, 0) (.inl rfl) w rfl rfl rfl rfl
  simp only [Array.append_empty] at hp
  exact ⟨_, _, by simp [Instr.box, newVar, newRow], hp, .ptr _ _ _ _ (by simp)⟩

theorem alloc_ok (ho : Own M w φ) (hf : φ h.length = none) {e : TypeId} {z y : AV} {h' : List AObj} (hz : zeroA P e = some z) (hb : boxA h e z = some (y, h')) :
    ∃ M' φ' v w', (Instr.alloc e true (.tuple #[])).run P w = .ok v w' ∧ Post M w φ h [] M' w' φ' h' ∧ VRel M' w' φ' y v := by
  obtain ⟨zv, hrun, hzr, _, _⟩ := zero_ok hz
  obtain ⟨M', φ', h1, h2, h3⟩ := box_ok (P := P) ho hf hb (hzr M w φ)
  refine ⟨M', φ', _, _, ?_, h2, h3⟩
  simp [Instr.alloc, hrun, newVar, newRow]

theorem zeros_rel {zc : List AV} {z : Array Value} (hl : LRel M w φ zc z) (n : Nat) (hk : zc.length ≠ 0) : LRel M w φ (zerosA zc n) (madeCells z (n * zc.length)) := by
  have hlen : (zerosA zc n).length = n * zc.length := by
    unfold zerosA; split <;> simp
  have hget : ∀ i, i < n * zc.length → (madeCells z (n * zc.length)).getD i Go.undef = z.getD (i % zc.length) Go.undef := by
    intro i hi
    have h1 : i % z.size < z.size := Nat.mod_lt _ (by have := hl.1; omega)
    have hi' : i < n * z.size := by have := hl.1; rw [← this]; exact hi
    simp [madeCells, Array.getD, hl.1, hi', h1]
  refine ⟨by rw [hlen, size_madeCells], fun i hi => ?_, fun i hi => ?_⟩
  · rw [size_madeCells] at hi
    rw [hget i hi]
    exact hl.2.1 _ (by have := hl.1; rw [← this]; exact Nat.mod_lt _ (by omega))
  · rw [hlen] at hi
    rw [hget i hi]
    have hm : i % zc.length < zc.length := Nat.mod_lt _ (by omega)
    have := hl.2.2 _ hm
    have e : (zerosA zc n)[i]'(by rw [hlen]; exact hi) = zc[i % zc.length] := by
      unfold zerosA
      split
      · simp
      · simp [List.getD, hm]
    rwa [e]

theorem makeSlice_ok (ho : Own M w φ) (hf : φ h.length = none) {t : TypeId} {l c y : AV} {xl xc : Value} {h' : List AObj} (hb : makeSliceA P h t l c = some (y, h')) (hl : VRel M w φ l xl) (hc : VRel M w φ c xc) :
    ∃ M' φ' v w', (Instr.makeSlice t xl xc).run P w = .ok v w' ∧ Post M w φ h [] M' w' φ' h' ∧ VRel M' w' φ' y v := by
  unfold makeSliceA at hb
  split at hb
  · rename_i e kl l kc c hu
    obtain ⟨k, hk, hb⟩ := Option.bind_eq_some_iff.1 hb
    split at hb
    · rename_i hcs
      obtain ⟨hl0, hlc, h63, hby, hk0⟩ := hcs
      obtain ⟨z, hz, hb⟩ := Option.bind_eq_some_iff.1 hb
      obtain ⟨zc, hzc, hb⟩ := Option.bind_eq_some_iff.1 hb
      split at hb
      · rename_i hzk
        cases hb
        cases hl; cases hc
        obtain ⟨zv', hzz, hif⟩ := Option.bind_eq_some_iff.1 hz
        obtain ⟨it, hit, hitz⟩ := Option.bind_eq_some_iff.1 hzz
        split at hif
        case isFalse => cases hif
        rename_i hz1'
        cases hif
        have hkt : it.size = k := by unfold szA at hk; rw [hit] at hk; exact Option.some.inj hk
        have hlz : LRel M w φ zc zv'.cells := stored_ok hzc (ofV_rel M w φ zv' hz1')
        have hrun := run_make (P := P) w t e it zv' hu hit hitz kl kc l c hl0 hlc (by
          have : P.bytesOf e = it.bytes := by simp [Program.bytesOf, hit]
          rw [this] at hby
          simp only [mostA] at hby
          rw [Int.mul_comm]; omega) h63
        have hp := row_post (w := w) ho hf (zeros_rel hlz c.toNat (by rw [hzk]; exact hk0)) e false #[] (fun _ => rfl) (fun i hi => by simp at hi) (0, 0) (.inl rfl) w rfl rfl rfl rfl
        simp only [Array.append_empty] at hp
        refine ⟨fun b => M b ∨ b = w.heap.size, fun i => if i = h.length then some w.heap.size else φ i, _, _, hrun, ?_, .sl _ _ _ _ _ _ _ _ (by simp) (by omega) (by omega) (fun k hk => by cases hk; rfl) (fun h => by cases h)⟩
        rw [hkt, ← hzk]
        exact hp
      · cases hb
    · cases hb
  · cases hb

/-- A new block that nobody writes. -/
theorem quiet_post (ho : Own M w φ) (ob : Obj) (w1 : World) (hw : w1.heap = w.heap) (hw1 : w1.os = w.os) (hw2 : w1.tape = w.tape) (hw3 : w1.output = w.output) :
    Post M w φ h [] M (w1.alloc ob) φ h := by
  have hold : ∀ b, b < w.heap.size → (w1.alloc ob).heap[b]? = w.heap[b]? := by
    intro b hb
    show (w1.heap.push ob)[b]? = _
    rw [hw]
    rw [Array.getElem?_push, if_neg (Nat.ne_of_lt hb)]
  exact { len := Nat.le_refl _, size := by simp [hw], os := hw1, tape := hw2, output := hw3, old := fun b hb _ => hold b hb, shape := fun b hb => by simp only [World.shape?, hold b hb],
          mono := fun _ _ h => h, new := fun _ _ h => .inl h, newinj := fun id id' b h1 _ h3 => (by rw [h1] at h3; cases h3), mem := fun b => ⟨fun h => .inl h, fun h => h.elim (fun h => h) fun ⟨h1, id, h2⟩ => absurd (ho.own _ _ h2).2 (by omega)⟩,
          frame := fun _ _ _ => rfl, objs := fun id h1 h2 => (by rcases h1 with h1 | h1; · cases h1
                                                                 · omega) }

/-- A frozen row, just made. -/
theorem frozen_rel (ho : Own M w φ) {cs : List AV} {xs extra : Array Value} (hl : LRel M w φ cs xs) (hn : noRefs cs = true) (e : TypeId) (fr : Nat × Nat) (w1 : World) (hw : w1.heap = w.heap)
    (len c : Nat) (cap : Option Nat) (h1 : len ≤ c) (h2 : c ≤ 9223372036854775807) (h3 : ∀ k, cap = some k → c = k) :
    VRel M (w1.alloc (.cells (xs ++ extra) e fr)) φ (.isl cs len cap) (.slice (some ⟨w.heap.size, 0, none⟩) len c) := by
  have hcell : ∀ i, i < cs.length → (w1.alloc (.cells (xs ++ extra) e fr)).cell? ⟨w.heap.size, 0 + i, none⟩ = some (xs.getD i Go.undef) := by
    intro i hi
    have hi' : i < xs.size := by have := hl.1; omega
    have : (w1.alloc (.cells (xs ++ extra) e fr)).heap[w.heap.size]? = some (.cells (xs ++ extra) e fr) := by
      show (w1.heap.push _)[_]? = _
      rw [← hw]; simp
    simp [World.cell?, this, Array.getD, hi', Array.getElem?_append]
  refine .isl _ _ _ _ _ _ (fun i => xs.getD i Go.undef) h1 h2 h3 (fun _ => ⟨rfl, fun hm => absurd (ho.top _ hm) (Nat.lt_irrefl _), by simp [hw]⟩) hcell (fun i hi => hl.2.1 i (by have := hl.1; omega)) (fun i hi => ?_)
  have := (hl.2.2 i hi).noref (refsL_nil (by simpa [noRefs] using hn) i hi)
  refine this.stay (fun b hb hm => ⟨by simp [hw]; omega, hm, ?_⟩) (fun b id h => by cases h) (fun id b h => by cases h)
  show (w1.heap.push _)[b]? = _
  rw [hw, Array.getElem?_push, if_neg (Nat.ne_of_lt hb)]

theorem buildSlice_ok (ho : Own M w φ) (hf : φ h.length = none) {row : Bool} {t : TypeId} {len : Nat} {parts : List (Nat × AV)} {partsR : Array (Nat × Value)} {y : AV} {h' : List AObj}
    (hb : buildSliceA P row h t len parts = some (y, h')) (hl : parts.length = partsR.size)
    (hr : ∀ i (hi : i < parts.length), (parts[i].1 = (partsR.toList.getD i (0, Go.undef)).1) ∧ VRel M w φ parts[i].2 (partsR.toList.getD i (0, Go.undef)).2) :
    ∃ M' φ' v w', (Instr.buildSlice t len partsR).run P w = .ok v w' ∧ Post M w φ h [] M' w' φ' h' ∧ VRel M' w' φ' y v := by
  unfold buildSliceA at hb
  split at hb
  · rename_i e hu
    obtain ⟨k, hk, hb⟩ := Option.bind_eq_some_iff.1 hb
    by_cases h00 : len = 0 ∧ parts.isEmpty = true
    · rw [if_pos h00] at hb
      cases hb
      obtain ⟨rfl, hp⟩ := h00
      have hp' : partsR = #[] := by
        have : partsR.size = 0 := by rw [← hl]; simpa using hp
        exact Array.eq_empty_of_size_eq_zero this
      subst hp'
      refine ⟨M, φ, .slice (some ⟨w.heap.size, 0, none⟩) 0 0, _, ?_, quiet_post ho (.cells #[] e) w rfl rfl rfl rfl, .isl _ _ _ _ _ _ (fun _ => Go.undef) (Nat.le_refl _) (by omega) (fun k hk => by cases hk; rfl) (fun h => absurd rfl h) (fun i hi => by simp at hi) (fun i hi => by simp at hi) (fun i hi => by simp at hi)⟩
      simp [Instr.buildSlice, run_underlying hu, run_sizeOf' hk, Instr.fill, newRow, Array.range_zero']
    rw [if_neg h00] at hb
    split at hb
    · rename_i hcs
      obtain ⟨hsm, h63, hk0, hlen0⟩ := hcs
      obtain ⟨z, hz, hb⟩ := Option.bind_eq_some_iff.1 hb
      obtain ⟨zc, hzc, hb⟩ := Option.bind_eq_some_iff.1 hb
      split at hb
      · rename_i hzk
        obtain ⟨cs, hcs, hb9⟩ := Option.bind_eq_some_iff.1 hb
        obtain ⟨zv', hzz, hif⟩ := Option.bind_eq_some_iff.1 hz
        obtain ⟨it, hit, hitz⟩ := Option.bind_eq_some_iff.1 hzz
        split at hif
        case isFalse => cases hif
        rename_i hz1'
        cases hif
        have hkt : it.size = k := by unfold szA at hk; rw [hit] at hk; exact Option.some.inj hk
        have hlz : LRel M w φ zc zv'.cells := stored_ok hzc (ofV_rel M w φ zv' hz1')
        obtain ⟨xs, h1, h2⟩ := fill_ok (place' := fun i => some (i * k, k)) parts partsR.toList _ _ cs (fun i r hr => hr) hcs (zeros_rel hlz len (by rw [hzk]; exact hk0)) (by simpa using hl) hr
        rw [hzk, ← hkt] at h1
        have hpos : ¬ len * it.size = 0 := Nat.mul_ne_zero hlen0 (by rw [hkt]; exact hk0)
        have hrun := run_buildSlice w t e len partsR xs it zv' hu hit hitz (by rw [hkt]; omega) hpos h1
        split at hb9
        · cases hb9
          have hp := row_post (w := w) ho hf h2 e false #[] (fun _ => rfl) (fun i hi => by simp at hi) (0, 0) (.inl rfl) w rfl rfl rfl rfl
          simp only [Array.append_empty] at hp
          exact ⟨fun b => M b ∨ b = w.heap.size, fun i => if i = h.length then some w.heap.size else φ i, _, _, hrun, hp, .sl _ _ _ _ _ _ _ _ (by simp) (Nat.le_refl _) h63 (fun k hk => by cases hk; rfl) (fun h => by cases h)⟩
        · rename_i hn
          cases hb9
          have hfz := frozen_rel (extra := #[]) ho h2 (by cases hq : noRefs cs with | true => rfl | false => exact absurd (by simp [hq]) hn) e (0, 0) w rfl len len (some len) (Nat.le_refl _) h63 (fun k hk => by cases hk; rfl)
          simp only [Array.append_empty] at hfz
          exact ⟨_, _, _, _, hrun, quiet_post ho _ w rfl rfl rfl rfl, hfz⟩
      · cases hb
    · cases hb
  · cases hb

end
end Am
