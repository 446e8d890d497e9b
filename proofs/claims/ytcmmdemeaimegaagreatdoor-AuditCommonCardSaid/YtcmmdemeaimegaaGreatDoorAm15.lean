/-
  A part of a proved abstract machine over the model, and of what it tells of this seat's functions. Conditions: as each theorem states them.
-/
import Derived.Test.YtcmmdemeaimegaaGreatDoorAm14
namespace Am
open Go
set_option linter.unusedSimpArgs false
set_option linter.unusedVariables false

/-- The whole heap. -/
structure HRel (M : Nat → Prop) (w : World) (φ : Phi) (h : List AObj) : Prop where
  own : Own M w φ
  lt : ∀ id b, φ id = some b → id < h.length
  at_ : ∀ id, id < h.length → HAt M w φ h id
  inj : ∀ id id' b, φ id = some b → φ id' = some b → id ≠ id' → h.getD id .dead = .dead ∨ h.getD id' .dead = .dead

theorem HRel.fresh {M : Nat → Prop} {w : World} {φ : Phi} {h : List AObj} (hh : HRel M w φ h) {id : Nat} (hi : h.length ≤ id) : φ id = none := by
  cases hq : φ id with
  | none => rfl
  | some b => exact absurd (hh.lt _ _ hq) (by omega)

theorem HRel.at' {M : Nat → Prop} {w : World} {φ : Phi} {h : List AObj} (hh : HRel M w φ h) (id : Nat) : HAt M w φ h id := by
  rcases Nat.lt_or_ge id h.length with h1 | h1
  · exact hh.at_ id h1
  · exact .inl (by simp [List.getD, List.getElem?_eq_none h1])

/-- What one or more operations leave. -/
structure PostW (M : Nat → Prop) (w : World) (φ : Phi) (h : List AObj) (M' : Nat → Prop) (w' : World) (φ' : Phi) (h' : List AObj) : Prop where
  len : h.length ≤ h'.length
  size : w.heap.size ≤ w'.heap.size
  os : w'.os = w.os
  tape : w'.tape = w.tape
  output : w'.output = w.output
  old : ∀ b, b < w.heap.size → (∀ id, φ id = some b → h.getD id .dead = .dead) → w'.heap[b]? = w.heap[b]?
  shape : ∀ b, b < w.heap.size → w'.shape? b = w.shape? b
  low : ∀ id, id < h.length → φ' id = φ id
  dead : ∀ id, id < h.length → h.getD id .dead = .dead → h'.getD id .dead = .dead
  new : ∀ id b, φ' id = some b → h.length ≤ id → w.heap.size ≤ b ∨ ∃ id0, id0 < h.length ∧ φ id0 = some b ∧ h.getD id0 .dead ≠ .dead ∧ h'.getD id0 .dead = .dead
  memo : ∀ b, M b → M' b
  memn : ∀ b, M' b → M b ∨ w.heap.size ≤ b
  hrel : HRel M' w' φ' h'

theorem ORel.stay {M M' : Nat → Prop} {w w' : World} {φ φ' : Phi} {o : AObj} {ob : Obj} (h : ORel M w φ o ob)
    (hs : ∀ b, b < w.heap.size → ¬ M b → b < w'.heap.size ∧ ¬ M' b ∧ w'.heap[b]? = w.heap[b]?)
    (hsh : ∀ b id, φ id = some b → w'.shape? b = w.shape? b)
    (hr : ∀ id b, φ id = some b → φ' id = some b) : ORel M' w' φ' o ob := by
  have tr : ∀ (pr : Bool) {v : AV} {x : Value}, VRel M w (if pr then fun _ => none else φ) v x → VRel M' w' (if pr then fun _ => none else φ') v x := by
    intro pr v x hv
    cases pr
    · exact hv.stay hs hsh hr
    · exact hv.stay hs (fun b id h => by simp at h) (fun id b h => by simp at h)
  cases o with
  | dead => trivial
  | cells cs e g pr =>
    cases ob <;> try exact h.elim
    obtain ⟨h1, h2, h3, h4, h5, h6⟩ := h
    exact ⟨h1, h2, h3, h4, h5, fun i hi => tr pr (h6 i hi)⟩
  | map es pr =>
    cases ob <;> try exact h.elim
    obtain ⟨h1, h2⟩ := h
    exact ⟨h1, fun i hi => ⟨tr pr (h2 i hi).1, tr pr (h2 i hi).2⟩⟩

theorem Post.wide {M M' : Nat → Prop} {w w' : World} {φ φ' : Phi} {h h' : List AObj} {W : List Nat} (hp : Post M w φ h W M' w' φ' h') (hh : HRel M w φ h)
    (hW : ∀ id, id ∈ W → h.getD id .dead ≠ .dead) : PostW M w φ h M' w' φ' h' where
  len := hp.len
  size := hp.size
  os := hp.os
  tape := hp.tape
  output := hp.output
  old b hb hd := hp.old b hb fun id hid h1 => hW id hid (hd id h1)
  shape := hp.shape
  low id hid := by
    cases hq : φ id with
    | some b => exact hp.mono _ _ hq
    | none =>
      cases hq' : φ' id with
      | none => rfl
      | some b =>
        rcases hp.new _ _ hq' with h1 | ⟨h1, _⟩
        · rw [hq] at h1; cases h1
        · omega
  dead id hid hd := by rw [hp.frame id hid fun h1 => hW id h1 hd]; exact hd
  new id b hb hid := by
    rcases hp.new _ _ hb with h1 | ⟨_, _, _, h2⟩
    · exact absurd (hh.lt _ _ h1) (by omega)
    · exact h2.imp (fun h => h) fun ⟨id0, h3, h4, h5⟩ => ⟨id0, hh.lt _ _ h4, h4, hW _ h3, h5⟩
  memo b hb := (hp.mem b).2 (.inl hb)
  memn b hb := ((hp.mem b).1 hb).imp (fun h => h) (·.1)
  hrel := by
    have live_frame : ∀ id, id < h.length → h.getD id .dead = .dead → h'.getD id .dead = .dead := fun id hid hd => by rw [hp.frame id hid fun h1 => hW id h1 hd]; exact hd
    refine ⟨hp.owns hh.own, fun id b hb => ?_, fun id hid => ?_, fun id id' b hb hb' hne => ?_⟩
    · rcases hp.new _ _ hb with h1 | ⟨_, h1, _⟩
      · exact Nat.lt_of_lt_of_le (hh.lt _ _ h1) hp.len
      · exact h1
    · by_cases hw : id ∈ W ∨ h.length ≤ id
      · exact hp.objs id hw hid
      · have hw1 : id ∉ W := fun h1 => hw (.inl h1)
        have hw2 : id < h.length := by
          rcases Nat.lt_or_ge id h.length with h1 | h1
          · exact h1
          · exact absurd (.inr h1) hw
        have hf := hp.frame id hw2 hw1
        by_cases hd : h.getD id .dead = .dead
        · exact .inl (by rw [hf]; exact hd)
        · rcases hh.at_ id hw2 with h1 | ⟨b, ob, h1, h2, h3⟩
          · exact absurd h1 hd
          · have hbs := (hh.own.own _ _ h1).2
            refine .inr ⟨b, ob, hp.mono _ _ h1, ?_, ?_⟩
            · rw [hp.old b hbs fun id0 h4 h5 => ?_]; · exact h2
              rcases hh.inj id0 id b h5 h1 (fun he => hw1 (he ▸ h4)) with h6 | h6
              · exact hW _ h4 h6
              · exact hd h6
            · rw [hf]; exact h3.stay (hp.stays hh.own) (fun b id hb => hp.shape b (hh.own.own _ _ hb).2) hp.mono
    · have key : ∀ id id', φ id = some b → φ' id' = some b → id ≠ id' → h'.getD id .dead = .dead ∨ h'.getD id' .dead = .dead := by
        intro id id' h1 h2 hne
        have hid := hh.lt _ _ h1
        rcases hp.new _ _ h2 with h3 | ⟨h3, _, _, h4⟩
        · exact (hh.inj _ _ _ h1 h3 hne).imp (live_frame _ hid) (live_frame _ (hh.lt _ _ h3))
        · rcases h4 with h4 | ⟨id0, h4, h5, h6⟩
          · exact absurd (hh.own.own _ _ h1).2 (by omega)
          · by_cases he : id = id0
            · subst he; exact .inl h6
            · rcases hh.inj _ _ _ h1 h5 he with h7 | h7
              · exact .inl (live_frame _ hid h7)
              · exact absurd h7 (hW _ h4)
      cases h1 : φ id with
      | some b1 => have := hp.mono _ _ h1; rw [hb] at this; cases this; exact key _ _ h1 hb' hne
      | none =>
        cases h2 : φ id' with
        | some b1 => have := hp.mono _ _ h2; rw [hb'] at this; cases this; exact (key _ _ h2 hb (Ne.symm hne)).symm
        | none => exact absurd (hp.newinj _ _ _ h1 h2 hb hb') hne

theorem PostW.refl {M : Nat → Prop} {w : World} {φ : Phi} {h : List AObj} (hh : HRel M w φ h) : PostW M w φ h M w φ h :=
  (Post.refl M w φ h hh.own).wide hh (by simp)

theorem PostW.stays {M M' : Nat → Prop} {w w' : World} {φ φ' : Phi} {h h' : List AObj} (hp : PostW M w φ h M' w' φ' h') (ho : Own M w φ) :
    ∀ b, b < w.heap.size → ¬ M b → b < w'.heap.size ∧ ¬ M' b ∧ w'.heap[b]? = w.heap[b]? := by
  intro b hb hm
  refine ⟨Nat.lt_of_lt_of_le hb hp.size, fun h1 => ?_, hp.old b hb fun id h1 => absurd (ho.own _ _ h1).1 hm⟩
  rcases hp.memn b h1 with h2 | h2
  · exact hm h2
  · omega

theorem PostW.mono {M M' : Nat → Prop} {w w' : World} {φ φ' : Phi} {h h' : List AObj} (hp : PostW M w φ h M' w' φ' h') (hh : HRel M w φ h) : ∀ id b, φ id = some b → φ' id = some b :=
  fun id b hb => by rw [hp.low id (hh.lt _ _ hb)]; exact hb

theorem PostW.val {M M' : Nat → Prop} {w w' : World} {φ φ' : Phi} {h h' : List AObj} (hp : PostW M w φ h M' w' φ' h') (hh : HRel M w φ h) {v : AV} {x : Value} (hv : VRel M w φ v x) : VRel M' w' φ' v x :=
  hv.stay (hp.stays hh.own) (fun b id hb => hp.shape b (hh.own.own _ _ hb).2) (hp.mono hh)

theorem PostW.trans {M M1 M2 : Nat → Prop} {w w1 w2 : World} {φ φ1 φ2 : Phi} {h h1 h2 : List AObj} (hh : HRel M w φ h) (p : PostW M w φ h M1 w1 φ1 h1) (q : PostW M1 w1 φ1 h1 M2 w2 φ2 h2) :
    PostW M w φ h M2 w2 φ2 h2 where
  len := Nat.le_trans p.len q.len
  size := Nat.le_trans p.size q.size
  os := q.os.trans p.os
  tape := q.tape.trans p.tape
  output := q.output.trans p.output
  old b hb hd := by
    rw [q.old b (Nat.lt_of_lt_of_le hb p.size) fun id h3 => ?_, p.old b hb hd]
    rcases Nat.lt_or_ge id h.length with h4 | h4
    · rw [p.low id h4] at h3
      exact p.dead id h4 (hd id h3)
    · rcases p.new id b h3 h4 with h5 | ⟨id0, h5, h6, h7, h8⟩
      · omega
      · exact absurd (hd _ h6) h7
  shape b hb := (q.shape b (Nat.lt_of_lt_of_le hb p.size)).trans (p.shape b hb)
  low id hid := (q.low id (Nat.lt_of_lt_of_le hid p.len)).trans (p.low id hid)
  dead id hid hd := q.dead id (Nat.lt_of_lt_of_le hid p.len) (p.dead id hid hd)
  new id b hb hid := by
    rcases Nat.lt_or_ge id h1.length with h4 | h4
    · rw [q.low id h4] at hb
      rcases p.new id b hb hid with h5 | ⟨id0, h5, h6, h7, h8⟩
      · exact .inl h5
      · exact .inr ⟨id0, h5, h6, h7, q.dead _ (Nat.lt_of_lt_of_le h5 p.len) h8⟩
    · rcases q.new id b hb h4 with h5 | ⟨id0, h5, h6, h7, h8⟩
      · exact .inl (Nat.le_trans p.size h5)
      · rcases Nat.lt_or_ge id0 h.length with h9 | h9
        · rw [p.low id0 h9] at h6
          exact .inr ⟨id0, h9, h6, fun h10 => h7 (p.dead _ h9 h10), h8⟩
        · rcases p.new id0 b h6 h9 with h10 | ⟨id1, h10, h11, h12, h13⟩
          · exact .inl h10
          · exact .inr ⟨id1, h10, h11, h12, q.dead _ (Nat.lt_of_lt_of_le h10 p.len) h13⟩
  memo b hb := q.memo b (p.memo b hb)
  memn b hb := by
    rcases q.memn b hb with h3 | h3
    · exact p.memn b h3
    · exact .inr (Nat.le_trans p.size h3)
  hrel := q.hrel

end Am
