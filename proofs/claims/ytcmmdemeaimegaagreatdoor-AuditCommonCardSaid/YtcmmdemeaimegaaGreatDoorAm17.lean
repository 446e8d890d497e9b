/-
  A part of a proved abstract machine over the model, and of what it tells of this seat's functions. Conditions: as each theorem states them.
-/
import Derived.Test.YtcmmdemeaimegaaGreatDoorAm16
namespace Am
open Go
set_option linter.unusedSimpArgs false
set_option linter.unusedVariables false

/-- A call of a function, by its body or by an entry of the model's. -/
def CallGoes (P : Program) (f : FuncId) (vs : Array Value) (w : World) (R : Value → World → Prop) : Prop :=
  ((callFunc f vs).run P w = .ok (.enter f vs) w ∧ Calls P f vs w fun e w' => ∃ v, e = .returned v ∧ R v w') ∨
  (∃ v w', (callFunc f vs).run P w = .ok (.value v) w' ∧ R v w')

theorem CallGoes.mono {P : Program} {f : FuncId} {vs : Array Value} {w : World} {R R' : Value → World → Prop} (h : CallGoes P f vs w R) (hr : ∀ v w', R v w' → R' v w') : CallGoes P f vs w R' := by
  rcases h with ⟨h1, h2⟩ | ⟨v, w', h1, h2⟩
  · exact .inl ⟨h1, h2.mono fun e w' ⟨v, he, hv⟩ => ⟨v, he, hr _ _ hv⟩⟩
  · exact .inr ⟨v, w', h1, hr _ _ h2⟩

/-- What stands after it: the value, the world, the heap. -/
def Lands (M : Nat → Prop) (w : World) (φ : Phi) (h : List AObj) (y : AV) (h' : List AObj) (v : Value) (w' : World) : Prop :=
  ∃ M' φ', PostW M w φ h M' w' φ' h' ∧ VRel M' w' φ' y v

def Sound (P : Program) (E : Env) : Prop := ∀ f args h r h', E f args h = some (r, h') → ∀ (M : Nat → Prop) (w : World) (φ : Phi) (vs : Array Value), HRel M w φ h → ARel M w φ args vs →
  CallGoes P f vs w (Lands M w φ h r h')

def upP (φ φ1 : Phi) (n k : Nat) : Phi := fun id => if id < n then φ id else φ1 (k + (id - n))

theorem call_ok {P : Program} {E : Env} (hE : Sound P E) {f : FuncId} {args : List AV} {h h' : List AObj} {y : AV} (hc : callA E f args h = some (y, h')) {M : Nat → Prop} {w : World} {φ : Phi} {vs : Array Value}
    (hh : HRel M w φ h) (ha : ARel M w φ args vs) : CallGoes P f vs w (Lands M w φ h y h') := by
  unfold callA at hc
  generalize reach h 200 (refsL args) [] = ids at hc
  dsimp only at hc
  split at hc
  case isFalse => cases hc
  rename_i hb
  simp only [Bool.and_eq_true] at hb
  obtain ⟨⟨hn, hcl⟩, hin⟩ := hb
  have hin' : ∀ i, i ∈ refsL args → i ∈ ids := fun i hi => by simpa using List.all_eq_true.1 hin i hi
  cases hq : E f (renL (fun j => pos j ids) args) (downO h ids) with
  | none => rw [hq] at hc; cases hc
  | some res =>
  obtain ⟨r, h1⟩ := res
  rw [hq] at hc
  dsimp only at hc
  split at hc
  case isFalse => cases hc
  rename_i hlen
  cases hc
  have hhd := hh.down hn hcl
  refine (hE _ _ _ _ _ hq M w (downP φ ids) vs hhd (ha.down hh hcl hin')).mono fun v w1 ⟨M1, φ1, hp, hv⟩ => ?_
  have dlen : (downO h ids).length = ids.length := by simp [downO]
  have hlt : ∀ i, i ∈ ids → i < h.length := fun i hi => closed_lt hcl hi
  have pb : ∀ id, ((putBack (upF h.length ids) h1 ids 0 h).getD id .dead) = if id ∈ ids then renO (upF h.length ids) (h1.getD (pos id ids) .dead) else h.getD id .dead := by
    intro id
    by_cases hid : id ∈ ids
    · obtain ⟨p1, p2⟩ := pos_mem hid
      have := putBack_in (upF h.length ids) h1 ids 0 h hn hlt (pos id ids) p1
      rw [p2] at this
      simpa [hid] using this
    · rw [if_neg hid]; exact putBack_out _ _ _ _ _ _ hid
  have plen : (putBack (upF h.length ids) h1 ids 0 h).length = h.length := putBack_length _ _ _ _ _
  -- the new heap, place by place
  have lo : ∀ id, id < h.length → (putBack (upF h.length ids) h1 ids 0 h ++ (h1.drop ids.length).map (renO (upF h.length ids))).getD id .dead = if id ∈ ids then renO (upF h.length ids) (h1.getD (pos id ids) .dead) else h.getD id .dead := by
    intro id hid
    rw [← pb id]
    simp [List.getD, List.getElem?_append_left (by rw [plen]; exact hid)]
  have hi : ∀ id, h.length ≤ id → (putBack (upF h.length ids) h1 ids 0 h ++ (h1.drop ids.length).map (renO (upF h.length ids))).getD id .dead = renO (upF h.length ids) (h1.getD (ids.length + (id - h.length)) .dead) := by
    intro id hid
    simp only [List.getD]
    rw [List.getElem?_append_right (by rw [plen]; exact hid), plen, List.getElem?_map, List.getElem?_drop]
    cases h1[ids.length + (id - h.length)]? <;> rfl
  have hlen' : (putBack (upF h.length ids) h1 ids 0 h ++ (h1.drop ids.length).map (renO (upF h.length ids))).length = h.length + (h1.length - ids.length) := by
    rw [List.length_append, plen]; simp
  generalize putBack (upF h.length ids) h1 ids 0 h ++ (h1.drop ids.length).map (renO (upF h.length ids)) = h2 at lo hi hlen'
  have hup : ∀ j b, φ1 j = some b → upP φ φ1 h.length ids.length (upF h.length ids j) = some b := by
    intro j b hb
    unfold upF upP
    by_cases hj : j < ids.length
    · rw [if_pos hj, if_pos (hlt _ (getD_mem hj))]
      rw [hp.low j (by rw [dlen]; exact hj)] at hb
      simpa only [downP, hj, if_true] using hb
    · rw [if_neg hj, if_neg (by omega), show ids.length + (h.length + (j - ids.length) - h.length) = j by omega]; exact hb
  have hst := hp.stays hhd.own
  have hds : ∀ j b, downP φ ids j = some b → ∃ i, i ∈ ids ∧ φ i = some b ∧ ((downO h ids).getD j .dead = .dead ↔ h.getD i .dead = .dead) := by
    intro j b hb
    unfold downP at hb
    split at hb
    · rename_i hj
      exact ⟨_, getD_mem hj, hb, by rw [downO_getD _ _ _ hj]; exact renO_dead⟩
    · cases hb
  have dpos : ∀ {i}, i ∈ ids → ((downO h ids).getD (pos i ids) .dead = .dead ↔ h.getD i .dead = .dead) := by
    intro i hi
    obtain ⟨p1, p2⟩ := pos_mem hi
    rw [downO_getD _ _ _ p1, p2]; exact renO_dead
  have hdead : ∀ id, id < h.length → h.getD id .dead = .dead → h2.getD id .dead = .dead := by
    intro id hid hd
    rw [lo id hid]
    split
    · rename_i hm
      exact renO_dead.2 (hp.dead _ (by rw [dlen]; exact (pos_mem hm).1) ((dpos hm).2 hd))
    · exact hd
  -- each number with a block: known to the callee, or left alone
  have split2 : ∀ id b, upP φ φ1 h.length ids.length id = some b → (∃ j, φ1 j = some b ∧ upF h.length ids j = id ∧ h2.getD id .dead = renO (upF h.length ids) (h1.getD j .dead) ∧ (j < ids.length → j = pos id ids ∧ id ∈ ids ∧ φ id = some b)) ∨ (id < h.length ∧ id ∉ ids ∧ φ id = some b ∧ h2.getD id .dead = h.getD id .dead) := by
    intro id b hb
    unfold upP at hb
    by_cases hid : id < h.length
    · rw [if_pos hid] at hb
      by_cases hm : id ∈ ids
      · obtain ⟨p1, p2⟩ := pos_mem hm
        refine .inl ⟨pos id ids, ?_, ?_, by rw [lo id hid, if_pos hm], fun _ => ⟨rfl, hm, hb⟩⟩
        · rw [hp.low _ (by rw [dlen]; exact p1), down_get hcl hm]; exact hb
        · simp only [upF, p1, if_true]; exact p2
      · exact .inr ⟨hid, hm, hb, by rw [lo id hid, if_neg hm]⟩
    · rw [if_neg hid] at hb
      refine .inl ⟨ids.length + (id - h.length), hb, ?_, hi id (by omega), fun hj => by omega⟩
      simp only [upF]
      rw [if_neg (by omega)]; omega
  refine ⟨M1, upP φ φ1 h.length ids.length, ⟨by omega, hp.size, hp.os, hp.tape, hp.output, ?_, hp.shape, fun id hid => by simp only [upP, hid, if_true], hdead, ?_, hp.memo, hp.memn, ?_⟩, ?_⟩
  · intro b hb hd
    refine hp.old b hb fun j hj => ?_
    obtain ⟨i, hi, h3, h4⟩ := hds _ _ hj
    exact h4.2 (hd i h3)
  · intro id b hb hid
    unfold upP at hb
    rw [if_neg (by omega)] at hb
    rcases hp.new _ b hb (by rw [dlen]; omega) with h3 | ⟨j, h3, h4, h5, h6⟩
    · exact .inl h3
    · rw [dlen] at h3
      have hm := getD_mem h3
      simp only [downP, h3, if_true] at h4
      refine .inr ⟨ids.getD j 0, hlt _ hm, h4, fun hd => h5 ?_, ?_⟩
      · rw [downO_getD _ _ _ h3]; exact renO_dead.2 hd
      · rw [lo _ (hlt _ hm), if_pos hm]
        have : pos (ids.getD j 0) ids = j := nodupB_spec hn _ _ (pos_mem hm).1 h3 (pos_mem hm).2
        rw [this]; exact renO_dead.2 h6
  · have atf : ∀ id j, id < h2.length → h2.getD id .dead = renO (upF h.length ids) (h1.getD j .dead) → upF h.length ids j = id → HAt M1 w1 (upP φ φ1 h.length ids.length) h2 id := by
      intro id j _ he hf
      unfold HAt
      rw [he]
      rcases hp.hrel.at' j with h3 | ⟨b, ob, h3, h4, h5⟩
      · exact .inl (renO_dead.2 h3)
      · refine .inr ⟨b, ob, by rw [← hf]; exact hup _ _ h3, h4, h5.go _ _ (same_stays hp.hrel.own) (fun _ _ _ => rfl) fun i _ b hb => hup i b hb⟩
    refine ⟨⟨fun id b hb => ?_, hp.hrel.own.top⟩, fun id b hb => ?_, fun id hid => ?_, fun id id' b hb hb' hne => ?_⟩
    · unfold upP at hb
      split at hb
      · obtain ⟨h3, h4⟩ := hh.own.own _ _ hb
        exact ⟨hp.memo _ h3, Nat.lt_of_lt_of_le h4 hp.size⟩
      · exact hp.hrel.own.own _ _ hb
    · rw [hlen']
      unfold upP at hb
      split at hb
      · omega
      · have := hp.hrel.lt _ _ hb; omega
    · by_cases hlo : id < h.length
      · by_cases hm : id ∈ ids
        · refine atf id (pos id ids) hid (by rw [lo id hlo, if_pos hm]) ?_
          obtain ⟨p1, p2⟩ := pos_mem hm
          simp only [upF, p1, if_true]; exact p2
        · have he : h2.getD id .dead = h.getD id .dead := by rw [lo id hlo, if_neg hm]
          unfold HAt
          rw [he]
          by_cases hd : h.getD id .dead = .dead
          · exact .inl hd
          rcases hh.at_ id hlo with h3 | ⟨b, ob, h3, h4, h5⟩
          · exact .inl h3
          · have hbs := (hh.own.own _ _ h3).2
            refine .inr ⟨b, ob, by simp only [upP, hlo, if_true]; exact h3, ?_, h5.stay hst (fun b i hb => hp.shape b (hh.own.own _ _ hb).2) fun i b hb => by simp only [upP, hh.lt _ _ hb, if_true]; exact hb⟩
            rw [hp.old b hbs fun j hj => ?_]; · exact h4
            obtain ⟨i, hi, h6, h7⟩ := hds _ _ hj
            rcases hh.inj i id b h6 h3 (fun he => hm (he ▸ hi)) with h8 | h8
            · exact h7.2 h8
            · exact absurd h8 hd
      · refine atf id (ids.length + (id - h.length)) hid (hi id (by omega)) ?_
        simp only [upF]; rw [if_neg (by omega)]; omega
    · have mix : ∀ id id' j, φ1 j = some b → upF h.length ids j = id → h2.getD id .dead = renO (upF h.length ids) (h1.getD j .dead) → (j < ids.length → j = pos id ids ∧ id ∈ ids ∧ φ id = some b) →
          id' < h.length → id' ∉ ids → φ id' = some b → h2.getD id' .dead = h.getD id' .dead → h2.getD id .dead = .dead ∨ h2.getD id' .dead = .dead := by
        intro id id' j h3 h4 h5 h6 h7 h8 h9 h10
        by_cases hj : j < ids.length
        · obtain ⟨_, h11, h12⟩ := h6 hj
          rcases hh.inj id id' b h12 h9 (fun he => h8 (he ▸ h11)) with h13 | h13
          · exact .inl (hdead _ (hlt _ h11) h13)
          · exact .inr (by rw [h10]; exact h13)
        · rcases hp.new j b h3 (by rw [dlen]; omega) with h11 | ⟨j0, h11, h12, h13, h14⟩
          · exact absurd (hh.own.own _ _ h9).2 (by omega)
          · obtain ⟨i, h15, h16, h17⟩ := hds _ _ h12
            rcases hh.inj i id' b h16 h9 (fun he => h8 (he ▸ h15)) with h18 | h18
            · exact absurd (h17.2 h18) h13
            · exact .inr (by rw [h10]; exact h18)
      rcases split2 id b hb with ⟨j, a1, a2, a3, a4⟩ | ⟨a1, a2, a3, a4⟩ <;> rcases split2 id' b hb' with ⟨j', c1, c2, c3, c4⟩ | ⟨c1, c2, c3, c4⟩
      · rw [a3, c3, renO_dead, renO_dead]
        exact hp.hrel.inj j j' b a1 c1 fun he => hne (by rw [← a2, ← c2, he])
      · exact mix id id' j a1 a2 a3 a4 c1 c2 c3 c4
      · exact (mix id' id j' c1 c2 c3 c4 a1 a2 a3 a4).symm
      · rw [a4, c4]; exact hh.inj _ _ b a3 c3 hne
  · exact hv.go _ _ (same_stays hp.hrel.own) (fun _ _ _ => rfl) fun i _ b hb => hup i b hb

end Am
