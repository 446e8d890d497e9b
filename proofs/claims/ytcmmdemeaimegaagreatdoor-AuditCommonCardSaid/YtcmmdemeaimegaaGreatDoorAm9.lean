/-
  A part of a proved abstract machine over the model, and of what it tells of this seat's functions. Conditions: as each theorem states them.
-/
import Derived.Test.YtcmmdemeaimegaaGreatDoorAm8
import Derived.Lib.ConvBytes
import Derived.Laws.BytesArg
import Derived.Laws.Append
namespace Am
open Go
set_option linter.unusedSimpArgs false
set_option linter.unusedVariables false

section
variable {P : Program} {M : Nat → Prop} {w : World} {φ : Phi} {h : List AObj}

/-- A slice, as it is read. -/
def SlRel (M : Nat → Prop) (w : World) (φ : Phi) (cs : List AV) (len : Nat) (x : Value) : Prop :=
  (x = .slice none 0 0 ∧ cs = [] ∧ len = 0) ∨
  ∃ (a : Addr) (c : Nat) (f : Nat → Value), x = .slice (some a) len c ∧ len ≤ c ∧ ∀ i (hi : i < cs.length), w.cell? (a.add i) = some (f i) ∧ (f i).oneCell' = true ∧ VRel M w φ cs[i] (f i)

theorem add_eq (b o i : Nat) : (⟨b, o, none⟩ : Addr).add i = ⟨b, o + i, none⟩ := Addr.add_lit _ _ _

theorem slCells_ok {k : Nat} {x : AV} {cs : List AV} {xv : Value} (hs : slCells k h x = some cs) (hx : VRel M w φ x xv) (hh : ∀ id, id ∈ refs x → HAt M w φ h id) :
    SlRel M w φ cs (slLen x) xv ∧ cs.length = slLen x * k := by
  unfold slCells at hs
  split at hs
  · cases hs; cases hx; exact ⟨.inl ⟨rfl, rfl, rfl⟩, by simp [slLen]⟩
  · split at hs
    · rename_i hl
      cases hs
      cases hx with
      | isl _ _ _ _ a c f h1 h2 h3 ha hc h4 hv =>
        refine ⟨.inr ⟨a, c, f, rfl, h1, fun i hi => ?_⟩, hl⟩
        obtain ⟨h5, h6, h7⟩ := ha (by intro h; simp [h] at hi)
        obtain ⟨ab, ao, as⟩ := a
        simp only at h5; subst h5
        rw [add_eq]
        exact ⟨hc i hi, h4 i hi, VRel.weak (hv i hi)⟩
    · cases hs
  · rename_i id off len size cap
    obtain ⟨cs0, hcs, hs⟩ := Option.bind_eq_some_iff.1 hs
    split at hs
    · rename_i hl
      cases hs
      cases hx with
      | sl _ _ _ _ _ _ b c hb h1 h2 h3 h4 =>
        unfold objCells at hcs
        split at hcs
        · rename_i cs1 e g pr hob
          cases hcs
          rcases hh id (by simp [refs]) with h0 | ⟨b', ob, h5, h6, h7⟩
          · rw [hob] at h0; cases h0
          · rw [hb] at h5; cases h5
            rw [hob] at h7
            obtain ⟨xs, fr, rfl, hr, _⟩ := obj_reads (id := id) h6 h7
            refine ⟨.inr ⟨⟨b, off, none⟩, c, fun i => xs.getD (off + i) Go.undef, rfl, h1, fun i hi => ?_⟩, by simp [slLen]; omega⟩
            rw [add_eq]
            simp only [List.length_take, List.length_drop] at hi
            have := hr (off + i) (by omega)
            simp only [Nat.zero_add] at this
            refine ⟨this.1, this.2.1, ?_⟩
            simpa using this.2.2
        · cases hcs
    · cases hs
  · cases hs

theorem bytes_of : ∀ (cs : List AV) (bs : List UInt8), cs.mapM byteOf? = some bs → ∃ ns : List Int, cs = ns.map (AV.int .u8) ∧ bs = ns.map fun n => UInt8.ofNat n.toNat := by
  intro cs
  induction cs with
  | nil => intro bs hb; simp at hb; subst hb; exact ⟨[], rfl, rfl⟩
  | cons c cs ih =>
    intro bs hb
    rw [List.mapM_cons] at hb
    obtain ⟨b, h1, hb⟩ := Option.bind_eq_some_iff.1 hb
    obtain ⟨bs', h2, hb⟩ := Option.bind_eq_some_iff.1 hb
    cases hb
    obtain ⟨ns, rfl, rfl⟩ := ih _ h2
    unfold byteOf? at h1
    split at h1
    · rename_i n; cases h1; exact ⟨n :: ns, rfl, rfl⟩
    · cases h1

theorem u8_of {e : TypeId} (he : isU8 P e = true) : P.underlying e = some (.int .u8) := by
  unfold isU8 at he
  split at he
  · assumption
  · cases he

theorem bytes_ok {us : TypeDesc} {src dst : TypeId} {x y : AV} {xv : Value} (hb : convA.bytes P h us x = some y) (hs : P.underlying src = some us) (hd : P.underlying dst = some .string)
    (hx : VRel M w φ x xv) (hh : ∀ id, id ∈ refs x → HAt M w φ h id) : ∃ v, (convert src dst xv).run P w = .ok v w ∧ VRel M w φ y v := by
  unfold convA.bytes at hb
  split at hb
  · rename_i e
    split at hb
    · rename_i he
      obtain ⟨cs, hcs, hb⟩ := Option.bind_eq_some_iff.1 hb
      obtain ⟨bs, hbs, rfl⟩ := Option.map_eq_some_iff.1 hb
      obtain ⟨ns, rfl, rfl⟩ := bytes_of _ _ hbs
      obtain ⟨h1, h2⟩ := slCells_ok hcs hx hh
      have hstr : VRel M w φ (.str (ns.map fun n => UInt8.ofNat n.toNat)) (.string (strOfNums ns)) := by
        have := VRel.str (M := M) (w := w) φ (strOfNums ns)
        rwa [strOfNums_data] at this
      rcases h1 with ⟨rfl, h3, h4⟩ | ⟨a, c, f, rfl, h3, h4⟩
      · have hn : ns = [] := by simpa using h3
        subst hn
        exact ⟨_, run_convert_bytes_nil w src e hs (u8_of he) 0 0 dst hd, VRel.str φ ByteArray.empty⟩
      · by_cases hne : ns = []
        · subst hne
          have hl0 : slLen x = 0 := by simp at h2; omega
          rw [hl0]
          refine ⟨.string ByteArray.empty, ?_, VRel.str φ ByteArray.empty⟩
          rw [run_convert_bytes_string w src dst e _ _ _ hs (u8_of he) hd, run_bytesToString w a 0 c [] (by simp [loadCells, loadCellsFrom])]
          rfl
        · have hpos : 0 < (ns.map (AV.int .u8)).length := by
            rw [List.length_map]; exact List.length_pos_iff.2 hne
          obtain ⟨ab, ao, as⟩ := a
          have has : as = none := by
            have := (h4 0 hpos).1
            rw [show (⟨ab, ao, as⟩ : Addr).add 0 = ⟨ab, ao, as⟩ from Addr.add_zero' _] at this
            cases as with
            | none => rfl
            | some s =>
              simp only [World.cell?] at this
              split at this <;> simp at this
          subst has
          refine ⟨_, run_convert_bytes_arg w src e hs (u8_of he) ab ao _ c ns (by simpa using h2) (fun i hi => ?_) dst hd, hstr⟩
          have hi' : i < (ns.map (AV.int .u8)).length := by rw [h2]; omega
          obtain ⟨h5, _, h6⟩ := h4 i hi'
          rw [add_eq] at h5
          rw [h5]
          simp only [List.getElem_map] at h6
          generalize f i = u at h6
          cases h6
          rw [getD_getElem _ _ (by simpa using hi')]
    · cases hb
  · cases hb

theorem conv_ok (ho : Own M w φ) {src dst : TypeId} {x y : AV} {xv : Value} (hb : convA P h src dst x = some y) (hx : VRel M w φ x xv) (hh : ∀ id, id ∈ refs x → HAt M w φ h id) :
    ∃ v w' W, (∀ id, id ∈ W → id ∈ refs x ∧ h.getD id AObj.dead ≠ AObj.dead) ∧ (convert src dst xv).run P w = .ok v w' ∧ Post M w φ h W M w' φ h ∧ VRel M w' φ y v := by
  have same : (∃ v, (convert src dst xv).run P w = .ok v w ∧ VRel M w φ y v) → _ := fun ⟨v, h1, h2⟩ => (⟨v, w, [], by simp, h1, Post.refl M w φ h ho, h2⟩ : ∃ v w' W, (∀ id, id ∈ W → id ∈ refs x ∧ h.getD id AObj.dead ≠ AObj.dead) ∧ (convert src dst xv).run P w = Result.ok v w' ∧ Post M w φ h W M w' φ h ∧ VRel M w' φ y v)
  unfold convA at hb
  split at hb
  · cases hb
  · rename_i us hus
    split at hb
    · rename_i k k' n hd
      cases hb; cases hx
      exact same ⟨_, by simp [convert, run_underlying hus, run_underlying hd, Conv.intToInt], .int _ _ _⟩
    · rename_i s hd
      cases hb; cases hx
      refine same ⟨_, ?_, .str _ _⟩
      simp only [convert, Sem.run_bind, run_underlying hus, run_underlying hd, Result.andThen_ok]
      rfl
    · rename_i e s hd
      split at hb
      · rename_i hc
        obtain ⟨he, hsz⟩ := hc
        cases hb; cases hx; rename_i s
        have hrun := Lib.run_convert_string_bytes w src dst e s hus hd (u8_of he)
        have hl : LRel M w φ (s.data.toList.map fun b => AV.int .u8 b.toNat) (s.data.map fun b => Value.int .u8 b.toNat) := by
          refine ⟨by simp, fun i hi => ?_, fun i hi => ?_⟩
          · simp at hi; simp [Array.getD, hi]; rfl
          · simp at hi; simp [Array.getD, hi]; exact .int _ _ _
        have hn : noRefs (s.data.toList.map fun b => AV.int .u8 b.toNat) = true := by
          unfold noRefs
          generalize s.data.toList = l
          induction l with
          | nil => rfl
          | cons a l ih => simpa [refsL, refs] using ih
        have hw : Lib.bytesWorld w e s = w.drew.alloc (.cells ((s.data.map fun b => Value.int .u8 b.toNat) ++ Array.replicate (grownCap w s.size 0 e - s.size) (.int .u8 0)) e ((Lib.bytesCells w e s).size, (Lib.bytesCells w e s).size + 1)) := by
          have h1 : (Lib.bytesWorld w e s).heap = (w.drew.alloc (.cells ((s.data.map fun b => Value.int .u8 b.toNat) ++ Array.replicate (grownCap w s.size 0 e - s.size) (.int .u8 0)) e ((Lib.bytesCells w e s).size, (Lib.bytesCells w e s).size + 1))).heap := by
            apply Array.ext_getElem?
            intro j
            rcases Nat.lt_trichotomy j w.heap.size with hj | hj | hj
            · rw [Lib.bytesWorld_at_old w e s j hj]
              show _ = (w.drew.heap.push _)[j]?
              rw [Array.getElem?_push, if_neg (by simp; omega)]; rfl
            · subst hj
              rw [Lib.bytesWorld_at_new w e s]
              show _ = (w.drew.heap.push _)[w.drew.heap.size]?
              rw [Array.getElem?_push_size]; rfl
            · rw [Array.getElem?_eq_none (by rw [Lib.bytesWorld_size]; omega)]
              rw [Array.getElem?_eq_none (by simp; omega)]
          unfold Lib.bytesWorld at h1 ⊢
          unfold World.freeze at h1 ⊢
          simp only [Nat.succ_ne_self, if_false] at h1 ⊢
          exact congrArg (fun h => ({ w.drew with heap := h } : World)) h1
        rw [hw] at hrun
        have hsz' : s.size ≤ 140737488355328 := by simpa [mostA, Array.length_toList] using hsz
        have hcap : grownCap w s.size 0 e ≤ 9223372036854775807 ∧ s.size ≤ grownCap w s.size 0 e := by
          have e0 : grownCap w s.size 0 e = s.size + w.tape w.drawn (.appendCap s.size 0 e) % (2 ^ 63 - s.size) := rfl
          rw [e0]
          have : w.tape w.drawn (.appendCap s.size 0 e) % (2 ^ 63 - s.size) < 2 ^ 63 - s.size := Nat.mod_lt _ (by omega)
          omega
        have hfz := frozen_rel (w := w) (extra := Array.replicate (grownCap w s.size 0 e - s.size) (.int .u8 0)) ho hl hn e ((Lib.bytesCells w e s).size, (Lib.bytesCells w e s).size + 1) w.drew rfl s.data.toList.length (grownCap w s.size 0 e) none (by rw [Array.length_toList]; exact hcap.2) hcap.1 (fun k hk => by cases hk)
        refine ⟨_, _, [], by simp, hrun, quiet_post ho _ w.drew rfl rfl rfl rfl, ?_⟩
        simpa using hfz
      · cases hb
    · rename_i id off len size cap hd
      exact same (bytes_ok hb hus hd hx hh)
    · rename_i cs len cap hd
      exact same (bytes_ok hb hus hd hx hh)
    · rename_i hd
      exact same (bytes_ok hb hus hd hx hh)
    · rename_i e id off len size cap hd
      split at hb
      · rename_i hc
        obtain ⟨hsd, he, hob, hsl⟩ := hc
        cases hb
        cases hx with
        | sl _ _ _ _ _ _ b c hb h1 h2 h3 h4 =>
        obtain ⟨cs, hcs⟩ := Option.isSome_iff_exists.1 hob
        unfold objCells at hcs
        split at hcs
        · rename_i cs1 e1 g pr hobj
          cases hcs
          have hid : id < h.length := by
            rcases Nat.lt_or_ge id h.length with h' | h'
            · exact h'
            · simp [List.getD, List.getElem?_eq_none h'] at hobj
          rcases hh id (by simp [refs]) with h0 | ⟨b', ob, h5, h6, h7⟩
          · rw [hobj] at h0; cases h0
          · rw [hb] at h5; cases h5
            have h7' := h7
            rw [hobj] at h7
            obtain ⟨xs, fr, rfl, hr, hle, hg, hfr, hone, hfx⟩ := obj_reads (id := id) h6 h7
            let fr' : Nat × Nat := if fr.1 == fr.2 then (xs.size, xs.size + 1) else (min fr.1 xs.size, max fr.2 (xs.size + 1))
            have hfr' : fr'.1 = fr'.2 ∨ xs.size ≤ fr'.1 := by
              simp only [fr']
              split
              · exact .inr (Nat.le_refl _)
              · rename_i hne
                have hne' : fr.1 ≠ fr.2 := by simpa using hne
                right; simp only
                omega
            have hlt : b < w.heap.size := (ho.own _ _ hb).2
            have hw : w.freeze ⟨b, xs.size, none⟩ 1 = putBlock w b (.cells xs e1 fr') := by
              unfold World.freeze putBlock
              simp only [Nat.succ_ne_self, if_false]
              have : (w.heap.modify b fun
                  | .cells c elem (lo, hi) => .cells c elem (if lo == hi then (xs.size, xs.size + 1) else (min lo xs.size, max hi (xs.size + 1)))
                  | o => o) = w.heap.setIfInBounds b (.cells xs e1 fr') := by
                apply Array.ext_getElem?
                intro j
                rw [Array.getElem?_modify, Array.getElem?_setIfInBounds]
                by_cases hj : b = j
                · subst hj
                  rw [if_pos rfl, if_pos rfl, if_pos hlt, h6]
                  rfl
                · rw [if_neg hj, if_neg hj]
              exact congrArg (fun h => ({ w with heap := h } : World)) this
            have hset : h.set id (h.getD id .dead) = h := by
              apply List.ext_getElem?
              intro j
              rw [List.getElem?_set]
              by_cases hj : id = j
              · subst hj; rw [if_pos rfl, if_pos hid, getD_getElem _ _ hid, List.getElem?_eq_getElem hid]
              · rw [if_neg hj]
            have hp := set_post (w := w) ho hid hb (h.getD id .dead) (ob := .cells xs e1 fr') h6 ⟨rfl, rfl⟩ (fun M' w' φ' hs hsh hm => by
              rw [hobj]
              obtain ⟨_, a2, a3, a4, a5, a6⟩ := h7
              refine ⟨rfl, a2, a3, hfr', a5, fun i hi => ?_⟩
              have := a6 i hi
              by_cases hpr : pr = true
              · rw [if_pos hpr] at this ⊢
                exact this.stay hs (fun b id h => by cases h) (fun id b h => by cases h)
              · rw [if_neg hpr] at this ⊢
                exact this.stay hs hsh hm)
            rw [hset] at hp
            refine ⟨_, _, [id], by intro j hj; simp only [List.mem_singleton] at hj; subst hj; exact ⟨by simp [refs], by rw [hobj]; simp⟩, ?_, hp, hp.val ho (.sl _ _ _ _ _ _ _ _ hb h1 h2 h3 h4)⟩
            have hshape : w.shape? b = some (e1, xs.size) := by simp [World.shape?, h6]
            subst hsd
            cases us <;> first | (simp [isSliceD] at hsl; done) | skip
            rw [hus] at hd; cases hd
            simp [convert, run_underlying hus, run_underlying (u8_of he), markStringish, hshape, hw]
        · cases hcs
      · cases hb
    · cases hb

end
end Am
