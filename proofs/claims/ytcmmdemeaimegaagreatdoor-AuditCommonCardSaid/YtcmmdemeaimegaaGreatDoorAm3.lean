/-
  A part of a proved abstract machine over the model, and of what it tells of this seat's functions. Conditions: as each theorem states them.
-/
import Derived.Test.YtcmmdemeaimegaaGreatDoorAm2
import Derived.Laws.Cells
namespace Am
open Go
set_option linter.unusedVariables false
set_option linter.unusedSimpArgs false

section
variable {P : Program} {M : Nat → Prop} {w : World} {φ : Phi} {h : List AObj}

theorem VRel.weak {v : AV} {x : Value} (hv : VRel M w (fun _ => none) v x) : VRel M w φ v x :=
  hv.stay (fun b hb hm => ⟨hb, hm, rfl⟩) (fun b id h => by cases h) (fun id b h => by cases h)

/-- Memory that reads as cells. -/
def Reads (M : Nat → Prop) (w : World) (φ : Phi) (b o : Nat) (cs : List AV) (f : Nat → Value) : Prop :=
  ∀ i (hi : i < cs.length), w.cell? ⟨b, o + i, none⟩ = some (f i) ∧ (f i).oneCell' = true ∧ VRel M w φ cs[i] (f i)

theorem run_sizeOf' {t : TypeId} {n : Nat} (hs : szA P t = some n) : (Go.sizeOf t).run P w = .ok n w := by
  unfold szA at hs
  obtain ⟨i, hi, rfl⟩ := Option.map_eq_some_iff.1 hs
  simp [Go.sizeOf, typeInfo, hi]

theorem run_loadVar_part {t : TypeId} {cs : List AV} {off : Nat} {y : AV} (hp : partA P t cs off = some y) {b o : Nat} {f : Nat → Value} (hr : Reads M w φ b o cs f) :
    ∃ x, (loadVar t ⟨b, o + off, none⟩).run P w = .ok x w ∧ VRel M w φ y x := by
  have aggCase : ∀ n, off + n ≤ cs.length → ∃ xs : Array Value, (loadCells ⟨b, o + off, none⟩ n).run P w = .ok xs w ∧ VRel M w φ (.agg ((cs.drop off).take n)) (.agg xs) := by
    intro n hn
    refine ⟨_, run_loadCells w _ n (fun j => f (off + j)) (fun j hj => ?_), .agg _ _ _ (by simp; omega) (fun i hi => ?_) (fun i hi => ?_)⟩
    · rw [Addr.add_lit]
      have := (hr (off + j) (by omega)).1
      rwa [show o + (off + j) = o + off + j by omega] at this
    · simp at hi
      simp [Array.getD, show i < n by omega]
      exact (hr (off + i) (by omega)).2.1
    · simp at hi
      simp [Array.getD, show i < n by omega]
      exact (hr (off + i) (by omega)).2.2
  unfold partA at hp
  split at hp
  · rename_i hu
    obtain ⟨n, hn, hp⟩ := Option.bind_eq_some_iff.1 hp
    split at hp
    · rename_i hle
      cases hp
      obtain ⟨xs, h1, h2⟩ := aggCase n hle
      exact ⟨_, by simp [loadVar, isAgg, run_underlying hu, run_sizeOf' hn, h1], h2⟩
    · cases hp
  · rename_i hu
    obtain ⟨n, hn, hp⟩ := Option.bind_eq_some_iff.1 hp
    split at hp
    · rename_i hle
      cases hp
      obtain ⟨xs, h1, h2⟩ := aggCase n hle
      exact ⟨_, by simp [loadVar, isAgg, run_underlying hu, run_sizeOf' hn, h1], h2⟩
    · cases hp
  · rename_i d hn1 hn2 hu
    obtain ⟨hi, rfl⟩ := List.getElem?_eq_some_iff.1 hp
    obtain ⟨h1, h2, h3⟩ := hr off hi
    refine ⟨f off, ?_, h3⟩
    have : (isAgg t).run P w = .ok false w := by
      simp only [isAgg, Sem.run_bind, run_underlying hu, Result.andThen_ok]
      cases d <;> first | rfl | (exact (hn1 _ rfl).elim) | (exact (hn2 _ _ rfl).elim)
    simp [loadVar, this, h1]
  · cases hp

theorem obj_reads {id b : Nat} {cs : List AV} {e : TypeId} {g pr : Bool} {ob : Obj} (hb : w.heap[b]? = some ob) (ho : ORel M w φ (.cells cs e g pr) ob) :
    ∃ xs fr, ob = .cells xs e fr ∧ Reads M w φ b 0 cs (fun i => xs.getD i Go.undef) ∧ cs.length ≤ xs.size ∧ (g = false → cs.length = xs.size) ∧ (∀ i, i < xs.size → ¬ (fr.1 ≤ i ∧ i < fr.2)) ∧
      (∀ i, i < xs.size → (xs.getD i Go.undef).oneCell' = true) ∧ (fr.1 = fr.2 ∨ xs.size ≤ fr.1) := by
  cases ob with
  | cells xs e' fr =>
    obtain ⟨rfl, h1, h2, h3, h4, h5⟩ := ho
    refine ⟨xs, fr, rfl, fun i hi => ⟨?_, h4 i (by omega), ?_⟩, h1, h2, fun i hi => by omega, h4, h3⟩
    · simp [World.cell?, hb, Array.getD, show i < xs.size by omega]
    · have := h5 i hi
      cases pr
      · exact this
      · exact VRel.weak this
  | _ => exact ho.elim

theorem load_ok {t : TypeId} {a y : AV} {x : Value} (hl : loadA P h t a = some y) (hx : VRel M w φ a x) (hh : ∀ id, id ∈ refs a → HAt M w φ h id) :
    ∃ v, (Instr.loadAt t x).run P w = .ok v w ∧ VRel M w φ y v := by
  cases hx with
  | ptr _ id off b hb =>
    simp only [loadA, objCells] at hl
    obtain ⟨cs, hcs, hl⟩ := Option.bind_eq_some_iff.1 hl
    split at hcs
    · rename_i cs' e g pr hob
      cases hcs
      rcases hh id (by simp [refs]) with h0 | ⟨b', ob, h1, h2, h3⟩
      · rw [hob] at h0; cases h0
      · rw [hb] at h1; cases h1
        rw [hob] at h3
        obtain ⟨xs, fr, rfl, hr, _⟩ := obj_reads (id := id) h2 h3
        obtain ⟨v, h4, h5⟩ := run_loadVar_part (P := P) hl hr
        exact ⟨v, by simpa [Instr.loadAt, Instr.sureAddr] using h4, h5⟩
    · cases hcs
  | iptr _ cs off b o f hm hb hc h1 hv =>
    simp only [loadA] at hl
    obtain ⟨v, h4, h5⟩ := run_loadVar_part (P := P) (φ := φ) hl (b := b) (o := o) (f := f) (fun i hi => ⟨hc i hi, h1 i hi, VRel.weak (hv i hi)⟩)
    exact ⟨v, by simpa [Instr.loadAt, Instr.sureAddr] using h4, h5⟩
  | _ => simp [loadA] at hl

theorem indexAddr_ok {t : TypeId} {a i y : AV} {x xi : Value} (hl : indexAddrA P t a i = some y) (hx : VRel M w φ a x) (hi : VRel M w φ i xi) :
    ∃ v, (Instr.indexAt t x xi).run P w = .ok v w ∧ VRel M w φ y v := by
  unfold indexAddrA at hl
  split at hl
  · rename_i e hu
    obtain ⟨k, hk, hl2⟩ := Option.bind_eq_some_iff.1 hl; clear hl
    split at hl2
    · rename_i id off len size cap ik n
      split at hl2
      · rename_i hn
        cases hl2
        cases hi
        cases hx with
        | sl _ _ _ _ _ _ b c hb h1 h2 h3 h4 =>
          refine ⟨.pointer (some ⟨b, off + n.toNat * k, none⟩), ?_, .ptr _ _ _ _ hb⟩
          simp [Instr.indexAt, asIntOf, run_underlying hu, hn, run_sizeOf' hk, Addr.add_lit]
      · cases hl2
    · rename_i cs len cap ik n
      split at hl2
      · rename_i hn
        obtain ⟨hn0, hn1, hne⟩ := hn
        cases hl2
        cases hi
        cases hx with
        | isl _ _ _ _ a c f h1 h2 h3 ha hc h4 hv =>
          obtain ⟨h5, h6, h7⟩ := ha hne
          obtain ⟨ab, ao, as⟩ := a
          simp only at h5 h6 h7 hc
          subst h5
          refine ⟨.pointer (some ⟨ab, ao + n.toNat * k, none⟩), ?_, .iptr _ _ _ _ _ f h6 h7 hc h4 hv⟩
          simp [Instr.indexAt, asIntOf, run_underlying hu, hn0, hn1, run_sizeOf' hk, Addr.add_lit]
      · cases hl2
    · cases hl2
  · rename_i m e hu
    obtain ⟨k, hk, hl2⟩ := Option.bind_eq_some_iff.1 hl; clear hl
    split at hl2
    · rename_i id off ik n
      split at hl2
      · rename_i hn
        cases hl2
        cases hi
        cases hx with
        | ptr _ _ _ b hb =>
          refine ⟨.pointer (some ⟨b, off + n.toNat * k, none⟩), ?_, .ptr _ _ _ _ hb⟩
          simp [Instr.indexAt, Instr.sureAddr, asIntOf, run_underlying hu, hn, run_sizeOf' hk, Addr.add_lit]
      · cases hl2
    · rename_i cs off ik n
      split at hl2
      · rename_i hn
        cases hl2
        cases hi
        cases hx with
        | iptr _ _ _ b o f hm hb hc h1 hv =>
          refine ⟨.pointer (some ⟨b, o + (off + n.toNat * k), none⟩), ?_, .iptr _ _ _ _ _ f hm hb hc h1 hv⟩
          simp [Instr.indexAt, Instr.sureAddr, asIntOf, run_underlying hu, hn, run_sizeOf' hk, Addr.add_lit, Nat.add_assoc]
      · cases hl2
    · cases hl2
  · cases hl

theorem fieldAddr_ok {t : TypeId} {a y : AV} {i : Nat} {x : Value} (hl : fieldAddrA P t a i = some y) (hx : VRel M w φ a x) :
    ∃ v, (Instr.fieldAt t x i).run P w = .ok v w ∧ VRel M w φ y v := by
  unfold fieldAddrA at hl
  split at hl
  · rename_i fs hu
    split at hl
    · rename_i fd hf
      obtain ⟨k, hk, hl2⟩ := Option.bind_eq_some_iff.1 hl; clear hl
      split at hl2
      · cases hl2
      · rename_i hk0
        split at hl2
        · cases hl2
          cases hx with
          | ptr _ _ _ b hb =>
            rename_i id off
            refine ⟨.pointer (some ⟨b, off + fd.offset, none⟩), ?_, .ptr _ _ _ _ hb⟩
            simp [Instr.fieldAt, Instr.sureAddr, run_underlying hu, hf, fieldPlace, run_sizeOf' hk, hk0, Addr.add_lit]
        · cases hl2
          cases hx with
          | iptr _ _ _ b o f hm hb hc h1 hv =>
            rename_i cs off
            refine ⟨.pointer (some ⟨b, o + (off + fd.offset), none⟩), ?_, .iptr _ _ _ _ _ f hm hb hc h1 hv⟩
            simp [Instr.fieldAt, Instr.sureAddr, run_underlying hu, hf, fieldPlace, run_sizeOf' hk, hk0, Addr.add_lit, Nat.add_assoc]
        · cases hl2
    · cases hl
  · cases hl

theorem len_ok {t : TypeId} {a : AV} {n : Int} {x : Value} (hl : lenA P h t a = some n) (ty : TypeId) (ts : Array TypeId) (xs : Array Value) (ht : ts[0]? = some t) (hxs : xs[0]? = some x) (hx : VRel M w φ a x)
    (hh : ∀ id, id ∈ refs a → HAt M w φ h id) : (Builtin.len_ ts ty xs).run P w = .ok (.int .i64 n) w := by
  unfold lenA at hl
  split at hl
  all_goals (try (rename_i hu; cases hl; cases hx; simp [Builtin.len_, ht, hxs, run_underlying hu, goInt]; done))
  · rename_i k e id hu
    split at hl
    · rename_i es pr hob
      cases hl; cases hx with
      | map _ _ b hb =>
      rcases hh id (by simp [refs]) with h0 | ⟨b', ob, h1, h2, h3⟩
      · rw [hob] at h0; cases h0
      · rw [hb] at h1; cases h1
        rw [hob] at h3
        cases ob with
        | map xs' cl => simp [Builtin.len_, ht, hxs, run_underlying hu, goInt, getObj, Sem.run, h2, h3.1]
        | _ => exact h3.elim
    · cases hl
  · rename_i n' e hu; cases hl; simp [Builtin.len_, ht, hxs, run_underlying hu, goInt]
  · cases hl

theorem cap_ok {t : TypeId} {a : AV} {n : Int} {x : Value} (hl : capA P t a = some n) (ty : TypeId) (ts : Array TypeId) (xs : Array Value) (ht : ts[0]? = some t) (hxs : xs[0]? = some x) (hx : VRel M w φ a x) :
    (Builtin.cap_ ts ty xs).run P w = .ok (.int .i64 n) w := by
  unfold capA at hl
  split at hl
  · rename_i hu; cases hl; cases hx; simp [Builtin.cap_, ht, hxs, run_underlying hu, goInt]
  · rename_i hu; cases hl; cases hx with
    | sl _ _ _ _ _ _ b c hb h1 h2 h3 h4 => simp [Builtin.cap_, ht, hxs, run_underlying hu, goInt, h3 _ rfl]
  · rename_i hu; cases hl; cases hx with
    | isl _ _ _ _ a c f h1 h2 h3 => simp [Builtin.cap_, ht, hxs, run_underlying hu, goInt, h3 _ rfl]
  · rename_i hu; cases hl; simp [Builtin.cap_, ht, hxs, run_underlying hu, goInt]
  · cases hl

end
end Am
