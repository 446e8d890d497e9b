/-
  A part of a proved abstract machine over the model, and of what it tells of this seat's functions. Conditions: as each theorem states them.
-/
import Derived.Test.YtcmmdemeaimegaaGreatDoorAm10
namespace Am
open Go
set_option linter.unusedSimpArgs false
set_option linter.unusedVariables false

section
variable {P : Program} {M : Nat → Prop} {w : World} {φ : Phi} {h : List AObj}

/-- What is appended, in the model. -/
def AppX (P : Program) (w : World) (k : Nat) (e : TypeId) (n : Nat) (t1 : TypeId) (xv : Value) (newR : Array Value) : Prop :=
  ((∃ e1, P.underlying t1 = some (.slice e1)) ∧ ∀ w1 : World, w1.heap = w.heap → (Builtin.lenOf xv).run P w1 = .ok n w1 ∧ (Builtin.firstCells k n xv).run P w1 = .ok newR w1) ∨
  ((∃ kk, P.underlying t1 = some (.int kk)) ∧ (∃ k', xv = .int k' (n : Int)) ∧ n * P.bytesOf e ≤ mostA ∧ n ≤ 9223372036854775807 ∧ ∃ zv : Value, (∀ w1 : World, (zeroValue e).run P w1 = .ok zv w1) ∧ zv.cells.size = k ∧ newR = Builtin.zeroCells zv.cells n)

theorem heap_cell {w1 w2 : World} (hw : w1.heap = w2.heap) (a : Addr) : w1.cell? a = w2.cell? a := by simp only [World.cell?, hw]

theorem slRel_first {k : Nat} {cs : List AV} {len : Nat} {x : Value} (hs : SlRel M w φ cs len x) (hl : cs.length = len * k) :
    ∃ xs : Array Value, LRel M w φ cs xs ∧ (∃ b c, x = .slice b len c) ∧ ∀ w1 : World, w1.heap = w.heap → (Builtin.lenOf x).run P w1 = .ok len w1 ∧ (Builtin.firstCells k len x).run P w1 = .ok xs w1 := by
  rcases hs with ⟨rfl, rfl, rfl⟩ | ⟨a, c, f, rfl, h1, h2⟩
  · exact ⟨#[], ⟨rfl, fun i hi => by simp at hi, fun i hi => by simp at hi⟩, ⟨none, 0, rfl⟩, fun w1 _ => ⟨by simp [Builtin.lenOf], by simp [Builtin.firstCells]⟩⟩
  · refine ⟨((List.range cs.length).map f).toArray, ⟨by simp, fun i hi => ?_, fun i hi => ?_⟩, ⟨_, _, rfl⟩, fun w1 hw => ⟨by simp [Builtin.lenOf], ?_⟩⟩
    · simp at hi
      have := (h2 i hi).2.1
      simpa [Array.getD, hi] using this
    · have := (h2 i hi).2.2
      simpa [Array.getD, hi] using this
    · simp only [Builtin.firstCells]
      rw [← hl]
      exact run_loadCells w1 a cs.length f (fun j hj => by rw [heap_cell hw]; exact (h2 j hj).1)

theorem news_ok {k : Nat} {e : TypeId} {ts : Array TypeId} {x : AV} {new : List AV} {n : Nat} {xv : Value} (hk0 : k ≠ 0) (hn : newsA P k e h ts x = some (new, n)) (hx : VRel M w φ x xv)
    (hh : ∀ id, id ∈ refs x → HAt M w φ h id) : ∃ t1 newR, ts[1]? = some t1 ∧ LRel M w φ new newR ∧ new.length = n * k ∧ AppX P w k e n t1 xv newR := by
  unfold newsA at hn
  split at hn
  · rename_i e1 hu
    obtain ⟨t1, ht1, hu⟩ := Option.bind_eq_some_iff.1 hu
    obtain ⟨cs, hcs, hn⟩ := Option.map_eq_some_iff.1 hn
    cases hn
    obtain ⟨h1, h2⟩ := slCells_ok hcs hx hh
    obtain ⟨xs, h3, _, h4⟩ := slRel_first (P := P) h1 h2
    exact ⟨t1, xs, ht1, h3, h2, .inl ⟨⟨_, hu⟩, h4⟩⟩
  · rename_i kk hu
    obtain ⟨t1, ht1, hu⟩ := Option.bind_eq_some_iff.1 hu
    split at hn
    · rename_i k' n'
      split at hn
      · rename_i hc
        obtain ⟨h0, hby, h63⟩ := hc
        obtain ⟨z, hz, hn⟩ := Option.bind_eq_some_iff.1 hn
        obtain ⟨zc, hzc, hn⟩ := Option.bind_eq_some_iff.1 hn
        split at hn
        · rename_i hzk
          cases hn
          cases hx
          obtain ⟨zv, hrun, hzr, hz1, rfl⟩ := zero_ok hz
          have hlz : LRel M w φ zc zv.cells := stored_ok hzc (hzr M w φ)
          have hzz := zeros_rel hlz n'.toNat (by omega)
          have hzs : zv.cells.size = k := by rw [← hlz.1, hzk]
          have hlen : (zerosA zc n'.toNat).length = n'.toNat * k := by rw [hzz.1, size_madeCells, hzk]
          have hby' : n'.toNat * P.bytesOf e ≤ mostA := by
            obtain ⟨m, rfl⟩ := Int.eq_ofNat_of_zero_le h0
            simp only [Int.toNat_natCast]
            exact_mod_cast hby
          refine ⟨t1, _, ht1, hzz, hlen, .inr ⟨⟨_, hu⟩, ⟨k', by rw [Int.toNat_of_nonneg h0]⟩, hby', by omega, zv, hrun, hzs, ?_⟩⟩
          unfold madeCells Builtin.zeroCells
          rw [hzk, hzs]
        · cases hn
      · cases hn
    · cases hn
  · cases hn

theorem append_room {k n sLen sCap : Nat} {e t0 t1 ty : TypeId} {ts : Array TypeId} {base : Option Addr} {xv : Value} {newR : Array Value} (h0 : ts[0]? = some t0) (h1 : ts[1]? = some t1) (hu : P.underlying t0 = some (.slice e))
    (hk : szA P e = some k) (hk0 : k ≠ 0) (hX : AppX P w k e n t1 xv newR) (hroom : sLen + n ≤ sCap) :
    (Builtin.append_ ts ty #[.slice base sLen sCap, xv]).run P w = ((match base with | some a => storeCells (a.add (sLen * k)) newR.toList | none => pure ()).run P w).andThen fun _ w' => .ok (.slice base (sLen + n) sCap) w' := by
  unfold szA at hk
  obtain ⟨i, hi, rfl⟩ := Option.map_eq_some_iff.1 hk
  rcases hX with ⟨⟨e1, hu1⟩, hX⟩ | ⟨⟨kk, hu1⟩, ⟨k', rfl⟩, hb, h63, zv, hz, hzs, rfl⟩
  · obtain ⟨hX1, hX2⟩ := hX w rfl
    cases base with
    | none => simp [Builtin.append_, h0, h1, run_underlying hu, run_underlying hu1, Go.sizeOf, typeInfo, hi, hX1, hX2, hroom]
    | some a => simp [Builtin.append_, h0, h1, run_underlying hu, run_underlying hu1, Go.sizeOf, typeInfo, hi, hX1, hX2, hroom]
  · have hwrap : IntKind.i64.wrap (n : Int) = n := by rw [IntKind.wrap_i64]; omega
    have hby : P.bytesOf e = i.bytes := by simp [Program.bytesOf, hi]
    rw [hby] at hb
    have hb1 : ¬ ((n : Int) < 0) := by omega
    have hb2 : ¬ (281474976710656 < (n : Int) * (i.bytes : Int)) := by
      have : ((n * i.bytes : Nat) : Int) ≤ 140737488355328 := by simp only [mostA] at hb; omega
      rw [Int.natCast_mul] at this; omega
    have hnz : n * i.size = 0 → Builtin.zeroCells zv.cells n = #[] := by
      intro h
      have : n = 0 := by rcases Nat.mul_eq_zero.1 h with h | h; · exact h
                         · exact absurd h hk0
      subst this
      simp [Builtin.zeroCells, Array.range_zero']
    by_cases hn0 : n * i.size = 0
    · have := hnz hn0
      cases base with
      | none => simp [Builtin.append_, h0, h1, run_underlying hu, run_underlying hu1, Go.sizeOf, typeInfo, hi, asInt, asIntOf, hwrap, hb1, hb2, hroom, hn0, this]
      | some a => simp [Builtin.append_, h0, h1, run_underlying hu, run_underlying hu1, Go.sizeOf, typeInfo, hi, asInt, asIntOf, hwrap, hb1, hb2, hroom, hn0, this]
    · cases base with
      | none => simp [Builtin.append_, h0, h1, run_underlying hu, run_underlying hu1, Go.sizeOf, typeInfo, hi, asInt, asIntOf, hwrap, hb1, hb2, hroom, hn0, hz]
      | some a => simp [Builtin.append_, h0, h1, run_underlying hu, run_underlying hu1, Go.sizeOf, typeInfo, hi, asInt, asIntOf, hwrap, hb1, hb2, hroom, hn0, hz]

theorem append_grow {k n sLen sCap : Nat} {e t0 t1 ty : TypeId} {ts : Array TypeId} {base : Option Addr} {xv zv : Value} {newR oldR : Array Value} (h0 : ts[0]? = some t0) (h1 : ts[1]? = some t1) (hu : P.underlying t0 = some (.slice e))
    (hk : szA P e = some k) (hk0 : k ≠ 0) (hX : AppX P w k e n t1 xv newR) (hgrow : sCap < sLen + n) (hzv : ∀ w1 : World, (zeroValue e).run P w1 = .ok zv w1)
    (hold : ∀ w1 : World, w1.heap = w.heap → (Builtin.firstCells k sLen (.slice base sLen sCap)).run P w1 = .ok oldR w1) (hbig : (sLen + n) * P.bytesOf e ≤ mostA ∧ sLen + n ≤ mostA) (hn : n ≠ 0) :
    (Builtin.append_ ts ty #[.slice base sLen sCap, xv]).run P w = .ok (.slice (some ⟨w.heap.size, 0, none⟩) (sLen + n) (grownCap w (sLen + n) sCap e))
      (w.drew.alloc (.cells (oldR ++ newR ++ Builtin.zeroCells zv.cells (grownCap w (sLen + n) sCap e - (sLen + n))) e)) := by
  unfold szA at hk
  obtain ⟨i, hi, rfl⟩ := Option.map_eq_some_iff.1 hk
  have hby : P.bytesOf e = i.bytes := by simp [Program.bytesOf, hi]
  rw [hby] at hbig
  simp only [mostA] at hbig
  have hno : ¬ (sLen + n ≤ sCap) := by omega
  have h63 : ¬ (9223372036854775807 < ((sLen : Int) + (n : Int))) := by omega
  have hfit := growslice_fits (bytes := i.bytes) hgrow hbig.1
  have h48 : ¬ (281474976710656 < Builtin.nextslicecap (sLen + n) sCap * i.bytes) := by omega
  have hO := hold w.drew rfl
  rcases hX with ⟨⟨e1, hu1⟩, hX⟩ | ⟨⟨kk, hu1⟩, ⟨k', rfl⟩, hb, h63', zv', hz, hzs, rfl⟩
  · obtain ⟨hX1, _⟩ := hX w rfl
    obtain ⟨_, hX2⟩ := hX w.drew rfl
    simp [Builtin.append_, h0, h1, run_underlying hu, run_underlying hu1, Go.sizeOf, typeInfo, hi, hX1, hX2, hno, h63, h48, Question.forced, hO, hzv, newRow, grownCap]
  · have hwrap : IntKind.i64.wrap (n : Int) = n := by rw [IntKind.wrap_i64]; omega
    rw [hby] at hb
    have hb1 : ¬ ((n : Int) < 0) := by omega
    have hb2 : ¬ (281474976710656 < (n : Int) * (i.bytes : Int)) := by
      have : ((n * i.bytes : Nat) : Int) ≤ 140737488355328 := by simp only [mostA] at hb; omega
      rw [Int.natCast_mul] at this; omega
    have hzz : zv' = zv := by have := hz w; rw [hzv w] at this; injection this with h1 h2; exact h1.symm
    subst hzz
    by_cases hn0 : n * i.size = 0
    · have hn00 : n = 0 := by rcases Nat.mul_eq_zero.1 hn0 with h | h; · exact h
                              · exact absurd h hk0
      exact absurd hn00 hn
    · simp [Builtin.append_, h0, h1, run_underlying hu, run_underlying hu1, Go.sizeOf, typeInfo, hi, asInt, asIntOf, hwrap, hb1, hb2, hno, h63, h48, hn0, Question.forced, hO, hzv, newRow, grownCap]

theorem grownCap_bd (w : World) (need old : Nat) (e : TypeId) (hn : need ≤ mostA) : need ≤ grownCap w need old e ∧ grownCap w need old e ≤ 9223372036854775807 := by
  have e0 : grownCap w need old e = need + w.tape w.drawn (.appendCap need old e) % (2 ^ 63 - need) := rfl
  rw [e0]
  have hn' : need ≤ 140737488355328 := hn
  have : w.tape w.drawn (.appendCap need old e) % (2 ^ 63 - need) < 2 ^ 63 - need := Nat.mod_lt _ (by omega)
  omega

theorem LRel.append {cs ds : List AV} {xs ys : Array Value} (h1 : LRel M w φ cs xs) (h2 : LRel M w φ ds ys) : LRel M w φ (cs ++ ds) (xs ++ ys) := by
  obtain ⟨a1, a2, a3⟩ := h1
  obtain ⟨b1, b2, b3⟩ := h2
  have hget : ∀ i, i < xs.size + ys.size → (xs ++ ys).getD i Go.undef = if i < xs.size then xs.getD i Go.undef else ys.getD (i - xs.size) Go.undef := by
    intro i hi
    by_cases h : i < xs.size
    · simp [Array.getD, h, hi, Array.getElem_append]
    · simp [Array.getD, h, hi, Array.getElem_append, show i - xs.size < ys.size by omega]
  refine ⟨by simp [a1, b1], fun i hi => ?_, fun i hi => ?_⟩
  · simp only [Array.size_append] at hi
    rw [hget i hi]
    by_cases h : i < xs.size
    · rw [if_pos h]; exact a2 i h
    · rw [if_neg h]; exact b2 _ (by omega)
  · simp only [List.length_append] at hi
    rw [hget i (by omega)]
    by_cases h : i < cs.length
    · rw [if_pos (by omega), List.getElem_append_left h]; exact a3 i h
    · rw [if_neg (by omega), List.getElem_append_right (by omega)]
      have := b3 (i - cs.length) (by omega)
      rw [show i - xs.size = i - cs.length by omega]
      exact this

theorem LRel.sub {cs : List AV} {f : Nat → Value} {b o : Nat} (hr : Reads M w φ b o cs f) (off n : Nat) (hn : off + n ≤ cs.length) : LRel M w φ ((cs.drop off).take n) (((List.range n).map fun i => f (off + i)).toArray) := by
  refine ⟨by simp; omega, fun i hi => ?_, fun i hi => ?_⟩
  · simp at hi
    have := (hr (off + i) (by omega)).2.1
    simpa [Array.getD, hi] using this
  · simp at hi
    have := (hr (off + i) (by omega)).2.2
    simpa [Array.getD, show i < n by omega] using this

theorem zeros_size (z : Array Value) (n : Nat) : (Builtin.zeroCells z n).size = n * z.size := by simp [Builtin.zeroCells]

theorem zeros_one {z : Array Value} (hz : ∀ i, i < z.size → (z.getD i Go.undef).oneCell' = true) (n : Nat) : ∀ i, i < (Builtin.zeroCells z n).size → ((Builtin.zeroCells z n).getD i Go.undef).oneCell' = true := by
  intro i hi
  rw [zeros_size] at hi
  have hz0 : 0 < z.size := by
    rcases Nat.eq_zero_or_pos z.size with h | h
    · rw [h] at hi; omega
    · exact h
  have := hz (i % z.size) (Nat.mod_lt _ hz0)
  simpa [Builtin.zeroCells, Array.getD, hi, Nat.mod_lt _ hz0] using this

end
end Am
