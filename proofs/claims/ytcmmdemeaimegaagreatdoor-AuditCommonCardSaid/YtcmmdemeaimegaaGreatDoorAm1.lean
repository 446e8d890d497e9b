/-
  A part of a proved abstract machine over the model, and of what it tells of this seat's functions. Conditions: as each theorem states them.
-/
import Derived.Calls
import Derived.Laws.Sem
import Derived.Orders
namespace Am
open Go

/-- The machine's values, without addresses. -/
inductive AV where
  | undef
  | bool (b : Bool) | int (k : IntKind) (n : Int) | str (s : List UInt8)
  | pnil | ptr (id off : Nat) | iptr (cells : List AV) (off : Nat) | gptr (g off : Nat)
  | snil | sl (id off len size : Nat) (cap : Option Nat) | isl (cells : List AV) (len : Nat) (cap : Option Nat)
  | mnil | map (id : Nat)
  | func (fn : Fn) (first cap : List AV) | fnil
  | iface (t : TypeId) (v : AV) | inil
  | agg (cells : List AV) | tuple (vs : List AV)
  deriving Inhabited

inductive AObj where
  | dead
  | cells (cs : List AV) (elem : TypeId) (grow : Bool) (pr : Bool)
  | map (es : List (AV × AV)) (pr : Bool)
  deriving Inhabited

def AV.cells : AV → List AV
  | .agg cs => cs
  | v => [v]

structure St where
  t : List AV
  h : List AObj

/-! constants -/
def ofV1 : Value → AV
  | .bool b => .bool b
  | .int k n => .int k n
  | .string s => .str s.data.toList
  | .pointer none => .pnil
  | .slice none 0 0 => .snil
  | .map none => .mnil
  | .nilFunc => .fnil
  | .nilIface => .inil
  | _ => .undef
def ofV : Value → AV
  | .agg cs => .agg (cs.toList.map ofV1)
  | .tuple ⟨[]⟩ => .tuple []
  | v => ofV1 v

/-- A constant; a struct's cells are such as are stored. -/
def constV : Value → AV
  | .agg cs => if cs.all (·.oneCell') then ofV (.agg cs) else .undef
  | v => ofV v

def aeval (t : List AV) : Operand → AV
  | .tmp i => t.getD i (.tuple [])
  | .const v => constV v
  | .global g => .gptr g 0
  | .func f => .func (.func f) [] []

/-! references -/
mutual
def refs : AV → List Nat
  | .ptr id _ => [id]
  | .sl id _ _ _ _ => [id]
  | .map id => [id]
  | .func _ a b => refsL a ++ refsL b
  | .iface _ v => refs v
  | .agg cs => refsL cs
  | .tuple vs => refsL vs
  | _ => []
def refsL : List AV → List Nat
  | [] => []
  | v :: vs => refs v ++ refsL vs
end

def AObj.refs : AObj → List Nat
  | .dead => []
  | .cells cs _ _ pr => if pr then [] else refsL cs
  | .map es pr => if pr then [] else refsL (es.map (·.1)) ++ refsL (es.map (·.2))

/-- Depth first, each once; in the order of sight. -/
def reach (h : List AObj) : Nat → List Nat → List Nat → List Nat
  | 0, _, acc => acc
  | _ + 1, [], acc => acc
  | n + 1, i :: todo, acc =>
    if acc.contains i then reach h n todo acc
    else reach h n ((h.getD i .dead).refs ++ todo) (acc ++ [i])

def pos (i : Nat) : List Nat → Nat
  | [] => 0
  | j :: l => if i == j then 0 else pos i l + 1

mutual
def ren (f : Nat → Nat) : AV → AV
  | .ptr id off => .ptr (f id) off
  | .sl id off len size cap => .sl (f id) off len size cap
  | .map id => .map (f id)
  | .func fn a b => .func fn (renL f a) (renL f b)
  | .iface t v => .iface t (ren f v)
  | .agg cs => .agg (renL f cs)
  | .tuple vs => .tuple (renL f vs)
  | v => v
def renL (f : Nat → Nat) : List AV → List AV
  | [] => []
  | v :: vs => ren f v :: renL f vs
end

def renO (f : Nat → Nat) : AObj → AObj
  | .dead => .dead
  | .cells cs e g pr => if pr then .cells cs e g pr else .cells (renL f cs) e g pr
  | .map es pr => if pr then .map es pr else .map (es.map fun (k, v) => (ren f k, ren f v)) pr

def noRefs (vs : List AV) : Bool := (refsL vs).isEmpty

/-! freezing: references from m on become what they hold -/
mutual
def inl (h : List AObj) (m : Nat) : Nat → AV → Option AV
  | 0, _ => none
  | n + 1, .ptr id off =>
    if id < m then some (.ptr id off) else
    match h.getD id .dead with
    | .cells cs _ _ pr => if pr then some (.iptr cs off) else (inlL h m n cs).bind fun cs => if noRefs cs then some (.iptr cs off) else none
    | _ => none
  | n + 1, .sl id off len size cap =>
    if id < m then some (.sl id off len size cap) else
    match h.getD id .dead with
    | .cells cs _ _ pr =>
      let part := (cs.drop off).take (len * size)
      if pr then some (.isl part len none) else (inlL h m n part).bind fun cs => if noRefs cs then some (.isl cs len none) else none
    | _ => none
  | _ + 1, .map id => if id < m then some (.map id) else none
  | n + 1, .func fn a b => do some (.func fn (← inlL h m n a) (← inlL h m n b))
  | n + 1, .iface t v => (inl h m n v).map (.iface t)
  | n + 1, .agg cs => (inlL h m n cs).map .agg
  | n + 1, .tuple vs => (inlL h m n vs).map .tuple
  | _ + 1, v => some v
def inlL (h : List AObj) (m : Nat) : Nat → List AV → Option (List AV)
  | 0, _ => none
  | _ + 1, [] => some []
  | n + 1, v :: vs => do some ((← inl h m n v) :: (← inlL h m n vs))
end

/-! operations -/
section
variable (P : Program)

def szA (t : TypeId) : Option Nat := (P.info? t).map (·.size)

def partA (t : TypeId) (cs : List AV) (off : Nat) : Option AV :=
  match P.underlying t with
  | some (.struct _) => (szA P t).bind fun n => if off + n ≤ cs.length then some (.agg ((cs.drop off).take n)) else none
  | some (.array _ _) => (szA P t).bind fun n => if off + n ≤ cs.length then some (.agg ((cs.drop off).take n)) else none
  | some _ => cs[off]?
  | none => none

def objCells (h : List AObj) (id : Nat) : Option (List AV) := match h.getD id .dead with | .cells cs _ _ _ => some cs | _ => none

def loadA (h : List AObj) (t : TypeId) : AV → Option AV
  | .ptr id off => (objCells h id).bind fun cs => partA P t cs off
  | .iptr cs off => partA P t cs off
  | _ => none

def setCells (cs : List AV) (off : Nat) : List AV → List AV
  | [] => cs
  | v :: vs => setCells (cs.set off v) (off + 1) vs

/-- A value's cells, where it may be stored. -/
def AV.stored : AV → Option (List AV)
  | .undef => none
  | .tuple _ => none
  | .agg cs => some cs
  | v => some [v]

def storeA (h : List AObj) (t : TypeId) (a v : AV) : Option (List AObj) :=
  match a with
  | .ptr id off =>
    match h.getD id .dead with
    | .cells cs e g pr =>
      v.stored.bind fun vs =>
      if szA P t = some vs.length ∧ off + vs.length ≤ cs.length then
        some (h.set id (.cells (setCells cs off vs) e g (pr && noRefs vs)))
      else none
    | _ => none
  | _ => none

/-- A type's zero value, if its cells are such as are stored. -/
def zeroA (t : TypeId) : Option AV := ((P.info? t).bind (·.zero)).bind fun z => if z.cells.all (·.oneCell') then some (ofV z) else none

def newCells (h : List AObj) (cs : List AV) (e : TypeId) (grow : Bool) : Nat × List AObj :=
  (h.length, h ++ [.cells cs e grow (noRefs cs)])

def strLt : List UInt8 → List UInt8 → Bool
  | _, [] => false
  | [], _ :: _ => true
  | a :: x, b :: y => decide (a < b) || (a == b && strLt x y)

/-- '==' of what is neither numbers nor strings. lit: one operand is a constant. -/
def eqA (lit : Bool) (t : TypeId) (x y : AV) : Option Bool :=
  match P.underlying t, x, y with
  | some .bool, .bool a, .bool b => some (a == b)
  | some (.pointer _), .pnil, .pnil => some true
  | some (.pointer _), .pnil, .ptr _ _ => some false
  | some (.pointer _), .pnil, .iptr _ _ => some false
  | some (.pointer _), .ptr _ _, .pnil => some false
  | some (.pointer _), .iptr _ _, .pnil => some false
  | some (.slice _), .snil, .snil => some true
  | some (.slice _), .sl _ _ _ _ _, .snil => some false
  | some (.slice _), .isl _ _ _, .snil => some false
  | some (.slice _), .snil, .sl _ _ _ _ _ => some false
  | some (.slice _), .snil, .isl _ _ _ => some false
  | some (.map _ _), .mnil, .mnil => some true
  | some (.map _ _), .map _, .mnil => some false
  | some (.map _ _), .mnil, .map _ => some false
  | some (.func _ _ _), .fnil, .fnil => some true
  | some (.func _ _ _), .func _ _ _, .fnil => some false
  | some (.func _ _ _), .fnil, .func _ _ _ => some false
  | some (.interface _), .inil, .inil => if lit then some true else none
  | some (.interface _), .iface _ _, .inil => some false
  | some (.interface _), .inil, .iface _ _ => some false
  | _, _, _ => none

/-- Two keys of a map, numbers, strings or bools. -/
def keyEqA : TypeDesc → AV → AV → Option Bool
  | .bool, .bool a, .bool b => some (a == b)
  | .int _, .int k a, .int k' b => if k = k' then some (a == b) else none
  | .string, .str a, .str b => some (a == b)
  | _, _, _ => none

def basicD : TypeDesc → Bool
  | .bool => true
  | .int _ => true
  | .string => true
  | _ => false

/-- May it be a key? -/
def keyOkA (t : TypeId) (v : AV) : Bool :=
  match P.underlying t, v with
  | some (.struct fs), .agg cs => fs.all fun f => (match P.underlying f.type with | some d => basicD d | none => false) && decide (f.offset < cs.length)
  | some d, _ => basicD d
  | none, _ => false

def bitsA (op : BinOp) (k : IntKind) (x y : Int) : Option Int :=
  let a := BitVec.ofInt k.bits x
  let b := BitVec.ofInt k.bits y
  match op with
  | .and => some (k.wrap (a &&& b).toNat)
  | .or => some (k.wrap (a ||| b).toNat)
  | .xor => some (k.wrap (a ^^^ b).toNat)
  | .andNot => some (k.wrap (a &&& ~~~b).toNat)
  | _ => none

def binA (lit : Bool) (t : TypeId) (op : BinOp) (x y : AV) : Option AV :=
  match op, x, y with
  | .shl, .int k a, .int _ b => if b < 0 then none else some (.int k (k.wrap (a * 2 ^ (min b.toNat k.bits))))
  | .shr, .int k a, .int _ b => if b < 0 then none else some (.int k (a.fdiv (2 ^ (min b.toNat k.bits))))
  | .add, .int k a, .int k' b => if k = k' then some (.int k (k.wrap (a + b))) else none
  | .sub, .int k a, .int k' b => if k = k' then some (.int k (k.wrap (a - b))) else none
  | .mul, .int k a, .int k' b => if k = k' then some (.int k (k.wrap (a * b))) else none
  | .quo, .int k a, .int k' b => if k = k' ∧ b ≠ 0 then some (.int k (k.wrap (a.tdiv b))) else none
  | .rem, .int k a, .int k' b => if k = k' ∧ b ≠ 0 then some (.int k (a.tmod b)) else none
  | .and, .int k a, .int k' b => if k = k' then (bitsA .and k a b).map (.int k) else none
  | .or, .int k a, .int k' b => if k = k' then (bitsA .or k a b).map (.int k) else none
  | .xor, .int k a, .int k' b => if k = k' then (bitsA .xor k a b).map (.int k) else none
  | .andNot, .int k a, .int k' b => if k = k' then (bitsA .andNot k a b).map (.int k) else none
  | .lss, .int k a, .int k' b => if k = k' then some (.bool (decide (a < b))) else none
  | .leq, .int k a, .int k' b => if k = k' then some (.bool (decide (a ≤ b))) else none
  | .gtr, .int k a, .int k' b => if k = k' then some (.bool (decide (a > b))) else none
  | .geq, .int k a, .int k' b => if k = k' then some (.bool (decide (a ≥ b))) else none
  | .add, .str a, .str b => if a.length + b.length ≤ 9223372036854775807 then some (.str (a ++ b)) else none
  | .lss, .str a, .str b => some (.bool (strLt a b))
  | .leq, .str a, .str b => some (.bool (strLt a b || a == b))
  | .gtr, .str a, .str b => some (.bool !(strLt a b || a == b))
  | .geq, .str a, .str b => some (.bool !(strLt a b))
  | .eql, .int k a, .int k' b => if k = k' then some (.bool (a == b)) else none
  | .neq, .int k a, .int k' b => if k = k' then some (.bool (a != b)) else none
  | .eql, .str a, .str b => some (.bool (a == b))
  | .neq, .str a, .str b => some (.bool !(a == b))
  | .eql, x, y => (eqA P lit t x y).map .bool
  | .neq, x, y => (eqA P lit t x y).map fun b => .bool !b
  | _, _, _ => none

def unA (op : UnOp) (x : AV) : Option AV :=
  match op, x with
  | .neg, .int k n => some (.int k (k.wrap (0 - n)))
  | .xor, .int k n => (bitsA .xor k (if k.signed then -1 else k.max) n).map (.int k)
  | .not, .bool b => some (.bool !b)
  | _, _ => none

def byteOf? : AV → Option UInt8
  | .int .u8 n => some (UInt8.ofNat n.toNat)
  | _ => none

/-- A slice's cells, elements of k cells each. -/
def slCells (k : Nat) (h : List AObj) : AV → Option (List AV)
  | .snil => some []
  | .isl cs len _ => if cs.length = len * k then some cs else none
  | .sl id off len _ _ => (objCells h id).bind fun cs => if off + len * k ≤ cs.length then some ((cs.drop off).take (len * k)) else none
  | _ => none

def slLen : AV → Nat
  | .sl _ _ len _ _ => len
  | .isl _ len _ => len
  | _ => 0

def mostA : Nat := 140737488355328

def isU8 (e : TypeId) : Bool := match P.underlying e with | some (.int .u8) => true | _ => false

def isSliceD : TypeDesc → Bool
  | .slice _ => true
  | _ => false

def convA (h : List AObj) (src dst : TypeId) (x : AV) : Option AV :=
  match P.underlying src with
  | none => none
  | some us =>
    match P.underlying dst, x with
    | some (.int k), .int _ n => some (.int k (k.wrap n))
    | some .string, .str s => some (.str s)
    | some (.slice e), .str s => if isU8 P e = true ∧ s.length ≤ mostA then some (.isl (s.map fun b => .int .u8 b.toNat) s.length none) else none
    | some .string, .sl id off len size cap => bytes us (.sl id off len size cap)
    | some .string, .isl cs len cap => bytes us (.isl cs len cap)
    | some .string, .snil => bytes us .snil
    | some (.slice e), .sl id off len size cap => if src = dst ∧ isU8 P e = true ∧ (objCells h id).isSome = true ∧ isSliceD us = true then some (.sl id off len size cap) else none
    | _, _ => none
where
  bytes (us : TypeDesc) (x : AV) : Option AV := match us with
    | .slice e => if isU8 P e = true then (slCells 1 h x).bind fun cs => (cs.mapM byteOf?).map .str else none
    | _ => none

def lenA (h : List AObj) (t : TypeId) (x : AV) : Option Int :=
  match P.underlying t, x with
  | some .string, .str s => some s.length
  | some (.slice _), .snil => some 0
  | some (.slice _), .sl _ _ len _ _ => some len
  | some (.slice _), .isl _ len _ => some len
  | some (.map _ _), .mnil => some 0
  | some (.map _ _), .map id => match h.getD id .dead with | .map es _ => some es.length | _ => none
  | some (.array n _), _ => some n
  | _, _ => none

def capA (t : TypeId) (x : AV) : Option Int :=
  match P.underlying t, x with
  | some (.slice _), .snil => some 0
  | some (.slice _), .sl _ _ _ _ (some c) => some c
  | some (.slice _), .isl _ _ (some c) => some c
  | some (.array n _), _ => some n
  | _, _ => none


def zerosA (z : List AV) (n : Nat) : List AV := match z with | [v] => List.replicate n v | _ => (List.range (n * z.length)).map fun i => z.getD (i % z.length) .undef

/-- What is appended: cells, and how many elements. -/
def newsA (k : Nat) (e : TypeId) (h : List AObj) (ts : Array TypeId) (x : AV) : Option (List AV × Nat) :=
  match (ts[1]?).bind P.underlying with
  | some (.slice _) => (slCells k h x).map fun cs => (cs, slLen x)
  | some (.int _) => match x with
    | .int _ n => if 0 ≤ n ∧ n * P.bytesOf e ≤ mostA ∧ n ≤ 9223372036854775807 then (zeroA P e).bind fun z => z.stored.bind fun zc => if zc.length = k then some (zerosA zc n.toNat, n.toNat) else none else none
    | _ => none
  | _ => none

/-- May a row of so many be made? -/
def bigA (k : Nat) (e : TypeId) (m : Nat) : Bool := decide (m * P.bytesOf e ≤ mostA ∧ m ≤ mostA) && (match (zeroA P e).bind AV.stored with | some zc => decide (zc.length = k) | none => false)

def appendA (h : List AObj) (ts : Array TypeId) (s x : AV) : Option (AV × List AObj) :=
  match (ts[0]?).bind P.underlying with
  | some (.slice e) =>
    (szA P e).bind fun k => if k = 0 then none else
    (newsA P k e h ts x).bind fun (new, n) =>
    if n = 0 then (match s with | .snil => some (s, h) | .isl _ _ _ => some (s, h) | .sl _ _ _ _ _ => some (s, h) | _ => none) else
    match s with
    | .snil => if bigA P k e n = true then some (.sl h.length 0 n k none, (newCells h new e true).2) else none
    | .isl cs len (some c) => (slCells k h (.isl cs len none)).bind fun cs =>
        if c < len + n ∧ bigA P k e (len + n) = true then some (.sl h.length 0 (len + n) k none, (newCells h (cs ++ new) e true).2) else none
    | .sl id off len size cap =>
      match h.getD id .dead with
      | .cells cs e' grow pr =>
        if size ≠ k ∨ e' ≠ e then none else
        match cap with
        | some c =>
          if len + n ≤ c then
            (if off + c * k ≤ cs.length then
              some (.sl id off (len + n) k (some c), h.set id (.cells (setCells cs (off + len * k) new) e' grow (pr && noRefs new)))
            else none)
          else if off + len * k ≤ cs.length ∧ bigA P k e (len + n) = true then
            some (.sl h.length 0 (len + n) k none, (newCells h ((cs.drop off).take (len * k) ++ new) e true).2)
          else none
        | none =>
          if off + (len + n) * k ≤ cs.length then
            some (.sl id off (len + n) k none, h.set id (.cells (setCells cs (off + len * k) new) e' grow (pr && noRefs new)))
          else if grow = true ∧ off = 0 ∧ len * k = cs.length ∧ bigA P k e (len + n) = true then
            some (.sl h.length 0 (len + n) k none, (h.set id .dead) ++ [.cells (cs ++ new) e' true (pr && noRefs new)])
          else none
      | _ => none
    | _ => none
  | _ => none

def boundA (x : Option AV) (dflt top : Nat) : Option Nat :=
  match x with
  | none => some dflt
  | some (.int _ i) => if 0 ≤ i ∧ i ≤ top then some i.toNat else none
  | some _ => none

def sliceA (h : List AObj) (t : TypeId) (x : AV) (lo hi mx : Option AV) : Option AV :=
  if mx.isSome = true ∧ hi.isSome = false then none else
  match P.underlying t, x with
  | some .string, .str s => if mx.isSome then none else (boundA hi s.length s.length).bind fun e => (boundA lo 0 e).bind fun b => some (.str ((s.take e).drop b))
  | some (.slice el), .snil => (szA P el).bind fun _ => (boundA mx 0 0).bind fun m => (boundA hi 0 m).bind fun e => (boundA lo 0 e).bind fun _ => some .snil
  | some (.slice el), .isl cs len cap => (szA P el).bind fun k => if cs.length ≠ len * k then none else
    (boundA mx len len).bind fun m => (boundA hi len m).bind fun e => (boundA lo 0 e).bind fun b =>
      some (.isl ((cs.drop (b * k)).take ((e - b) * k)) (e - b) (if mx.isSome then some (m - b) else cap.map (· - b)))
  | some (.slice el), .sl id off len size cap => (szA P el).bind fun k =>
    match h.getD id .dead with
    | .cells cs _ _ _ =>
      if size ≠ k ∨ k = 0 then none else
      let top := cap.getD ((cs.length - off) / k)
      (boundA mx top top).bind fun m => (boundA hi len m).bind fun e => (boundA lo 0 e).bind fun b =>
        if e = b ∧ b ≠ 0 then some (.isl [] 0 none) else some (.sl id (off + b * k) (e - b) k (if mx.isSome then some (m - b) else cap.map (· - b)))
    | _ => none
  | _, _ => none

def indexAddrA (t : TypeId) (x i : AV) : Option AV :=
  match P.underlying t with
  | some (.slice e) => (szA P e).bind fun k => match x, i with
    | .sl id off len _ _, .int _ n => if 0 ≤ n ∧ n < len then some (.ptr id (off + n.toNat * k)) else none
    | .isl cs len _, .int _ n => if 0 ≤ n ∧ n < len ∧ cs ≠ [] then some (.iptr cs (n.toNat * k)) else none
    | _, _ => none
  | some (.array m e) => (szA P e).bind fun k => match x, i with
    | .ptr id off, .int _ n => if 0 ≤ n ∧ n < m then some (.ptr id (off + n.toNat * k)) else none
    | .iptr cs off, .int _ n => if 0 ≤ n ∧ n < m then some (.iptr cs (off + n.toNat * k)) else none
    | _, _ => none
  | _ => none

def fieldAddrA (t : TypeId) (x : AV) (f : Nat) : Option AV :=
  match P.underlying t with
  | some (.struct fs) => match fs[f]? with
    | some fd => (szA P fd.type).bind fun k => if k = 0 then none else match x with
      | .ptr id off => some (.ptr id (off + fd.offset))
      | .iptr cs off => some (.iptr cs (off + fd.offset))
      | _ => none
    | none => none
  | _ => none

def indexA (t : TypeId) (x i : AV) : Option AV :=
  match P.underlying t, x, i with
  | some (.array m e), .agg cs, .int _ n => (szA P e).bind fun k => if 0 ≤ n ∧ n < m then partA P e cs (n.toNat * k) else none
  | some .string, .str s, .int _ n => if 0 ≤ n then (s[n.toNat]?).map fun b => .int .u8 b.toNat else none
  | _, _, _ => none

def fieldA (t : TypeId) (x : AV) (f : Nat) : Option AV :=
  match P.underlying t, x with
  | some (.struct fs), .agg cs => match fs[f]? with
    | some fd => partA P fd.type cs fd.offset
    | none => none
  | _, _ => none

def fillA (place : Nat → Option (Nat × Nat)) (cells : List AV) : List (Nat × AV) → Option (List AV)
  | [] => some cells
  | (i, v) :: rest =>
    match place i, v.stored with
    | some (off, size), some vs => if vs.length = size ∧ off + vs.length ≤ cells.length then fillA place (setCells cells off vs) rest else none
    | _, _ => none

def buildA (t : TypeId) (parts : List (Nat × AV)) : Option AV :=
  (zeroA P t).bind fun z => z.stored.bind fun zc =>
  match P.underlying t with
  | some (.struct fs) => if fs.all (fun f => (szA P f.type).isSome) then (fillA (fun i => (fs[i]?).bind fun f => (szA P f.type).map fun k => (f.offset, k)) zc parts).map .agg else none
  | some (.array _ e) => (szA P e).bind fun k => (fillA (fun i => some (i * k, k)) zc parts).map .agg
  | _ => none

def buildSliceA (row : Bool) (h : List AObj) (t : TypeId) (len : Nat) (parts : List (Nat × AV)) : Option (AV × List AObj) :=
  match P.underlying t with
  | some (.slice e) => (szA P e).bind fun k =>
    if len = 0 ∧ parts.isEmpty = true then some (.isl [] 0 (some 0), h) else
    if len * k ≤ 16777216 ∧ len ≤ 9223372036854775807 ∧ k ≠ 0 ∧ len ≠ 0 then
      (zeroA P e).bind fun z => z.stored.bind fun zc => if zc.length = k then
       (fillA (fun i => some (i * k, k)) (zerosA zc len) parts).bind fun cs =>
        if row || !noRefs cs then some (.sl h.length 0 len k (some len), (newCells h cs e false).2)
        else some (.isl cs len (some len), h)
       else none
    else none
  | _ => none

def findKeyA (d : TypeDesc) (k : AV) : List (AV × AV) → Nat → Option (Option (Nat × AV))
  | [], _ => some none
  | (k', v) :: es, i => match keyEqA d k k' with
    | some true => some (some (i, v))
    | some false => findKeyA d k es (i + 1)
    | none => none

def lookupA (h : List AObj) (t : TypeId) (m k : AV) (ok : Bool) : Option AV :=
  match P.underlying t with
  | some (.map kt e) =>
    match P.underlying kt with
    | none => none
    | some d =>
      if keyOkA P kt k = false then none else
      (mapEs h m).bind fun es => (findKeyA d k es 0).bind fun r => (zeroA P e).bind fun z =>
        let (v, b) := match r with | some (_, v) => (v, true) | none => (z, false)
        some (if ok then .tuple [v, .bool b] else v)
  | _ => none
where
  mapEs (h : List AObj) : AV → Option (List (AV × AV))
    | .mnil => some []
    | .map id => match h.getD id .dead with | .map es _ => some es | _ => none
    | _ => none

def minA : List AV → Option AV
  | .int k x :: rest => rest.foldlM (fun a y => match a, y with | .int k x, .int _ y => some (.int k (if y < x then y else x)) | _, _ => none) (.int k x)
  | _ => none
def maxA : List AV → Option AV
  | .int k x :: rest => rest.foldlM (fun a y => match a, y with | .int k x, .int _ y => some (.int k (if y > x then y else x)) | _, _ => none) (.int k x)
  | _ => none

def clearA (h : List AObj) (t : TypeId) (x : AV) : Option (List AObj) :=
  match P.underlying t, x with
  | _, .snil => some h
  | _, .mnil => some h
  | _, .map id => match h.getD id .dead with | .map _ _ => some (h.set id (.map [] true)) | _ => none
  | some (.slice e), .sl id off len size _ => match h.getD id .dead with
    | .cells cs e' g pr => (zeroA P e).bind fun z =>
      if off + len * size ≤ cs.length then some (h.set id (.cells (setCells cs off (zerosA z.cells len)) e' g pr)) else none
    | _ => none
  | _, .isl _ 0 _ => some h
  | _, _ => none

/-- What a call of a Go function comes to: the borrowed objects come first, in callee's numbers; what is new stands behind. -/
abbrev Env := FuncId → List AV → List AObj → Option (AV × List AObj)

def closedIn (h : List AObj) (ids : List Nat) : Bool := ids.all fun i => decide (i < h.length) && (h.getD i .dead).refs.all fun j => ids.contains j

def nodupB : List Nat → Bool
  | [] => true
  | i :: l => !l.contains i && nodupB l

def downO (h : List AObj) (ids : List Nat) : List AObj := ids.map fun i => renO (fun j => pos j ids) (h.getD i .dead)
def upF (n : Nat) (ids : List Nat) (j : Nat) : Nat := if j < ids.length then ids.getD j 0 else n + (j - ids.length)
def putBack (f : Nat → Nat) (h' : List AObj) : List Nat → Nat → List AObj → List AObj
  | [], _, h => h
  | i :: ids, j, h => putBack f h' ids (j + 1) (h.set i (renO f (h'.getD j .dead)))

/-- A call: what is reached from the arguments is handed over, and taken back; what is new stands behind. -/
def callA (E : Env) (f : FuncId) (args : List AV) (h : List AObj) : Option (AV × List AObj) :=
  let ids := reach h 200 (refsL args) []
  if nodupB ids && closedIn h ids && (refsL args).all (fun i => ids.contains i) then
    match E f (renL (fun j => pos j ids) args) (downO h ids) with
    | none => none
    | some (r, h') =>
      if ids.length ≤ h'.length then
        some (ren (upF h.length ids) r, putBack (upF h.length ids) h' ids 0 h ++ (h'.drop ids.length).map (renO (upF h.length ids)))
      else none
  else none

def boxA (h : List AObj) (e : TypeId) (v : AV) : Option (AV × List AObj) :=
  v.stored.map fun cs => (.ptr h.length 0, (newCells h cs e false).2)

def nilCheckA : AV → Option AV
  | .ptr i o => some (.ptr i o)
  | .iptr c o => some (.iptr c o)
  | .gptr g o => some (.gptr g o)
  | .func (.func g) a b => some (.func (.func g) a b)
  | .iface t v => some (.iface t v)
  | _ => none

def ifaceA (t : TypeId) (v : AV) : Option AV :=
  match P.underlying t with
  | some (.interface _) => none
  | some _ => some (.iface t v)
  | none => none

def extractA (t : AV) (i : Nat) : Option AV := match t with | .tuple vs => vs[i]? | _ => none

def assertA (x : AV) (a : TypeId) (ok : Bool) : Option AV :=
  match P.underlying a with
  | none => none
  | some (.interface _) => none
  | some _ =>
    match x with
    | .inil => if ok then (zeroA P a).map fun z => .tuple [z, .bool false] else none
    | .iface t y => if t = a then some (if ok then .tuple [y, .bool true] else y) else if ok then (zeroA P a).map fun z => .tuple [z, .bool false] else none
    | _ => none

def makeSliceA (h : List AObj) (t : TypeId) (l c : AV) : Option (AV × List AObj) :=
  match P.underlying t, l, c with
  | some (.slice e), .int _ l, .int _ c =>
    (szA P e).bind fun k =>
    if 0 ≤ l ∧ l ≤ c ∧ c ≤ 9223372036854775807 ∧ c * P.bytesOf e ≤ mostA ∧ k ≠ 0 then
      (zeroA P e).bind fun z => z.stored.bind fun zc => if zc.length = k then some (.sl h.length 0 l.toNat k (some c.toNat), (newCells h (zerosA zc c.toNat) e false).2) else none
    else none
  | _, _, _ => none

structure Notes where
  keep : FuncId → Bool          -- results that lie in new memory stay writable
  rows : FuncId → Bool          -- literals of slices are rows that may be written
  loop : FuncId → Nat → Option (List Nat)   -- the slots that live at a loop's head, by the block round it

/-- The operation's value, and the heap behind it. -/
def opV (N : Notes) (E : Env) (f : FuncId) (ρ : Operand → AV) (h : List AObj) (o : Oper) : Option (AV × List AObj) :=
  let v (x : Option AV) : Option (AV × List AObj) := x.map fun y => (y, h)
  let u (x : Option (List AObj)) : Option (AV × List AObj) := x.map fun h => (.tuple [], h)
  match o.op with
  | .move x | .assign x => v (some (ρ x))
  | .pick c a b => match ρ c with | .bool true => v (some (ρ a)) | .bool false => v (some (ρ b)) | _ => none
  | .alloc e => (zeroA P e).bind fun z => boxA h e z
  | .box e x => boxA h e (ρ x)
  | .build t parts => v (buildA P t (parts.toList.map fun (i, x) => (i, ρ x)))
  | .buildSlice t len parts => buildSliceA P (N.rows f) h t len (parts.toList.map fun (i, x) => (i, ρ x))
  | .load t a => v (loadA P h t (ρ a))
  | .store t a x => u (storeA P h t (ρ a) (ρ x))
  | .nilCheck x => nilCheckA (ρ x) |>.map fun y => (y, h)
  | .binOp op t x y _ => v (binA P (Region.isConst x || Region.isConst y) t op (ρ x) (ρ y))
  | .unOp op _ x => v (unA op (ρ x))
  | .convert src dst x => v (convA P h src dst (ρ x))
  | .makeInterface t x => v (ifaceA P t (ρ x))
  | .makeFunc fn first cap => v (some (.func fn (first.toList.map ρ) (cap.toList.map ρ)))
  | .makeMap _ none => some (.map h.length, h ++ [.map [] true])
  | .makeSlice t l c => makeSliceA P h t (ρ l) (ρ c)
  | .slice t x lo hi mx => v (sliceA P h t (ρ x) (lo.map ρ) (hi.map ρ) (mx.map ρ))
  | .fieldAddr t x i => v (fieldAddrA P t (ρ x) i)
  | .indexAddr t x i => v (indexAddrA P t (ρ x) (ρ i))
  | .lookup t x k ok => v (lookupA P h t (ρ x) (ρ k) ok)
  | .extract t i => v (extractA (ρ t) i)
  | .typeAssert x _ a ok => v (assertA P (ρ x) a ok)
  | .call c =>
    let args := c.args.toList.map ρ
    match c.callee with
    | .builtin .len => (match c.argTypes[0]?, args with | some t, x :: _ => v ((lenA P h t x).map (.int .i64)) | _, _ => none)
    | .builtin .cap => (match c.argTypes[0]?, args with | some t, x :: _ => v ((capA P t x).map (.int .i64)) | _, _ => none)
    | .builtin .append => (match args with | [s, x] => appendA P h c.argTypes s x | _ => none)
    | .builtin .min => v (minA args)
    | .builtin .max => v (maxA args)
    | .builtin _ => none
    | .invoke _ _ => none
    | .value g => match ρ g with
      | .func (.func g) first cap => callA E g (first ++ args ++ cap) h
      | _ => none
  | _ => none

/-- What a guard has told: none where it isn't known. -/
def yieldedA (ops : Array Oper) (t : List AV) (j : Nat) : Option (Option Bool) :=
  match (ops[j]?).bind (·.dst) with
  | some d => match t.getD d (.tuple []) with | .bool b => some (some b) | .undef => none | _ => some none
  | none => some none

def wantedA (ops : Array Oper) (o : Oper) (t : List AV) : Option Bool :=
  match o.guard with
  | none => some true
  | some (j, want) => (yieldedA ops t j).map fun y => y == some want

def putA (t : List AV) (dst : Option Tmp) (v : AV) : List AV := match dst with | some d => t.set d v | none => t

def stepA (N : Notes) (E : Env) (f : FuncId) (ops : Array Oper) (o : Oper) (s : St) : Option St :=
  match wantedA ops o s.t with
  | some true => (opV P N E f (aeval s.t) s.h o).map fun (v, h) => ⟨putA s.t o.dst v, h⟩
  | some false => some { s with t := putA s.t o.dst (.tuple []) }
  | none => none

def opsA (N : Notes) (E : Env) (f : FuncId) (ops : Array Oper) : List Oper → St → Option St
  | [], s => some s
  | o :: os, s => match stepA P N E f ops o s with
    | some s' => opsA N E f ops os s'
    | none => none

inductive AExit where
  | normal | exit (id : Nat) | ret
  deriving DecidableEq

def loopA (body : St → Option (AExit × St)) : Nat → St → Option (AExit × St)
  | 0, _ => none
  | n + 1, s => match body s with
    | some (.normal, s') => loopA body n s'
    | r => r

/-- The objects of a list alone, in its order; the first m stand as they are. -/
def restrictA (m : Nat) (h : List AObj) (ids : List Nat) (vs : List AV) : Option (List AV × List AObj) :=
  if (ids.take m == List.range m) && nodupB ids && closedIn h ids && (refsL vs).all (fun i => ids.contains i) then some (renL (fun j => pos j ids) vs, downO h ids) else none

/-- The first m objects, and what is reached from them and from the values. -/
def packA (m : Nat) (t : List AV) (h : List AObj) : Option St :=
  (restrictA m h (reach h 1000 ((List.range m).flatMap (fun i => (h.getD i .dead).refs) ++ refsL t) (List.range m)) t).map fun (t, h) => ⟨t, h⟩

def maskA (live : List Nat) (t : List AV) : List AV := t.zipIdx.map fun (v, i) => if live.contains i then v else .undef

/-- What is not needed is forgotten, and what is not reached is dropped. -/
def trimA (m : Nat) (live : List Nat) (s : St) : Option St := packA m (maskA live s.t) s.h

/-! the same value? -/
def eqOpt : Option Nat → Option Nat → Bool
  | none, none => true
  | some a, some b => a == b
  | _, _ => false
def eqFn : Fn → Fn → Bool
  | .func a, .func b => a == b
  | _, _ => false
mutual
def eqAV : AV → AV → Bool
  | .undef, .undef => true
  | .bool a, .bool b => a == b
  | .int k a, .int l b => decide (k = l) && a == b
  | .str a, .str b => a == b
  | .pnil, .pnil => true
  | .ptr a b, .ptr c d => a == c && b == d
  | .iptr a b, .iptr c d => eqAVs a c && b == d
  | .gptr a b, .gptr c d => a == c && b == d
  | .snil, .snil => true
  | .sl a b c d e, .sl a' b' c' d' e' => a == a' && b == b' && c == c' && d == d' && eqOpt e e'
  | .isl a b c, .isl a' b' c' => eqAVs a a' && b == b' && eqOpt c c'
  | .mnil, .mnil => true
  | .map a, .map b => a == b
  | .func a b c, .func a' b' c' => eqFn a a' && eqAVs b b' && eqAVs c c'
  | .fnil, .fnil => true
  | .iface t v, .iface t' v' => t == t' && eqAV v v'
  | .inil, .inil => true
  | .agg a, .agg b => eqAVs a b
  | .tuple a, .tuple b => eqAVs a b
  | _, _ => false
def eqAVs : List AV → List AV → Bool
  | [], [] => true
  | a :: l, b :: m => eqAV a b && eqAVs l m
  | _, _ => false
end
def eqObj : AObj → AObj → Bool
  | .dead, .dead => true
  | .cells a b c d, .cells a' b' c' d' => eqAVs a a' && b == b' && c == c' && d == d'
  | .map a b, .map a' b' => eqAVs (a.map (·.1)) (a'.map (·.1)) && eqAVs (a.map (·.2)) (a'.map (·.2)) && b == b'
  | _, _ => false
def eqObjs : List AObj → List AObj → Bool
  | [], [] => true
  | a :: l, b :: m => eqObj a b && eqObjs l m
  | _, _ => false
def eqSt (s s' : St) : Bool := eqAVs s.t s'.t && eqObjs s.h s'.h

/-- All results the same. -/
def agree : List (Option St) → Option St
  | [] => none
  | [r] => r
  | r :: rs => match r, agree rs with
    | some s, some s' => if eqSt s s' then some s else none
    | _, _ => none

/-- Every order of a region. -/
def anyA (N : Notes) (E : Env) (f : FuncId) (m : Nat) (md : Region.Mode) (ops : Array Oper) : Nat → Array Bool → St → Option St
  | 0, listed, s => if (Region.ready md ops listed).isEmpty then packA m s.t s.h else none
  | n + 1, listed, s => match Region.ready md ops listed with
    | [] => packA m s.t s.h
    | is => agree (is.map fun i => (ops[i]?).bind fun o => (stepA P N E f ops o s).bind (anyA N E f m md ops n (listed.setIfInBounds i true)))

/-- A step that leaves the heap alone: its value. -/
def stepV (N : Notes) (E : Env) (f : FuncId) (ops : Array Oper) (o : Oper) (t : List AV) (h : List AObj) : Option AV :=
  match wantedA ops o t with
  | some true => (opV P N E f (aeval t) h o).bind fun r => if eqObjs r.2 h then some r.1 else none
  | some false => some (.tuple [])
  | none => none

def quietA (N : Notes) (E : Env) (f : FuncId) (ops : Array Oper) : List Oper → List AV → List AObj → Option (List AV)
  | [], t, _ => some t
  | o :: os, t, h => (stepV P N E f ops o t h).bind fun v => quietA N E f ops os (putA t o.dst v) h

/-- Each operation follows the writers of what it looks at, each writes a place of its own. -/
def tidy (ops : Array Oper) : Bool :=
  !Region.departs ops && (List.range ops.size).all fun i => match ops[i]? with
    | none => true
    | some o => o.after.all (fun e => decide (e.on < i)) && (List.range ops.size).all fun j => match (ops[j]?).bind (·.dst) with
      | none => true
      | some d => (i == j || o.dst != some d) && (!(o.looksAt ops).contains d || (decide (j < i) && o.after.any fun e => Region.binds .any e && e.on == j))

def fullA (N : Notes) (E : Env) (f : FuncId) (m : Nat) (ops : Array Oper) (s : St) : Option St :=
  let go md := anyA P N E f m md ops ops.size (Array.replicate ops.size false) s
  if Region.departs ops then agree [go .any, go .text, go .gc] else go .any

def drawnA (N : Notes) (E : Env) (f : FuncId) (m : Nat) (ops : Array Oper) (s : St) : Option St :=
  match if tidy ops then quietA P N E f ops ops.toList s.t s.h else none with
  | some t => some ⟨t, s.h⟩
  | none => fullA P N E f m ops s

def codeA (N : Notes) (E : Env) (L : Nat) (f : FuncId) (m : Nat) (blk : Nat) : Code → St → Option (AExit × St)
  | .skip, s => some (.normal, s)
  | .label _, s => some (.normal, s)
  | .region _ ops false, s => (opsA P N E f ops ops.toList s).map fun s => (.normal, s)
  | .region _ ops true, s => (drawnA P N E f m ops s).map fun s => (.normal, s)
  | .seq a b, s => match codeA N E L f m blk a s with
    | some (.normal, s') => codeA N E L f m blk b s'
    | r => r
  | .cond c a b, s => match aeval s.t c with
    | .bool true => codeA N E L f m blk a s
    | .bool false => codeA N E L f m blk b s
    | _ => none
  | .block id c, s => match codeA N E L f m id c s with
    | some (.exit id', s') => if id' = id then some (.normal, s') else some (.exit id', s')
    | r => r
  | .loop c, s => match N.loop f blk with
    | some live => loopA (fun s => (trimA m live s).bind (codeA N E L f m blk c)) L s
    | none => loopA (codeA N E L f m blk c) L s
  | .exit id, s => some (.exit id, s)
  | .ret, s => some (.ret, s)
  | _, _ => none

def resA (h : List AObj) (t : List AV) : ResultVar → Option AV
  | .tmp i => some (t.getD i .undef)
  | .cell a ty => loadA P h ty (t.getD a .undef)

def resultsA (fn : Func) (s : St) : Option AV :=
  match fn.results.toList.mapM (resA P s.h s.t) with
  | some [v] => some v
  | some vs => some (.tuple vs)
  | none => none

def AObj.isDead : AObj → Bool
  | .dead => true
  | _ => false

/-- What is new and not kept is frozen into the result, and the rest of it dropped. -/
def leaveA (keep : Bool) (h0 : List AObj) (s : St) (r : AV) : Option (AV × List AObj) :=
  if keep then match packA h0.length [r] s.h with
    | some ⟨[r], h'⟩ => some (r, h')
    | _ => none
  else if (List.range h0.length).all (fun i => (h0.getD i .dead).isDead || !(s.h.getD i .dead).isDead) then
    match inl s.h h0.length 60 r with
    | some r => match packA h0.length [r] s.h with
      | some ⟨[r], h'⟩ => if h'.length = h0.length then some (r, h') else none
      | _ => none
    | none => none
  else none

/-- A function's body. -/
def bodyA (N : Notes) (E : Env) (L : Nat) (f : FuncId) (args : List AV) (h : List AObj) : Option (AV × List AObj) :=
  match P.funcs[f]? with
  | none => none
  | some fn => match fn.body with
    | none => none
    | some c =>
      match codeA P N E L f h.length 0 c ⟨args ++ List.replicate (fn.ntmps - args.length) (.tuple []), h⟩ with
      | some (.exit _, _) => none
      | none => none
      | some (_, s) => match resultsA P fn s with
        | none => none
        | some r => leaveA (N.keep f) h s r

def evalA (N : Notes) (L : Nat) (X : Env) : Nat → Env
  | 0 => fun _ _ _ => none
  | n + 1 => fun f args h => match X f args h with
    | some r => some r
    | none => bodyA P N (evalA N L X n) L f args h
end
end Am
