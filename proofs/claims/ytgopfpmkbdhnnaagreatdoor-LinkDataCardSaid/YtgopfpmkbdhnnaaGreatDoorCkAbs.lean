/-
The abstract machine: an own heap, compiled code, and how it runs. No program in sight.
-/
import Derived.Calls
import Derived.Orders
namespace Ck
open Go

/-! ## Heap -/

/-- A block: cells (how many an element has, whether it may be written, what stands there), or a map. -/
inductive Blk where
  | cells (esz : Nat) (ro : Bool) (cs : List Value)
  | map (es : List (Value × Value))

structure Heap where
  next : Nat
  blk : Nat → Option Blk

def Heap.set (H : Heap) (b : Nat) (x : Option Blk) : Heap := { H with blk := fun c => if c = b then x else H.blk c }

/-- A new block. -/
def Heap.new (H : Heap) (x : Blk) : Heap := { next := H.next + 1, blk := fun c => if c = H.next then some x else H.blk c }

def flat : Value → Bool
  | .agg _ | .tuple _ => false
  | _ => true

def Heap.ld (H : Heap) (b o : Nat) : Option Value :=
  match H.blk b with
  | some (.cells _ _ cs) => cs[o]?
  | _ => none

def Heap.lds (H : Heap) (b o n : Nat) : Option (List Value) :=
  match H.blk b with
  | some (.cells _ _ cs) => if o + n ≤ cs.length then some ((cs.drop o).take n) else none
  | _ => none

def Heap.st (H : Heap) (b o : Nat) (v : Value) : Option Heap :=
  match H.blk b with
  | some (.cells e false cs) => if o < cs.length ∧ flat v = true then some (H.set b (some (.cells e false (cs.set o v)))) else none
  | _ => none

def splice (cs : List Value) (o : Nat) (vs : List Value) : List Value := cs.take o ++ vs ++ cs.drop (o + vs.length)

def Heap.sts (H : Heap) (b o : Nat) (vs : List Value) : Option Heap :=
  match H.blk b with
  | some (.cells e false cs) => if o + vs.length ≤ cs.length then some (H.set b (some (.cells e false (splice cs o vs)))) else none
  | _ => none

/-! ## Environments -/

abbrev Env := Nat → Value
def upd (e : Env) (t : Nat) (v : Value) : Env := fun s => if s = t then v else e s
def env0 (args : List Value) : Env := fun t => args.getD t undef

def opd (e : Env) : Operand → Value
  | .tmp t => e t
  | .const v => v
  | .global g => .pointer (some ⟨g, 0, none⟩)
  | .func f => .func (.func f) #[] #[]

/-! ## What operations say: values alone -/

def pickV (c a b : Value) : Option Value :=
  match c with
  | .bool t => some (if t then a else b)
  | _ => none

def nilchk (x : Value) : Option Value :=
  match x with
  | .pointer (some a) => some (.pointer (some a))
  | .func (.func f) first captured => some (.func (.func f) first captured)
  | _ => none

def intBin (op : BinOp) (k : IntKind) (a b : Int) : Option Value :=
  match op with
  | .add => some (.int k (k.wrap (a + b)))
  | .sub => some (.int k (k.wrap (a - b)))
  | .mul => some (.int k (k.wrap (a * b)))
  | .quo => if b = 0 then none else some (.int k (k.wrap (a.tdiv b)))
  | .rem => if b = 0 then none else some (.int k (a.tmod b))
  | .and => some (.int k (k.wrap (BitVec.ofInt k.bits a &&& BitVec.ofInt k.bits b).toNat))
  | .or => some (.int k (k.wrap (BitVec.ofInt k.bits a ||| BitVec.ofInt k.bits b).toNat))
  | .xor => some (.int k (k.wrap (BitVec.ofInt k.bits a ^^^ BitVec.ofInt k.bits b).toNat))
  | .andNot => some (.int k (k.wrap (BitVec.ofInt k.bits a &&& ~~~BitVec.ofInt k.bits b).toNat))
  | .eql => some (.bool (a == b))
  | .neq => some (.bool (a != b))
  | .lss => some (.bool (a < b))
  | .leq => some (.bool (a ≤ b))
  | .gtr => some (.bool (a > b))
  | .geq => some (.bool (a ≥ b))
  | .shl => none
  | .shr => none

def shiftV (op : BinOp) (k : IntKind) (a b : Int) : Option Value :=
  if b < 0 then none else
  match op with
  | .shl => some (.int k (k.wrap (a * 2 ^ (min b.toNat k.bits))))
  | .shr => some (.int k (a.fdiv (2 ^ (min b.toNat k.bits))))
  | _ => none

def strBin (op : BinOp) (x y : ByteArray) : Option Value :=
  match op with
  | .add => if x.size + y.size ≤ 2 ^ 40 then some (.string (x ++ y)) else none
  | .eql => some (.bool (x.toList == y.toList))
  | .neq => some (.bool (!(x.toList == y.toList)))
  | .lss => some (.bool (Op.bytesLess x.toList y.toList))
  | .leq => some (.bool (Op.bytesLess x.toList y.toList || x.toList == y.toList))
  | .gtr => some (.bool (!(Op.bytesLess x.toList y.toList || x.toList == y.toList)))
  | .geq => some (.bool (!(Op.bytesLess x.toList y.toList)))
  | _ => none

/-- Kinds that may be nil. -/
inductive NilK where
  | ptr | slice | map | func
  deriving DecidableEq

/-- What is nil, what is not. -/
def isNil : NilK → Value → Option Bool
  | .ptr, .pointer a => some a.isNone
  | .slice, .slice a _ _ => some a.isNone
  | .map, .map r => some r.isNone
  | .func, .nilFunc => some true
  | .func, .func _ _ _ => some false
  | _, _ => none

def nilLit : NilK → Value → Bool
  | .ptr, .pointer none => true
  | .slice, .slice none _ _ => true
  | .map, .map none => true
  | .func, .nilFunc => true
  | _, _ => false

/-- Two integers, two strings. -/
def binV (op : BinOp) (x y : Value) : Option Value :=
  match x, y with
  | .int k a, .int k' b => if op = .shl ∨ op = .shr then shiftV op k a b else if k = k' then intBin op k a b else none
  | .string a, .string b => strBin op a b
  | _, _ => none

def beqV (ne : Bool) (x y : Value) : Option Value :=
  match x, y with
  | .bool a, .bool b => some (.bool ((a == b) != ne))
  | _, _ => none

/-- x == nil, x != nil. -/
def nilV (k : NilK) (ne : Bool) (x : Value) : Option Value := (isNil k x).map fun b => .bool (b != ne)

/-- Two structs of integers alone. -/
def intsEq : List Value → List Value → Option Bool
  | [], [] => some true
  | .int k a :: xs, .int k' b :: ys => if k = k' then (intsEq xs ys).map fun r => (a == b) && r else none
  | _, _ => none

def aggV (n : Nat) (ne : Bool) (x y : Value) : Option Value :=
  match x, y with
  | .agg a, .agg b => if a.size ≠ n then none else (intsEq a.toList b.toList).map fun r => .bool (r != ne)
  | _, _ => none

def unV (op : UnOp) (x : Value) : Option Value :=
  match op, x with
  | .neg, .int k n => some (.int k (k.wrap (0 - n)))
  | .xor, .int k n => some (.int k (k.wrap (BitVec.ofInt k.bits (if k.signed then -1 else k.max) ^^^ BitVec.ofInt k.bits n).toNat))
  | .not, .bool b => some (.bool !b)
  | _, _ => none

def convV (k : IntKind) (x : Value) : Option Value :=
  match x with
  | .int _ n => some (.int k (k.wrap n))
  | _ => none

def natOf : Value → Option Nat
  | .int _ n => if 0 ≤ n then some n.toNat else none
  | _ => none

def lenV (x : Value) : Option Value :=
  match x with
  | .slice _ n _ => some (.int .i64 n)
  | _ => none

def slenV (x : Value) : Option Value :=
  match x with
  | .string s => some (.int .i64 s.size)
  | _ => none

/-- cap: known of nil, and of slices that have just their length. -/
def capV (x : Value) : Option Value :=
  match x with
  | .slice _ n c => if c = n then some (.int .i64 n) else none
  | _ => none

def minV (x y : Value) : Option Value :=
  match x, y with
  | .int k a, .int _ b => some (.int k (if b < a then b else a))
  | _, _ => none

def maxV (x y : Value) : Option Value :=
  match x, y with
  | .int k a, .int _ b => some (.int k (if b > a then b else a))
  | _, _ => none

def extV (x : Value) (i : Nat) : Option Value :=
  match x with
  | .tuple vs => vs[i]?
  | _ => none

def faddrV (off : Nat) (x : Value) : Option Value :=
  match x with
  | .pointer (some ⟨b, o, none⟩) => some (.pointer (some ⟨b, o + off, none⟩))
  | _ => none

def fieldV (agg : Bool) (off n : Nat) (x : Value) : Option Value :=
  match x with
  | .agg cs => if agg then (if off + n ≤ cs.size then some (.agg (cs.extract off (off + n))) else none) else cs[off]?
  | _ => none

/-- The address of an element: of a slice. -/
def iaddrV (esz : Nat) (x i : Value) : Option Value :=
  match x with
  | .slice (some ⟨b, o, none⟩) n _ => (natOf i).bind fun k => if k < n then some (.pointer (some ⟨b, o + k * esz, none⟩)) else none
  | _ => none

/-- The address of an element: of an array. -/
def iaddrA (len esz : Nat) (x i : Value) : Option Value :=
  match x with
  | .pointer (some ⟨b, o, none⟩) => (natOf i).bind fun k => if k < len then some (.pointer (some ⟨b, o + k * esz, none⟩)) else none
  | _ => none

def sindexV (x i : Value) : Option Value :=
  match x with
  | .string s => (natOf i).bind fun k => s.data[k]?.map fun b => .int .u8 b.toNat
  | _ => none

/-- Parts laid into a zero value's cells: offsets, sizes, values. -/
def fillV : List Value → List (Nat × Nat × Value) → Option (List Value)
  | z, [] => some z
  | z, (off, n, v) :: r => if v.cells.size = n ∧ off + n ≤ z.length then fillV (splice z off v.cells.toList) r else none

def buildV (z : List Value) (ps : List (Nat × Nat × Value)) : Option Value := (fillV z ps).map fun cs => .agg cs.toArray

/-! ## What operations say: with the heap -/

def ldV (agg : Bool) (n : Nat) (a : Value) (H : Heap) : Option Value :=
  match a with
  | .pointer (some ⟨b, o, none⟩) => if agg then (H.lds b o n).map fun cs => .agg cs.toArray else H.ld b o
  | _ => none

def stV (n : Nat) (a x : Value) (H : Heap) : Option Heap :=
  match a with
  | .pointer (some ⟨b, o, none⟩) =>
    match x with
    | .agg cs => if cs.size = n ∧ cs.toList.all flat = true then H.sts b o cs.toList else none
    | _ => if n = 1 then H.st b o x else none
  | _ => none

/-- A part of a slice, or of a string. -/
def sliceV (esz : Nat) (x : Value) (lo hi : Option Value) (H : Heap) : Option Value :=
  match x with
  | .slice a n c =>
    ((hi.map natOf).getD (some n)).bind fun h => ((lo.map natOf).getD (some 0)).bind fun l =>
      if l ≤ h ∧ h ≤ n then
        match a with
        | none => some (.slice none 0 0)
        | some ⟨b, o, none⟩ =>
          match H.blk b with
          | some (.cells e _ _) => if e = esz then some (.slice (some ⟨b, o + l * esz, none⟩) (h - l) (if c = n ∧ h = n then h - l else h - l + 1)) else none
          | _ => none
        | _ => none
      else none
  | _ => none

def ssliceV (x : Value) (lo hi : Option Value) : Option Value :=
  match x with
  | .string s =>
    ((hi.map natOf).getD (some s.size)).bind fun h => ((lo.map natOf).getD (some 0)).bind fun l =>
      if l ≤ h ∧ h ≤ s.size then some (.string (s.extract l h)) else none
  | _ => none

/-- So many elements' cells of a slice, or a string's bytes. -/
def cellsV (esz n : Nat) (x : Value) (H : Heap) : Option (List Value) :=
  match x with
  | .slice (some ⟨b, o, none⟩) m _ => if n = 0 then some [] else if n ≤ m then H.lds b o (n * esz) else none
  | .slice none _ _ => if n = 0 then some [] else none
  | .string s => if n ≤ s.size ∧ esz = 1 then some ((s.data.toList.take n).map fun b => .int .u8 b.toNat) else none
  | _ => none

def lenN : Value → Option Nat
  | .slice _ n _ => some n
  | .string s => some s.size
  | _ => none

/-- Behind an append the elder block is no more, unless it had no room. -/
def Heap.retire (H : Heap) (esz : Nat) (a : Option Addr) (n c : Nat) : Option Heap :=
  match a with
  | none => some H
  | some ⟨b, _, none⟩ => if c = n then some H else
    match H.blk b with
    | some (.cells e false _) => if e = esz then some (H.set b none) else none
    | _ => none
  | _ => none

/-- s with cells behind it. -/
def pushV (esz bytes : Nat) (s : Value) (m : Nat) (new : List Value) (H : Heap) : Option (Value × Heap) :=
  match s with
  | .slice a n c =>
    if m = 0 then some (s, H) else
    if (n + m) * (bytes + 1) ≤ 2 ^ 40 then
      (cellsV esz n s H).bind fun old => (H.retire esz a n c).bind fun H' =>
        some (.slice (some ⟨H'.next, 0, none⟩) (n + m) (n + m + 1), H'.new (.cells esz false (old ++ new)))
    else none
  | _ => none

def appendV (esz bytes : Nat) (s x : Value) (H : Heap) : Option (Value × Heap) :=
  (lenN x).bind fun m => (cellsV esz m x H).bind fun new => pushV esz bytes s m new H

def zerosV (z : List Value) (n : Nat) : List Value := (List.replicate n z).flatten

/-- append(s, make([]T, n)...). -/
def appendzV (esz bytes : Nat) (z : List Value) (s n : Value) (H : Heap) : Option (Value × Heap) :=
  (natOf n).bind fun m => if m ≤ 2 ^ 40 then pushV esz bytes s m (zerosV z m) H else none

def boxV (n : Nat) (x : Value) (b : Nat) : Option (Value × Blk) :=
  if x.cells.size = n ∧ x.cells.toList.all flat = true then some (.pointer (some ⟨b, 0, none⟩), .cells n false x.cells.toList) else none

def bsliceV (esz len : Nat) (z : List Value) (ps : List (Nat × Nat × Value)) (b : Nat) : Option (Value × Blk) :=
  (fillV (zerosV z len) ps).bind fun cs => if cs.all flat = true then some (.slice (some ⟨b, 0, none⟩) len len, .cells esz false cs) else none

def mksliceV (esz bytes : Nat) (z : List Value) (l c : Value) (b : Nat) : Option (Value × Blk) :=
  (natOf l).bind fun n => (natOf c).bind fun m =>
    if n = m ∧ n * (bytes + 1) ≤ 2 ^ 40 then some (.slice (some ⟨b, 0, none⟩) n n, .cells esz false (zerosV z n)) else none

def copyV (esz : Nat) (d s : Value) (H : Heap) : Option (Value × Heap) :=
  match d with
  | .slice a n _ => (lenN s).bind fun m => (cellsV esz (min m n) s H).bind fun cs =>
      if min m n = 0 then some (.int .i64 0, H) else
      match a with
      | some ⟨b, o, none⟩ => (H.sts b o cs).map fun H' => (.int .i64 (min m n : Nat), H')
      | _ => none
  | _ => none

def bytesOf : List Value → Option (List UInt8)
  | [] => some []
  | .int .u8 n :: r => (bytesOf r).map fun l => UInt8.ofNat n.toNat :: l
  | _ => none

def tostrV (x : Value) (H : Heap) : Option Value :=
  match x with
  | .slice a n c => (cellsV 1 n (.slice a n c) H).bind fun cs => (bytesOf cs).map fun l => .string ⟨l.toArray⟩
  | _ => none

/-- Kinds of keys of which equality is plain. -/
inductive KeyK where
  | int | string | bool

def keyEq : KeyK → Value → Value → Option Bool
  | .int, .int k a, .int k' b => if k = k' then some (a == b) else none
  | .string, .string a, .string b => some (a == b)
  | .bool, .bool a, .bool b => some (a == b)
  | _, _, _ => none

def findE (kk : KeyK) (k : Value) : List (Value × Value) → Option (Option Value)
  | [] => some none
  | (x, v) :: r => (keyEq kk k x).bind fun b => if b then some (some v) else findE kk k r

def putE (kk : KeyK) (k v : Value) : List (Value × Value) → Option (List (Value × Value))
  | [] => some [(k, v)]
  | (x, u) :: r => (keyEq kk k x).bind fun b => if b then some ((k, v) :: r) else (putE kk k v r).map fun r' => (x, u) :: r'

def findV (kk : KeyK) (m k : Value) (H : Heap) : Option (Option Value) :=
  match m with
  | .map none => (keyEq kk k k).map fun _ => none
  | .map (some r) => match H.blk r with
    | some (.map es) => (keyEq kk k k).bind fun _ => findE kk k es
    | _ => none
  | _ => none

def lookupV (kk : KeyK) (z : Value) (ok : Bool) (m k : Value) (H : Heap) : Option Value :=
  (findV kk m k H).map fun r => if ok then .tuple #[r.getD z, .bool r.isSome] else r.getD z

def mlenV (m : Value) (H : Heap) : Option Value :=
  match m with
  | .map none => some (.int .i64 0)
  | .map (some r) => match H.blk r with
    | some (.map es) => some (.int .i64 es.length)
    | _ => none
  | _ => none

/-- A slice of the own memory that is turned into one of the same type. -/
def markV (x : Value) (H : Heap) : Option Value :=
  match x with
  | .slice (some ⟨b, o, none⟩) n c => match H.blk b with
    | some (.cells _ false _) => if 0 < n then some (.slice (some ⟨b, o, none⟩) n c) else none
    | _ => none
  | _ => none

def mapupdV (kk : KeyK) (m k v : Value) (H : Heap) : Option Heap :=
  match m with
  | .map (some r) => match H.blk r with
    | some (.map es) => (keyEq kk k k).bind fun _ => (putE kk k v es).map fun es' => H.set r (some (.map es'))
    | _ => none
  | _ => none

/-! ## Compiled operations -/

/-- Values alone. -/
inductive PK where
  | mov (x : Operand)
  | pick (c a b : Operand)
  | nilchk (x : Operand)
  | bin (op : BinOp) (x y : Operand)
  | beq (ne : Bool) (x y : Operand)
  | nil (k : NilK) (ne : Bool) (x : Operand)
  | agg (n : Nat) (ne : Bool) (x y : Operand)
  | un (op : UnOp) (x : Operand)
  | conv (k : IntKind) (x : Operand)
  | same (x : Operand)
  | mkfunc (f : FuncId) (first captured : List Operand)
  | mkiface (t : TypeId) (x : Operand)
  | faddr (off : Nat) (x : Operand)
  | field (agg : Bool) (off n : Nat) (x : Operand)
  | iaddr (esz : Nat) (x i : Operand)
  | iaddrA (len esz : Nat) (x i : Operand)
  | sindex (x i : Operand)
  | build (z : List Value) (ps : List (Nat × Nat × Operand))
  | ext (x : Operand) (i : Nat)
  | len (x : Operand)
  | slen (x : Operand)
  | sslice (x : Operand) (lo hi : Option Operand)
  | cap (x : Operand)
  | min (x y : Operand)
  | max (x y : Operand)

/-- The heap is read. -/
inductive RK where
  | ld (agg : Bool) (n : Nat) (a : Operand)
  | slice (esz : Nat) (x : Operand) (lo hi : Option Operand)
  | tostr (x : Operand)
  | lookup (kk : KeyK) (z : Value) (ok : Bool) (m k : Operand)
  | mark (x : Operand)
  | mlen (x : Operand)

/-- A new block, out of values alone. -/
inductive NK where
  | alloc (esz : Nat) (z : List Value)
  | box (n : Nat) (x : Operand)
  | bslice (esz len : Nat) (z : List Value) (ps : List (Nat × Nat × Operand))
  | mkslice (esz bytes : Nat) (z : List Value) (l c : Operand)
  | mkmap

/-- What acts. -/
inductive EK where
  | st (n : Nat) (a x : Operand)
  | append (esz bytes : Nat) (s x : Operand)
  | appendz (esz bytes : Nat) (z : List Value) (s n : Operand)
  | copy (esz : Nat) (d s : Operand)
  | mapupd (kk : KeyK) (m k v : Operand)
  | call (f : FuncId) (args : List Operand)
  | dyn (f : Operand) (args : List Operand)

inductive K where
  | p (k : PK)
  | r (k : RK)
  | n (k : NK)
  | e (k : EK)
  | bad

def parts (e : Env) (ps : List (Nat × Nat × Operand)) : List (Nat × Nat × Value) := ps.map fun (i, n, x) => (i, n, opd e x)

def evP (k : PK) (e : Env) : Option Value :=
  match k with
  | .mov x => some (opd e x)
  | .pick c a b => pickV (opd e c) (opd e a) (opd e b)
  | .nilchk x => Ck.nilchk (opd e x)
  | .bin op x y => binV op (opd e x) (opd e y)
  | .beq ne x y => beqV ne (opd e x) (opd e y)
  | .nil k ne x => nilV k ne (opd e x)
  | .agg n ne x y => aggV n ne (opd e x) (opd e y)
  | .un op x => unV op (opd e x)
  | .conv k x => convV k (opd e x)
  | .same x => match opd e x with
    | .string s => some (.string s)
    | _ => none
  | .mkfunc f a b => some (.func (.func f) (a.map (opd e)).toArray (b.map (opd e)).toArray)
  | .mkiface t x => some (.iface t (opd e x))
  | .faddr off x => faddrV off (opd e x)
  | .field agg off n x => fieldV agg off n (opd e x)
  | .iaddr esz x i => iaddrV esz (opd e x) (opd e i)
  | .iaddrA len esz x i => Ck.iaddrA len esz (opd e x) (opd e i)
  | .sindex x i => sindexV (opd e x) (opd e i)
  | .build z ps => buildV z (parts e ps)
  | .ext x i => extV (opd e x) i
  | .len x => lenV (opd e x)
  | .slen x => slenV (opd e x)
  | .sslice x lo hi => ssliceV (opd e x) (lo.map (opd e)) (hi.map (opd e))
  | .cap x => capV (opd e x)
  | .min x y => minV (opd e x) (opd e y)
  | .max x y => maxV (opd e x) (opd e y)

def evR (k : RK) (e : Env) (H : Heap) : Option Value :=
  match k with
  | .ld agg n a => ldV agg n (opd e a) H
  | .slice esz x lo hi => sliceV esz (opd e x) (lo.map (opd e)) (hi.map (opd e)) H
  | .tostr x => tostrV (opd e x) H
  | .lookup kk z ok m k => lookupV kk z ok (opd e m) (opd e k) H
  | .mark x => markV (opd e x) H
  | .mlen x => mlenV (opd e x) H

def newN (k : NK) (e : Env) (b : Nat) : Option (Value × Blk) :=
  match k with
  | .alloc esz z => some (.pointer (some ⟨b, 0, none⟩), .cells esz false z)
  | .box n x => boxV n (opd e x) b
  | .bslice esz len z ps => bsliceV esz len z (parts e ps) b
  | .mkslice esz bytes z l c => mksliceV esz bytes z (opd e l) (opd e c) b
  | .mkmap => some (.map (some b), .map [])

def evN (k : NK) (e : Env) (H : Heap) : Option (Value × Heap) := (newN k e H.next).map fun x => (x.1, H.new x.2)

abbrev Oracle := FuncId → List Value → Heap → Option (Value × Heap)

def dynV (O : Oracle) (f : Value) (args : List Value) (H : Heap) : Option (Value × Heap) :=
  match f with
  | .func (.func g) first captured => O g (first.toList ++ args ++ captured.toList) H
  | _ => none

def evE (O : Oracle) (k : EK) (e : Env) (H : Heap) : Option (Value × Heap) :=
  match k with
  | .st n a x => (stV n (opd e a) (opd e x) H).map fun H' => (undef, H')
  | .append esz bytes s x => appendV esz bytes (opd e s) (opd e x) H
  | .appendz esz bytes z s n => appendzV esz bytes z (opd e s) (opd e n) H
  | .copy esz d s => copyV esz (opd e d) (opd e s) H
  | .mapupd kk m k v => (mapupdV kk (opd e m) (opd e k) (opd e v) H).map fun H' => (undef, H')
  | .call f args => O f (args.map (opd e)) H
  | .dyn f args => dynV O (opd e f) (args.map (opd e)) H

/-- A guard: the value of another operation decides. -/
def guardV (g : Option (Value × Bool)) (x : Option Value) : Option Value :=
  match g with
  | none => x
  | some (.bool b, want) => if b = want then x else some undef
  | some (.tuple _, _) => some undef
  | _ => none

def guardH (g : Option (Value × Bool)) (x : Option (Value × Heap)) (H : Heap) : Option (Value × Heap) :=
  match g with
  | none => x
  | some (.bool b, want) => if b = want then x else some (undef, H)
  | some (.tuple _, _) => some (undef, H)
  | _ => none

/-- An operation: where its value goes, its guard (whose value), what it is. -/
structure AOp where
  dst : Option Nat
  guard : Option (Nat × Bool)
  k : K

def AOp.gv (o : AOp) (e : Env) : Option (Value × Bool) := o.guard.map fun (g, w) => (e g, w)

def put (e : Env) (d : Option Nat) (v : Value) : Env :=
  match d with
  | none => e
  | some t => upd e t v

/-- One operation's value, and the heap behind it. -/
def evOp (O : Oracle) (o : AOp) (e : Env) (H : Heap) : Option (Value × Heap) :=
  match o.k with
  | .p k => (guardV (o.gv e) (evP k e)).map fun v => (v, H)
  | .r k => (guardV (o.gv e) (evR k e H)).map fun v => (v, H)
  | .n k => guardH (o.gv e) (evN k e H) H
  | .e k => guardH (o.gv e) (evE O k e H) H
  | .bad => none

/-- A region's items: an operation, or that a read says the same again. -/
inductive Item where
  | op (o : AOp)
  | chk (o : AOp) (v : Nat)    -- slot v holds what it said

open Classical in
/-- It says the same again. -/
noncomputable def again {α : Type} (x : Option Value) (v : Value) (k : Option α) : Option α := if x = some v then k else none

noncomputable def runItems (O : Oracle) : List Item → Env → Heap → Option (Env × Heap)
  | [], e, H => some (e, H)
  | .op o :: r, e, H =>
    match o.k with
    | .p k => (guardV (o.gv e) (evP k e)).bind fun v => runItems O r (put e o.dst v) H
    | .r k => (guardV (o.gv e) (evR k e H)).bind fun v => runItems O r (put e o.dst v) H
    | .n k => (guardH (o.gv e) (evN k e H) H).bind fun x => runItems O r (put e o.dst x.1) x.2
    | .e k => (guardH (o.gv e) (evE O k e H) H).bind fun x => runItems O r (put e o.dst x.1) x.2
    | .bad => none
  | .chk o v :: r, e, H =>
    match o.k with
    | .r k => again (guardV (o.gv e) (evR k e H)) (e v) (runItems O r e H)
    | _ => none

/-! ## Code -/

inductive AC where
  | skip
  | ops (l : List Item) (outs : List Nat)
  | seq (a b : AC)
  | cond (x : Operand) (a b : AC)
  | block (id : Nat) (a : AC)
  | loop (a : AC)
  | exit (id : Nat)
  | ret

inductive Ex where
  | normal
  | exit (id : Nat)
  | ret

abbrev Out := Option (Ex × Env × Heap)
abbrev Cd := Env → Heap → Out

/-- Of a region's own slots those are kept that are named. -/
def outE : List Nat → Env → Env → Env
  | [], e, _ => e
  | t :: r, e, le => outE r (upd e t (le t)) le

noncomputable def opsC (O : Oracle) (l : List Item) (outs : List Nat) : Cd := fun e H =>
  (runItems O l e H).map fun x => (.normal, outE outs e x.1, x.2)

def skipC : Cd := fun e H => some (.normal, e, H)
def exitC (id : Nat) : Cd := fun e H => some (.exit id, e, H)
def retC : Cd := fun e H => some (.ret, e, H)

def andThen (x : Out) (k : Cd) : Out :=
  match x with
  | some (.normal, e, H) => k e H
  | y => y

def seqC (a b : Cd) : Cd := fun e H => andThen (a e H) b

def ifV (c : Value) (x y : Out) : Out :=
  match c with
  | .bool true => x
  | .bool false => y
  | _ => none

def condC (x : Operand) (a b : Cd) : Cd := fun e H => ifV (opd e x) (a e H) (b e H)

def leave (id : Nat) (x : Out) : Out :=
  match x with
  | some (.exit j, e, H) => if j = id then some (.normal, e, H) else some (.exit j, e, H)
  | y => y

def blockC (id : Nat) (a : Cd) : Cd := fun e H => leave id (a e H)

/-- So many rounds at the most. -/
def iter : Nat → Cd → Cd
  | 0, _ => fun _ _ => none
  | n + 1, a => fun e H => andThen (a e H) (iter n a)

noncomputable def exec (O : Oracle) (L : Cd → Cd) : AC → Cd
  | .skip => skipC
  | .ops l outs => opsC O l outs
  | .seq a b => seqC (exec O L a) (exec O L b)
  | .cond x a b => condC x (exec O L a) (exec O L b)
  | .block id a => blockC id (exec O L a)
  | .loop a => L (exec O L a)
  | .exit id => exitC id
  | .ret => retC

/-- Where a result stands. -/
inductive Res where
  | tmp (t : Nat)
  | cell (a : Nat) (agg : Bool) (n : Nat)

structure AF where
  body : AC
  res : List Res

def resV (e : Env) (H : Heap) : List Res → Option (List Value)
  | [] => some []
  | .tmp t :: r => (resV e H r).map fun l => e t :: l
  | .cell a agg n :: r => (ldV agg n (e a) H).bind fun v => (resV e H r).map fun l => v :: l

def pack : List Value → Value
  | [v] => v
  | l => .tuple l.toArray

def endsV (res : List Res) (x : Out) : Option (Value × Heap) :=
  match x with
  | some (.normal, e, H) => (resV e H res).map fun l => (pack l, H)
  | some (.ret, e, H) => (resV e H res).map fun l => (pack l, H)
  | _ => none

/-- Calls within so much depth, so many rounds. -/
noncomputable def callN (tbl : FuncId → Option AF) : Nat → Oracle
  | 0 => fun _ _ _ => none
  | n + 1 => fun f args H => (tbl f).bind fun F => endsV F.res (exec (callN tbl n) (iter n) F.body (env0 args) H)


/-! ## The compiler -/

/-- Constants that name no memory. -/
def okAtom : Value → Bool
  | .bool _ | .int _ _ | .string _ | .pointer none | .slice none 0 0 | .map none | .nilFunc | .nilIface => true
  | _ => false
def okConst : Value → Bool
  | .agg cs => cs.toList.all okAtom
  | v => okAtom v
def okOpd (P : Program) : Operand → Bool
  | .const v => okConst v
  | .global g => g < P.globals.size
  | _ => true

def sz (P : Program) (t : TypeId) : Option Nat := (P.info? t).map (·.size)
def bytesOfT (P : Program) (t : TypeId) : Option Nat := (P.info? t).map (·.bytes)
def aggT (P : Program) (t : TypeId) : Option Bool :=
  match P.underlying t with
  | some (.struct _) | some (.array _ _) => some true
  | some _ => some false
  | none => none
def zero (P : Program) (t : TypeId) : Option (List Value) :=
  (P.info? t).bind fun i => i.zero.bind fun v => if v.cells.size = i.size ∧ v.cells.toList.all okAtom = true then some v.cells.toList else none
def elemT (P : Program) (t : TypeId) : Option TypeId :=
  match P.underlying t with
  | some (.slice e) => some e
  | _ => none
def isByte (P : Program) (t : TypeId) : Bool :=
  match P.underlying t with
  | some (.int .u8) => true
  | _ => false
/-- A key of which equality is plain. -/
def plainKey (P : Program) (t : TypeId) : Option KeyK :=
  match P.underlying t with
  | some (.int _) => some .int
  | some .string => some .string
  | some .bool => some .bool
  | _ => none
/-- A struct of integers alone, one cell each. -/
def intFields (P : Program) : Nat → List Field → Bool
  | _, [] => true
  | o, f :: r => f.name != "_" && f.offset == o && (sz P f.type == some 1) && (match P.underlying f.type with | some (.int _) => true | _ => false) && intFields P (o + 1) r
def constNil (k : NilK) : Operand → Bool
  | .const v => nilLit k v
  | _ => false

def partsOf (P : Program) (fs : Array Field) : List (Nat × Operand) → Option (List (Nat × Nat × Operand))
  | [] => some []
  | (i, x) :: r => (fs[i]?).bind fun f => (sz P f.type).bind fun n => (partsOf P fs r).map fun l => (f.offset, n, x) :: l

def kBin (P : Program) (op : BinOp) (t : TypeId) (x y : Operand) : K :=
  match P.underlying t with
  | some (.int _) | some .string => .p (.bin op x y)
  | some .bool => if op = .eql ∨ op = .neq then .p (.beq (op = .neq) x y) else .bad
  | some (.pointer _) => if (op = .eql ∨ op = .neq) ∧ constNil .ptr y = true then .p (.nil .ptr (op = .neq) x) else .bad
  | some (.slice _) => if (op = .eql ∨ op = .neq) ∧ constNil .slice y = true then .p (.nil .slice (op = .neq) x) else .bad
  | some (.map _ _) => if (op = .eql ∨ op = .neq) ∧ constNil .map y = true then .p (.nil .map (op = .neq) x) else .bad
  | some (.func _ _ _) => if (op = .eql ∨ op = .neq) ∧ constNil .func y = true then .p (.nil .func (op = .neq) x) else .bad
  | some (.struct fs) =>
    if (op = .eql ∨ op = .neq) ∧ intFields P 0 fs.toList = true ∧ P.stoodInHeld t = false ∧ P.eqGuardType P.depth t = false then .p (.agg fs.size (op = .neq) x y) else .bad
  | _ => .bad

def kConv (P : Program) (s d : TypeId) (x : Operand) : K :=
  match P.underlying s, P.underlying d with
  | some (.int _), some (.int k) => .p (.conv k x)
  | some (.slice e), some .string => if isByte P e then .r (.tostr x) else .bad
  | some .string, some .string => .p (.same x)
  | some (.slice _), some (.slice e) => if s == d && isByte P e then .r (.mark x) else .bad
  | _, _ => .bad

def kBuiltin (P : Program) (b : Builtin) (ts : Array TypeId) (args : Array Operand) : K :=
  match b, args.toList with
  | .len, [x] =>
    match (ts[0]?).bind P.underlying with
    | some (.slice _) => .p (.len x)
    | some .string => .p (.slen x)
    | some (.map _ _) => .r (.mlen x)
    | _ => .bad
  | .cap, [x] =>
    match (ts[0]?).bind P.underlying with
    | some (.slice _) => .p (.cap x)
    | _ => .bad
  | .min, [x, y] => .p (.min x y)
  | .max, [x, y] => .p (.max x y)
  | .append, [s, x] =>
    match (ts[0]?).bind (elemT P), (ts[1]?).bind P.underlying with
    | some e, some u =>
      match sz P e, bytesOfT P e, zero P e with
      | some n, some by', some z =>
        if n = 0 then .bad else
        match u with
        | .int _ => .e (.appendz n by' z s x)
        | .slice _ | .string => .e (.append n by' s x)
        | _ => .bad
      | _, _, _ => .bad
    | _, _ => .bad
  | .copy, [d, s] =>
    match (ts[0]?).bind (elemT P) with
    | some e => match sz P e with
      | some n => if n = 0 then .bad else .e (.copy n d s)
      | none => .bad
    | none => .bad
  | _, _ => .bad

def kCall (P : Program) (c : Call) : K :=
  match c.callee with
  | .builtin b => kBuiltin P b c.argTypes c.args
  | .value (.func f) => .e (.call f c.args.toList)
  | .value (.tmp t) => .e (.dyn (.tmp t) c.args.toList)
  | _ => .bad

def kOf (P : Program) (o : Oper) : K :=
  match o.op with
  | .move x | .assign x => .p (.mov x)
  | .pick c a b => .p (.pick c a b)
  | .alloc t => match sz P t, zero P t with
    | some n, some z => .n (.alloc n z)
    | _, _ => .bad
  | .box t x => match sz P t with
    | some n => .n (.box n x)
    | none => .bad
  | .build t ps => match zero P t, P.underlying t with
    | some z, some (.struct fs) => match partsOf P fs ps.toList with
      | some l => if fs.toList.all (fun f => (sz P f.type).isSome) = true then .p (.build z l) else .bad
      | none => .bad
    | some z, some (.array _ e) => match sz P e with
      | some n => .p (.build z (ps.toList.map fun (i, x) => (i * n, n, x)))
      | none => .bad
    | _, _ => .bad
  | .buildSlice t len ps => match elemT P t with
    | some e => match sz P e, zero P e with
      | some n, some z => if len * n ≤ 2 ^ 24 ∧ n ≠ 0 then .n (.bslice n len z (ps.toList.map fun (i, x) => (i * n, n, x))) else .bad
      | _, _ => .bad
    | none => .bad
  | .load t a => match aggT P t, sz P t with
    | some g, some n => .r (.ld g n a)
    | _, _ => .bad
  | .store t a x => match sz P t with
    | some n => .e (.st n a x)
    | none => .bad
  | .nilCheck x => .p (.nilchk x)
  | .binOp op t x y _ => kBin P op t x y
  | .unOp op _ x => .p (.un op x)
  | .convert s d x => kConv P s d x
  | .makeInterface t x => match P.underlying t with
    | some (.interface _) => .bad
    | some _ => .p (.mkiface t x)
    | none => .bad
  | .makeFunc (.func f) a b => .p (.mkfunc f a.toList b.toList)
  | .makeMap t none => match P.underlying t with
    | some (.map _ _) => .n .mkmap
    | _ => .bad
  | .makeSlice t l c => match elemT P t with
    | some e => match sz P e, bytesOfT P e, zero P e with
      | some n, some b, some z => if n = 0 then .bad else .n (.mkslice n b z l c)
      | _, _, _ => .bad
    | none => .bad
  | .slice t x lo hi none => match P.underlying t with
    | some (.slice e) => match sz P e with
      | some n => if n = 0 then .bad else .r (.slice n x lo hi)
      | none => .bad
    | some .string => .p (.sslice x lo hi)
    | _ => .bad
  | .fieldAddr s x f => match P.underlying s with
    | some (.struct fs) => match fs[f]? with
      | some fd => match sz P fd.type with
        | some n => if n = 0 then .bad else .p (.faddr fd.offset x)
        | none => .bad
      | none => .bad
    | _ => .bad
  | .field t x f => match P.underlying t with
    | some (.struct fs) => match fs[f]? with
      | some fd => match aggT P fd.type, sz P fd.type with
        | some g, some n => .p (.field g fd.offset n x)
        | _, _ => .bad
      | none => .bad
    | _ => .bad
  | .indexAddr t x i => match P.underlying t with
    | some (.slice e) => match sz P e with
      | some n => if n = 0 then .bad else .p (.iaddr n x i)
      | none => .bad
    | some (.array len e) => match sz P e with
      | some n => if n = 0 then .bad else .p (.iaddrA len n x i)
      | none => .bad
    | _ => .bad
  | .index t x i => match P.underlying t with
    | some .string => .p (.sindex x i)
    | _ => .bad
  | .lookup t x i ok => match P.underlying t with
    | some (.map k e) => match (P.info? e).bind (·.zero), plainKey P k with
      | some z, some kk => if okConst z = true then .r (.lookup kk z ok x i) else .bad
      | _, _ => .bad
    | _ => .bad
  | .mapUpdate t m k v => match P.underlying t with
    | some (.map kt _) => match plainKey P kt with
      | some kk => .e (.mapupd kk m k v)
      | none => .bad
    | _ => .bad
  | .extract t i => .p (.ext t i)
  | .call c => kCall P c
  | _ => .bad

def aopOf (P : Program) (ops : Array Oper) (o : Oper) : Option AOp :=
  if o.op.operands.toList.all (okOpd P) = true then
    match o.guard with
    | none => some { dst := o.dst, guard := none, k := kOf P o }
    | some (j, w) => ((ops[j]?).bind (·.dst)).map fun t => { dst := o.dst, guard := some (t, w), k := kOf P o }
  else none

def isE : K → Bool
  | .e _ => true
  | _ => false
def isR : K → Bool
  | .r _ => true
  | _ => false
def isBad : K → Bool
  | .bad => true
  | _ => false

def tmpsOf (o : Oper) : List Nat := o.op.operands.toList.filterMap fun | .tmp t => some t | _ => none

/-- Slots that an operation looks at. -/
def looks (ops : Array Oper) (o : Oper) : List Nat :=
  tmpsOf o ++ (match o.guard with
    | some (j, _) => ((ops[j]?).bind (·.dst)).toList
    | none => [])

/-- What stands in an operation's slot is known from there on. -/
def knows (k : Nat) (o : Oper) : Nat :=
  match o.dst with
  | some t => k ||| 2 ^ t
  | none => k

/-- Does each operation look at known slots alone? -/
def knownB (ops : Array Oper) : Nat → List Nat → Bool
  | _, [] => true
  | k, i :: r => match ops[i]? with
    | some o => (looks ops o).all (k.testBit ·) && knownB ops (knows k o) r
    | none => false

/-- Two operations, the first one before the second one in the plan. -/
def pairB (P : Program) (ops : Array Oper) (bef : Array Nat) (i j : Nat) : Bool :=
  i != j &&
  match ops[i]?, ops[j]? with
  | some a, some b =>
    !(bef.getD i 0).testBit j &&
    (!(isE (kOf P a)) || (bef.getD j 0).testBit i) &&
    (match a.dst, b.dst with | some s, some t => s != t | _, _ => true) &&
    ((match a.dst with | some t => !((looks ops b).contains t) | none => true) &&
     (match b.dst with | some t => !((looks ops a).contains t) | none => true) || (bef.getD j 0).testBit i)
  | _, _ => false

def pairsB (P : Program) (ops : Array Oper) (bef : Array Nat) : List Nat → Bool
  | [] => true
  | i :: r => r.all (pairB P ops bef i) && pairsB P ops bef r

/-- Does an operation write no slot that another one looks at? -/
def quietFor (ops : Array Oper) (o : Oper) (p : Nat) : Bool :=
  match ops[p]? with
  | some q => match q.dst with
    | some t => !((looks ops o).contains t)
    | none => true
  | none => true

/-- The reads that may come behind an operation though they stand ahead of it. 'later': what stands behind them, up to it. -/
def chks (P : Program) (ops : Array Oper) (b : Nat) : List Nat → List Nat → Option (List Item)
  | _, [] => some []
  | later, i :: r => (chks P ops b (i :: later) r).bind fun l => (ops[i]?).bind fun o =>
    if isR (kOf P o) && !b.testBit i then
      if (i :: later).all (quietFor ops o) then (aopOf P ops o).bind fun a => o.dst.map fun t => l ++ [.chk a t] else none
    else some l

/-- A plan's items: behind what acts the reads are done again that may come behind it. 'done': the last one first. -/
def itemsOf (P : Program) (ops : Array Oper) (bef : Array Nat) : List Nat → List Nat → Option (List Item)
  | _, [] => some []
  | done, i :: r => (ops[i]?).bind fun o => (aopOf P ops o).bind fun a =>
    if isBad a.k then none else
    (if isE a.k then chks P ops (bef.getD i 0) [i] done else some []).bind fun c =>
      (itemsOf P ops bef (i :: done) r).map fun l => .op a :: (c ++ l)

/-- What the machine does not do. -/
def badOp : AOp := { dst := none, guard := none, k := .bad }

def itemsIn (P : Program) (ops : Array Oper) : List Nat → Option (List Item)
  | [] => some []
  | i :: r => (ops[i]?).bind fun o => match aopOf P ops o with
    | some a => if isBad a.k then some [.op badOp] else (itemsIn P ops r).map fun l => .op a :: l
    | none => some [.op badOp]

def outsOf (keep : Nat) : List Oper → List Nat
  | [] => []
  | o :: r => match o.dst with
    | some t => if keep.testBit t && !((outsOf keep r).contains t) then t :: outsOf keep r else outsOf keep r
    | none => outsOf keep r

/-- Each edge that binds leads to an earlier operation. -/
def edgesB : Nat → List Oper → Bool
  | _, [] => true
  | i, o :: r => o.after.toList.all (fun e => !Region.binds .any e || e.on < i) && edgesB (i + 1) r

structure Hint where
  keep : Nat
  plans : List (Nat × List Nat)

def planOf (id : Nat) : List (Nat × List Nat) → Option (List Nat)
  | [] => none
  | (k, l) :: r => if k == id then some l else planOf id r

def regionOf (P : Program) (h : Hint) (nt id : Nat) (ops : Array Oper) (draw : Bool) : Option AC :=
  if ops.toList.all (fun o => match o.dst with | some t => t < nt | none => true) then
    if draw then
      (planOf id h.plans).bind fun plan =>
        if plan.length = ops.size ∧ (List.range ops.size).all plan.contains = true ∧ knownB ops h.keep plan = true ∧ pairsB P ops (Region.before ops) plan = true ∧ edgesB 0 ops.toList = true then
          (itemsOf P ops (Region.before ops) [] plan).map fun l => .ops l (outsOf h.keep ops.toList)
        else none
    else
      if knownB ops h.keep (List.range ops.size) = true then
        (itemsIn P ops (List.range ops.size)).map fun l => .ops l (outsOf h.keep ops.toList)
      else none
  else none

def codeOf (P : Program) (h : Hint) (nt : Nat) : Code → Option AC
  | .skip => some .skip
  | .region id ops draw => regionOf P h nt id ops draw
  | .seq a b => (codeOf P h nt a).bind fun x => (codeOf P h nt b).map fun y => .seq x y
  | .cond c a b => match c with
    | .tmp t => if h.keep.testBit t = true then
        (codeOf P h nt a).bind fun x => (codeOf P h nt b).map fun y => .cond c x y
      else none
    | .const (.bool true) => codeOf P h nt a
    | .const (.bool false) => codeOf P h nt b
    | _ => none
  | .block id a => (codeOf P h nt a).map fun x => .block id x
  | .loop a => (codeOf P h nt a).map fun x => .loop x
  | .exit id => some (.exit id)
  | .ret => some .ret
  | _ => none

def resOf (P : Program) (keep : Nat) : List ResultVar → Option (List Res)
  | [] => some []
  | .tmp t :: r => if keep.testBit t then (resOf P keep r).map fun l => .tmp t :: l else none
  | .cell a t :: r => if keep.testBit a then
      match aggT P t, sz P t with
      | some g, some n => (resOf P keep r).map fun l => .cell a g n :: l
      | _, _ => none
    else none

def funcOf (P : Program) (h : Hint) (fn : Func) : Option AF :=
  if fn.name == "runtime.NumGoroutine" then none else
  fn.body.bind fun c => (codeOf P h fn.ntmps c).bind fun a => (resOf P h.keep fn.results.toList).map fun r => ⟨a, r⟩

def tblOf (P : Program) (hints : FuncId → Option Hint) (f : FuncId) : Option AF :=
  (hints f).bind fun h => (P.funcs[f]?).bind fun fn => funcOf P h fn

end Ck
