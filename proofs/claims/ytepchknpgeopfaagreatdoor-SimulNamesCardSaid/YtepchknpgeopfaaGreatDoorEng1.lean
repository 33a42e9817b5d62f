/-
  THE ENGINE, part 1: an abstract heap, a monad over it, and an evaluator of the loaded program's code in it. No statement is proved here.
-/
import Derived.Calls
import Derived.Orders
set_option linter.unusedVariables false
set_option linter.unusedSimpArgs false
namespace Go.Proofs.YtepchknpgeopfaaGreatDoor.E
open Go

/-- A block of the abstract heap: a row of cells, a map's entries in the order of their insertion (with the stamps of their births and the map's clock), a string's iterator, a map's. -/
inductive Blk where
  | row (elem : TypeId) (cs : List Value) (rw : Bool)
  | map (es : List (Value × Value)) (bs : List Nat) (clock : Nat)
  | siter (s : ByteArray) (pos : Nat)
  | miter (m : Option Nat) (since : Nat) (seen : List Nat) (last : Nat)

/-- The type whose variables lie alone in blocks of their own size, to be seen as pointers without a type: strings.Builder's number. -/
def special (e : TypeId) : Bool := Nat.beq e 142

structure AH where
  next : Nat
  at_ : Nat → Option Blk

def AH.set (H : AH) (b : Nat) (x : Option Blk) : AH := { next := H.next, at_ := fun b' => if b' = b then x else H.at_ b' }
def AH.push (H : AH) (x : Blk) : AH := { next := H.next + 1, at_ := fun b' => if b' = H.next then some x else H.at_ b' }
def AH.skip (H : AH) (n : Nat) : AH := { next := H.next + n, at_ := H.at_ }

def M (α : Type) : Type := AH → Option (α × AH)

namespace M
def pure {α : Type} (a : α) : M α := fun H => some (a, H)
def fail {α : Type} : M α := fun _ => none
def bind {α β : Type} (x : M α) (f : α → M β) : M β := fun H => match x H with | some (a, H') => f a H' | none => none
def lift {α : Type} (o : Option α) : M α := fun H => match o with | some a => some (a, H) | none => none
end M

/-- The unknown value: no operation takes it; in a frame it stands for anything. -/
def junk : Value := .complex .f32 0 0

/-- What lies in a cell of memory: no aggregate, no tuple, not the unknown. -/
def cellOk : Value → Bool
  | .agg _ | .tuple _ | .complex _ _ _ => false
  | _ => true

def cellsOk (v : Value) : Bool := v.cells.toList.all cellOk

/-- A value that may be handed on: not the unknown one. -/
def known : Value → Bool
  | .tuple _ | .complex _ _ _ => false
  | .agg cs => cs.toList.all cellOk
  | _ => true

/-- A constant without an address. -/
def plainC : Value → Bool
  | .bool _ | .int _ _ | .string _ | .pointer none | .slice none 0 0 | .map none | .nilFunc | .nilIface => true
  | _ => false

def plainV : Value → Bool
  | .agg cs => cs.toList.all plainC
  | .iface _ v => plainC v
  | v => plainC v

/-! ### Memory -/

def rowAt (H : AH) (b : Nat) : Option (List Value) :=
  match H.at_ b with
  | some (.row _ cs _) => some cs
  | _ => none

def load1 (a : Value) : M Value := fun H =>
  match a with
  | .pointer (some ⟨b, o, none⟩) =>
    match rowAt H b with
    | some cs => (match cs[o]? with
      | some v => some (v, H)
      | none => none)
    | none => none
  | _ => none

def readN (H : AH) (b o n : Nat) : Option (List Value) :=
  match rowAt H b with
  | some cs => if o + n ≤ cs.length then some ((cs.drop o).take n) else none
  | none => none

def loadN (n : Nat) (a : Value) : M Value := fun H =>
  match a with
  | .pointer (some ⟨b, o, none⟩) =>
    match readN H b o n with
    | some vs => some (.agg vs.toArray, H)
    | none => none
  | _ => none

/-- Cells laid over a list from a place on. -/
def splice (cs : List Value) (o : Nat) (vs : List Value) : List Value := cs.take o ++ vs ++ cs.drop (o + vs.length)

def writeN (b o : Nat) (vs : List Value) : AH → Option AH := fun H =>
  match H.at_ b with
  | some (.row e cs true) => if o + vs.length ≤ cs.length ∧ vs.all cellOk = true then some (H.set b (some (.row e (splice cs o vs) true))) else none
  | _ => none

def writeM (b o : Nat) (vs : List Value) : M Unit := fun H => (writeN b o vs H).map fun H' => ((), H')

def store (n : Nat) (a v : Value) : M Value := fun H =>
  match a with
  | .pointer (some ⟨b, o, none⟩) =>
    if v.cells.toList.length = n then (match writeN b o v.cells.toList H with
      | some H' => some (undef, H')
      | none => none)
    else none
  | _ => none

/-- A new block: at the next number, or at one that was laid by. -/
def newAt (alc : Option Nat) (x : Blk) : M Nat := fun H =>
  match alc with
  | none => some (H.next, H.push x)
  | some b => (match H.at_ b with
    | none => if b < H.next then some (b, H.set b (some x)) else none
    | some _ => none)

def newRow (alc : Option Nat) (elem : TypeId) (cs : List Value) : M Nat := fun H =>
  if cs.all cellOk = true then newAt alc (.row elem cs true) H else none

def box (alc : Option Nat) (elem : TypeId) (v : Value) : M Value := M.bind (newRow alc elem v.cells.toList) fun b => M.pure (.pointer (some ⟨b, 0, none⟩))

/-! ### Values alone -/

def pickV : Value → Value → Value → Option Value
  | .bool c, a, b => some (if c then a else b)
  | _, _, _ => none

def nilChk : Value → Option Value
  | .pointer (some a) => some (.pointer (some a))
  | .func (.func f) xs ys => some (.func (.func f) xs ys)
  | .iface t v => some (.iface t v)
  | _ => none

def addP (n : Nat) : Value → Option Value
  | .pointer (some ⟨b, o, none⟩) => some (.pointer (some ⟨b, o + n, none⟩))
  | _ => none

/-- Parts laid into cells, each at its place, with its size. -/
def fillP (cells : List Value) : List (Nat × Nat × Value) → Option (List Value)
  | [] => some cells
  | (o, n, v) :: rest =>
    if v.cells.toList.length = n ∧ o + n ≤ cells.length ∧ cellsOk v = true then fillP (splice cells o v.cells.toList) rest else none

def partV (agg : Bool) (o n : Nat) : Value → Option Value
  | .agg cs =>
    if o + n ≤ cs.toList.length then
      (if agg then some (.agg ((cs.toList.drop o).take n).toArray) else cs.toList[o]?)
    else none
  | _ => none

def indexP (n : Nat) (s : Nat) : Value → Value → Option Value
  | .pointer (some ⟨b, o, none⟩), .int _ i => if 0 ≤ i ∧ i < n then some (.pointer (some ⟨b, o + i.toNat * s, none⟩)) else none
  | _, _ => none

def indexS (s : Nat) : Value → Value → Option Value
  | .slice (some ⟨b, o, _⟩) n _, .int _ i => if 0 ≤ i ∧ i < n then some (.pointer (some ⟨b, o + i.toNat * s, none⟩)) else none
  | _, _ => none

def indexStr : Value → Value → Option Value
  | .string s, .int _ i => if 0 ≤ i then (match s[i.toNat]? with
      | some b => some (.int .u8 b.toNat)
      | none => none) else none
  | _, _ => none

def indexArr (len : Nat) (agg : Bool) (s : Nat) : Value → Value → Option Value
  | v, .int _ i => if 0 ≤ i ∧ i < len then partV agg (i.toNat * s) s v else none
  | _, _ => none

def isAggB : Option TypeDesc → Bool
  | some (.struct _) | some (.array _ _) => true
  | _ => false

def intB (op : BinOp) (k : IntKind) (a b : Int) : Option Value :=
  match op with
  | .add => some (.int k (k.wrap (a + b)))
  | .sub => some (.int k (k.wrap (a - b)))
  | .mul => some (.int k (k.wrap (a * b)))
  | .quo => if b = 0 then none else some (.int k (k.wrap (a.tdiv b)))
  | .rem => if b = 0 then none else some (.int k (a.tmod b))
  | .and => some (.int k (k.wrap ((BitVec.ofInt k.bits a &&& BitVec.ofInt k.bits b).toNat : Int)))
  | .or => some (.int k (k.wrap ((BitVec.ofInt k.bits a ||| BitVec.ofInt k.bits b).toNat : Int)))
  | .xor => some (.int k (k.wrap ((BitVec.ofInt k.bits a ^^^ BitVec.ofInt k.bits b).toNat : Int)))
  | .andNot => some (.int k (k.wrap ((BitVec.ofInt k.bits a &&& ~~~ BitVec.ofInt k.bits b).toNat : Int)))
  | .eql => some (.bool (a == b))
  | .neq => some (.bool (a != b))
  | .lss => some (.bool (a < b))
  | .leq => some (.bool (a ≤ b))
  | .gtr => some (.bool (a > b))
  | .geq => some (.bool (a ≥ b))
  | _ => none

def shiftB (op : BinOp) (k : IntKind) (a b : Int) : Option Value :=
  if b < 0 then none else
  match op with
  | .shl => some (.int k (k.wrap (a * 2 ^ (min b.toNat k.bits))))
  | .shr => some (.int k (a.fdiv (2 ^ (min b.toNat k.bits))))
  | _ => none

def strB (op : BinOp) (x y : ByteArray) : Option Value :=
  match op with
  | .add => if x.size + y.size ≤ 4611686018427387904 then some (.string (x ++ y)) else none
  | .eql => some (.bool (x.toList == y.toList))
  | .neq => some (.bool !(x.toList == y.toList))
  | .lss => some (.bool (Op.bytesLess x.toList y.toList))
  | _ => none

/-- Two values held against each other where that asks nothing of memory: numbers, bools, strings; nil against anything; aggregates of numbers, bools and strings. -/
def eq1 : Value → Value → Option Bool
  | .bool a, .bool b => some (a == b)
  | .int k a, .int k' b => if k = k' then some (a == b) else none
  | .string a, .string b => some (a == b)
  | .pointer none, .pointer b => some b.isNone
  | .pointer (some _), .pointer none => some false
  | .slice none _ _, .slice b _ _ => some b.isNone
  | .slice (some _) _ _, .slice none _ _ => some false
  | .map none, .map b => some b.isNone
  | .map (some _), .map none => some false
  | .nilFunc, .nilFunc => some true
  | .nilFunc, .func _ _ _ => some false
  | .func _ _ _, .nilFunc => some false
  | .nilIface, .iface _ _ => some false
  | .iface _ _, .nilIface => some false
  | _, _ => none

inductive KK where
  | int | str | bool

def keyOk : KK → Value → Bool
  | .int, .int _ _ | .str, .string _ | .bool, .bool _ => true
  | _, _ => false

def kkOf : Option TypeDesc → Option KK
  | some (.int _) => some .int
  | some .string => some .str
  | some .bool => some .bool
  | _ => none

def fitsK : List KK → List Value → Bool
  | [], [] => true
  | k :: ks, v :: vs => keyOk k v && fitsK ks vs
  | _, _ => false

def eqCells : List Value → List Value → Option Bool
  | [], [] => some true
  | x :: xs, y :: ys =>
    match eq1 x y, eqCells xs ys with
    | some b, some c => some (b && c)
    | _, _ => none
  | _, _ => none

/-- The kinds of a type's cells, if it is made, to the bottom, of numbers, bools and strings, with no blank field and none that the model stands in for. -/
def flatK (P : Program) : Nat → TypeId → Option (List KK)
  | 0, _ => none
  | d + 1, t =>
    match P.underlying t with
    | some .bool => some [.bool]
    | some (.int _) => some [.int]
    | some .string => some [.str]
    | some (.struct fs) => if P.stoodInHeld t then none else
        fs.toList.foldl (fun acc f => match acc, flatK P d f.type with
          | some ks, some l => if f.name != "_" && f.offset == ks.length && P.cellsOf f.type == l.length then some (ks ++ l) else none
          | _, _ => none) (some [])
    | some (.array n e) => (match flatK P d e with
        | some l => if P.cellsOf e == l.length then some (List.replicate n l).flatten else none
        | none => none)
    | _ => none

def descOk : Option TypeDesc → Value → Bool
  | some .bool, .bool _ | some (.int _), .int _ _ | some .string, .string _ | some (.pointer _), .pointer _ | some (.slice _), .slice _ _ _ | some (.map _ _), .map _
  | some (.func _ _ _), .func _ _ _ | some (.func _ _ _), .nilFunc | some (.interface _), .iface _ _ | some (.interface _), .nilIface => true
  | _, _ => false

def eqV (P : Program) (t : TypeId) (x y : Value) : Option Bool :=
  match x, y with
  | .agg xs, .agg ys =>
    (match flatK P 8 t with
    | some ks => if fitsK ks xs.toList = true ∧ fitsK ks ys.toList = true ∧ P.eqGuardType P.depth t = false ∧ isAggB (P.underlying t) = true then eqCells xs.toList ys.toList else none
    | none => none)
  | .pointer (some ⟨b, o, none⟩), .pointer (some ⟨b', o', none⟩) =>
    (match P.underlying t with
    | some (.pointer e) => if (P.info? e).isSome = true ∧ P.cellsOf e ≠ 0 ∧ b = b' then some (o == o') else none
    | _ => none)
  | x, y => if descOk (P.underlying t) x = true ∧ descOk (P.underlying t) y = true then eq1 x y else none

def binV (P : Program) (op : BinOp) (t : TypeId) (x y : Value) : Option Value :=
  match x, y with
  | .int k a, .int k' b =>
    match op with
    | .shl | .shr => shiftB op k a b
    | _ => if k = k' then intB op k a b else none
  | .string a, .string b => strB op a b
  | _, _ =>
    match op with
    | .eql => (eqV P t x y).map .bool
    | .neq => (eqV P t x y).map fun b => .bool !b
    | _ => none

def isNilC : Operand → Bool
  | .const .nilIface => true
  | _ => false

/-- Held against the literal nil. -/
def binNil (P : Program) (op : BinOp) (t : TypeId) (x y : Value) : Option Value :=
  match x, y with
  | .nilIface, .nilIface =>
    (match P.underlying t with
    | some (.interface _) => (match op with
      | .eql => some (.bool true)
      | .neq => some (.bool false)
      | _ => none)
    | _ => none)
  | x, y => binV P op t x y

def unV (op : UnOp) (x : Value) : Option Value :=
  match op, x with
  | .not, .bool b => some (.bool !b)
  | .neg, .int k n => some (.int k (k.wrap (0 - n)))
  | .xor, .int k n => some (.int k (k.wrap ((BitVec.ofInt k.bits (if k.signed then -1 else k.max) ^^^ BitVec.ofInt k.bits n).toNat : Int)))
  | _, _ => none

def bnd (d : Int) : Option Value → Option Int
  | none => some d
  | some (.int _ h) => some h
  | _ => none

def sliceStr (x : Value) (lo hi : Option Value) : Option Value :=
  match x with
  | .string s =>
    (match bnd s.size hi, bnd 0 lo with
    | some h, some l => if 0 ≤ l ∧ l ≤ h ∧ h ≤ (s.size : Int) then some (.string (s.extract l.toNat h.toNat)) else none
    | _, _ => none)
  | _ => none

/-- A slice of a slice; s: the size of an element. A mark in the address: the array may go on behind what is known. With a third number the mark goes. -/
def sliceSl (s : Nat) (x : Value) (lo hi mx : Option Value) : Option Value :=
  match x with
  | .slice none 0 0 =>
    (match bnd 0 lo, bnd 0 hi, bnd 0 mx with
    | some 0, some 0, some 0 => if mx.isNone = true ∨ hi.isSome = true then some (.slice none 0 0) else none
    | _, _, _ => none)
  | .slice (some ⟨b, o, m⟩) len cap =>
    (match bnd 0 lo, bnd len hi, bnd cap mx with
    | some l, some h, some c => if 0 ≤ l ∧ l ≤ h ∧ h ≤ c ∧ c ≤ (cap : Int) ∧ (mx.isNone = true ∨ hi.isSome = true) ∧ (m = none ∨ m = some s) then
        some (.slice (some ⟨b, o + (if c = l ∧ m.isNone = true then 0 else l.toNat * s), if mx.isSome = true then none else m⟩) (h - l).toNat (c - l).toNat) else none
    | _, _, _ => none)
  | _ => none

/-- A slice of an array in memory. -/
def sliceAr (n s : Nat) (x : Value) (lo hi : Option Value) : Option Value :=
  match x with
  | .pointer (some ⟨b, o, none⟩) =>
    (match bnd 0 lo, bnd n hi with
    | some l, some h => if 0 ≤ l ∧ l ≤ h ∧ h ≤ (n : Int) then
        some (.slice (some ⟨b, o + (if (n : Int) = l then 0 else l.toNat * s), none⟩) (h - l).toNat (n - l).toNat) else none
    | _, _ => none)
  | _ => none

def extr (i : Nat) : Value → Option Value
  | .tuple vs => vs.toList[i]?
  | _ => none

/-- What an interface holds, if it is of this very type, which is no interface. -/
def assertV (P : Program) (t : TypeId) (x : Value) : Option Value :=
  match P.underlying t, x with
  | some (.interface _), _ => none
  | some _, .iface t' v => if t' = t then some v else none
  | _, _ => none

def lenV : Value → Option Value
  | .string s => some (.int .i64 s.size)
  | .slice _ n _ => some (.int .i64 n)
  | .map none => some (.int .i64 0)
  | _ => none

def mm (gt : Bool) : Value → Value → Option Value
  | .int k x, .int _ y => some (.int k (if gt then (if y > x then y else x) else (if y < x then y else x)))
  | _, _ => none

def mmAll (gt : Bool) : Value → List Value → Option Value
  | v, [] => (match v with | .int _ _ => some v | _ => none)
  | v, y :: ys => match mm gt v y with
    | some u => mmAll gt u ys
    | none => none

def methP (P : Program) (t : TypeId) (name : String) : Option FuncId :=
  match P.info? t with
  | some i =>
    (match i.methods.find? (·.name == name) with
    | some m => if m.path.isEmpty then (match m.func with
        | some (f, ptr) => (match P.underlying t with
          | some (.pointer _) => if ptr then some f else none
          | some _ => if ptr then none else some f
          | none => none)
        | none => none) else none
    | none => none)
  | none => none

/-! ### Slices that grow; maps -/

def sliceCells (s n : Nat) (x : Value) : M (List Value) := fun H =>
  match x with
  | .slice (some ⟨b, o, _⟩) len _ => if n ≤ len then (if n = 0 then some ([], H) else (readN H b o (n * s)).map fun vs => (vs, H)) else none
  | .slice none _ _ => if n = 0 then some ([], H) else none
  | .string t => if s = 1 ∧ n ≤ t.size then some ((t.data.toList.take n).map fun c => .int .u8 c.toNat, H) else none
  | _ => none

def lenN : Value → Option Nat
  | .slice _ n _ => some n
  | .string s => some s.size
  | _ => none

def roomOk (bytes n : Nat) : Bool := n * bytes ≤ 2 ^ 44 && (n ≤ 2 ^ 44 && bytes ≤ 2 ^ 30)

/-- The old block is given up. -/
def giveUp (e : TypeId) (b : Nat) (v : Value) : M Value := fun H =>
  match H.at_ b with
  | some (.row e' _ true) => if e' = e then some (v, H.set b none) else none
  | _ => none

/-- append: within the known capacity it writes in place; beyond it there is a new block, and where the old array may go on behind what is known the old block is given up: nobody may look at it again. -/
def append (alc : Option Nat) (elem : TypeId) (s bytes : Nat) (x y : Value) : M Value :=
  match lenN y with
  | none => M.fail
  | some n =>
    M.bind (sliceCells s n y) fun new =>
    match x with
    | .slice none 0 0 =>
      if n = 0 then M.pure (.slice none 0 0)
      else if roomOk bytes n then M.bind (newRow alc elem new) fun b => M.pure (.slice (some ⟨b, 0, some s⟩) n n) else M.fail
    | .slice (some ⟨b, o, m⟩) len cap =>
      if len + n ≤ cap then (if n = 0 then M.pure x else M.bind (writeM b (o + len * s) new) fun _ => M.pure (.slice (some ⟨b, o, m⟩) (len + n) cap))
      else if roomOk bytes (len + n) then
        M.bind (sliceCells s len x) fun old =>
        M.bind (newRow alc elem (old ++ new)) fun b' =>
        match m with
        | none => M.pure (.slice (some ⟨b', 0, some s⟩) (len + n) (len + n))
        | some s' => if s' = s then giveUp elem b (.slice (some ⟨b', 0, some s⟩) (len + n) (len + n)) else M.fail
      else M.fail
    | _ => M.fail

def copyB (s : Nat) (x y : Value) : M Value :=
  match x, lenN y with
  | .slice a len _, some n =>
    M.bind (sliceCells s (min n len) y) fun cs =>
    if min n len = 0 then M.pure (.int .i64 0) else
    (match a with
    | some ⟨b, o, _⟩ => M.bind (writeM b o cs) fun _ => M.pure (.int .i64 (min n len : Nat))
    | none => M.fail)
  | _, _ => M.fail

def clearS (zero : List Value) (x : Value) : M Value :=
  match x with
  | .slice none _ _ => M.pure (.tuple #[])
  | .slice (some ⟨b, o, _⟩) n _ => if n = 0 then M.pure (.tuple #[]) else M.bind (writeM b o (List.replicate n zero).flatten) fun _ => M.pure (.tuple #[])
  | _ => M.fail

def makeSl (alc : Option Nat) (elem : TypeId) (bytes : Nat) (zero : List Value) (l c : Value) : M Value :=
  match l, c with
  | .int .i64 l, .int .i64 c => if 0 ≤ l ∧ l ≤ c ∧ roomOk bytes c.toNat = true then
      M.bind (newRow alc elem (List.replicate c.toNat zero).flatten) fun b => M.pure (.slice (some ⟨b, 0, none⟩) l.toNat c.toNat) else M.fail
  | _, _ => M.fail

def mapAt (H : AH) (b : Nat) : Option (List (Value × Value)) :=
  match H.at_ b with
  | some (.map es _ _) => some es
  | _ => none

def mapAt3 (H : AH) (b : Nat) : Option (List (Value × Value) × List Nat × Nat) :=
  match H.at_ b with
  | some (.map es bs c) => some (es, bs, c)
  | _ => none

def findK (k : Value) : List (Value × Value) → Nat → Option (Option (Nat × Value))
  | [], _ => some none
  | (k', v) :: es, i =>
    match eq1 k k' with
    | some true => some (some (i, v))
    | some false => findK k es (i + 1)
    | none => none

def lookupM (kk : KK) (zero : Value) (ok : Bool) (m k : Value) : M Value := fun H =>
  if keyOk kk k = false then none else
  match (match m with | .map none => some [] | .map (some b) => mapAt H b | _ => none) with
  | some es =>
    (match findK k es 0 with
    | some (some (_, v)) => some (if ok then (.tuple #[v, .bool true], H) else (v, H))
    | some none => some (if ok then (.tuple #[zero, .bool false], H) else (zero, H))
    | none => none)
  | none => none

def updateM (kk : KK) (m k v : Value) : M Value := fun H =>
  if keyOk kk k = false then none else
  match m with
  | .map (some b) =>
    (match mapAt3 H b with
    | some (es, bs, c) =>
      (match findK k es 0 with
      | some (some (i, _)) => some (undef, H.set b (some (.map (es.set i (k, v)) bs c)))
      | some none => some (undef, H.set b (some (.map (es ++ [(k, v)]) (bs ++ [c]) (c + 1))))
      | none => none)
    | none => none)
  | _ => none

def deleteM (kk : KK) (m k : Value) : M Value := fun H =>
  if keyOk kk k = false then none else
  match m with
  | .map (some b) =>
    (match mapAt3 H b with
    | some (es, bs, c) =>
      (match findK k es 0 with
      | some (some (i, _)) => some (.tuple #[], H.set b (some (.map (es.eraseIdx i) (bs.eraseIdx i) c)))
      | some none => some (.tuple #[], H.set b (some (.map es bs c)))
      | none => none)
    | none => none)
  | _ => none

def lenM (m : Value) : M Value := fun H =>
  match m with
  | .map (some b) => (mapAt H b).map fun es => (.int .i64 es.length, H)
  | x => (lenV x).map fun v => (v, H)

def isMapD : Option TypeDesc → Bool
  | some (.map _ _) => true
  | _ => false

/-- len, at a type. -/
def lenT (d : Option TypeDesc) (x : Value) : M Value := fun H => if descOk d x = true then lenM x H else none

def rangeStr (alc : Option Nat) (x : Value) : M Value :=
  match x with
  | .string s => M.bind (newAt alc (.siter s 0)) fun b => M.pure (.pointer (some ⟨b, 0, none⟩))
  | _ => M.fail

def nextStr (x : Value) : M Value := fun H =>
  match x with
  | .pointer (some ⟨b, 0, none⟩) =>
    (match H.at_ b with
    | some (.siter s pos) =>
      if pos < s.size then some (.tuple #[.bool true, .int .i64 pos, .int .i32 (Utf8.decode s pos).1], H.set b (some (.siter s (pos + (Utf8.decode s pos).2))))
      else some (.tuple #[.bool false], H)
    | _ => none)
  | _ => none

def clockM (m : Nat) : M Nat := fun H => (mapAt3 H m).map fun q => (q.2.2, H)

/-- An iterator over a map. -/
def rangeMap (alc : Option Nat) (x : Value) : M Value :=
  match x with
  | .map none => M.bind (newAt alc (.miter none 0 [] 0)) fun b => M.pure (.pointer (some ⟨b, 0, none⟩))
  | .map (some m) => M.bind (clockM m) fun c => M.bind (newAt alc (.miter (some m) c [] c)) fun b => M.pure (.pointer (some ⟨b, 0, none⟩))
  | _ => M.fail

/-- The entries that an iterator has not come to, with their stamps. -/
def leftOf (seen : List Nat) : List (Value × Value) → List Nat → List ((Value × Value) × Nat)
  | e :: es, s :: bs => bif seen.contains s then leftOf seen es bs else (e, s) :: leftOf seen es bs
  | _, _ => []

/-- The next entry of a map's iterator, where at most one is left and it is an old one: then no order is asked. -/
def nextMap (x : Value) : M Value := fun H =>
  match x with
  | .pointer (some ⟨b, 0, none⟩) =>
    (match H.at_ b with
    | some (.miter none _ _ _) => some (.tuple #[.bool false], H)
    | some (.miter (some m) since seen last) =>
      (match mapAt3 H m with
      | some (es, bs, c) =>
        if !seen.isEmpty && !bs.isEmpty && bs.all (fun s => decide (s ≥ last)) then none else
        (match leftOf seen es bs with
        | [] => some (.tuple #[.bool false], H)
        | [((k, v), s)] => if s < since then some (.tuple #[.bool true, k, v], H.set b (some (.miter (some m) since (seen ++ [s]) c))) else none
        | _ => none)
      | none => none)
    | _ => none)
  | _ => none

def findB (s : Nat) : List (Value × Value) → List Nat → Option (Value × Value)
  | e :: es, b :: bs => bif b == s then some e else findB s es bs
  | _, _ => none

/-- The entry that an iterator came to last. -/
def entryM (x : Value) : M Value := fun H =>
  match x with
  | .pointer (some ⟨b, 0, none⟩) =>
    (match H.at_ b with
    | some (.miter (some m) _ seen last) =>
      (match seen.getLast?, mapAt3 H m with
      | some s, some (es, bs, c) => if c = last then (match findB s es bs with
        | some (k, v) => some (.tuple #[k, v], H)
        | none => none) else none
      | _, _ => none)
    | _ => none)
  | _ => none

def toRunes (alc : Option Nat) (elem : TypeId) (x : Value) : M Value :=
  match x with
  | .string s => if (Conv.runesFrom s s.size 0 #[]).toList.all plainC = true ∧ special elem = false then M.bind (newRow alc elem (Conv.runesFrom s s.size 0 #[]).toList) fun b =>
      M.pure (.slice (some ⟨b, 0, some 1⟩) (Conv.runesFrom s s.size 0 #[]).size (Conv.runesFrom s s.size 0 #[]).size) else M.fail
  | _ => M.fail

/-- The bytes of a string, to be read alone. -/
def toBytes (alc : Option Nat) (elem : TypeId) (x : Value) : M Value :=
  match x with
  | .string s => if special elem = false then M.bind (newAt alc (.row elem (s.data.toList.map fun c => .int .u8 c.toNat) false)) fun b => M.pure (.slice (some ⟨b, 0, some 1⟩) s.size s.size) else M.fail
  | _ => M.fail

/-- A pointer handed on without its type. -/
def toUnsafe (P : Program) (t : TypeId) (x : Value) : M Value := fun H =>
  match x with
  | .pointer none => some (.pointer none, H)
  | .pointer (some ⟨b, o, none⟩) =>
    (match rowAt H b with
    | some cs => if o < cs.length ∧ P.cellsOf t ≠ 0 then some (.pointer (some ⟨b, o, none⟩), H) else none
    | none => none)
  | _ => none

/-- A pointer that gets its type back. -/
def ofUnsafe (P : Program) (t : TypeId) (x : Value) : M Value := fun H =>
  match x with
  | .pointer none => some (.pointer none, H)
  | .pointer (some ⟨b, o, none⟩) =>
    (match H.at_ b with
    | some (.row e cs _) => if special e = true ∧ P.cellsOf t ≠ 0 ∧ liesAt P P.depth e (cs.length / P.cellsOf e) o t 1 = true then some (.pointer (some ⟨b, o, none⟩), H) else none
    | _ => none)
  | _ => none

def dataP : Value → Option Value
  | .slice none _ _ => some (.pointer none)
  | .slice (some ⟨b, o, _⟩) _ cap => if cap = 0 then none else some (.pointer (some ⟨b, o, none⟩))
  | _ => none

def bytesOfL : List Value → Option (List UInt8)
  | [] => some []
  | .int .u8 n :: vs =>
    (match bytesOfL vs with
    | some l => if 0 ≤ n ∧ n < 256 then some (UInt8.ofNat n.toNat :: l) else none
    | none => none)
  | _ => none

/-- The bytes at a pointer as a string: from then on they are to be read alone. -/
def strAt (P : Program) (t : TypeId) (p n : Value) : M Value := fun H =>
  match p, n with
  | .pointer p, .int .i64 n =>
    if n = 0 then some (.string .empty, H) else
    (match p with
    | some ⟨b, o, none⟩ =>
      (match P.underlying t, H.at_ b with
      | some (.pointer e), some (.row e' cs true) =>
        if 0 ≤ n ∧ n ≤ 9223372036854775807 ∧ e' = e ∧ P.cellsOf e = 1 ∧ o + n.toNat ≤ cs.length then
          (match bytesOfL ((cs.drop o).take n.toNat) with
          | some l => some (.string ⟨⟨l⟩⟩, H.set b (some (.row e' cs false)))
          | none => none) else none
      | _, _ => none)
    | _ => none)
  | _, _ => none

/-! ### The evaluator -/

abbrev Fr := Nat → Value
abbrev CallF := FuncId → List Value → M Value

def ev (fr : Fr) : Operand → Value
  | .tmp t => fr t
  | .const v => if plainV v then v else junk
  | .global _ => junk
  | .func f => .func (.func f) #[] #[]

def isAggT (P : Program) (t : TypeId) : Bool := isAggB (P.underlying t)

def zeroL (P : Program) (t : TypeId) : Option (List Value) :=
  match P.info? t with
  | some i => (match i.zero with
    | some z => if z.cells.toList.all plainC = true then some z.cells.toList else none
    | none => none)
  | none => none

def fieldOf (P : Program) (t : TypeId) (f : Nat) : Option Field :=
  match P.underlying t with
  | some (.struct fs) => fs.toList[f]?
  | _ => none

def elemOfSl (P : Program) (t : TypeId) : Option TypeId :=
  match P.underlying t with
  | some (.slice e) => some e
  | _ => none

def load (P : Program) (t : TypeId) (a : Value) : M Value := if isAggT P t = true then loadN (P.cellsOf t) a else if (P.underlying t).isSome = true then load1 a else M.fail

/-- Parts at their places: (place, size, value). -/
def places (P : Program) (t : TypeId) : List (Nat × Value) → Option (List (Nat × Nat × Value))
  | [] => some []
  | (i, v) :: rest =>
    match (match P.underlying t with
      | some (.struct fs) => (match fs.toList[i]? with
        | some f => some (f.offset, P.cellsOf f.type)
        | none => none)
      | some (.array _ e) | some (.slice e) => some (i * P.cellsOf e, P.cellsOf e)
      | _ => none), places P t rest with
    | some (o, n), some l => some ((o, n, v) :: l)
    | _, _ => none

def placesOk (P : Program) (t : TypeId) : Bool :=
  match P.underlying t with
  | some (.struct fs) => fs.toList.all fun f => (P.info? f.type).isSome
  | some (.array _ e) => (P.info? e).isSome
  | _ => false

def callV (call : CallF) (f : Value) (args : List Value) : M Value :=
  match f with
  | .func (.func g) first captured => call g (first.toList ++ (args ++ captured.toList))
  | _ => M.fail

def evCall (P : Program) (call : CallF) (alc : Option Nat) (ρ : Operand → Value) (c : Call) : M Value :=
  match c.callee with
  | .value f => callV call (ρ f) (c.args.toList.map ρ)
  | .invoke r name =>
    (match ρ r with
    | .iface t v => (match methP P t name with
      | some f => call f (v :: c.args.toList.map ρ)
      | none => M.fail)
    | _ => M.fail)
  | .builtin b =>
    match b, c.args.toList, c.argTypes.toList with
    | .append, [x, y], t :: t' :: _ =>
      (match elemOfSl P t, P.underlying t' with
      | _, some (.int _) => M.fail
      | some e, some _ => (match zeroL P e with
        | some z => if z.length = P.cellsOf e ∧ special e = false then append alc e (P.cellsOf e) (P.bytesOf e) (ρ x) (ρ y) else M.fail
        | none => M.fail)
      | _, _ => M.fail)
    | .len, [x], t :: _ =>
      lenT (P.underlying t) (ρ x)
    | .copy, [x, y], t :: _ =>
      (match elemOfSl P t with
      | some e => if (P.info? e).isSome = true then copyB (P.cellsOf e) (ρ x) (ρ y) else M.fail
      | none => M.fail)
    | .clear, [x], t :: _ =>
      (match elemOfSl P t with
      | some e => (match zeroL P e with
        | some z => clearS z (ρ x)
        | none => M.fail)
      | none => M.fail)
    | .delete, [m, k], t :: _ =>
      (match P.underlying t with
      | some (.map kt _) => (match kkOf (P.underlying kt) with
        | some kk => deleteM kk (ρ m) (ρ k)
        | none => M.fail)
      | _ => M.fail)
    | .unsafeSliceData, [x], _ => M.lift (dataP (ρ x))
    | .unsafeString, [x, y], t :: _ => strAt P t (ρ x) (ρ y)
    | .min, x :: xs, _ => M.lift (mmAll false (ρ x) (xs.map ρ))
    | .max, x :: xs, _ => M.lift (mmAll true (ρ x) (xs.map ρ))
    | _, _, _ => M.fail

/-- An operation; alc: the number of the block that it makes, if it makes one. -/
def evOp (P : Program) (call : CallF) (alc : Option Nat) (ρ : Operand → Value) (o : Oper) : M Value :=
  match o.op with
  | .move x | .assign x => M.pure (ρ x)
  | .pick c a b => M.lift (pickV (ρ c) (ρ a) (ρ b))
  | .alloc t => (match zeroL P t with
    | some z => M.bind (newRow alc t z) fun b => M.pure (.pointer (some ⟨b, 0, none⟩))
    | none => M.fail)
  | .box t x => box alc t (ρ x)
  | .build t parts => (match zeroL P t, places P t (parts.toList.map fun (i, x) => (i, ρ x)) with
    | some z, some ps => if placesOk P t = true then M.lift ((fillP z ps).map fun cs => .agg cs.toArray) else M.fail
    | _, _ => M.fail)
  | .buildSlice t n parts => (match elemOfSl P t with
    | some e => (match zeroL P e, places P t (parts.toList.map fun (i, x) => (i, ρ x)) with
      | some z, some ps => if n * P.cellsOf e ≤ 2 ^ 24 ∧ z.length = P.cellsOf e then (match fillP (List.replicate n z).flatten ps with
        | some cs => M.bind (newRow alc e cs) fun b => M.pure (.slice (some ⟨b, 0, none⟩) n n)
        | none => M.fail) else M.fail
      | _, _ => M.fail)
    | none => M.fail)
  | .load t a => load P t (ρ a)
  | .store t a x => if (P.info? t).isSome = true then store (P.cellsOf t) (ρ a) (ρ x) else M.fail
  | .nilCheck x => M.lift (nilChk (ρ x))
  | .binOp op t x y _ => M.lift (bif isNilC x || isNilC y then binNil P op t (ρ x) (ρ y) else binV P op t (ρ x) (ρ y))
  | .unOp op _ x => M.lift (unV op (ρ x))
  | .convert s d x =>
    (match P.underlying s, P.underlying d with
    | some (.int _), some (.int k) => (match ρ x with
      | .int _ n => M.pure (.int k (k.wrap n))
      | _ => M.fail)
    | some .string, some .string => (match ρ x with
      | .string t => M.pure (.string t)
      | _ => M.fail)
    | some .string, some (.slice e) => (match P.underlying e with
      | some (.int .i32) => toRunes alc e (ρ x)
      | some (.int .u8) => toBytes alc e (ρ x)
      | _ => M.fail)
    | some (.pointer t), some .unsafePointer => if (P.info? t).isSome = true then toUnsafe P t (ρ x) else M.fail
    | some .unsafePointer, some (.pointer t) => if (P.info? t).isSome = true then ofUnsafe P t (ρ x) else M.fail
    | _, _ => M.fail)
  | .makeInterface t x => (match P.underlying t with
    | some (.interface _) | none => M.fail
    | _ => M.pure (.iface t (ρ x)))
  | .makeFunc (.func f) first captured =>
    M.pure (.func (.func f) (first.map ρ) (captured.map ρ))
  | .makeMap t r => (match P.underlying t, (match r with | none => true | some x => (match ρ x with | .int _ _ => true | _ => false)) with
    | some (.map _ _), true => M.bind (newAt alc (.map [] [] 0)) fun b => M.pure (.map (some b))
    | _, _ => M.fail)
  | .makeSlice t l c => (match elemOfSl P t with
    | some e => (match zeroL P e with
      | some z => if z.length = P.cellsOf e then makeSl alc e (P.bytesOf e) z (ρ l) (ρ c) else M.fail
      | none => M.fail)
    | none => M.fail)
  | .slice t x lo hi mx =>
    (match P.underlying t with
    | some .string => if mx.isSome then M.fail else M.lift (sliceStr (ρ x) (lo.map ρ) (hi.map ρ))
    | some (.slice e) => if (P.info? e).isSome = true then M.lift (sliceSl (P.cellsOf e) (ρ x) (lo.map ρ) (hi.map ρ) (mx.map ρ)) else M.fail
    | some (.array n e) => if mx.isSome ∨ (P.info? e).isSome = false then M.fail else M.lift (sliceAr n (P.cellsOf e) (ρ x) (lo.map ρ) (hi.map ρ))
    | some (.pointer a) => (match P.underlying a with
      | some (.array n e) => if mx.isSome ∨ (P.info? e).isSome = false then M.fail else M.lift (sliceAr n (P.cellsOf e) (ρ x) (lo.map ρ) (hi.map ρ))
      | _ => M.fail)
    | _ => M.fail)
  | .fieldAddr t x f => (match fieldOf P t f with
    | some fd => if P.cellsOf fd.type = 0 then M.fail else M.lift (addP fd.offset (ρ x))
    | none => M.fail)
  | .field t x f => (match fieldOf P t f with
    | some fd => if (P.underlying fd.type).isSome = true then M.lift (partV (isAggT P fd.type) fd.offset (P.cellsOf fd.type) (ρ x)) else M.fail
    | none => M.fail)
  | .indexAddr t x i => (match P.underlying t with
    | some (.array n e) => if (P.info? e).isSome = true then M.lift (indexP n (P.cellsOf e) (ρ x) (ρ i)) else M.fail
    | some (.slice e) => if (P.info? e).isSome = true then M.lift (indexS (P.cellsOf e) (ρ x) (ρ i)) else M.fail
    | _ => M.fail)
  | .index t x i => (match P.underlying t with
    | some .string => M.lift (indexStr (ρ x) (ρ i))
    | some (.array n e) => if (P.underlying e).isSome = true then M.lift (indexArr n (isAggT P e) (P.cellsOf e) (ρ x) (ρ i)) else M.fail
    | _ => M.fail)
  | .lookup t m k ok => (match P.underlying t with
    | some (.map kt et) => (match kkOf (P.underlying kt), P.info? et with
      | some kk, some i => (match i.zero with
        | some z => if plainV z then lookupM kk z ok (ρ m) (ρ k) else M.fail
        | none => M.fail)
      | _, _ => M.fail)
    | _ => M.fail)
  | .mapUpdate t m k v | .insert t m k v => (match P.underlying t with
    | some (.map kt _) => (match kkOf (P.underlying kt) with
      | some kk => updateM kk (ρ m) (ρ k) (ρ v)
      | none => M.fail)
    | _ => M.fail)
  | .range t x => (match P.underlying t with
    | some .string => rangeStr alc (ρ x)
    | some (.map _ _) => rangeMap alc (ρ x)
    | _ => M.fail)
  | .next it true => nextStr (ρ it)
  | .next it false => nextMap (ρ it)
  | .entry it => entryM (ρ it)
  | .extract t i => M.lift (extr i (ρ t))
  | .typeAssert x _ t false => M.lift (assertV P t (ρ x))
  | .call c => evCall P call alc ρ c
  | _ => M.fail

/-- Is the operation carried out? -/
def wantV (v : Value) (want : Bool) : Option Bool :=
  match v with
  | .bool b => some (b == want)
  | .tuple vs => if vs.isEmpty then some false else none
  | _ => none

def guardM (c : Option Bool) (m : M Value) : M Value :=
  match c with
  | some true => m
  | some false => M.pure undef
  | none => M.fail

def putF (n : Nat) (fr : Fr) (dst : Option Tmp) (v : Value) : Fr :=
  match dst with
  | some d => if d < n then fun i => bif Nat.beq i d then v else fr i else fr
  | none => fr

def totV (ρ : Operand → Value) : Op → Option Value
  | .move x | .assign x => some (ρ x)
  | _ => none

/-- An operation with its guard, in a region. -/
def evG (P : Program) (call : CallF) (alc : Option Nat) (ops : Array Oper) (fr : Fr) (o : Oper) : M Value :=
  match o.guard with
  | none => evOp P call alc (ev fr) o
  | some (j, want) =>
    (match ((ops.toList[j]?).bind (·.dst)) with
    | some d => guardM (wantV (fr d) want) (evOp P call alc (ev fr) o)
    | none => M.pure undef)

/-- The region's operations in the order of the text. -/
def evOps {β : Type} (P : Program) (call : CallF) (n : Nat) (ops : Array Oper) : List Oper → (Fr → M β) → Fr → M β
  | [], k, fr => k fr
  | o :: rest, k, fr =>
    match o.guard, totV (ev fr) o.op with
    | none, some v => evOps P call n ops rest k (putF n fr o.dst v)
    | _, _ => M.bind (evG P call none ops fr o) fun v => evOps P call n ops rest k (putF n fr o.dst v)

/-- A step of the chosen order of a region that draws: an operation, or a look again at what one gave. -/
inductive Step where
  | ex (i : Nat)
  | rc (i : Nat)

open Classical in
noncomputable def again (x : M Value) (v : Value) : M Unit := fun H =>
  match x H with
  | some (v', _) => if v' = v then some ((), H) else none
  | none => none

def reserve (n : Nat) : M Nat := fun H => some (H.next, H.skip n)

noncomputable def evSteps {β : Type} (P : Program) (call : CallF) (n base : Nat) (ops : Array Oper) : List Step → (Nat → Option (Fr × Value)) → (Fr → M β) → Fr → M β
  | [], _, k, fr => k fr
  | .ex i :: rest, sv, k, fr =>
    match ops.toList[i]? with
    | none => M.fail
    | some o =>
      (match o.guard, totV (ev fr) o.op with
      | none, some v => evSteps P call n base ops rest (fun j => bif Nat.beq j i then some (fr, v) else sv j) k (putF n fr o.dst v)
      | _, _ => M.bind (evG P call (some (base + i)) ops fr o) fun v => evSteps P call n base ops rest (fun j => bif Nat.beq j i then some (fr, v) else sv j) k (putF n fr o.dst v))
  | .rc i :: rest, sv, k, fr =>
    match ops.toList[i]?, sv i with
    | some o, some (fr', v) => M.bind (again (evG P call none ops fr' o) v) fun _ => evSteps P call n base ops rest sv k fr
    | _, _ => M.fail

inductive Kind where
  | pure | read | alloc | eff

def Kind.isEff : Kind → Bool
  | .eff => true
  | _ => false
def Kind.isRead : Kind → Bool
  | .read => true
  | _ => false
def Kind.isAlloc : Kind → Bool
  | .alloc => true
  | _ => false

def opKind (P : Program) : Op → Kind
  | .move _ | .assign _ | .pick .. | .build .. | .nilCheck _ | .binOp .. | .unOp .. | .makeInterface .. | .makeFunc .. | .slice .. | .fieldAddr .. | .field ..
  | .indexAddr .. | .index .. | .extract .. => .pure
  | .convert _ d _ => (match P.underlying d with
    | some (.slice e) => (match P.underlying e with
      | some (.int .i32) => .alloc
      | _ => .eff)
    | some .unsafePointer | some (.pointer _) => .eff
    | _ => .pure)
  | .load .. | .lookup .. => .read
  | .alloc _ | .box .. | .buildSlice .. | .makeMap .. | .makeSlice .. => .alloc
  | .call { callee := .builtin .len, .. } => .read
  | .call { callee := .builtin .min, .. } | .call { callee := .builtin .max, .. } | .call { callee := .builtin .unsafeSliceData, .. } => .pure
  | _ => .eff

/-! #### Is the chosen order one that serves every order? -/

/-- The edges that bind, closed: bit j of entry i: j stands before i. -/
def befores (ops : Array Oper) : Array Nat := Region.before ops

def comesBefore (bs : Array Nat) (i j : Nat) : Bool := (bs.getD j 0).testBit i

structure PS where
  done : List Nat
  effs : List Nat
  allocSince : Bool
  due : List Nat

def writesTmp (o : Oper) (t : Tmp) : Bool := o.dst == some t
def namesOf (o : Oper) : List Tmp :=
  o.dst.toList ++ (o.op.operands.toList.filterMap fun | .tmp t => some t | _ => none)
def guardTmp (ops : Array Oper) (o : Oper) : List Tmp :=
  match o.guard with
  | some (j, _) => (((ops.toList[j]?).bind (·.dst))).toList
  | none => []

/-- Any two operations that name one slot, one of them writing it, stand in a fixed order. -/
def slotsOk (ops : Array Oper) (bs : Array Nat) : Bool :=
  ops.toList.zipIdx.all fun (o, j) => ops.toList.zipIdx.all fun (o', i) =>
    i == j || (match o.dst with
      | some d => !(namesOf o' ++ guardTmp ops o').contains d || comesBefore bs i j || comesBefore bs j i
      | none => true)

/-- One step of the look at the plan. -/
def planStep (P : Program) (ops : Array Oper) (bs : Array Nat) (s : PS) : Step → Option PS
  | .ex i =>
    match ops.toList[i]?, s.due with
    | some o, [] =>
      if s.done.contains i then none
      else if !(o.after.toList.all fun e => !Region.binds .any e || s.done.contains e.on) then none
      else if !(match o.guard with
        | none => true
        | some (j, _) => s.done.contains j && comesBefore bs j i && (((ops.toList[j]?).bind (·.dst))).isSome) then none
      else
        let last := s.effs.head?
        match opKind P o.op with
        | .pure => some { s with done := i :: s.done }
        | .read => if s.allocSince || !(last.all fun e => comesBefore bs e i) then none else some { s with done := i :: s.done }
        | .alloc => some { s with done := i :: s.done, allocSince := true }
        | .eff =>
          if !(last.all fun e => comesBefore bs e i) then none
          -- every block made so far is asked for by this step
          else if !(s.done.all fun j => match ops.toList[j]? with
            | some o' => !(opKind P o'.op).isAlloc || comesBefore bs j i
            | none => false) then none
          else
            some { done := i :: s.done, effs := i :: s.effs, allocSince := false,
                   due := s.done.filter fun j => (match ops.toList[j]? with
                     | some o' => (opKind P o'.op).isRead && !comesBefore bs j i
                     | none => false) }
    | _, _ => none
  | .rc i =>
    match s.due with
    | j :: rest => if i == j then some { s with due := rest } else none
    | [] => none

def planGo (P : Program) (ops : Array Oper) (bs : Array Nat) : List Step → PS → Option PS
  | [], s => some s
  | x :: rest, s =>
    match planStep P ops bs s x with
    | some s' => planGo P ops bs rest s'
    | none => none

def planOk (P : Program) (ops : Array Oper) (steps : List Step) : Bool :=
  slotsOk ops (befores ops) &&
  match planGo P ops (befores ops) steps { done := [], effs := [], allocSince := false, due := [] } with
  | some s => s.due.isEmpty && (List.range ops.size).all fun i => s.done.contains i
  | none => false

/-! #### The code -/

/-- What is told the evaluator of a function's code: which slots are kept where ways meet and in loops, and the order of each region that draws. Any telling is sound. -/
inductive Ann where
  | nil
  | seq (a b : Ann)
  | cond (a b : Ann)
  | join (ks : List Nat) (a b : Ann)
  | joinN (ks : List Nat) (a b : Ann)
  | block (a : Ann)
  | blockJ (ks : List Nat) (a : Ann)
  | blockN (ks : List Nat) (a : Ann)
  | loop (ks : List Nat) (a : Ann)
  | loopN (ks : List Nat) (a : Ann)
  | draw (steps : List Step)

inductive Ex where
  | normal
  | ret
  | exit (id : Nat)

abbrev R := Ex × List Value

def gather (ks : List Nat) (fr : Fr) : List Value := ks.map fr
def look (vs : List Value) : List Nat → Nat → Nat → Value
  | [], _, _ => junk
  | k :: ks, j, i => bif Nat.beq k i then vs.getD j junk else look vs ks (j + 1) i
def scatter (ks : List Nat) (vs : List Value) : Fr := fun i => look vs ks 0 i

def jn (ks : List Nat) : Ex → Fr → M R := fun ex fr => M.pure (ex, gather ks fr)

def thenK {β : Type} (kn : Fr → M β) (ke : Ex → Fr → M β) : Ex → Fr → M β
  | .normal, fr => kn fr
  | .ret, fr => ke .ret fr
  | .exit j, fr => ke (.exit j) fr

def blkK {β : Type} (id : Nat) (k : Ex → Fr → M β) : Ex → Fr → M β
  | .normal, fr => k .normal fr
  | .ret, fr => k .ret fr
  | .exit j, fr => bif Nat.beq j id then k .normal fr else k (.exit j) fr

/-- The way out of a block, seen from outside. -/
def unblk (id : Nat) : Ex → Ex
  | .normal => .normal
  | .ret => .ret
  | .exit j => bif Nat.beq j id then .normal else .exit j

/-- On, if the way out is the plain one. -/
def onlyN {β : Type} (e : Ex) (m : M β) : M β :=
  match e with
  | .normal => m
  | _ => M.fail

def condB {β : Type} (v : Value) (x y : M β) : M β :=
  match v with
  | .bool true => x
  | .bool false => y
  | _ => M.fail

abbrev LoopF := (List Value → M R) → List Value → M R

noncomputable def evC {β : Type} (P : Program) (call : CallF) (lp : LoopF) (n : Nat) : Ann → Code → (Ex → Fr → M β) → Fr → M β := fun ann c => match c, ann with
  | .skip, _ => fun k fr => k .normal fr
  | .label _, _ => fun k fr => k .normal fr
  | .ret, _ => fun k fr => k .ret fr
  | .exit id, _ => fun k fr => k (.exit id) fr
  | .region _ ops false, _ => fun k fr => evOps P call n ops ops.toList (k .normal) fr
  | .region _ ops true, .draw steps => fun k fr =>
    if planOk P ops steps = true then M.bind (reserve ops.size) fun base => evSteps P call n base ops steps (fun _ => none) (k .normal) fr else M.fail
  | .seq a b, .seq x y => fun k fr => evC P call lp n x a (thenK (evC P call lp n y b k) k) fr
  | .cond c a b, .cond x y => fun k fr => condB (ev fr c) (evC P call lp n x a k fr) (evC P call lp n y b k fr)
  | .cond c a b, .join ks x y => fun k fr =>
    M.bind (condB (ev fr c) (evC P call lp n x a (jn ks) fr) (evC P call lp n y b (jn ks) fr)) fun r => k r.1 (scatter ks r.2)
  | .cond c a b, .joinN ks x y => fun k fr =>
    M.bind (condB (ev fr c) (evC P call lp n x a (jn ks) fr) (evC P call lp n y b (jn ks) fr)) fun r => onlyN r.1 (k .normal (scatter ks r.2))
  | .block id (.loop c), .loop ks x => fun k fr =>
    M.bind (lp (fun vs => evC P call lp n x c (jn ks) (scatter ks vs)) (gather ks fr)) fun r => k (unblk id r.1) (scatter ks r.2)
  | .block id (.loop c), .loopN ks x => fun k fr =>
    M.bind (lp (fun vs => evC P call lp n x c (jn ks) (scatter ks vs)) (gather ks fr)) fun r => onlyN (unblk id r.1) (k .normal (scatter ks r.2))
  | .block id c, .blockJ ks x => fun k fr =>
    M.bind (evC P call lp n x c (jn ks) fr) fun r => k (unblk id r.1) (scatter ks r.2)
  | .block id c, .blockN ks x => fun k fr =>
    M.bind (evC P call lp n x c (jn ks) fr) fun r => onlyN (unblk id r.1) (k .normal (scatter ks r.2))
  | .block id c, .block x => fun k fr => evC P call lp n x c (blkK id k) fr
  | .scope c, x => fun k fr => evC P call lp n x c k fr
  | _, _ => fun _ _ => M.fail

def resV : List Value → Value
  | [v] => v
  | vs => .tuple vs.toArray

def evRes (P : Program) (fr : Fr) : List ResultVar → (List Value → M Value) → M Value
  | [], k => k []
  | .tmp t :: rest, k => evRes P fr rest fun vs => k (fr t :: vs)
  | .cell a t :: rest, k => M.bind (load P t (fr a)) fun v => evRes P fr rest fun vs => k (v :: vs)

def k0 (P : Program) (rs : List ResultVar) : Ex → Fr → M Value
  | .normal, fr => evRes P fr rs fun vs => M.pure (resV vs)
  | .ret, fr => evRes P fr rs fun vs => M.pure (resV vs)
  | .exit _, _ => M.fail

noncomputable def evBody (P : Program) (call : CallF) (lp : LoopF) (ann : Ann) (fn : Func) (args : List Value) : M Value :=
  match fn.body with
  | some c => if args.length ≤ fn.ntmps then evC P call lp fn.ntmps ann c (k0 P fn.results.toList) (fun i => args.getD i undef) else M.fail
  | none => M.fail

/-- So many rounds. -/
def iter (step : List Value → M R) : Nat → List Value → M R
  | 0, _ => M.fail
  | n + 1, vs => M.bind (step vs) fun r => match r.1 with
    | .normal => iter step n r.2
    | _ => M.pure r

/-- What is taken as given: functions with contracts of their own, functions without a body, the tellings. -/
structure Env where
  P : Program
  ann : FuncId → Ann
  prim : FuncId → Option (List Value → M Value)

noncomputable def evFun (E : Env) : Nat → CallF
  | 0 => fun _ _ => M.fail
  | m + 1 => fun f args =>
    match E.prim f with
    | some p => p args
    | none =>
      match E.P.funcs[f]? with
      | some fn => evBody E.P (evFun E m) (fun step vs => iter step m vs) (E.ann f) fn args
      | none => M.fail

end Go.Proofs.YtepchknpgeopfaaGreatDoor.E
