/- A part of the proof of BenchRefuses: no statement of the seat's stands here. -/
import Derived.Orders
set_option linter.unusedSectionVars false
set_option linter.unusedSimpArgs false
set_option linter.unusedVariables false
set_option linter.all false
/- The abstract machine: a deterministic evaluator of the model's code over pure values. -/
namespace Go.Ev
open Go

/-- Abstract values. 'dead': nothing is known; 'junk': some value of one cell. -/
inductive V where
  | dead
  | junk
  | bool (b : Bool)
  | int (k : IntKind) (n : Int)
  | str (s : List UInt8)
  | nilptr
  | ptr (b ver o : Nat)
  | iptr (cs : List V)
  | nilsl
  | slz
  | sl (sz len : Nat) (cs : List V)
  | msl (b ver o sz len : Nat)
  | nilmap
  | map (b : Nat)
  | iter (b : Nat)
  | yield (b : Nat)
  | tptr (t : TypeId) (n : Nat) (b : Nat)
  | tnil
  | tsl (t : TypeId) (b ver len : Nat)
  | nilfunc
  | func (fn : Fn) (first caps : List V)
  | niliface
  | iface (t : TypeId) (v : V)
  | agg (cs : List V)
  | tuple (cs : List V)
  deriving Inhabited

inductive Ex where
  | normal | exit (id : Nat) | goto (l : Nat) | ret
  deriving DecidableEq, Inhabited
/-- How far a loop over a function is. -/
inductive LS where
  | ready | busy | done (e : Ex) | over
  deriving DecidableEq, Inhabited
/-- Blocks of the abstract heap. -/
inductive Blk where
  | row (cs : List V) (mu : Bool) (ver : Nat)
  | map (es : List (V × V))
  | iter (s : List UInt8) (pos : Nat)
  | loop (fn : FuncId) (tm : List V) (ps : List Nat) (assign body : Code) (st : LS)
  | miter (m : V) (since : Nat) (seen : List Nat) (last : Nat)
  deriving Inhabited

abbrev Heap := List (Option Blk)

def Heap.get (H : Heap) (b : Nat) : Option Blk := (H[b]?).getD none
def Heap.put (H : Heap) (b : Nat) (x : Option Blk) : Heap :=
  if b < H.length then H.set b x else H ++ List.replicate (b - H.length) none ++ [x]

structure Ctx where
  P : Program
  glob : Nat → V
  spec : FuncId → Option (List V → Heap → Option (V × Heap))
  ext : FuncId → Option (List V → Option V)
  mutArgs : FuncId → Bool
  keepRes : FuncId → Bool
  keepSlots : FuncId → List Nat
  /-- types whose variables bear their shape: a type, and how many cells -/
  typed : TypeId → Option (TypeId × Nat) := fun _ => none

def V.cells : V → List V
  | .agg cs => cs
  | v => [v]
/-- Can it be the content of one cell? -/
def V.scalar : V → Bool
  | .dead | .agg _ | .tuple _ => false
  | _ => true

def ofScalar : Value → V
  | .bool b => .bool b
  | .int k n => .int k n
  | .string s => .str s.data.toList
  | .pointer none => .nilptr
  | .slice none 0 0 => .nilsl
  | .map none => .nilmap
  | .nilFunc => .nilfunc
  | .nilIface => .niliface
  | _ => .dead
def ofValue : Value → V
  | .agg cs => .agg (cs.toList.map ofScalar)
  | v => ofScalar v

/- references -/
mutual
def V.refs : V → List Nat
  | .ptr b _ _ => [b]
  | .msl b _ _ _ _ => [b]
  | .map b => [b]
  | .iter b => [b]
  | .yield b => [b]
  | .tptr _ _ b => [b]
  | .tsl _ b _ _ => [b]
  | .iptr cs => refsL cs
  | .sl _ _ cs => refsL cs
  | .func _ a b => refsL a ++ refsL b
  | .iface _ v => v.refs
  | .agg cs => refsL cs
  | .tuple cs => refsL cs
  | _ => []
def refsL : List V → List Nat
  | [] => []
  | v :: r => v.refs ++ refsL r
end

/- renaming of references -/
mutual
def V.ren (m : Nat → Option Nat) : V → V
  | .ptr b ver o => match m b with | some b' => .ptr b' ver o | none => .junk
  | .msl b ver o sz len => match m b with | some b' => .msl b' ver o sz len | none => .junk
  | .map b => match m b with | some b' => .map b' | none => .junk
  | .iter b => match m b with | some b' => .iter b' | none => .junk
  | .yield b => match m b with | some b' => .yield b' | none => .junk
  | .tptr t n b => match m b with | some b' => .tptr t n b' | none => .junk
  | .tsl t b ver len => match m b with | some b' => .tsl t b' ver len | none => .junk
  | .tnil => .tnil
  | .iptr cs => .iptr (renL m cs)
  | .sl sz len cs => .sl sz len (renL m cs)
  | .func f a b => .func f (renL m a) (renL m b)
  | .iface t v => .iface t (v.ren m)
  | .agg cs => .agg (renL m cs)
  | .tuple cs => .tuple (renL m cs)
  | .dead => .dead
  | .junk => .junk
  | .bool b => .bool b
  | .int k n => .int k n
  | .str s => .str s
  | .nilptr => .nilptr
  | .nilsl => .nilsl
  | .slz => .slz
  | .nilmap => .nilmap
  | .nilfunc => .nilfunc
  | .niliface => .niliface
def renL (m : Nat → Option Nat) : List V → List V
  | [] => []
  | v :: r => v.ren m :: renL m r
end
def renEs (m : Nat → Option Nat) : List (V × V) → List (V × V)
  | [] => []
  | (k, v) :: r => (k.ren m, v.ren m) :: renEs m r
def refsEs : List (V × V) → List Nat
  | [] => []
  | (k, v) :: r => k.refs ++ v.refs ++ refsEs r
def Blk.ren (m : Nat → Option Nat) : Blk → Blk
  | .row cs mu ver => .row (renL m cs) mu ver
  | .map es => .map (renEs m es)
  | .iter s p => .iter s p
  | .loop f tm ps a b st => .loop f (renL m tm) ps a b st
  | .miter v s l t => .miter (v.ren m) s l t
def Blk.refs : Blk → List Nat
  | .row cs _ _ => refsL cs
  | .map es => refsEs es
  | .iter _ _ => []
  | .loop _ tm _ _ _ _ => refsL tm
  | .miter v _ _ _ => v.refs

def rowOf (H : Heap) (b ver : Nat) : Option (List V × Bool) :=
  match H.get b with
  | some (.row cs mu v) => if v = ver then some (cs, mu) else none
  | _ => none

/- slices that are references, as pure ones: at most 'fuel' deep -/
def V.resolve1 (H : Heap) : V → V
  | .msl b ver o sz len => match rowOf H b ver with
    | some (cs, _) => if o + len * sz ≤ cs.length then .sl sz len ((cs.drop o).take (len * sz)) else .junk
    | none => .junk
  | v => v
mutual
def V.deep (f : V → V) : V → V
  | .iptr cs => .iptr (deepL f cs)
  | .sl sz len cs => .sl sz len (deepL f cs)
  | .func g a b => .func g (deepL f a) (deepL f b)
  | .iface t v => .iface t (v.deep f)
  | .agg cs => .agg (deepL f cs)
  | .tuple cs => .tuple (deepL f cs)
  | .msl b ver o sz len => f (.msl b ver o sz len)
  | v => v
def deepL (f : V → V) : List V → List V
  | [] => []
  | v :: r => v.deep f :: deepL f r
end
mutual
def V.msls : V → List Nat
  | .msl b _ _ _ _ => [b]
  | .iptr cs => mslsL cs
  | .sl _ _ cs => mslsL cs
  | .func _ a b => mslsL a ++ mslsL b
  | .iface _ v => v.msls
  | .agg cs => mslsL cs
  | .tuple cs => mslsL cs
  | _ => []
def mslsL : List V → List Nat
  | [] => []
  | v :: r => v.msls ++ mslsL r
end
/-- A value resolved, and the rows that it then leans on. -/
def resolve (H : Heap) : Nat → V → V × List Nat
  | 0, v => (v, [])
  | n + 1, v =>
    match v.msls with
    | [] => (v, [])
    | l => let (v', l') := resolve H n (v.deep (V.resolve1 H)); (v', l ++ l')
def freezeRow (H : Heap) (b : Nat) : Heap :=
  match H.get b with
  | some (.row cs _ ver) => H.put b (some (.row cs false ver))
  | _ => H
def freezeRows (H : Heap) (l : List Nat) : Heap := l.foldl freezeRow H

/- does a value lean on no immutable memory, and on no block? -/
mutual
def V.flat : V → Bool
  | .ptr .. | .iptr _ | .sl .. | .msl .. | .map _ | .iter _ | .yield _ | .tptr .. | .tsl .. | .slz | .dead | .junk => false
  | .func _ a b => flatL a && flatL b
  | .iface _ v => v.flat
  | .agg cs => flatL cs
  | .tuple cs => flatL cs
  | _ => true
def flatL : List V → Bool
  | [] => true
  | v :: r => v.flat && flatL r
end

/- what is reached, in the order in which it is met; none: a reference leads nowhere -/
def reachGo (H : Heap) : Nat → List Nat → List Nat → Option (List Nat)
  | 0, _, seen => some seen.reverse
  | _ + 1, [], seen => some seen.reverse
  | n + 1, b :: todo, seen =>
    if seen.contains b then reachGo H n todo seen
    else match H.get b with
      | some x => reachGo H n (x.refs ++ todo) (b :: seen)
      | none => none
def reach (H : Heap) (l : List Nat) : Option (List Nat) := if l.isEmpty then some [] else reachGo H 10000 l []

def indexOf (b : Nat) : List Nat → Nat → Option Nat
  | [], _ => none
  | x :: r, i => if x = b then some i else indexOf b r (i + 1)

/-- The heap, cut down to blocks, in an order; the rest of the references is junk. -/
def subHeap (H : Heap) (l : List Nat) : Heap := l.map fun b => (H.get b).map (Blk.ren (indexOf · l 0))

/-- pins are the blocks 0 .. pins - 1, which stay where they are. -/
def canon (pins : Nat) (tm : List V) (H : Heap) : List V × Heap :=
  let p := List.range pins
  match reach H (p ++ refsL tm) with
  | none => (tm, H)
  | some l0 =>
    let l := p ++ l0.filter (fun b => decide (pins ≤ b))
    if H.length = l.length && l == List.range l.length then (tm, H)
    else (renL (indexOf · l 0) tm, subHeap H l)

structure St where
  tm : List V
  H : Heap
  deriving Inhabited

/-- What an operation does: its value, what it writes, what it reads. -/
structure Res where
  v : V
  wr : List (Nat × Blk) := []
  rd : List Nat := []
  deriving Inhabited

section
variable (X : Ctx)
def und (t : TypeId) : Option TypeDesc := X.P.underlying t
def size (t : TypeId) : Option Nat := (X.P.info? t).map (·.size)
def bytesOf (t : TypeId) : Option Nat := (X.P.info? t).map (·.bytes)
def zeroV (t : TypeId) : Option V := ((X.P.info? t).bind (·.zero)).map ofValue
def aggT (t : TypeId) : Option Bool := (und X t).map fun | .struct _ | .array _ _ => true | _ => false

def opd (tm : List V) : Operand → V
  | .tmp t => (tm[t]?).getD .dead
  | .const v => ofValue v
  | .global g => X.glob g
  | .func f => .func (.func f) [] []

/-- A slice's nil that bears its type. -/
def tnilOf : V → V
  | .nilsl => .tnil
  | v => v
def takeV (agg : Bool) (n : Nat) (cs : List V) : Option V :=
  if agg then (if n ≤ cs.length then some (.agg (cs.take n)) else none)
  else match cs with | c :: _ => some c | [] => none
def partV (t : TypeId) (cs : List V) (off : Nat) : Option V := do
  takeV (← aggT X t) (← size X t) (cs.drop off)

/-- The cells from a pointer on. -/
def cellsAt (H : Heap) : V → Option (List V × List Nat)
  | .iptr cs => some (cs, [])
  | .ptr b ver o => do let (cs, _) ← rowOf H b ver; some (cs.drop o, [b])
  | _ => none
/-- The cells of a slice: its size of an element, its length, its cells. -/
def cellsOf (H : Heap) : V → Option (Nat × List V × List Nat)
  | .nilsl => some (0, [], [])
  | .slz => some (0, [], [])
  | .sl _ len cs => some (len, cs, [])
  | .msl b ver o sz len => do
    let (cs, _) ← rowOf H b ver
    if o + len * sz ≤ cs.length then some (len, (cs.drop o).take (len * sz), [b]) else none
  | _ => none

/-- The cells of what is appended or copied. -/
def srcCells (H : Heap) : V → Option (Nat × List V × List Nat)
  | .str t => some (t.length, t.map fun b => .int .u8 b.toNat, [])
  | x => cellsOf H x
def isStr : V → Bool
  | .str _ => true
  | _ => false
def splice (cs : List V) (o : Nat) (new : List V) : List V := cs.take o ++ new ++ cs.drop (o + new.length)

def storeAt (H : Heap) (p : V) (new : List V) : Option Res :=
  match p with
  | .ptr b ver o => do
    let (cs, mu) ← rowOf H b ver
    if mu && decide (o + new.length ≤ cs.length) && new.all V.scalar then
      some { v := .dead, wr := [(b, .row (splice cs o new) true ver)], rd := [b] }
    else none
  | _ => none

def fillV (place : Nat → Option (Nat × Nat)) (cells : List V) : List (Nat × V) → Option (List V)
  | [] => some cells
  | (i, v) :: rest => do
    let (off, n) ← place i
    if v.cells.length = n && off + n ≤ cells.length && v.cells.all V.scalar then fillV place (splice cells off v.cells) rest else none

def fieldOf (t : TypeId) (f : Nat) : Option Field := do
  match ← und X t with
  | .struct fs => fs[f]?
  | _ => none

def asI : V → Option Int
  | .int _ n => some n
  | _ => none
def asN (dflt : Nat) : Option V → Option Nat
  | none => some dflt
  | some (.int _ n) => if 0 ≤ n then some n.toNat else none
  | _ => none

def maxBytes : Nat := 2 ^ 46

/- integers -/
def bits (op : BinOp) (k : IntKind) (x y : Int) : Option Int :=
  let a := BitVec.ofInt k.bits x
  let b := BitVec.ofInt k.bits y
  match op with
  | .and => some (k.wrap (a &&& b).toNat)
  | .or => some (k.wrap (a ||| b).toNat)
  | .xor => some (k.wrap (a ^^^ b).toNat)
  | .andNot => some (k.wrap (a &&& ~~~b).toNat)
  | _ => none
def intOp (op : BinOp) (k : IntKind) (x y : Int) : Option V :=
  match op with
  | .add => some (.int k (k.wrap (x + y)))
  | .sub => some (.int k (k.wrap (x - y)))
  | .mul => some (.int k (k.wrap (x * y)))
  | .quo => if y = 0 then none else some (.int k (k.wrap (x.tdiv y)))
  | .rem => if y = 0 then none else some (.int k (x.tmod y))
  | .and | .or | .xor | .andNot => (bits op k x y).map (.int k)
  | .eql => some (.bool (decide (x = y)))
  | .neq => some (.bool (!decide (x = y)))
  | .lss => some (.bool (decide (x < y)))
  | .leq => some (.bool (decide (x ≤ y)))
  | .gtr => some (.bool (decide (x > y)))
  | .geq => some (.bool (decide (x ≥ y)))
  | _ => none
def shiftOp (op : BinOp) (k : IntKind) (x y : Int) : Option V :=
  if y < 0 then none else
  let n := min y.toNat k.bits
  match op with
  | .shl => some (.int k (k.wrap (x * 2 ^ n)))
  | .shr => some (.int k (x.fdiv (2 ^ n)))
  | _ => none
def sameBytes : List UInt8 → List UInt8 → Bool
  | [], [] => true
  | a :: x, b :: y => a.toNat == b.toNat && sameBytes x y
  | _, _ => false
def lessBytes : List UInt8 → List UInt8 → Bool
  | _, [] => false
  | [], _ :: _ => true
  | a :: x, b :: y => Nat.blt a.toNat b.toNat || (a.toNat == b.toNat && lessBytes x y)
def strOp (op : BinOp) (x y : List UInt8) : Option V :=
  match op with
  | .add => if x.length + y.length ≤ maxBytes then some (.str (x ++ y)) else none
  | .eql => some (.bool (sameBytes x y))
  | .neq => some (.bool (!sameBytes x y))
  | .lss => some (.bool (lessBytes x y))
  | .leq => some (.bool (lessBytes x y || sameBytes x y))
  | .gtr => some (.bool (!(lessBytes x y || sameBytes x y)))
  | .geq => some (.bool (!lessBytes x y))
  | _ => none

/-- Two values of one cell, of a type whose values are held together as they are. -/
def eqAt (t : TypeDesc) (x y : V) : Option Bool :=
  match t, x, y with
  | .bool, .bool a, .bool b => some (a == b)
  | .int _, .int k a, .int k' b => if k = k' then some (decide (a = b)) else none
  | .string, .str a, .str b => some (sameBytes a b)
  | .pointer _, .nilptr, .nilptr => some true
  | .pointer _, .nilptr, .ptr .. | .pointer _, .ptr .., .nilptr | .pointer _, .nilptr, .iptr _ | .pointer _, .iptr _, .nilptr => some false
  | .slice _, .nilsl, .nilsl => some true
  | .slice _, .nilsl, .slz | .slice _, .slz, .nilsl | .slice _, .nilsl, .sl .. | .slice _, .sl .., .nilsl
  | .slice _, .nilsl, .msl .. | .slice _, .msl .., .nilsl => some false
  | .map _ _, .nilmap, .nilmap => some true
  | .map _ _, .nilmap, .map _ | .map _ _, .map _, .nilmap => some false
  | .func _ _ _, .nilfunc, .nilfunc => some true
  | .func _ _ _, .nilfunc, .func .. | .func _ _ _, .func .., .nilfunc => some false
  | .interface _, .niliface, .iface .. | .interface _, .iface .., .niliface => some false
  | _, _, _ => none
def eqOne (d : TypeDesc) : List V → List V → Option Bool
  | [x], [y] => eqAt d x y
  | _, _ => none
mutual
def eqT : Nat → TypeId → List V → List V → Option Bool
  | 0, _, _, _ => none
  | d + 1, t, xs, ys => do
    match ← und X t with
    | .struct fs => if X.P.stoodInHeld t then none else eqFields d fs.toList xs ys
    | .array len e => do
      let n ← size X e
      eqElems d n e (List.range len) xs ys
    | d => eqOne d xs ys
def eqFields : Nat → List Field → List V → List V → Option Bool
  | 0, _, _, _ => none
  | _ + 1, [], _, _ => some true
  | d + 1, f :: r, xs, ys => do
    if f.name = "_" then eqFields d r xs ys else
    let n ← size X f.type
    if f.offset + n ≤ xs.length && f.offset + n ≤ ys.length then
      if ← eqT d f.type ((xs.drop f.offset).take n) ((ys.drop f.offset).take n) then eqFields d r xs ys else some false
    else none
def eqElems : Nat → Nat → TypeId → List Nat → List V → List V → Option Bool
  | 0, _, _, _, _, _ => none
  | _ + 1, _, _, [], _, _ => some true
  | d + 1, n, e, i :: is, xs, ys => do
    if i * n + n ≤ xs.length && i * n + n ≤ ys.length then
      if ← eqT d e ((xs.drop (i * n)).take n) ((ys.drop (i * n)).take n) then eqElems d n e is xs ys else some false
    else none
end
def eqDepth : Nat := 600
def equalV (t : TypeId) (x y : V) : Option Bool :=
  match x, y with
  | .agg xs, .agg ys => if X.P.eqGuardType X.P.depth t || aggT X t != some true then none else eqT X eqDepth t xs ys
  | x, y => do eqAt (← und X t) x y

def binV (op : BinOp) (t : TypeId) (x y : V) : Option V :=
  match op, x, y with
  | .shl, .int k a, .int _ b => shiftOp .shl k a b
  | .shr, .int k a, .int _ b => shiftOp .shr k a b
  | _, .int k a, .int k' b => if k = k' then intOp op k a b else none
  | _, .str a, .str b => strOp op a b
  | .eql, x, y => do some (.bool (← equalV X t x y))
  | .neq, x, y => do some (.bool (!(← equalV X t x y)))
  | _, _, _ => none

def unV (op : UnOp) (x : V) : Option V :=
  match op, x with
  | .neg, .int k n => some (.int k (k.wrap (0 - n)))
  | .xor, .int k n => (bits .xor k (if k.signed then -1 else k.max) n).map (.int k)
  | .not, .bool b => some (.bool !b)
  | _, _ => none

def bytesV (s : List UInt8) : List V := s.map fun b => .int .u8 b.toNat
def strV : List V → Option (List UInt8)
  | [] => some []
  | .int .u8 n :: r => do some (UInt8.ofNat n.toNat :: (← strV r))
  | _ => none

def convV (src dst : TypeId) (x : V) (fresh : Nat → Nat) (H : Heap) : Option Res := do
  match ← und X src, ← und X dst, x with
  | .int _, .int k, .int _ n => some { v := .int k (k.wrap n) }
  | .string, .string, .str s => some { v := .str s }
  | .string, .slice e, .str s =>
    (match ← und X e with
    | .int .u8 => if s.length ≤ maxBytes then some { v := .msl (fresh 0) 0 0 1 s.length, wr := [(fresh 0, .row (bytesV s) true 0)] } else none
    | _ => none)
  | .slice e, .string, x =>
    (match ← und X e with
    | .int .u8 => do
      let (n, cs, rd) ← cellsOf H x
      if cs.length = n then some { v := .str (← strV cs), rd } else none
    | _ => none)
  | _, _, _ => none

/-- s[lo:hi:max]. -/
def sliceV (t : TypeId) (x : V) (lo hi mx : Option V) (H : Heap) : Option Res := do
  match ← und X t, x with
  | .string, .str s =>
    let h ← asN s.length hi
    let l ← asN 0 lo
    if l ≤ h && h ≤ s.length && mx.isNone then some { v := .str ((s.drop l).take (h - l)) } else none
  | .slice e, .nilsl =>
    let _ ← size X e
    let h ← asN 0 hi
    let l ← asN 0 lo
    let m ← asN 0 mx
    if h = 0 && l = 0 && m = 0 && (mx.isNone || hi.isSome) then some { v := .nilsl } else none
  | .slice e, .slz =>
    let _ ← size X e
    let h ← asN 0 hi
    let l ← asN 0 lo
    let m ← asN 0 mx
    if h = 0 && l = 0 && m = 0 && (mx.isNone || hi.isSome) then some { v := .slz } else none
  | .slice e, .sl sz len cs =>
    let h ← asN len hi
    let l ← asN 0 lo
    if (← size X e) = sz && 1 ≤ sz then
      match mx with
      | none => if l ≤ h && h ≤ len then some { v := .sl sz (h - l) ((cs.drop (l * sz)).take ((h - l) * sz)) } else none
      | some _ =>
        let m ← asN len mx
        if l = h && h = m && m ≤ len && hi.isSome then some { v := .slz } else none
    else none
  | .slice e, .msl b ver o sz len =>
    let h ← asN len hi
    let l ← asN 0 lo
    let _ ← rowOf H b ver
    if (← size X e) = sz && 1 ≤ sz then
      match mx with
      | none => if l ≤ h && h ≤ len then some { v := .msl b ver (o + l * sz) sz (h - l), rd := [b] } else none
      | some _ =>
        let m ← asN len mx
        if l = h && h = m && m ≤ len && hi.isSome then some { v := .slz, rd := [b] } else none
    else none
  | .array n e, p =>
    let sz ← size X e
    let h ← asN n hi
    let l ← asN 0 lo
    if l ≤ h && h ≤ n && mx.isNone && 1 ≤ sz then
      match p with
      | .ptr b ver o => do
        let (cs, _) ← rowOf H b ver
        if o + n * sz ≤ cs.length then some { v := .msl b ver (o + l * sz) sz (h - l), rd := [b] } else none
      | .iptr cs => if n * sz ≤ cs.length then some { v := .sl sz (h - l) ((cs.drop (l * sz)).take ((h - l) * sz)) } else none
      | _ => none
    else none
  | _, _ => none

def indexAddrV (t : TypeId) (x ix : V) (H : Heap) : Option Res := do
  let i ← asI ix
  match ← und X t, x with
  | .array n e, p =>
    let sz ← size X e
    if 0 ≤ i && i < n then
      match p with
      | .ptr b ver o => some { v := .ptr b ver (o + i.toNat * sz) }
      | .iptr cs => some { v := .iptr (cs.drop (i.toNat * sz)) }
      | _ => none
    else none
  | .slice e, .sl sz len cs => do
    if 0 ≤ i && i < len && (← size X e) = sz && 1 ≤ sz then some { v := .iptr (cs.drop (i.toNat * sz)) } else none
  | .slice e, .msl b ver o sz len => do
    let _ ← rowOf H b ver
    if 0 ≤ i && i < len && (← size X e) = sz && 1 ≤ sz then some { v := .ptr b ver (o + i.toNat * sz), rd := [b] } else none
  | _, _ => none

def fieldAddrV (t : TypeId) (p : V) (f : Nat) : Option Res := do
  let fd ← fieldOf X t f
  let n ← size X fd.type
  if n = 0 then none else
  match p with
  | .ptr b ver o => some { v := .ptr b ver (o + fd.offset) }
  | .iptr cs => some { v := .iptr (cs.drop fd.offset) }
  | .tptr t n b => if fd.offset = 0 then some { v := .tptr t n b } else some { v := .ptr b 0 fd.offset }
  | _ => none

/- maps: keys are numbers, bools, texts, or structs and arrays of these -/
def keyEq : List V → List V → Option Bool
  | [], [] => some true
  | .bool a :: x, .bool b :: y => if a == b then keyEq x y else some false
  | .int k a :: x, .int k' b :: y => if k = k' then (if a = b then keyEq x y else some false) else none
  | .str a :: x, .str b :: y => if sameBytes a b then keyEq x y else some false
  | _, _ => none
def aggAlike : V → V → Bool
  | .agg _, .agg _ => true
  | .agg _, _ | _, .agg _ => false
  | _, _ => true
/-- Are two keys the same, as the language has it? -/
def keySame (kt : TypeId) (d : TypeDesc) (k k' : V) : Option Bool :=
  match d, k, k' with
  | .bool, .bool a, .bool b => some (a == b)
  | .int _, .int a x, .int b y => if a = b then some (decide (x = y)) else none
  | .string, .str a, .str b => some (sameBytes a b)
  | .struct _, .agg xs, .agg ys => eqT X eqDepth kt xs ys
  | _, _, _ => none
def findKey (kt : TypeId) (d : TypeDesc) (k : V) : List (V × V) → Nat → Option (Option (Nat × V × V))
  | [], _ => some none
  | (k', v) :: r, i => do if ← keySame X kt d k k' then some (some (i, k', v)) else findKey kt d k r (i + 1)
def plainT (t : TypeId) : Bool := match und X t with
  | some .bool | some (.int _) | some .string => true
  | _ => false
/-- Is a value one that may be a key of a type? -/
def keyFits (d : TypeDesc) (k : V) : Bool :=
  match d, k with
  | .bool, .bool _ | .int _, .int _ _ | .string, .str _ => true
  | .struct fs, .agg xs => fs.toList.all (fun f => f.name != "_" && plainT X f.type && decide (f.offset < xs.length)) && xs.all V.scalar
  | _, _ => false
def mapOf (H : Heap) (b : Nat) : Option (List (V × V)) :=
  match H.get b with
  | some (.map es) => some es
  | _ => none

def lookupV (t : TypeId) (x ix : V) (commaOk : Bool) (H : Heap) : Option Res := do
  let .map kt et := (← und X t) | none
  let d ← und X kt
  if !keyFits X d ix then none else
  let z ← zeroV X et
  let give (r : Option (Nat × V × V)) (rd : List Nat) : Option Res :=
    let (v, ok) := match r with | some (_, _, v) => (v, true) | none => (z, false)
    some { v := if commaOk then .tuple [v, .bool ok] else v, rd }
  match x with
  | .nilmap => give none []
  | .map b => do give (← findKey X kt d ix (← mapOf H b) 0) [b]
  | _ => none

def updateV (t : TypeId) (m k v : V) (H : Heap) : Option Res := do
  let .map kt _ := (← und X t) | none
  let d ← und X kt
  if !keyFits X d k then none else
  match m with
  | .map b => do
    let es ← mapOf H b
    match ← findKey X kt d k es 0 with
    | some (i, k', _) => if keyEq k.cells k'.cells = some true && aggAlike k k' then
        some { v := .dead, wr := [(b, .map (es.set i (k, v)))], rd := [b] } else none
    | none => some { v := .dead, wr := [(b, .map (es ++ [(k, v)]))], rd := [b] }
  | _ => none

def nextV (it : V) (isString : Bool) (H : Heap) : Option Res := do
  let .iter b := it | none
  match H.get b, isString with
  | some (.iter s pos), true =>
    if pos < s.length then
      let (c, w) := Utf8.decode ⟨s.toArray⟩ pos
      some { v := .tuple [.bool true, .int .i64 pos, .int .i32 c], wr := [(b, .iter s (pos + w))], rd := [b] }
    else some { v := .tuple [.bool false], rd := [b] }
  | _, _ => none

/-- Which entry may come next; none: it is over. -/
def cands (n since : Nat) (seen : List Nat) : List (Option Nat) :=
  let left := (List.range n).filter fun i => !seen.contains i
  let old := left.filter fun i => decide (i < since)
  let new := left.filter fun i => decide (since ≤ i)
  (if old.isEmpty then [none] else []) ++ (old ++ new).map some
/-- A map's next entry, where it is the only one that may be. -/
def nextMapV (it : V) (H : Heap) : Option Res :=
  match it with
  | .iter b => match H.get b with
    | some (.miter .nilmap _ _ _) => some { v := .tuple [.bool false], rd := [b] }
    | some (.miter (.map m) since seen last) => match mapOf H m with
      | some es => if !seen.isEmpty && !es.isEmpty && last == 0 then none else
        match cands es.length since seen with
        | [some i] => match es[i]? with
          | some (k, v) => some { v := .tuple [.bool true, k, v], wr := [(b, .miter (.map m) since (seen ++ [i]) es.length)], rd := [b, m] }
          | none => none
        | [none] => some { v := .tuple [.bool false], rd := [b, m] }
        | _ => none
      | none => none
    | _ => none
  | _ => none
def entryV (it : V) (H : Heap) : Option Res :=
  match it with
  | .iter b => match H.get b with
    | some (.miter (.map m) _ seen last) => match mapOf H m, seen.getLast? with
      | some es, some i => if es.length = last then match es[i]? with
          | some (k, v) => some { v := .tuple [k, v], rd := [b, m] }
          | none => none
        else none
      | _, _ => none
    | _ => none
  | _ => none

def assertV (x : V) (t : TypeId) (commaOk : Bool) : Option Res := do
  let holds (v : V) : Option Res := some { v := if commaOk then .tuple [v, .bool true] else v }
  let fails : Option Res := do
    let z ← zeroV X t
    if commaOk then some { v := .tuple [z, .bool false] } else none
  match ← und X t, x with
  | .interface _, .niliface => fails
  | .interface want, .iface d v =>
    match X.P.info? d with
    | some i => match Instr.missingMethod want i.methods with
      | none => holds (.iface d v)
      | some _ => fails
    | none => none
  | _, .niliface => fails
  | _, .iface d v => if d = t then holds v else fails
  | _, _ => none

/- built-ins -/
def isIntT : TypeDesc → Bool
  | .int _ => true
  | _ => false
/-- Is it append(s, make([]T, n)...)? -/
def zerosT (xt : Option TypeId) : Option Bool :=
  match xt with
  | none => some false
  | some t => (und X t).map isIntT
def appendV (st : TypeId) (xt : Option TypeId) (s x : V) (fresh : Nat → Nat) (H : Heap) : Option Res := do
  let .slice e := (← und X st) | none
  let sz ← size X e
  let by' ← bytesOf X e
  let zeros ← zerosT X xt
  let z ← zeroV X e
  if zeros || sz = 0 || by' = 0 || z.cells.length != sz || !z.cells.all V.scalar then none else
  let (n, new, rd) ← srcCells H x
  if !(new.length = n * sz && new.all V.scalar && (sz = 1 || !isStr x)) then none else
  let ok (len : Nat) : Bool := decide ((2 * (len + n) + 1000) * by' ≤ maxBytes)
  match s with
  | .nilsl => if n = 0 then some { v := .nilsl, rd } else
      if ok 0 then some { v := .msl (fresh 0) 0 0 sz n, wr := [(fresh 0, .row new true 0)], rd } else none
  | .slz => if n = 0 then some { v := .slz, rd } else
      if ok 0 then some { v := .msl (fresh 0) 0 0 sz n, wr := [(fresh 0, .row new true 0)], rd } else none
  | .msl b ver o sz' len => do
    let (cs, mu) ← rowOf H b ver
    if mu && sz' = sz && o + len * sz ≤ cs.length && ok len then
      some { v := .msl b (ver + 1) 0 sz (len + n), wr := [(b, .row ((cs.drop o).take (len * sz) ++ new) true (ver + 1))], rd := b :: rd }
    else none
  | _ => none

/-- An append, behind a slice that bears its type too. -/
def appendT (st : TypeId) (xt : Option TypeId) (s x : V) (fresh : Nat → Nat) (H : Heap) : Option Res :=
  match s with
  | .tnil => match appendV X st xt .nilsl x fresh H, und X st with
    | some r, some (.slice e) => match r.v with
      | .nilsl => some { v := .tnil, wr := r.wr, rd := r.rd }
      | .msl b ver 0 1 n => some { v := .tsl e b ver n, wr := r.wr, rd := r.rd }
      | _ => none
    | _, _ => none
  | .tsl t b ver len => match appendV X st xt (.msl b ver 0 1 len) x fresh H, und X st with
    | some r, some (.slice e) => if e = t then match r.v with
        | .msl b' ver' 0 1 n => some { v := .tsl t b' ver' n, wr := r.wr, rd := r.rd }
        | _ => none
      else none
    | _, _ => none
  | s => appendV X st xt s x fresh H

def copyV (st : TypeId) (d x : V) (H : Heap) : Option Res := do
  let .slice e := (← und X st) | none
  let sz ← size X e
  let (n, cs, rd) ← srcCells H x
  if !(cs.length = n * sz && 1 ≤ sz && (sz = 1 || !isStr x)) then none else
  match d with
  | .nilsl => some { v := .int .i64 0, rd }
  | .slz => some { v := .int .i64 0, rd }
  | .msl b ver o sz' len => do
    let (row, mu) ← rowOf H b ver
    let m := Nat.min n len
    let new := cs.take (m * sz)
    if mu && sz' = sz && o + len * sz ≤ row.length && new.all V.scalar then
      some { v := .int .i64 m, wr := [(b, .row (splice row o new) true ver)], rd := b :: rd }
    else none
  | _ => none

def clearV (t : TypeId) (x : V) (H : Heap) : Option Res := do
  let .slice e := (← und X t) | none
  let sz ← size X e
  let z := (← zeroV X e).cells
  match x with
  | .nilsl => some { v := .dead }
  | .slz => some { v := .dead }
  | .msl b ver o sz' len => do
    let (row, mu) ← rowOf H b ver
    let new := (List.replicate len z).flatten
    if mu && sz' = sz && z.length = sz && o + len * sz ≤ row.length && new.all V.scalar then
      some { v := .dead, wr := [(b, .row (splice row o new) true ver)], rd := [b] }
    else none
  | .sl _ 0 _ => some { v := .dead }
  | _ => none

def minV (mx : Bool) : List V → Option V
  | [] => none
  | x :: rest => rest.foldlM (fun a b => match a, b with
    | .int k x, .int _ y => some (.int k (if (if mx then decide (y > x) else decide (y < x)) then y else x))
    | _, _ => none) x

def lenV (t : TypeId) (x : V) (H : Heap) : Option Res := do
  match ← und X t, x with
  | .string, .str s => some { v := .int .i64 s.length }
  | .array n _, _ => some { v := .int .i64 n }
  | .pointer a, _ => (match und X a with | some (.array n _) => some { v := .int .i64 n } | _ => none)
  | .slice _, .nilsl => some { v := .int .i64 0 }
  | .slice _, .slz => some { v := .int .i64 0 }
  | .slice _, .sl _ len _ => some { v := .int .i64 len }
  | .slice _, .msl _ _ _ _ len => some { v := .int .i64 len }
  | .map _ _, .nilmap => some { v := .int .i64 0 }
  | .map _ _, .map b => do let es ← mapOf H b; some { v := .int .i64 es.length, rd := [b] }
  | _, _ => none
def capV (t : TypeId) (x : V) : Option Res := do
  match ← und X t, x with
  | .slice _, .nilsl => some { v := .int .i64 0 }
  | .slice _, .slz => some { v := .int .i64 0 }
  | .array n _, _ => some { v := .int .i64 n }
  | .pointer a, _ => (match und X a with | some (.array n _) => some { v := .int .i64 n } | _ => none)
  | _, _ => none

def builtinV (b : Builtin) (ts : Array TypeId) (as : List V) (fresh : Nat → Nat) (H : Heap) : Option Res :=
  match b, ts[0]?, as with
  | .append, some st, [s, x] => appendT X st (ts[1]?) s x fresh H
  | .copy, some st, [d, x] => copyV X st d x H
  | .clear, some t, [x] => clearV X t x H
  | .len, some t, [x] => lenV X t x H
  | .cap, some t, [x] => capV X t x
  | .min, _, as => (minV false as).map fun v => { v }
  | .max, _, as => (minV true as).map fun v => { v }
  | _, _, _ => none

/-- What a call answers, in the callee's own numbers. -/
abbrev CallFn := FuncId → List V → Heap → Option (V × Heap)

def refless (v : V) : Bool := v.refs.isEmpty

/-- What a heap holds behind a call: the blocks that were handed over, and the new ones, by our numbers. -/
def mergeAt (H1 H' : Heap) (keys : List Nat) (b : Nat) : Option Blk :=
  match indexOf b keys 0 with
  | some j => (H'.get j).map (Blk.ren (keys[·]?))
  | none => H1.get b

/-- What is handed in, by the callee's numbers; what it answers, by ours. -/
def callP (mu : Bool) (call : CallFn) (f : FuncId) (as : List V) (fresh : Nat → Nat) (H : Heap) : Option Res :=
    let avf := if mu then (V.tuple as, []) else resolve H 4 (.tuple as)
    match avf.1 with
    | .tuple args =>
      let H1 := freezeRows H avf.2
      match reach H1 (refsL args) with
      | none => none
      | some l =>
      match call f (renL (indexOf · l 0) args) (subHeap H1 l) with
      | none => none
      | some (r, H') =>
        if l.isEmpty && H'.isEmpty && r.flat then some { v := r, rd := avf.2 }
        else if (H'.take l.length).all Option.isSome && l.length ≤ H'.length then
          let keys := l ++ (List.range (H'.length - l.length)).map fresh
          some { v := r.ren (keys[·]?), wr := (avf.2 ++ keys).filterMap (fun b => (mergeAt H1 H' keys b).map fun x => (b, x)), rd := avf.2 ++ keys }
        else none
    | _ => none
/-- By this number a round is called: no function bears it. -/
def yieldId : Nat := 4294967295
/-- A call out of a frame. -/
def callV (call : CallFn) (f : FuncId) (as : List V) (fresh : Nat → Nat) (H : Heap) : Option Res :=
  match X.ext f with
  | some F => (F as).map fun v => { v }
  | none => if f = yieldId then none else callP (X.mutArgs f) call f as fresh H

/-- Where a method of an interface value leads: function and receiver. -/
def methodV (t : TypeId) (v : V) (name : String) : Option (FuncId × V) := do
  let i ← X.P.info? t
  let m ← i.methods.find? (·.name == name)
  let (f, pr) ← m.func
  if m.path.isEmpty then
    match ← und X t with
    | .pointer _ => if pr then some (f, v) else none
    | _ => if pr then none else some (f, v)
  else none

def evOpR (call : CallFn) (o : Oper) (fresh : Nat → Nat) (ρ : Operand → V) (H : Heap) : Option Res :=
  match o.op with
  | .move x | .assign x => some { v := ρ x }
  | .pick c a b => match ρ c with
    | .bool true => some { v := ρ a }
    | .bool false => some { v := ρ b }
    | _ => none
  | .alloc e => do
    let z ← zeroV X e
    if z.cells.all V.scalar then (match X.typed e with
      | none => some { v := .ptr (fresh 0) 0 0, wr := [(fresh 0, .row z.cells true 0)] }
      | some (t, n) => if t = e && n = z.cells.length then some { v := .tptr t n (fresh 0), wr := [(fresh 0, .row (z.cells.map tnilOf) true 0)] } else none) else none
  | .box _ x => let v := ρ x
    if v.cells.all V.scalar then some { v := .ptr (fresh 0) 0 0, wr := [(fresh 0, .row v.cells true 0)] } else none
  | .build t parts => do
    let .agg z := (← zeroV X t) | none
    let place (i : Nat) : Option (Nat × Nat) := match und X t with
      | some (.struct fs) => match fs[i]? with
        | some f => (size X f.type).map fun n => (f.offset, n)
        | none => none
      | some (.array _ e) => (size X e).map fun n => (i * n, n)
      | _ => none
    if !(← aggT X t) then none else
    if !(match und X t with | some (.struct fs) => fs.toList.all fun f => (size X f.type).isSome | some (.array _ e) => (size X e).isSome | _ => true) then none else
    some { v := .agg (← fillV place z (parts.toList.map fun p => (p.1, ρ p.2))) }
  | .buildSlice t len parts => do
    let .slice e := (← und X t) | none
    let n ← size X e
    let z := (← zeroV X e).cells
    if !(1 ≤ n && z.length = n && len * n ≤ 65536 && z.all V.scalar) then none else
    let cs ← fillV (fun i => some (i * n, n)) (List.replicate len z).flatten (parts.toList.map fun p => (p.1, ρ p.2))
    if len = 0 then some { v := .slz } else
    some { v := .msl (fresh 0) 0 0 n len, wr := [(fresh 0, .row cs true 0)] }
  | .insert t m k v | .mapUpdate t m k v => updateV X t (ρ m) (ρ k) (ρ v) H
  | .load t a => do
    let (cs, rd) ← cellsAt H (ρ a)
    some { v := ← takeV (← aggT X t) (← size X t) cs, rd }
  | .store t a v => do
    let x := ρ v
    if x.cells.length = (← size X t) then storeAt H (ρ a) x.cells else none
  | .nilCheck x => match ρ x with
    | .ptr b ver o => some { v := .ptr b ver o }
    | .iptr cs => some { v := .iptr cs }
    | .tptr t n b => some { v := .tptr t n b }
    | _ => none
  | .binOp op t x y _ => (binV X op t (ρ x) (ρ y)).map fun v => { v }
  | .unOp op _ x => (unV op (ρ x)).map fun v => { v }
  | .convert s d x => convV X s d (ρ x) fresh H
  | .makeInterface t x => match und X t with
    | some (.interface _) | none => none
    | some _ => some { v := .iface t (ρ x) }
  | .makeFunc fn first caps => some { v := .func fn (first.toList.map ρ) (caps.toList.map ρ) }
  | .makeMap t r => (match und X t, r.map ρ with
    | some (.map _ _), none | some (.map _ _), some (.int _ _) => some { v := .map (fresh 0), wr := [(fresh 0, .map [])] }
    | _, _ => none)
  | .makeSlice t len cap => do
    let .slice e := (← und X t) | none
    let n ← size X e
    let by' ← bytesOf X e
    let z := (← zeroV X e).cells
    let l ← asI (ρ len)
    let c ← asI (ρ cap)
    if 0 ≤ l && l ≤ c && c.toNat * by' ≤ maxBytes && c ≤ maxBytes && 1 ≤ n && z.length = n && z.all V.scalar then
      if c = 0 then some { v := .slz } else
      some { v := .msl (fresh 0) 0 0 n l.toNat, wr := [(fresh 0, .row (List.replicate l.toNat z).flatten true 0)] }
    else none
  | .slice t x lo hi mx => sliceV X t (ρ x) (lo.map ρ) (hi.map ρ) (mx.map ρ) H
  | .fieldAddr t x f => fieldAddrV X t (ρ x) f
  | .field t x f => do
    let fd ← fieldOf X t f
    match ρ x with
    | .agg cs => do some { v := ← partV X fd.type cs fd.offset }
    | _ => none
  | .indexAddr t x ix => indexAddrV X t (ρ x) (ρ ix) H
  | .index t x ix => do
    let i ← asI (ρ ix)
    match ← und X t, ρ x with
    | .array n e, .agg cs => if 0 ≤ i && i < n then do some { v := ← partV X e cs (i.toNat * (← size X e)) } else none
    | .string, .str s => if 0 ≤ i then (s[i.toNat]?).map fun b => { v := .int .u8 b.toNat } else none
    | _, _ => none
  | .lookup t x ix ok => lookupV X t (ρ x) (ρ ix) ok H
  | .range t x => (match und X t, ρ x with
    | some .string, .str s => some { v := .iter (fresh 0), wr := [(fresh 0, .iter s 0)] }
    | some (.map _ _), .map m => (match mapOf H m with
      | some es => some { v := .iter (fresh 0), wr := [(fresh 0, .miter (.map m) es.length [] es.length)], rd := [m] }
      | none => none)
    | some (.map _ _), .nilmap => some { v := .iter (fresh 0), wr := [(fresh 0, .miter .nilmap 0 [] 0)] }
    | _, _ => none)
  | .next it true => nextV (ρ it) true H
  | .next it false => nextMapV (ρ it) H
  | .entry it => entryV (ρ it) H
  | .typeAssert x _ t ok => assertV X (ρ x) t ok
  | .extract t i => match ρ t with
    | .tuple vs => (vs[i]?).map fun v => { v }
    | _ => none
  | .call c => match c.callee with
    | .builtin b => builtinV X b c.argTypes (c.args.toList.map ρ) fresh H
    | .value f => (match ρ f with
      | .func (.func g) first caps => callV X call g (first ++ c.args.toList.map ρ ++ caps) fresh H
      | .func (.method name) (r :: first) _ => (match r with
        | .iface t v => (match methodV X t v name with
          | some (g, recv) => callV X call g (recv :: (first ++ c.args.toList.map ρ)) fresh H
          | none => none)
        | _ => none)
      | .yield b => callP false call yieldId (.yield b :: c.args.toList.map ρ) fresh H
      | _ => none)
    | .invoke r name => (match ρ r with
      | .iface t v => (match methodV X t v name with
        | some (g, recv) => callV X call g (recv :: c.args.toList.map ρ) fresh H
        | none => none)
      | _ => none)
  | _ => none

def evOp (call : CallFn) (o : Oper) (fresh : Nat → Nat) (tm : List V) (H : Heap) : Option Res := evOpR X call o fresh (opd X tm) H

def putTm (tm : List V) : Option Nat → V → List V
  | some d, v => tm.set d v
  | none, _ => tm
def putAll (H : Heap) (wr : List (Nat × Blk)) : Heap := wr.foldl (fun H x => H.put x.1 (some x.2)) H

/-- Is an operation wanted? none: that can't be said. -/
def wantedV (ops : Array Oper) (o : Oper) (tm : List V) : Option Bool :=
  match o.guard with
  | none => some true
  | some (j, want) => match (ops[j]?).bind (·.dst) with
    | none => none
    | some d => match tm[d]? with
      | some (.bool b) => some (b == want)
      | some (.tuple []) => some false
      | _ => none

def evStep (call : CallFn) (ops : Array Oper) (fresh : Nat → Nat → Nat) (i : Nat) (st : St) : Option (St × List Nat × List Nat) :=
  match ops[i]? with
  | none => none
  | some o => match wantedV ops o st.tm with
    | some true => match evOp X call o (fresh i) st.tm st.H with
      | some r => some (⟨putTm st.tm o.dst r.v, putAll st.H r.wr⟩, r.rd, r.wr.map (·.1))
      | none => none
    | some false => some (⟨putTm st.tm o.dst (.tuple []), st.H⟩, [], [])
    | none => none

/-- Operations, one behind the other, each at fresh places. -/
def evSeq (call : CallFn) (ops : Array Oper) : Nat → Nat → St → Option St
  | 0, _, st => some st
  | n + 1, i, st => match evStep X call ops (fun _ k => st.H.length + k) i st with
    | some (st', _) => evSeq call ops n (i + 1) st'
    | none => none

/-- What an operation touched. -/
structure Foot where
  i : Nat
  rd : List Nat
  wr : List Nat
def evTrace (call : CallFn) (ops : Array Oper) (fresh : Nat → Nat → Nat) : List Nat → St → Option (St × List Foot)
  | [], st => some (st, [])
  | i :: r, st => match evStep X call ops fresh i st with
    | some (st', rd, wr) => match evTrace call ops fresh r st' with
      | some (fin, l) => some (fin, ⟨i, rd, wr⟩ :: l)
      | none => none
    | none => none

def disjoint (a b : List Nat) : Bool := a.all fun x => !b.contains x
def Foot.apart (f g : Foot) : Bool := disjoint f.wr g.wr && disjoint f.wr g.rd && disjoint f.rd g.wr
/-- May the later of two operations come ahead of the earlier one, and if so: does it matter? -/
def mayTurn (ops : Array Oper) (bef : Array Nat) (f g : Foot) : Bool :=
  (bef.getD g.i 0).testBit f.i ||
  (Foot.apart f g && match ops[f.i]?, ops[g.i]? with
    | some x, some y => Oper.apart ops x y
    | _, _ => false)
def allTurn (ops : Array Oper) (bef : Array Nat) : List Foot → Bool
  | [] => true
  | f :: r => r.all (mayTurn ops bef f) && allTurn ops bef r

/-- Does an operation write at no place that another one has to itself, but for one ahead of it? -/
def wrOk (n0 size : Nat) (bef : Array Nat) (f : Foot) : Bool := f.wr.all fun b => decide (b < n0) || (b - n0) % size == f.i || (bef.getD f.i 0).testBit ((b - n0) % size)
/-- Does each operation come behind those that it must come behind? -/
def afterOk (ops : Array Oper) : Bool := (List.range ops.size).all fun i => match ops[i]? with
  | some o => o.after.toList.all fun e => !Region.binds .any e || decide (e.on < i)
  | none => true
def evRegion (call : CallFn) (ops : Array Oper) (draw : Bool) (st : St) : Option St :=
  if draw then
    let n0 := st.H.length
    match evTrace X call ops (fun i k => n0 + k * ops.size + i) (List.range ops.size) st with
    | some (fin, l) => if afterOk ops && allTurn ops (Region.before ops) l && l.all (wrOk n0 ops.size (Region.before ops)) then some fin else none
    | none => none
  else evSeq X call ops ops.size 0 st

/- the slots whose first place in a loop's body is one that writes them -/
def tmpsOf (xs : Array Operand) : List Nat := xs.toList.filterMap fun | .tmp t => some t | _ => none
/-- seen: read first or not at all yet; firsts: written first. -/
def firstsOps : List Oper → List Nat × List Nat → List Nat × List Nat
  | [], acc => acc
  | o :: r, (rd, wr) =>
    let rd := (tmpsOf o.op.operands).foldl (fun rd t => if rd.contains t || wr.contains t then rd else t :: rd) rd
    let wr := match o.dst with
      | some d => if rd.contains d || wr.contains d then wr else d :: wr
      | none => wr
    firstsOps r (rd, wr)
def firsts : Code → List Nat × List Nat → List Nat × List Nat
  | .region _ ops _, acc => firstsOps ops.toList acc
  | .seq a b, acc => firsts b (firsts a acc)
  | .cond c a b, (rd, wr) =>
    let rd := match c with | .tmp t => if rd.contains t || wr.contains t then rd else t :: rd | _ => rd
    firsts b (firsts a (rd, wr))
  | .block _ c, acc => firsts c acc
  | .loop c, acc => firsts c acc
  | .scope c, acc => firsts c acc
  | .rangeFunc _ _ a b, acc => firsts b (firsts a acc)
  | _, acc => acc
def clears (keep : List Nat) (body : Code) : List Nat := (firsts body ([], [])).2.filter fun t => !keep.contains t
def clearTm (l : List Nat) (tm : List V) : List V := l.foldl (fun tm t => tm.set t .dead) tm

/-- A loop's head. -/
def head (f : FuncId) (pins : Nat) (body : Code) (st : St) : St :=
  let (tm, H) := canon pins (clearTm (clears (X.keepSlots f) body) st.tm) st.H
  ⟨tm, H⟩

/-- A frame's results. -/
def resultsV (fn : Func) (tm : List V) (H : Heap) : Option V := do
  let vs ← fn.results.toList.mapM fun
    | .tmp t => some ((tm[t]?).getD .dead)
    | .cell a t => do
      let (cs, _) ← cellsAt H ((tm[a]?).getD .dead)
      takeV (← aggT X t) (← size X t) cs
  match vs with
  | [v] => some v
  | vs => some (.tuple vs)

/-- What a frame leaves behind. -/
def leave (f : FuncId) (pins : Nat) (r : V) (H : Heap) : V × Heap :=
  let (r, frz) := if X.keepRes f then (r, []) else resolve H 6 r
  match canon pins [r] (freezeRows H frz) with
  | ([r'], H') => (r', H')
  | (_, H') => (r, H')

/-- No loop over a function stands in a code. -/
def noRange : Code → Bool
  | .rangeFunc .. => false
  | .seq a b => noRange a && noRange b
  | .cond _ a b => noRange a && noRange b
  | .block _ c => noRange c
  | .loop c => noRange c
  | .scope c => noRange c
  | _ => true
/-- A round of a loop over a function. -/
def roundWith (rec : FuncId → Nat → Code → St → Option (Ex × St)) (args : List V) (H : Heap) : Option (V × Heap) :=
  match args with
  | .yield b :: ys => match H.get b with
    | some (.loop fn tm ps assign body .ready) =>
      if ys.length = ps.length && noRange assign && noRange body && decide (b < H.length) then
        match rec fn H.length assign ⟨(ps.zip ys).foldl (fun t p => t.set p.1 p.2) tm, H⟩ with
        | some (.normal, st1) => match st1.H.get b with
          | some (.loop fn1 tm1 ps1 a1 b1 .ready) =>
            match rec fn H.length body ⟨st1.tm, st1.H.put b (some (.loop fn1 tm1 ps1 a1 b1 .busy))⟩ with
            | some (ex, st2) => match st2.H.get b with
              | some (.loop fn2 tm2 ps2 a2 b2 .busy) =>
                some (leave X yieldId H.length (.bool (decide (ex = .normal))) (st2.H.put b (some (.loop fn2 tm2 ps2 a2 b2 (if ex = .normal then .ready else .done ex)))))
              | _ => none
            | none => none
          | _ => none
        | _ => none
      else none
    | _ => none
  | _ => none

def callWith (rec : FuncId → Nat → Code → St → Option (Ex × St)) (f : FuncId) (args : List V) (H : Heap) : Option (V × Heap) :=
  if f = yieldId then roundWith X rec args H else
  match X.spec f with
  | some F => F args H
  | none => match X.P.funcs[f]? with
    | none => none
    | some fn => match fn.body with
      | none => none
      | some c =>
        match rec f H.length c ⟨args ++ List.replicate (fn.ntmps - args.length) .dead, H⟩ with
        | some (.normal, st) | some (.ret, st) => match resultsV X fn st.tm st.H with
          | some r => some (leave X f H.length r st.H)
          | none => none
        | _ => none

/-- A scope: code in it, and on at a label where a goto leaves it for one. -/
def scopeLoop (run : Code → St → Option (Ex × St)) (hd : St → St) (body : Code) : Nat → Code → St → Option (Ex × St)
  | 0, _, _ => none
  | k + 1, cur, st => match run cur st with
    | some (.goto l, st') => match findLabel body l with
      | some rest => scopeLoop run hd body k rest (hd st')
      | none => some (.goto l, st')
    | r => r

def evCode : Nat → FuncId → Nat → Code → St → Option (Ex × St)
  | 0, _, _, _, _ => none
  | n + 1, f, pins, c, st =>
    match c with
    | .skip | .label _ => some (.normal, st)
    | .region _ ops draw => (evRegion X (callWith X (evCode n)) ops draw st).map fun st => (.normal, st)
    | .seq a b => match evCode n f pins a st with
      | some (.normal, st') => evCode n f pins b st'
      | r => r
    | .cond c a b => match opd X st.tm c with
      | .bool true => evCode n f pins a st
      | .bool false => evCode n f pins b st
      | _ => none
    | .block id c => match evCode n f pins c st with
      | some (.exit id', st') => if id' = id then some (.normal, st') else some (.exit id', st')
      | r => r
    | .loop c => match evCode n f pins c (head X f pins c st) with
      | some (.normal, st') => evCode n f pins (.loop c) st'
      | r => r
    | .scope c => scopeLoop (evCode n f pins) (head X f pins c) c n c st
    | .exit id => some (.exit id, st)
    | .goto l => some (.goto l, st)
    | .ret => some (.ret, st)
    | .rangeFunc g ps assign body => match opd X st.tm g with
      | .func (.func gf) first caps =>
        let l := st.H.length
        let H1 := st.H.put l (some (.loop f st.tm ps.toList assign body .ready))
        if (X.ext gf).isSome then none else
        match callV X (callWith X (evCode n)) gf (first ++ [.yield l] ++ caps) (fun k => H1.length + k) H1 with
        | some r => match (putAll H1 r.wr).get l with
          | some (.loop fn tm ps a b .ready) => some (.normal, ⟨st.tm, (putAll H1 r.wr).put l (some (.loop fn [] ps a b .over))⟩)
          | some (.loop fn tm ps a b (.done e)) => some (e, ⟨st.tm, (putAll H1 r.wr).put l (some (.loop fn [] ps a b .over))⟩)
          | _ => none
        | none => none
      | _ => none
    | .refuse _ => none

def evCall (n : Nat) : CallFn := callWith X (evCode X n)
end
end Go.Ev
