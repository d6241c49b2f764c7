/- The canonical semantics of the operations: values, a heap of rows of cells, functions of both; no draws and no capacities. -/
import Derived.Calls
import Derived.Orders
set_option linter.unusedSimpArgs false
set_option linter.unusedVariables false
set_option linter.unusedSectionVars false
namespace Go.Cn

/-- canonical values -/
inductive CV where
  | undef
  | int (k : IntKind) (n : Int)
  | bool (b : Bool)
  | str (s : ByteArray)
  | ptr (b off : Nat)
  | nilp
  | slc (b off len cap k : Nat) (ex : Bool)
  | nils
  | fn (f : FuncId) (caps : List (Nat × Nat))
  | nilf
  | nili
  | ifc (t : TypeId) (x : CV)
  | agg (cs : List CV)
  | tup (vs : List CV)
  deriving Inhabited

def CV.cells : CV → List CV
  | .agg cs => cs
  | v => [v]

inductive St where | live | ro | dead | iter
  deriving DecidableEq, Inhabited

structure Blk where
  cells : List CV
  st : St
  ty : Option TypeId := none
  el : Option TypeId := none
  deriving Inhabited

abbrev Heap := List Blk
abbrev Env := Nat → CV

def Env.put (e : Env) (d : Option Nat) (v : CV) : Env := fun t => if d = some t then v else e t

def splice (l : List CV) (off : Nat) (cs : List CV) : List CV := l.take off ++ cs ++ l.drop (off + cs.length)

def Heap.ld (h : Heap) (b off n : Nat) : Option (List CV) :=
  match h[b]? with
  | some blk => if (blk.st = .live ∨ blk.st = .ro) ∧ off + n ≤ blk.cells.length then some ((blk.cells.drop off).take n) else none
  | none => none

def Heap.stc (h : Heap) (b off : Nat) (cs : List CV) : Option Heap :=
  match h[b]? with
  | some blk => if blk.st = .live ∧ off + cs.length ≤ blk.cells.length then some (h.set b { blk with cells := splice blk.cells off cs }) else none
  | none => none

def Heap.kill (h : Heap) (b : Nat) : Option Heap :=
  match h[b]? with
  | some blk => if blk.st = .live then some (h.set b { blk with st := .dead }) else none
  | none => none

/-- a value that can stand in cells -/
def CV.ok : CV → Bool
  | .tup _ | .undef => false
  | _ => true

/-- a value of one cell -/
def CV.one : CV → Bool
  | .agg _ | .tup _ | .undef => false
  | _ => true

inductive Opd where
  | t (n : Nat)
  | k (c : CV)
  deriving Inhabited

def Opd.ev (e : Env) : Opd → CV
  | .t n => e n
  | .k c => c

/-- kinds of cells that are held against each other -/
inductive LK where | int | bool | str
  deriving DecidableEq, Inhabited

inductive COp where
  | mv (x : Opd)
  | pick (c a b : Opd)
  | alloc (t : TypeId) (zs : List CV)
  | box (x : Opd)
  | build (zs : List CV) (parts : List (Nat × Nat × Opd))
  | lit (k len : Nat) (zs : List CV) (parts : List (Nat × Nat × Opd))
  | load (x : Opd)
  | loada (n : Nat) (x : Opd)
  | store (n : Nat) (a x : Opd)
  | nilck (x : Opd)
  | bin (op : BinOp) (x y : Opd)
  | eqa (ks : List LK) (neq : Bool) (x y : Opd)
  | eqn (k : Nat) (neq : Bool) (x : Opd)
  | eqb (neq : Bool) (x y : Opd)
  | un (op : UnOp) (x : Opd)
  | toint (k : IntKind) (x : Opd)
  | tobytes (x : Opd)
  | mark (x : Opd)
  | bstr (x : Opd)
  | rstr (x : Opd)
  | istr (x : Opd)
  | sstr (x : Opd)
  | mkfn (f : FuncId) (caps : List Opd)
  | mkif (t : TypeId) (x : Opd)
  | make (k bytes : Nat) (z : List CV) (l c : Opd)
  | slice (k : Nat) (x : Opd) (lo hi mx : Option Opd)
  | sslice (x : Opd) (lo hi : Option Opd)
  | faddr (off : Nat) (x : Opd)
  | fld (off : Nat) (n : Option Nat) (x : Opd)
  | iaddr (k : Nat) (x i : Opd)
  | idx (x i : Opd)
  | ext (x : Opd) (i : Nat)
  | len (x : Opd)
  | slen (x : Opd)
  | app (t : TypeId) (k bytes : Nat) (st : Bool) (s x : Opd)
  | min2 (x y : Opd)
  | max2 (x y : Opd)
  | call (f : FuncId) (args : List Opd)
  | dcall (f : Opd) (args : List Opd)
  | range (x : Opd)
  | next (x : Opd)
  | stop
  deriving Inhabited

structure CO where
  dst : Option Nat
  op : COp
  g : Option (Nat × Bool) := none
  chk : Bool := false
  avoid : List Opd := []
  deriving Inhabited

inductive CC where
  | skip
  | ops (l : List CO)
  | seq (a b : CC)
  | cond (c : Opd) (a b : CC)
  | block (id : Nat) (c : CC)
  | loop (c : CC)
  | exit (id : Nat)
  | ret
  deriving Inhabited

inductive CX where | normal | exit (id : Nat) | ret
  deriving DecidableEq, Inhabited

structure CF where
  np : Nat
  body : CC
  res : List (Nat × Option (Option Nat))
  deriving Inhabited

/-! ### operations on numbers, texts -/

def ibits (op : BinOp) (k : IntKind) (x y : Int) : Int :=
  let a := BitVec.ofInt k.bits x
  let b := BitVec.ofInt k.bits y
  match op with
  | .and => k.wrap (a &&& b).toNat
  | .or => k.wrap (a ||| b).toNat
  | .xor => k.wrap (a ^^^ b).toNat
  | _ => k.wrap (a &&& ~~~b).toNat

def cbin (op : BinOp) : CV → CV → Option CV
  | .int k x, .int k' y =>
    match op with
    | .shl => if y < 0 then none else some (.int k (k.wrap (x * 2 ^ (min y.toNat k.bits))))
    | .shr => if y < 0 then none else some (.int k (x.fdiv (2 ^ (min y.toNat k.bits))))
    | _ => if k ≠ k' then none else
      match op with
      | .add => some (.int k (k.wrap (x + y)))
      | .sub => some (.int k (k.wrap (x - y)))
      | .mul => some (.int k (k.wrap (x * y)))
      | .quo => if y = 0 then none else some (.int k (k.wrap (x.tdiv y)))
      | .rem => if y = 0 then none else some (.int k (x.tmod y))
      | .and => some (.int k (ibits .and k x y))
      | .or => some (.int k (ibits .or k x y))
      | .xor => some (.int k (ibits .xor k x y))
      | .andNot => some (.int k (ibits .andNot k x y))
      | .eql => some (.bool (decide (x = y)))
      | .neq => some (.bool (!decide (x = y)))
      | .lss => some (.bool (decide (x < y)))
      | .leq => some (.bool (decide (x ≤ y)))
      | .gtr => some (.bool (decide (x > y)))
      | .geq => some (.bool (decide (x ≥ y)))
      | _ => none
  | .str x, .str y =>
    match op with
    | .add => if ((x.size + y.size : Nat) : Int) > IntKind.i64.max then none else some (.str (x ++ y))
    | .eql => some (.bool (decide (x = y)))
    | .neq => some (.bool (!decide (x = y)))
    | .lss => some (.bool (Op.bytesLess x.toList y.toList))
    | .leq => some (.bool (Op.bytesLess x.toList y.toList || decide (x = y)))
    | .gtr => some (.bool (!(Op.bytesLess x.toList y.toList || decide (x = y))))
    | .geq => some (.bool (!Op.bytesLess x.toList y.toList))
    | _ => none
  | _, _ => none

def CV.eq1 : LK → CV → CV → Option Bool
  | .int, .int k x, .int k' y => if k = k' then some (decide (x = y)) else none
  | .bool, .bool x, .bool y => some (x == y)
  | .str, .str x, .str y => some (decide (x = y))
  | _, _, _ => none

def eqCells : List LK → List CV → List CV → Option Bool
  | [], [], [] => some true
  | k :: ks, x :: xs, y :: ys =>
    match CV.eq1 k x y, eqCells ks xs ys with
    | some a, some b => some (a && b)
    | _, _ => none
  | _, _, _ => none

def cun (op : UnOp) : CV → Option CV
  | .int k x =>
    match op with
    | .neg => some (.int k (k.wrap (0 - x)))
    | .xor => some (.int k (ibits .xor k (if k.signed then -1 else k.max) x))
    | _ => none
  | .bool b => match op with | .not => some (.bool !b) | _ => none
  | _ => none

/-- is a value nil? k: 0 pointers, 1 slices, 2 functions, 3 interfaces -/
def isNil : Nat → CV → Option Bool
  | 0, .nilp | 1, .nils | 2, .nilf | 3, .nili => some true
  | 0, .ptr .. | 1, .slc .. | 2, .fn .. | 3, .ifc .. => some false
  | _, _ => none

def fillC (cells : List CV) : List (Nat × Nat × CV) → Option (List CV)
  | [] => some cells
  | (off, n, v) :: rest => if v.ok = false ∨ v.cells.length ≠ n ∨ off + n > cells.length then none else fillC (splice cells off v.cells) rest

def bytesOf : List CV → Option ByteArray
  | [] => some ByteArray.empty
  | c :: cs => match c, bytesOf cs with | .int .u8 n, some r => some (⟨#[UInt8.ofNat n.toNat]⟩ ++ r) | _, _ => none

def runesOf : List CV → Option ByteArray
  | [] => some ByteArray.empty
  | c :: cs => match c, runesOf cs with | .int .i32 n, some r => some (Utf8.encode n ++ r) | _, _ => none

def ptrsOf : List CV → Option (List (Nat × Nat))
  | [] => some []
  | c :: cs => match c, ptrsOf cs with | .ptr b o, some r => some ((b, o) :: r) | _, _ => none

def cellsOfStr (s : ByteArray) : List CV := s.data.toList.map fun b => .int .u8 b.toNat

/-- the cells of a slice, or of a text, and how many elements -/
def srcCells (h : Heap) (k : Nat) : Bool → CV → Option (List CV × Nat)
  | false, .nils => some ([], 0)
  | false, .slc b off len _ k' _ => if k' = k then (h.ld b off (len * k)).map fun cs => (cs, len) else none
  | true, .str s => if k = 1 then some (cellsOfStr s, s.size) else none
  | _, _ => none

def capB : Nat := 2 ^ 40

/-- the element's type of the row that a slice's block came of, if it is known to be t -/
def elOf (h : Heap) (b : Nat) (t : TypeId) : Option TypeId :=
  match h[b]? with
  | some blk => if blk.el = some t then some t else none
  | none => none

def append (h : Heap) (t : TypeId) (k bytes : Nat) (st : Bool) (s x : CV) : Option (CV × Heap) :=
  match srcCells h k st x with
  | none => none
  | some (news, n) =>
    match s with
    | .nils => if n = 0 then some (.nils, h) else
        if n * bytes ≤ capB ∧ n ≤ capB then some (.slc h.length 0 n n k false, h ++ [{ cells := news, st := .live, el := some t }]) else none
    | .slc b off len cap k' ex =>
        if k' ≠ k then none else
        if n = 0 then some (s, h) else
        if len + n ≤ cap then (h.stc b (off + len * k) news).map fun h' => (.slc b off (len + n) cap k ex, h')
        else if (len + n) * bytes ≤ capB ∧ (len + n) ≤ capB then
          match h.ld b off (len * k) with
          | none => none
          | some old =>
            if ex then some (.slc h.length 0 (len + n) (len + n) k false, h ++ [{ cells := old ++ news, st := .live, el := some t }])
            else (h.kill b).map fun h' => (.slc h.length 0 (len + n) (len + n) k false, h' ++ [{ cells := old ++ news, st := .live, el := elOf h b t }])
        else none
    | _ => none

def bound (y : Nat) : CV → Option Nat
  | .int _ i => if 0 ≤ i ∧ i ≤ y then some i.toNat else none
  | _ => none

def boundO (y d : Nat) (e : Env) : Option Opd → Option Nat
  | some x => bound y (x.ev e)
  | none => some d

/-- one operation that is no call -/
def exec (e : Env) (h : Heap) : COp → Option (CV × Heap)
  | .mv x => some (x.ev e, h)
  | .pick c a b => match c.ev e with | .bool t => some (if t then a.ev e else b.ev e, h) | _ => none
  | .alloc t zs => some (.ptr h.length 0, h ++ [{ cells := zs, st := .live, ty := some t }])
  | .box x => if (x.ev e).ok then some (.ptr h.length 0, h ++ [{ cells := (x.ev e).cells, st := .live }]) else none
  | .build zs ps => match fillC zs (ps.map fun p => (p.1, p.2.1, p.2.2.ev e)) with
    | some cs => some (.agg cs, h)
    | none => none
  | .lit k len zs ps => match fillC zs (ps.map fun p => (p.1, p.2.1, p.2.2.ev e)) with
    | some cs => some (.slc h.length 0 len len k true, h ++ [{ cells := cs, st := .live }])
    | none => none
  | .load x => match x.ev e with
    | .ptr b off => match h.ld b off 1 with | some [c] => some (c, h) | _ => none
    | _ => none
  | .loada n x => match x.ev e with
    | .ptr b off => match h.ld b off n with | some cs => some (.agg cs, h) | none => none
    | _ => none
  | .store n a x => match a.ev e with
    | .ptr b off => if (x.ev e).cells.length = n ∧ (x.ev e).ok then (h.stc b off (x.ev e).cells).map fun h' => (.undef, h') else none
    | _ => none
  | .nilck x => match x.ev e with
    | .ptr b off => some (.ptr b off, h)
    | .fn f cs => some (.fn f cs, h)
    | _ => none
  | .bin op x y => (cbin op (x.ev e) (y.ev e)).map fun v => (v, h)
  | .eqa ks neq x y => match x.ev e, y.ev e with
    | .agg xs, .agg ys => (eqCells ks xs ys).map fun b => (.bool (if neq then !b else b), h)
    | _, _ => none
  | .eqn k neq x => (isNil k (x.ev e)).map fun b => (.bool (if neq then !b else b), h)
  | .eqb neq x y => match x.ev e, y.ev e with
    | .bool a, .bool b => some (.bool (if neq then !(a == b) else a == b), h)
    | _, _ => none
  | .un op x => (cun op (x.ev e)).map fun v => (v, h)
  | .toint k x => match x.ev e with | .int _ n => some (.int k (k.wrap n), h) | _ => none
  | .tobytes x => match x.ev e with
    | .str s => if s.size ≤ capB then some (.slc h.length 0 s.size s.size 1 false, h ++ [{ cells := cellsOfStr s, st := .live }]) else none
    | _ => none
  | .mark x => match x.ev e with
    | .slc b off len cap k ex => match h[b]? with
      | some blk => if blk.st = .live ∧ 0 < cap then some (.slc b off len cap k ex, h) else none
      | none => none
    | _ => none
  | .bstr x => match srcCells h 1 false (x.ev e) with
    | some (cs, _) => (bytesOf cs).map fun s => (.str s, h)
    | none => none
  | .rstr x => match srcCells h 1 false (x.ev e) with
    | some (cs, _) => (runesOf cs).map fun s => (.str s, h)
    | none => none
  | .sstr x => match x.ev e with | .str s => some (.str s, h) | _ => none
  | .istr x => match x.ev e with | .int _ n => some (.str (Utf8.encode n), h) | _ => none
  | .mkfn f caps => match ptrsOf (caps.map (Opd.ev e)) with
    | some cs => some (.fn f cs, h)
    | none => none
  | .mkif t x => if (x.ev e).one then some (.ifc t (x.ev e), h) else none
  | .make k bytes z l c => match l.ev e, c.ev e with
    | .int .i64 l, .int .i64 c =>
      if 0 ≤ l ∧ l ≤ c ∧ c * bytes ≤ capB ∧ c ≤ capB then
        some (.slc h.length 0 l.toNat c.toNat k true, h ++ [{ cells := (List.replicate c.toNat z).flatten, st := .live }])
      else none
    | _, _ => none
  | .slice k x lo hi mx => match x.ev e with
    | .nils => match boundO 0 0 e mx with
      | some m => match boundO m 0 e hi with
        | some hh => match boundO hh 0 e lo with | some _ => if mx.isSome ∧ hi.isNone then none else some (.nils, h) | none => none
        | none => none
      | none => none
    | .slc b off len cap k' ex =>
      if k' ≠ k then none else
      match boundO cap cap e mx with
      | some m => match boundO m len e hi with
        | some hh => match boundO hh 0 e lo with
          | some l => if mx.isSome ∧ hi.isNone then none else some (.slc b (off + l * k) (hh - l) (m - l) k (ex || mx.isSome), h)
          | none => none
        | none => none
      | none => none
    | _ => none
  | .sslice x lo hi => match x.ev e with
    | .str s => match boundO s.size s.size e hi with
      | some hh => match boundO hh 0 e lo with | some l => some (.str (s.extract l hh), h) | none => none
      | none => none
    | _ => none
  | .faddr off x => match x.ev e with | .ptr b o => some (.ptr b (o + off), h) | _ => none
  | .fld off n x => match x.ev e with
    | .agg cs => match n with
      | some n => if off + n ≤ cs.length then some (.agg ((cs.drop off).take n), h) else none
      | none => match cs[off]? with | some c => some (c, h) | none => none
    | _ => none
  | .iaddr k x i => match x.ev e, i.ev e with
    | .slc b off len _ k' _, .int _ i => if k' = k ∧ 0 ≤ i ∧ i < len then some (.ptr b (off + i.toNat * k), h) else none
    | _, _ => none
  | .idx x i => match x.ev e, i.ev e with
    | .str s, .int _ i => match (if 0 ≤ i then s.data.toList[i.toNat]? else none) with
      | some b => some (.int .u8 b.toNat, h)
      | none => none
    | _, _ => none
  | .ext x i => match x.ev e with
    | .tup vs => match vs[i]? with | some v => some (v, h) | none => none
    | _ => none
  | .slen x => match x.ev e with
    | .str s => some (.int .i64 s.size, h)
    | _ => none
  | .len x => match x.ev e with
    | .slc _ _ len _ _ _ => some (.int .i64 len, h)
    | .nils => some (.int .i64 0, h)
    | _ => none
  | .app t k bytes st s x => append h t k bytes st (s.ev e) (x.ev e)
  | .min2 x y => match x.ev e, y.ev e with
    | .int k a, .int _ b => some (.int k (if b < a then b else a), h)
    | _, _ => none
  | .max2 x y => match x.ev e, y.ev e with
    | .int k a, .int _ b => some (.int k (if b > a then b else a), h)
    | _, _ => none
  | .range x => match x.ev e with
    | .str s => some (.ptr h.length 0, h ++ [{ cells := [.str s, .int .i64 0], st := .iter }])
    | _ => none
  | .next x => match x.ev e with
    | .ptr b 0 => match h[b]? with
      | some { cells := [.str s, .int .i64 pos], st := .iter, ty := none, el := none } =>
        if pos < s.size ∧ 0 ≤ pos then
          some (.tup [.bool true, .int .i64 pos, .int .i32 (Utf8.decode s pos.toNat).1],
            h.set b { cells := [.str s, .int .i64 (pos + (Utf8.decode s pos.toNat).2)], st := .iter })
        else if (s.size : Int) ≤ pos then some (.tup [.bool false], h) else none
      | _ => none
    | _ => none
  | .call .. | .dcall .. | .stop => none


/-! ### the operations made plain: types looked up once -/

def cvOf1 : Value → Option CV
  | .bool b => some (.bool b)
  | .int k n => some (.int k n)
  | .string s => some (.str s)
  | .pointer none => some .nilp
  | .slice none 0 0 => some .nils
  | .nilFunc => some .nilf
  | .nilIface => some .nili
  | _ => none

def cvOfL : List Value → Option (List CV)
  | [] => some []
  | v :: vs => match cvOf1 v, cvOfL vs with | some c, some cs => some (c :: cs) | _, _ => none

def cvOf : Value → Option CV
  | .bool b => some (.bool b)
  | .int k n => some (.int k n)
  | .string s => some (.str s)
  | .pointer none => some .nilp
  | .slice none 0 0 => some .nils
  | .nilFunc => some .nilf
  | .nilIface => some .nili
  | .agg cs => (cvOfL cs.toList).map .agg
  | _ => none

def opdOf : Operand → Option Opd
  | .tmp t => some (.t t)
  | .const v => (cvOf v).map .k
  | .func f => some (.k (.fn f []))
  | .global _ => none

def cellsOfZero (v : Value) : Option (List CV) := cvOfL v.cells.toList

def optOpd : Option Operand → Option (Option Opd)
  | none => some none
  | some x => (opdOf x).map some

/-- the kinds of the cells of a type whose values are equal where their cells are: numbers, bools, texts -/
def flatOK (P : Program) : Nat → TypeId → Option (List LK)
  | 0, _ => none
  | d + 1, t =>
    match P.underlying t with
    | some (.int _) => if P.cellsOf t = 1 then some [.int] else none
    | some .bool => if P.cellsOf t = 1 then some [.bool] else none
    | some .string => if P.cellsOf t = 1 then some [.str] else none
    | some (.struct fs) =>
      if P.stoodInHeld t then none else flatFields P (flatOK P d) fs.toList 0
    | _ => none
where
  flatFields (P : Program) (r : TypeId → Option (List LK)) : List Field → Nat → Option (List LK)
  | [], _ => some []
  | f :: fs, off =>
    if f.name ≠ "_" ∧ f.offset = off then
      match r f.type with
      | some ks => if P.cellsOf f.type = ks.length then (flatFields P r fs (off + ks.length)).map (ks ++ ·) else none
      | none => none
    else none

def isAggT (P : Program) (t : TypeId) : Option Bool :=
  match P.underlying t with
  | some (.struct _) | some (.array _ _) => some true
  | some _ => some false
  | none => none

def sizeT (P : Program) (t : TypeId) : Option Nat := (P.info? t).map (·.size)
def bytesT (P : Program) (t : TypeId) : Option Nat := (P.info? t).map (·.bytes)
def zeroT (P : Program) (t : TypeId) : Option (List CV) := (P.info? t).bind fun i => i.zero.bind cellsOfZero

def nilKind : TypeDesc → Option Nat
  | .pointer _ => some 0
  | .slice _ => some 1
  | .func .. => some 2
  | .interface _ => some 3
  | _ => none

def constKind : Operand → Option Nat
  | .const (.pointer none) => some 0
  | .const (.slice none 0 0) => some 1
  | .const .nilFunc => some 2
  | .const .nilIface => some 3
  | _ => none

def partsOf (place : Nat → Option (Nat × Nat)) (ps : List (Nat × Operand)) : Option (List (Nat × Nat × Opd)) :=
  ps.mapM fun p => (place p.1).bind fun q => (opdOf p.2).map fun x => (q.1, q.2, x)

def fieldPlaces (P : Program) (fs : Array Field) (i : Nat) : Option (Nat × Nat) :=
  (fs[i]?).bind fun f => (sizeT P f.type).map fun n => (f.offset, n)

def compBin (P : Program) (op : BinOp) (t : TypeId) (x y : Operand) : Option COp :=
  match opdOf x, opdOf y with
  | some x', some y' =>
    if op = .eql ∨ op = .neq then
      match P.underlying t with
      | some (.int _) | some .string => some (.bin op x' y')
      | some .bool => some (.eqb (op == .neq) x' y')
      | some (.struct _) =>
        if P.eqGuardType P.depth t then none else
        match flatOK P Op.maxDepth t with
        | some ks => some (.eqa ks (op == .neq) x' y')
        | none => none
      | some d => match nilKind d with
        | some k => if constKind y = some k then some (.eqn k (op == .neq) x') else if constKind x = some k then some (.eqn k (op == .neq) y') else none
        | none => none
      | none => none
    else some (.bin op x' y')
  | _, _ => none

def compConv (P : Program) (src dst : TypeId) (x : Operand) : Option COp :=
  (opdOf x).bind fun x =>
  match P.underlying src, P.underlying dst with
  | some (.int _), some (.int k) => some (.toint k x)
  | some .string, some .string => some (.sstr x)
  | some (.int _), some .string => some (.istr x)
  | some .string, some (.slice e) => match P.underlying e with | some (.int .u8) => some (.tobytes x) | _ => none
  | some (.slice _), some (.slice e) => match P.underlying e with | some (.int .u8) => if src == dst then some (.mark x) else none | _ => none
  | some (.slice e), some .string => match P.underlying e with | some (.int .u8) => some (.bstr x) | some (.int .i32) => some (.rstr x) | _ => none
  | _, _ => none

def compBuiltin (P : Program) (b : Builtin) (argTypes : Array TypeId) (args : List Opd) : Option COp :=
  match b, args with
  | .len, [x] => match argTypes[0]?.bind P.underlying with | some .string => some (.slen x) | some (.slice _) => some (.len x) | _ => none
  | .append, [s, x] => match argTypes[0]?.bind P.underlying, argTypes[1]?.bind P.underlying with
    | some (.slice e), some d =>
      match d, sizeT P e, bytesT P e, (P.info? e).bind (·.zero) with
      | .slice _, some k, some b, some z => if 0 < k ∧ z.cells.size = k ∧ argTypes.size = 2 then some (.app e k b false s x) else none
      | .string, some k, some b, some z => if 0 < k ∧ z.cells.size = k ∧ argTypes.size = 2 then some (.app e k b true s x) else none
      | _, _, _, _ => none
    | _, _ => none
  | .min, [x, y] => some (.min2 x y)
  | .max, [x, y] => some (.max2 x y)
  | _, _ => none

def compOp0 (P : Program) (o : Oper) : Option COp :=
  match o.op with
  | .move x | .assign x => (opdOf x).map .mv
  | .pick c a b => match opdOf c, opdOf a, opdOf b with | some c, some a, some b => some (.pick c a b) | _, _, _ => none
  | .alloc t => (zeroT P t).map (.alloc t)
  | .box _ x => (opdOf x).map .box
  | .build t ps => match P.underlying t with
    | some (.struct fs) => match zeroT P t, partsOf (fieldPlaces P fs) ps.toList with
      | some zs, some l => if fs.all (fun f => (P.info? f.type).isSome) then some (.build zs l) else none
      | _, _ => none
    | _ => none
  | .buildSlice t len ps => match P.underlying t with
    | some (.slice e) => match sizeT P e, zeroT P e with
      | some k, some z => if 0 < k ∧ z.length = k ∧ len * k ≤ 2 ^ 24 then (partsOf (fun i => some (i * k, k)) ps.toList).map fun l => .lit k len (List.replicate len z).flatten l else none
      | _, _ => none
    | _ => none
  | .load t a => match isAggT P t, sizeT P t, opdOf a with
    | some true, some n, some a => some (.loada n a)
    | some false, _, some a => some (.load a)
    | _, _, _ => none
  | .store t a x => match sizeT P t, opdOf a, opdOf x with | some n, some a, some x => some (.store n a x) | _, _, _ => none
  | .nilCheck x => (opdOf x).map .nilck
  | .binOp op t x y _ => compBin P op t x y
  | .unOp op _ x => (opdOf x).map (.un op)
  | .convert s d x => compConv P s d x
  | .makeFunc (.func f) first caps => if first.size = 0 then (caps.toList.mapM opdOf).map (.mkfn f) else none
  | .makeInterface t x => match P.underlying t with
    | some (.interface _) | none => none
    | some _ => (opdOf x).map (.mkif t)
  | .makeSlice t l c => match P.underlying t with
    | some (.slice e) => match sizeT P e, bytesT P e, zeroT P e, opdOf l, opdOf c with
      | some k, some b, some z, some l, some c => if 0 < k ∧ z.length = k then some (.make k b z l c) else none
      | _, _, _, _, _ => none
    | _ => none
  | .slice t x lo hi mx => match P.underlying t, opdOf x, optOpd lo, optOpd hi, optOpd mx with
    | some .string, some x, some lo, some hi, some none => some (.sslice x lo hi)
    | some (.slice e), some x, some lo, some hi, some mx => (sizeT P e).map fun k => .slice k x lo hi mx
    | _, _, _, _, _ => none
  | .fieldAddr s x f => match P.underlying s with
    | some (.struct fs) => match fs[f]? with
      | some fd => match sizeT P fd.type, opdOf x with
        | some n, some x => if n ≠ 0 then some (.faddr fd.offset x) else none
        | _, _ => none
      | none => none
    | _ => none
  | .field s x f => match P.underlying s with
    | some (.struct fs) => match fs[f]? with
      | some fd => match isAggT P fd.type, sizeT P fd.type, opdOf x with
        | some true, some n, some x => some (.fld fd.offset (some n) x)
        | some false, _, some x => some (.fld fd.offset none x)
        | _, _, _ => none
      | none => none
    | _ => none
  | .indexAddr t x i => match P.underlying t with
    | some (.slice e) => match sizeT P e, opdOf x, opdOf i with | some k, some x, some i => some (.iaddr k x i) | _, _, _ => none
    | _ => none
  | .index t x i => match P.underlying t, opdOf x, opdOf i with | some .string, some x, some i => some (.idx x i) | _, _, _ => none
  | .extract x i => (opdOf x).map fun x => .ext x i
  | .range t x => match P.underlying t with | some .string => (opdOf x).map .range | _ => none
  | .next x true => (opdOf x).map .next
  | .call c => match c.args.toList.mapM opdOf with
    | none => none
    | some args => match c.callee with
      | .builtin b => compBuiltin P b c.argTypes args
      | .value (.func f) => some (.call f args)
      | .value f => (opdOf f).map fun f => .dcall f args
      | .invoke .. => none
  | _ => none

/-- an operation that is not taken stops the run, where it is come to -/
def compOp (P : Program) (o : Oper) : Option COp := some ((compOp0 P o).getD .stop)

theorem comp_cases {P : Program} {o : Oper} {c : COp} (h : compOp P o = some c) : compOp0 P o = some c ∨ c = .stop := by
  unfold compOp at h
  cases hq : compOp0 P o with
  | none => rw [hq] at h; simp at h; exact .inr h.symm
  | some d => rw [hq] at h; simp at h; exact .inl (by rw [h])

/-! ### regions -/

inductive Cls where | pure | alloc | load | mod | call
  deriving DecidableEq

def COp.cls : COp → Cls
  | .alloc .. | .box .. | .lit .. | .make .. | .tobytes .. | .range .. => .alloc
  | .load .. | .loada .. | .bstr .. | .rstr .. => .load
  | .store .. | .next .. | .app .. | .mark .. => .mod
  | .call .. | .dcall .. => .call
  | _ => .pure

/-- the operands whose blocks are read or written -/
def COp.addrs : COp → List Opd
  | .load x | .loada _ x | .bstr x | .rstr x | .next x | .mark x => [x]
  | .store _ a _ => [a]
  | .app _ _ _ _ s x => [s, x]
  | _ => []

def blockOf : CV → Option Nat
  | .ptr b _ => some b
  | .slc b _ _ _ _ _ => some b
  | _ => none

def sameBlock : Option Nat → Option Nat → Bool
  | some a, some b => a == b
  | _, _ => false

/-- no block that the operation touches is one of those to be avoided -/
def avoidOK (e : Env) (o : CO) : Bool :=
  o.avoid.all fun x => o.op.addrs.all fun y => !sameBlock (blockOf (x.ev e)) (blockOf (y.ev e))

/-- may two operations of these classes come up in either order? -/
def Cls.apart : Cls → Cls → Bool
  | .call, .call | .call, .mod | .mod, .call => false
  | _, _ => true

/-- must their blocks be apart? -/
def Cls.clash : Cls → Cls → Bool
  | .mod, .mod | .mod, .load | .load, .mod => true
  | _, _ => false

def ancOf (tab : List (Nat × Nat)) (o : Oper) : Nat :=
  o.after.toList.foldl (fun m e => if Region.binds .any e then m ||| (1 <<< e.on) ||| ((tab.lookup e.on).getD 0) else m) 0

def ancTab (ops : Array Oper) (l : List Nat) : List (Nat × Nat) :=
  l.foldl (fun tab i => match ops[i]? with | some o => (i, ancOf tab o) :: tab | none => tab) []

def greedy (ops : List (Nat × List Nat)) : Nat → List Nat → List Nat
  | 0, done => done.reverse
  | n + 1, done =>
    match ops.find? (fun x => !done.contains x.1 && x.2.all fun j => done.contains j) with
    | some x => greedy ops n (x.1 :: done)
    | none => done.reverse

def orderOf (ops : Array Oper) : List Nat :=
  let n := ops.size
  if (List.range n).all fun i => ((ops[i]?).map fun o => o.after.all fun e => !Region.binds .any e || e.on < i).getD false then List.range n
  else greedy ((List.range n).map fun i => (i, ((ops[i]?).map fun o => (o.after.toList.filter (Region.binds .any)).map (·.on)).getD [])) n []

structure Tr where
  i : Nat
  o : Oper
  c : COp

/-- pairwise: every pair that no edge puts in order may come up in either -/
def pairsOK (ops : Array Oper) (tab : List (Nat × Nat)) : List Tr → Bool
  | [] => true
  | x :: rest =>
    (rest.all fun y => Nat.testBit ((tab.lookup y.i).getD 0) x.i || (Oper.apart ops x.o y.o && Oper.apart ops y.o x.o && x.c.cls.apart y.c.cls)) && pairsOK ops tab rest

/-- every operation of the order stands behind those that it waits for -/
def topoOK (seen : List Nat) : List (Nat × Oper) → Bool
  | [] => true
  | (i, o) :: rest => !seen.contains i && (o.after.all fun e => !Region.binds .any e || seen.contains e.on) && topoOK (i :: seen) rest

/-- is a call free beside an operation that is not pure? -/
def needChk (tab : List (Nat × Nat)) (all : List Tr) (x : Tr) : Bool :=
  x.c.cls = .call && all.any fun y => y.i != x.i && y.c.cls != .pure && !Nat.testBit ((tab.lookup y.i).getD 0) x.i && !Nat.testBit ((tab.lookup x.i).getD 0) y.i

def opdFixed (l : List Tr) : Opd → Bool
  | .t n => l.all fun y => y.o.dst != some n
  | .k _ => true

/-- the operands of the operations ahead (nearest first) whose blocks must not be met; none: one of them is written between -/
def avoidOf (tab : List (Nat × Nat)) (x : Tr) : List Tr → List Tr → Option (List Opd)
  | [], _ => some []
  | y :: before, between =>
    match avoidOf tab x before (y :: between) with
    | none => none
    | some r =>
      if y.c.cls.clash x.c.cls && !Nat.testBit ((tab.lookup x.i).getD 0) y.i then
        if y.c.addrs.all (opdFixed (y :: between)) then some (y.c.addrs ++ r) else none
      else some r

def guardOf (ops : Array Oper) (o : Oper) : Option (Option (Nat × Bool)) :=
  match o.guard with
  | none => some none
  | some (j, want) => match (ops[j]?).bind (·.dst) with
    | some t => some (some (t, want))
    | none => none

def dstOK (N : Nat) : Option Nat → Bool
  | some d => d < N
  | none => true

def coOf (P : Program) (N : Nat) (ops : Array Oper) (o : Oper) (chk : Bool) (avoid : List Opd) : Option CO :=
  match compOp P o, guardOf ops o with
  | some c, some g => if dstOK N o.dst then some { dst := o.dst, op := c, g, chk, avoid } else none
  | _, _ => none

def trOf (P : Program) (ops : Array Oper) (i : Nat) : Option Tr :=
  (ops[i]?).bind fun o => (compOp P o).map fun c => { i, o, c }

/-- the operations of a region that draws, in order; 'before': those ahead, nearest first -/
def drawOps (P : Program) (N : Nat) (ops : Array Oper) (tab : List (Nat × Nat)) (all : List Tr) : List Tr → List Tr → Option (List CO)
  | _, [] => some []
  | before, x :: rest =>
    match avoidOf tab x before [] with
    | none => none
    | some av =>
      match coOf P N ops x.o (needChk tab all x) av, drawOps P N ops tab all (x :: before) rest with
      | some c, some r => some (c :: r)
      | _, _ => none

def compRegion (P : Program) (N : Nat) (ops : Array Oper) (draw : Bool) : Option (List CO) :=
  if !draw then ops.toList.mapM fun o => coOf P N ops o false []
  else
    let l := orderOf ops
    if l.length ≠ ops.size || !((List.range ops.size).all fun i => l.contains i) then none else
    match l.mapM (trOf P ops) with
    | none => none
    | some tr =>
      let tab := ancTab ops l
      if topoOK [] (tr.map fun x => (x.i, x.o)) && pairsOK ops tab tr then drawOps P N ops tab tr [] tr else none

def compCode (P : Program) (N : Nat) : Code → Option CC
  | .skip => some .skip
  | .region _ ops draw => (compRegion P N ops draw).map .ops
  | .seq a b => match compCode P N a, compCode P N b with | some a, some b => some (.seq a b) | _, _ => none
  | .cond c a b => match opdOf c, compCode P N a, compCode P N b with | some c, some a, some b => some (.cond c a b) | _, _, _ => none
  | .block id c => (compCode P N c).map (.block id)
  | .loop c => (compCode P N c).map .loop
  | .exit id => some (.exit id)
  | .ret => some .ret
  | _ => none

def compRes (P : Program) : ResultVar → Option (Nat × Option (Option Nat))
  | .tmp t => some (t, none)
  | .cell a t => match isAggT P t, sizeT P t with
    | some true, some n => some (a, some (some n))
    | some false, _ => some (a, some none)
    | _, _ => none

def compF (P : Program) (f : FuncId) : Option CF :=
  match P.funcs[f]? with
  | some fn =>
    if fn.name == "runtime.NumGoroutine" then none else
    match fn.body with
    | some c => match compCode P fn.ntmps c, fn.results.toList.mapM (compRes P) with
      | some body, some res => some { np := fn.ntmps, body, res }
      | _, _ => none
    | none => none
  | none => none

/-! ### the run -/

abbrev Hook := FuncId → List CV → Heap → Option (CV × Heap)

def initEnv (args : List CV) : Env := fun t => (args[t]?).getD .undef

def wantedC (e : Env) : Option (Nat × Bool) → Bool
  | none => true
  | some (t, b) => match e t with | .bool b' => b' == b | _ => false

def resOf (e : Env) (h : Heap) : Nat × Option (Option Nat) → Option CV
  | (t, none) => some (e t)
  | (t, some none) => match e t with
    | .ptr b off => match h.ld b off 1 with | some [c] => some c | _ => none
    | _ => none
  | (t, some (some n)) => match e t with
    | .ptr b off => (h.ld b off n).map .agg
    | _ => none

def resVal : List CV → Option CV
  | [v] => some v
  | vs => if vs.all CV.ok then some (.tup vs) else none

/-- nothing that was there has changed -/
def Heap.Ext (h h' : Heap) : Prop := ∃ x, h' = h ++ x

open Classical in
mutual
noncomputable def runOps (P : Program) (hk : Hook) : Nat → List CO → Env → Heap → Option (Env × Heap)
  | 0, _, _, _ => none
  | _ + 1, [], e, h => some (e, h)
  | n + 1, o :: r, e, h =>
    if wantedC e o.g then
      match runOp P hk n o.op e h with
      | some (v, h') => if avoidOK e o = false ∨ (o.chk = true ∧ ¬ h.Ext h') then none else runOps P hk n r (e.put o.dst v) h'
      | none => none
    else runOps P hk n r (e.put o.dst .undef) h
noncomputable def runOp (P : Program) (hk : Hook) : Nat → COp → Env → Heap → Option (CV × Heap)
  | 0, _, _, _ => none
  | n + 1, .call f args, e, h => runCall P hk n f (args.map (Opd.ev e)) h
  | n + 1, .dcall g args, e, h => match g.ev e with
    | .fn f caps => runCall P hk n f (args.map (Opd.ev e) ++ caps.map fun c => .ptr c.1 c.2) h
    | _ => none
  | _ + 1, op, e, h => exec e h op
noncomputable def runCode (P : Program) (hk : Hook) : Nat → CC → Env → Heap → Option (CX × Env × Heap)
  | 0, _, _, _ => none
  | _ + 1, .skip, e, h => some (.normal, e, h)
  | n + 1, .ops l, e, h => (runOps P hk n l e h).map fun r => (.normal, r.1, r.2)
  | n + 1, .seq a b, e, h => match runCode P hk n a e h with
    | some (.normal, e', h') => runCode P hk n b e' h'
    | r => r
  | n + 1, .cond c a b, e, h => match c.ev e with
    | .bool t => runCode P hk n (if t then a else b) e h
    | _ => none
  | n + 1, .block id c, e, h => match runCode P hk n c e h with
    | some (.exit j, e', h') => if j = id then some (.normal, e', h') else some (.exit j, e', h')
    | r => r
  | n + 1, .loop c, e, h => match runCode P hk n c e h with
    | some (.normal, e', h') => runCode P hk n (.loop c) e' h'
    | r => r
  | _ + 1, .exit id, e, h => some (.exit id, e, h)
  | _ + 1, .ret, e, h => some (.ret, e, h)
noncomputable def runCall (P : Program) (hk : Hook) : Nat → FuncId → List CV → Heap → Option (CV × Heap)
  | 0, _, _, _ => none
  | n + 1, f, args, h =>
    match hk f args h with
    | some r => some r
    | none =>
      match compF P f with
      | none => none
      | some cf =>
        if cf.np < args.length then none else
        match runCode P hk n cf.body (initEnv args) h with
        | some (.exit _, _, _) | none => none
        | some (_, e', h') => ((cf.res.mapM (resOf e' h')).bind resVal).map fun v => (v, h')
end

end Go.Cn
