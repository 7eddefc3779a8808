/- An executable machine for the operations of Go's text, deterministic: an abstract memory whose blocks are numbered in the order of the text, and 'append' always tells a new block. What it computes is carried over to the model by DenSim. -/
import Derived.Calls
set_option linter.all false
namespace Go.Den

/-! ### trees by number: tables that the kernel can reckon with -/
inductive T (α : Type) : Type where
  | nil
  | node (v : Option α) (l r : T α)

namespace T
variable {α : Type}
def get : T α → Nat → Option α
  | .nil, _ => none
  | .node v l r, i =>
    match i with
    | 0 => v
    | i + 1 => match i % 2 with
      | 0 => l.get (i / 2)
      | _ => r.get (i / 2)
def val : T α → Option α
  | .nil => none
  | .node v _ _ => v
def left : T α → T α
  | .nil => .nil
  | .node _ l _ => l
def right : T α → T α
  | .nil => .nil
  | .node _ _ r => r
def setF : Nat → T α → Nat → Option α → T α
  | 0, t, _, v => .node v t.left t.right
  | n + 1, t, i, v =>
    match i with
    | 0 => .node v t.left t.right
    | i + 1 => match i % 2 with
      | 0 => .node t.val (setF n t.left (i / 2) v) t.right
      | _ => .node t.val t.left (setF n t.right (i / 2) v)
def set (t : T α) (i : Nat) (v : α) : T α := setF (i.log2 + 1) t i (some v)
end T

/-! ### values, memory -/
inductive V : Type where
  | bool (b : Bool)
  | int (k : IntKind) (n : Int)
  | str (s : List UInt8)
  | ptr (b o : Nat)
  | nilp
  | sl (b o n : Nat) (c : Option Nat) (es : Nat)
  | nils
  | map (r : Nat)
  | nilm
  | fn (f : Fn) (first caps : List V)
  | nilf
  | iface (t : TypeId) (v : V)
  | nili
  | agg (cs : List V)
  | tup (vs : List V)
  deriving Inhabited

abbrev undef : V := .tup []

def scal : V → Bool
  | .agg _ => false
  | .tup _ => false
  | _ => true
def V.cells : V → List V
  | .agg cs => cs
  | v => [v]

inductive Obj : Type where
  | cells (l : List V) (fam : Option Nat)
  | map (es : List (V × V))

structure H where
  m : T Obj
  f : T (Nat × Nat)
  next : Nat

def H.get (h : H) (b : Nat) : Option Obj := h.m.get b
def H.fam (h : H) (f : Nat) : Option (Nat × Nat) := h.f.get f

abbrev Env := T V
def Env.at (e : Env) (t : Nat) : V := (T.get e t).getD undef

/-- the cells of a block that may be read -/
def H.read (h : H) (b : Nat) : Option (List V) :=
  match h.get b with
  | some (.cells l none) => some l
  | some (.cells l (some f)) => match h.fam f with
    | some (_, low) => if low ≤ b then some l else none
    | none => none
  | _ => none
/-- the cells of a block that may be written, and its family -/
def H.owned (h : H) (lo b : Nat) : Option (List V × Nat × Nat) :=
  match h.get b with
  | some (.cells l (some f)) => match h.fam f with
    | some (own, low) => if own = b then (if lo ≤ b ∧ lo ≤ f then some (l, f, low) else none) else none
    | none => none
  | _ => none
def H.put (h : H) (b f : Nat) (l : List V) : H := { h with m := h.m.set b (.cells l (some f)), f := h.f.set f (b, b) }
def H.alloc (h : H) (l : List V) : H := { m := h.m.set h.next (.cells l (some h.next)), f := h.f.set h.next (h.next, h.next), next := h.next + 1 }
/-- a new block of an old family: what append tells -/
def H.more (h : H) (f low : Nat) (l : List V) : H := { m := h.m.set h.next (.cells l (some f)), f := h.f.set f (h.next, low), next := h.next + 1 }

def ofScalar : Value → Option V
  | .bool b => some (.bool b)
  | .int k n => some (.int k n)
  | .string s => some (.str s.data.toList)
  | .pointer none => some .nilp
  | .slice none 0 0 => some .nils
  | .map none => some .nilm
  | .nilFunc => some .nilf
  | .nilIface => some .nili
  | _ => none
def omap {α β : Type} (f : α → Option β) : List α → Option (List β)
  | [] => some []
  | x :: r => match f x with
    | some y => match omap f r with
      | some ys => some (y :: ys)
      | none => none
    | none => none
def ofValue : Value → Option V
  | .agg cs => (omap ofScalar cs.toList).map .agg
  | .tuple cs => if cs.size = 0 then some (.tup []) else none
  | v => ofScalar v

def ev (e : Env) : Operand → Option V
  | .tmp t => some (e.at t)
  | .const v => ofValue v
  | .global _ => none
  | .func f => some (.fn (.func f) [] [])

/-! ### what a type is -/
structure Cfg where
  P : Program
  S : FuncId → Option (List V → Nat → H → Option (V × H))

section
variable (P : Program)
def size? (t : TypeId) : Option Nat := (P.info? t).map (·.size)
def bytes? (t : TypeId) : Option Nat := (P.info? t).map (·.bytes)
def zero? (t : TypeId) : Option V := ((P.info? t).bind (·.zero)).bind ofValue
def agg? (t : TypeId) : Option Bool :=
  match P.underlying t with
  | some (.struct _) => some true
  | some (.array _ _) => some true
  | some _ => some false
  | none => none

/-! ### operations that touch no memory -/
def bytesLess : List UInt8 → List UInt8 → Bool
  | _, [] => false
  | [], _ :: _ => true
  | a :: x, b :: y => decide (a < b) || (decide (a = b) && bytesLess x y)

def intOp (op : BinOp) (k : IntKind) (a b : Int) : Option V :=
  match op with
  | .add => some (.int k (k.wrap (a + b)))
  | .sub => some (.int k (k.wrap (a - b)))
  | .mul => some (.int k (k.wrap (a * b)))
  | .quo => if b = 0 then none else some (.int k (k.wrap (a.tdiv b)))
  | .rem => if b = 0 then none else some (.int k (a.tmod b))
  | .and => some (.int k (k.wrap ((BitVec.ofInt k.bits a &&& BitVec.ofInt k.bits b).toNat : Int)))
  | .or => some (.int k (k.wrap ((BitVec.ofInt k.bits a ||| BitVec.ofInt k.bits b).toNat : Int)))
  | .xor => some (.int k (k.wrap ((BitVec.ofInt k.bits a ^^^ BitVec.ofInt k.bits b).toNat : Int)))
  | .andNot => some (.int k (k.wrap ((BitVec.ofInt k.bits a &&& ~~~(BitVec.ofInt k.bits b)).toNat : Int)))
  | .eql => some (.bool (a == b))
  | .neq => some (.bool (a != b))
  | .lss => some (.bool (decide (a < b)))
  | .leq => some (.bool (decide (a ≤ b)))
  | .gtr => some (.bool (decide (a > b)))
  | .geq => some (.bool (decide (a ≥ b)))
  | _ => none
def shiftOp (op : BinOp) (k : IntKind) (a b : Int) : Option V :=
  if b < 0 then none else
  match op with
  | .shl => some (.int k (k.wrap (a * 2 ^ (min b.toNat k.bits))))
  | .shr => some (.int k (a.fdiv (2 ^ (min b.toNat k.bits))))
  | _ => none
def strOp (op : BinOp) (x y : List UInt8) : Option V :=
  match op with
  | .add => if x.length + y.length ≤ 9223372036854775807 then some (.str (x ++ y)) else none
  | .eql => some (.bool (decide (x = y)))
  | .neq => some (.bool (!decide (x = y)))
  | .lss => some (.bool (bytesLess x y))
  | .leq => some (.bool (bytesLess x y || decide (x = y)))
  | .gtr => some (.bool (!(bytesLess x y || decide (x = y))))
  | .geq => some (.bool (!bytesLess x y))
  | _ => none
/-- '==' of values of one cell; their kinds are held against the type by DenSim's own look. -/
def eqScalar (d : TypeDesc) : V → V → Option Bool
  | .bool a, .bool b => match d with | .bool => some (a == b) | _ => none
  | .int k a, .int k' b => match d with | .int _ => if k = k' then some (a == b) else none | _ => none
  | .str a, .str b => match d with | .string => some (decide (a = b)) | _ => none
  | .nilp, .nilp => match d with | .pointer _ => some true | _ => none
  | .nilp, .ptr _ _ => match d with | .pointer _ => some false | _ => none
  | .ptr _ _, .nilp => match d with | .pointer _ => some false | _ => none
  | .nils, .nils => match d with | .slice _ => some true | _ => none
  | .nils, .sl _ _ _ _ _ => match d with | .slice _ => some false | _ => none
  | .sl _ _ _ _ _, .nils => match d with | .slice _ => some false | _ => none
  | .nilm, .nilm => match d with | .map _ _ => some true | _ => none
  | .nilm, .map _ => match d with | .map _ _ => some false | _ => none
  | .map _, .nilm => match d with | .map _ _ => some false | _ => none
  | .nilf, .nilf => match d with | .func _ _ _ => some true | _ => none
  | .nilf, .fn _ _ _ => match d with | .func _ _ _ => some false | _ => none
  | .fn _ _ _, .nilf => match d with | .func _ _ _ => some false | _ => none
  | _, _ => none
/-- the fields of a struct, each of one cell and of a plain kind -/
def eqFields : List Field → List V → List V → Option Bool
  | [], _, _ => some true
  | f :: fs, xs, ys =>
    if f.name = "_" then none else
    match P.underlying f.type, xs[f.offset]?, ys[f.offset]? with
    | some d, some x, some y => match eqScalar d x y with
      | some true => eqFields fs xs ys
      | some false => some false
      | none => none
    | _, _, _ => none
def eqElems (d : TypeDesc) : Nat → Nat → List V → List V → Option Bool
  | 0, _, _, _ => some true
  | n + 1, i, xs, ys =>
    match xs[i]?, ys[i]? with
    | some x, some y => match eqScalar d x y with
      | some true => eqElems d n (i + 1) xs ys
      | some false => some false
      | none => none
    | _, _ => none
def eqOp (t : TypeId) (x y : V) : Option Bool :=
  match P.underlying t with
  | some (.struct fs) => match x, y with
    | .agg xs, .agg ys => if P.stoodInHeld t || P.eqGuardType P.depth t then none else eqFields P fs.toList xs ys
    | _, _ => none
  | some (.array n e) => match x, y with
    | .agg xs, .agg ys => match P.underlying e, size? P e with
      | some d, some 1 => if P.eqGuardType P.depth t then none else eqElems d n 0 xs ys
      | _, _ => none
    | _, _ => none
  | some d => eqScalar d x y
  | none => none

def binV (op : BinOp) (t : TypeId) (x y : V) : Option V :=
  match x, y with
  | .int k a, .int k' b =>
    match op with
    | .shl => shiftOp op k a b
    | .shr => shiftOp op k a b
    | _ => if k = k' then intOp op k a b else none
  | .str a, .str b => strOp op a b
  | x, y =>
    match op with
    | .eql => (eqOp P t x y).map .bool
    | .neq => (eqOp P t x y).map (fun b => .bool (!b))
    | _ => none
def unV (op : UnOp) (x : V) : Option V :=
  match op, x with
  | .neg, .int k n => some (.int k (k.wrap (0 - n)))
  | .xor, .int k n => intOp .xor k (if k.signed then -1 else k.max) n
  | .not, .bool b => some (.bool !b)
  | _, _ => none

def partV (t : TypeId) (cs : List V) (off : Nat) : Option V :=
  match agg? P t, size? P t with
  | some true, some n => if off + n ≤ cs.length then some (.agg ((cs.drop off).take n)) else none
  | some false, some _ => cs[off]?
  | _, _ => none
def fieldV (t : TypeId) (x : V) (f : Nat) : Option V :=
  match P.underlying t, x with
  | some (.struct fs), .agg cs => match fs[f]? with
    | some f => partV P f.type cs f.offset
    | none => none
  | _, _ => none
def indexV (t : TypeId) (x ix : V) : Option V :=
  match P.underlying t, x, ix with
  | some (.array n e), .agg cs, .int _ i => if 0 ≤ i ∧ i < n then (match size? P e with | some s => partV P e cs (i.toNat * s) | none => none) else none
  | some .string, .str s, .int _ i => if 0 ≤ i then (match s[i.toNat]? with | some b => some (.int .u8 (b.toNat : Int)) | none => none) else none
  | _, _, _ => none
def fill1 (cells : List V) (off : Nat) (cs : List V) : Option (List V) :=
  if off + cs.length ≤ cells.length then some (cells.take off ++ cs ++ cells.drop (off + cs.length)) else none
def fillV (place : Nat → Option (Nat × Nat)) (cells : List V) : List (Nat × V) → Option (List V)
  | [] => some cells
  | (i, v) :: r =>
    match place i with
    | some (off, size) => if v.cells.length = size then (match fill1 cells off v.cells with | some cs => fillV place cs r | none => none) else none
    | none => none
def structPlace (fs : Array Field) (i : Nat) : Option (Nat × Nat) :=
  match fs[i]? with
  | some f => (size? P f.type).map fun s => (f.offset, s)
  | none => none
def buildV (t : TypeId) (parts : List (Nat × V)) : Option V :=
  match zero? P t, P.underlying t with
  | some z, some (.struct fs) => if fs.toList.all (fun f => (size? P f.type).isSome) then (fillV (structPlace P fs) z.cells parts).map .agg else none
  | some z, some (.array _ e) => match size? P e with
    | some s => (fillV (fun i => some (i * s, s)) z.cells parts).map .agg
    | none => none
  | _, _ => none
def reps (n : Nat) (z : List V) : List V := match n with
  | 0 => []
  | n + 1 => z ++ reps n z

def addrV (t : TypeId) (x ix : V) : Option V :=
  match P.underlying t, x, ix with
  | some (.array n e), .ptr b o, .int _ i => if 0 ≤ i ∧ i < n then (size? P e).map fun s => .ptr b (o + i.toNat * s) else none
  | some (.slice e), .sl b o n _ es, .int _ i => if 0 ≤ i ∧ i < n then (if size? P e = some es then some (.ptr b (o + i.toNat * es)) else none) else none
  | _, _, _ => none
def fieldAddrV (t : TypeId) (x : V) (f : Nat) : Option V :=
  match P.underlying t, x with
  | some (.struct fs), .ptr b o => match fs[f]? with
    | some f => (match size? P f.type with | some (_ + 1) => some (.ptr b (o + f.offset)) | _ => none)
    | none => none
  | _, _ => none
abbrev Rd := Nat → Option (List V)
/-- bounds: low, high, max -/
def bound (x : Option V) (dflt : Nat) (top : Nat) : Option Nat :=
  match x with
  | none => some dflt
  | some (.int _ i) => if 0 ≤ i ∧ i ≤ top then some i.toNat else none
  | some _ => none
def sliceV (rd : Rd) (t : TypeId) (x : V) (lo hi mx : Option V) : Option V :=
  match P.underlying t, x with
  | some .string, .str s =>
    if mx.isSome then none else
    match bound hi s.length s.length with
    | some h => match bound lo 0 h with
      | some l => some (.str ((s.drop l).take (h - l)))
      | none => none
    | none => none
  | some (.slice e), .sl b o n c es =>
    if size? P e = some es then
      match bound mx n n, bound hi n n with
      | some m, some h => if mx.isSome && (hi.isNone || decide (m < h)) then none else
        match bound lo 0 h with
        | some l => some (.sl b (o + l * es) (h - l) (if mx.isSome then some (m - l) else c.map (· - l)) es)
        | none => none
      | _, _ => none
    else none
  | some (.slice e), .nils =>
    match size? P e, bound mx 0 0, bound hi 0 0, bound lo 0 0 with
    | some _, some _, some _, some _ => if mx.isSome && hi.isNone then none else some .nils
    | _, _, _, _ => none
  | some (.array n e), .ptr b o =>
    match size? P e, rd b with
    | some s, some cs =>
      if o + n * s ≤ cs.length then
        match bound mx n n with
        | some m => match bound hi n m with
          | some h => if mx.isSome && hi.isNone then none else
            match bound lo 0 h with
            | some l => some (.sl b (o + l * s) (h - l) (some (m - l)) s)
            | none => none
          | none => none
        | none => none
      else none
    | _, _ => none
  | _, _ => none

/-! ### operations on memory -/
/-- what a light operation comes to: a value, or a new block and what leads to it -/
inductive NK : Type where
  | ptr
  | sl (n : Nat) (c : Option Nat) (es : Nat)
def NK.at : NK → Nat → V
  | .ptr, b => .ptr b 0
  | .sl n c es, b => .sl b 0 n c es
inductive LR : Type where
  | val (v : V)
  | new (l : List V) (k : NK)
def val (v : Option V) : Option LR := match v with
  | some v => some (.val v)
  | none => none

def loadV (t : TypeId) (x : V) (rd : Rd) : Option V :=
  match x with
  | .ptr b o => match rd b with
    | some cs => partV P t cs o
    | none => none
  | _ => none
def elems (rd : Rd) (es : Nat) : V → Option (Nat × List V)
  | .nils => some (0, [])
  | .sl b o n _ es' => if es = es' then (match rd b with
      | some cs => if o + n * es ≤ cs.length then some (n, (cs.drop o).take (n * es)) else none
      | none => none) else none
  | .str s => if es = 1 then some (s.length, s.map fun b => .int .u8 (b.toNat : Int)) else none
  | _ => none
def lenV (ts : List TypeId) (x : V) : Option V :=
  match ts with
  | [t] => match P.underlying t, x with
    | some .string, .str s => some (.int .i64 (s.length : Int))
    | some (.slice _), .sl _ _ n _ _ => some (.int .i64 (n : Int))
    | some (.slice _), .nils => some (.int .i64 0)
    | some (.array n _), _ => some (.int .i64 (n : Int))
    | some (.map _ _), .nilm => some (.int .i64 0)
    | _, _ => none
  | _ => none
def makeSliceV (t : TypeId) (l c : V) : Option LR :=
  match P.underlying t, l, c with
  | some (.slice e), .int _ n, .int _ m =>
    match P.info? e with
    | some i => match i.zero.bind ofValue with
      | some z =>
        if z.cells.length = i.size ∧ 0 ≤ n ∧ n ≤ m ∧ m ≤ 9223372036854775807 ∧ i.bytes * m ≤ 281474976710656 then
          some (.new (reps m.toNat z.cells) (.sl n.toNat (some m.toNat) i.size)) else none
      | none => none
    | none => none
  | _, _, _ => none
def buildSliceV (t : TypeId) (n : Nat) (parts : List (Nat × V)) : Option LR :=
  match P.underlying t with
  | some (.slice e) => match P.info? e with
    | some i => match i.zero.bind ofValue with
      | some z => if z.cells.length = i.size ∧ n * i.size ≤ 16777216 ∧ n ≤ 9223372036854775807 then
          (match fillV (fun j => some (j * i.size, i.size)) (reps n z.cells) parts with
            | some cs => some (.new cs (.sl n (some n) i.size))
            | none => none) else none
      | none => none
    | none => none
  | _ => none
def toByte : V → Option UInt8
  | .int .u8 n => some (UInt8.ofNat n.toNat)
  | _ => none
def convV (rd : Rd) (src dst : TypeId) (x : V) : Option LR :=
  match P.underlying src, P.underlying dst, x with
  | some (.int _), some (.int k), .int _ n => some (.val (.int k (k.wrap n)))
  | some .string, some .string, .str s => some (.val (.str s))
  | some .string, some (.slice e), .str s => match P.underlying e with
    | some (.int .u8) => if s.length ≤ 9223372036854775807 then some (.new (s.map fun b => .int .u8 (b.toNat : Int)) (.sl s.length none 1)) else none
    | _ => none
  | some (.slice e), some .string, x => match P.underlying e with
    | some (.int .u8) => match x with
      | .nils => some (.val (.str []))
      | .sl _ _ _ _ _ => match elems rd 1 x with
        | some (_, xs) => match omap toByte xs with
          | some s => some (.val (.str s))
          | none => none
        | none => none
      | _ => none
    | _ => none
  | _, _, _ => none

def evs (e : Env) (l : List Operand) : Option (List V) := omap (ev e) l
def evo (e : Env) : Option Operand → Option (Option V)
  | none => some none
  | some x => match ev e x with
    | some v => some (some v)
    | none => none
def evPart (e : Env) (p : Nat × Operand) : Option (Nat × V) := match ev e p.2 with
  | some v => some (p.1, v)
  | none => none
def evParts (e : Env) (l : List (Nat × Operand)) : Option (List (Nat × V)) := omap (evPart e) l

/-- the operations that only tell a value or make a block, reading by 'rd' alone -/
def lightOp (rd : Rd) (e : Env) (o : Op) : Option LR :=
  match o with
  | .move x => val (ev e x)
  | .assign x => val (ev e x)
  | .pick c a b => match ev e c, ev e a, ev e b with
    | some (.bool t), some x, some y => some (.val (if t then x else y))
    | _, _, _ => none
  | .alloc t => match zero? P t with
    | some z => some (.new z.cells .ptr)
    | none => none
  | .box _ x => match ev e x with
    | some v => some (.new v.cells .ptr)
    | none => none
  | .build t ps => match evParts e ps.toList with
    | some ps => val (buildV P t ps)
    | none => none
  | .buildSlice t n ps => match evParts e ps.toList with
    | some ps => buildSliceV P t n ps
    | none => none
  | .load t a => match ev e a with
    | some a => val (loadV P t a rd)
    | none => none
  | .nilCheck x => match ev e x with
    | some (.ptr b o) => some (.val (.ptr b o))
    | some (.fn (.func f) a b) => some (.val (.fn (.func f) a b))
    | _ => none
  | .binOp op t x y _ => match ev e x, ev e y with
    | some x, some y => val (binV P op t x y)
    | _, _ => none
  | .unOp op _ x => match ev e x with
    | some x => val (unV op x)
    | none => none
  | .convert s d x => match ev e x with
    | some x => convV P rd s d x
    | none => none
  | .makeFunc f a c => match evs e a.toList, evs e c.toList with
    | some a, some c => some (.val (.fn f a c))
    | _, _ => none
  | .makeSlice t l c => match ev e l, ev e c with
    | some l, some c => makeSliceV P t l c
    | _, _ => none
  | .slice t x l m k => match ev e x, evo e l, evo e m, evo e k with
    | some x, some l, some m, some k => val (sliceV P rd t x l m k)
    | _, _, _, _ => none
  | .fieldAddr t x f => match ev e x with
    | some x => val (fieldAddrV P t x f)
    | none => none
  | .field t x f => match ev e x with
    | some x => val (fieldV P t x f)
    | none => none
  | .indexAddr t x i => match ev e x, ev e i with
    | some x, some i => val (addrV P t x i)
    | _, _ => none
  | .index t x i => match ev e x, ev e i with
    | some x, some i => val (indexV P t x i)
    | _, _ => none
  | .extract x i => match ev e x with
    | some (.tup vs) => val vs[i]?
    | _ => none
  | .call { callee := .builtin .len, args, argTypes } => match evs e args.toList with
    | some [x] => val (lenV P argTypes.toList x)
    | _ => none
  | .call { callee := .builtin .max, args, .. } => match evs e args.toList with
    | some [.int k x, .int _ y] => some (.val (.int k (if y > x then y else x)))
    | _ => none
  | .call { callee := .builtin .min, args, .. } => match evs e args.toList with
    | some [.int k x, .int _ y] => some (.val (.int k (if y < x then y else x)))
    | _ => none
  | _ => none

/-! ### operations that turn memory -/
def storeV (lo : Nat) (t : TypeId) (x v : V) (h : H) : Option H :=
  match x with
  | .ptr b o => match h.owned lo b with
    | some (cs, f, _) => if size? P t = some v.cells.length ∧ v.cells.all scal = true then (match fill1 cs o v.cells with
      | some cs => some (h.put b f cs)
      | none => none) else none
    | none => none
  | _ => none
/-- is it known that there is no room? -/
def forced (c : Option Nat) (n : Nat) : Bool := match c with
  | some k => decide (k < n)
  | none => false
def appendV (lo : Nat) (ts : List TypeId) (s x : V) (h : H) : Option (V × H) :=
  match ts with
  | [t, u] => match P.underlying t, P.underlying u with
    | some (.slice e), some d => match P.info? e, (match d with | .slice _ => true | .string => true | _ => false) with
      | some i, true => match elems h.read i.size x, i.zero with
        | some (m, xs), some z =>
          if z.cells.size ≠ i.size ∨ xs.all scal = false then none else
          match s with
          | .nils => if m = 0 then some (.nils, h) else if m * i.bytes ≤ 140737488355328 ∧ m ≤ 9223372036854775807 then some (.sl h.next 0 m none i.size, h.alloc xs) else none
          | .sl b o n c es =>
            if es ≠ i.size then none else
            if m = 0 then some (s, h) else
            if (n + m) * i.bytes ≤ 140737488355328 ∧ n + m ≤ 9223372036854775807 then
              if forced c (n + m) = true then
                match h.read b with
                | some cs => if o + n * es ≤ cs.length then some (.sl h.next 0 (n + m) none es, h.alloc ((cs.drop o).take (n * es) ++ xs)) else none
                | none => none
              else
                match h.owned lo b with
                | some (cs, f, low) => if o + n * es ≤ cs.length then
                    some (.sl h.next 0 (n + m) c es, h.more f (if o + n * es = cs.length then low else h.next) ((cs.drop o).take (n * es) ++ xs)) else none
                | none => none
            else none
          | _ => none
        | _, _ => none
      | _, _ => none
    | _, _ => none
  | _ => none
def copyV (lo : Nat) (ts : List TypeId) (d s : V) (h : H) : Option (V × H) :=
  match ts with
  | [t, _] => match P.underlying t with
    | some (.slice e) => match size? P e with
      | some es => match elems h.read es s, d with
        | some _, .nils => some (.int .i64 0, h)
        | some (m, xs), .sl b o n _ es' =>
          if es ≠ es' ∨ xs.all scal = false then none else
          let k := min m n
          if k * es = 0 then some (.int .i64 (k : Int), h) else
          match h.owned lo b with
          | some (cs, f, _) => (match fill1 cs o (xs.take (k * es)) with
            | some cs => some (.int .i64 (k : Int), h.put b f cs)
            | none => none)
          | none => none
        | _, _ => none
      | none => none
    | _ => none
  | _ => none
/-- a slice of bytes converted to its own type ('[]byte("abc")'): the block is marked behind its end -/
def markV (lo : Nat) (t : TypeId) (x : V) (h : H) : Option (V × H) :=
  match P.underlying t, x with
  | some (.slice e), .sl b o n c es => match P.underlying e, h.owned lo b with
    | some (.int .u8), some _ => if n = 0 then none else some (.sl b o n c es, h)
    | _, _ => none
  | _, _ => none
def isSlice (t : TypeId) : Bool := match P.underlying t with
  | some (.slice _) => true
  | _ => false

variable (call : FuncId → List V → Nat → H → Option (V × H))
def keep (h : H) : Option LR → Option (V × H)
  | some (.val v) => some (v, h)
  | some (.new l k) => some (k.at h.next, h.alloc l)
  | none => none
def aop (lo : Nat) (e : Env) (h : H) (o : Op) : Option (V × H) :=
  match o with
  | .store t a x => match ev e a, ev e x with
    | some a, some x => match storeV P lo t a x h with
      | some h => some (undef, h)
      | none => none
    | _, _ => none
  | .convert s d x => if s = d ∧ isSlice P s = true then (match ev e x with
      | some x => markV P lo s x h
      | none => none) else keep h (lightOp P h.read e (.convert s d x))
  | .call { callee := .value f, args, .. } => match evs e args.toList, ev e f with
    | some as, some (.fn (.func f) a b) => call f (a ++ as ++ b) lo h
    | _, _ => none
  | .call { callee := .builtin .append, args, argTypes } => match evs e args.toList with
    | some [s, x] => appendV P lo argTypes.toList s x h
    | _ => none
  | .call { callee := .builtin .copy, args, argTypes } => match evs e args.toList with
    | some [d, s] => copyV P lo argTypes.toList d s h
    | _ => none
  | o => keep h (lightOp P h.read e o)
end
end Go.Den
