/- An executable machine for the operations of Go's text, deterministic: an abstract memory whose blocks are numbered in the order of the text, and 'append' always tells a new block. What it computes is carried over to the model by DenSim. -/
import Derived.Calls
import Derived.Laws.World
import Derived.Laws.Rows
import Derived.WalkKit
set_option linter.all false
namespace Go.Den

/-! ### trees by number: tables that the kernel can reckon with -/
inductive T (α : Type) : Type where
  | nil
  | node (v : Option α) (l r : T α)

namespace T
variable {α : Type}
def get : T α → Nat → Option α
  | .nil, _ => none
  | .node v l r, i =>
    match i with
    | 0 => v
    | i + 1 => match i % 2 with
      | 0 => l.get (i / 2)
      | _ => r.get (i / 2)
def val : T α → Option α
  | .nil => none
  | .node v _ _ => v
def left : T α → T α
  | .nil => .nil
  | .node _ l _ => l
def right : T α → T α
  | .nil => .nil
  | .node _ _ r => r
def setF : Nat → T α → Nat → Option α → T α
  | 0, t, _, v => .node v t.left t.right
  | n + 1, t, i, v =>
    match i with
    | 0 => .node v t.left t.right
    | i + 1 => match i % 2 with
      | 0 => .node t.val (setF n t.left (i / 2) v) t.right
      | _ => .node t.val t.left (setF n t.right (i / 2) v)
def set (t : T α) (i : Nat) (v : α) : T α := setF (i.log2 + 1) t i (some v)
end T

/-! ### values, memory -/
inductive V : Type where
  | bool (b : Bool)
  | int (k : IntKind) (n : Int)
  | str (s : List UInt8)
  | ptr (b o : Nat)
  | nilp
  | sl (b o n : Nat) (c : Option Nat) (es : Nat)
  | nils
  | map (r : Nat)
  | nilm
  | fn (f : Fn) (first caps : List V)
  | nilf
  | iface (t : TypeId) (v : V)
  | nili
  | agg (cs : List V)
  | tup (vs : List V)
  deriving Inhabited

abbrev undef : V := .tup []

def scal : V → Bool
  | .agg _ => false
  | .tup _ => false
  | _ => true
def V.cells : V → List V
  | .agg cs => cs
  | v => [v]

inductive Obj : Type where
  | cells (l : List V) (fam : Option Nat)
  | map (es : List (V × V))

structure H where
  m : T Obj
  f : T (Nat × Nat)
  next : Nat

def H.get (h : H) (b : Nat) : Option Obj := h.m.get b
def H.fam (h : H) (f : Nat) : Option (Nat × Nat) := h.f.get f

abbrev Env := T V
def Env.at (e : Env) (t : Nat) : V := (T.get e t).getD undef

/-- the cells of a block that may be read -/
def H.read (h : H) (b : Nat) : Option (List V) :=
  match h.get b with
  | some (.cells l none) => some l
  | some (.cells l (some f)) => match h.fam f with
    | some (_, low) => if low ≤ b then some l else none
    | none => none
  | _ => none
/-- the cells of a block that may be written, and its family -/
def H.owned (h : H) (lo b : Nat) : Option (List V × Nat × Nat) :=
  match h.get b with
  | some (.cells l (some f)) => match h.fam f with
    | some (own, low) => if own = b then (if lo ≤ b ∧ lo ≤ f then some (l, f, low) else none) else none
    | none => none
  | _ => none
def H.put (h : H) (b f : Nat) (l : List V) : H := { h with m := h.m.set b (.cells l (some f)), f := h.f.set f (b, b) }
def H.alloc (h : H) (l : List V) : H := { m := h.m.set h.next (.cells l (some h.next)), f := h.f.set h.next (h.next, h.next), next := h.next + 1 }
/-- a new block of an old family: what append tells -/
def H.more (h : H) (f low : Nat) (l : List V) : H := { m := h.m.set h.next (.cells l (some f)), f := h.f.set f (h.next, low), next := h.next + 1 }

def ofScalar : Value → Option V
  | .bool b => some (.bool b)
  | .int k n => some (.int k n)
  | .string s => some (.str s.data.toList)
  | .pointer none => some .nilp
  | .slice none 0 0 => some .nils
  | .map none => some .nilm
  | .nilFunc => some .nilf
  | .nilIface => some .nili
  | _ => none
def omap {α β : Type} (f : α → Option β) : List α → Option (List β)
  | [] => some []
  | x :: r => match f x with
    | some y => match omap f r with
      | some ys => some (y :: ys)
      | none => none
    | none => none
def ofValue : Value → Option V
  | .agg cs => (omap ofScalar cs.toList).map .agg
  | .tuple cs => if cs.size = 0 then some (.tup []) else none
  | v => ofScalar v

/-- where the laid package variables lie: the first blocks -/
def gAt (g : Nat) : Option Nat := if g < 1 then some g else none
def ev (e : Env) : Operand → Option V
  | .tmp t => some (e.at t)
  | .const v => ofValue v
  | .global g => (gAt g).map fun b => .ptr b 0
  | .func f => some (.fn (.func f) [] [])

/-! ### what a type is -/
structure Cfg where
  P : Program
  S : FuncId → Option (List V → Nat → H → Option (V × H))

section
variable (P : Program)
def size? (t : TypeId) : Option Nat := (P.info? t).map (·.size)
def bytes? (t : TypeId) : Option Nat := (P.info? t).map (·.bytes)
def zero? (t : TypeId) : Option V := ((P.info? t).bind (·.zero)).bind ofValue
def agg? (t : TypeId) : Option Bool :=
  match P.underlying t with
  | some (.struct _) => some true
  | some (.array _ _) => some true
  | some _ => some false
  | none => none

/-! ### operations that touch no memory -/
def bytesLess : List UInt8 → List UInt8 → Bool
  | _, [] => false
  | [], _ :: _ => true
  | a :: x, b :: y => decide (a < b) || (decide (a = b) && bytesLess x y)

def intOp (op : BinOp) (k : IntKind) (a b : Int) : Option V :=
  match op with
  | .add => some (.int k (k.wrap (a + b)))
  | .sub => some (.int k (k.wrap (a - b)))
  | .mul => some (.int k (k.wrap (a * b)))
  | .quo => if b = 0 then none else some (.int k (k.wrap (a.tdiv b)))
  | .rem => if b = 0 then none else some (.int k (a.tmod b))
  | .and => some (.int k (k.wrap ((BitVec.ofInt k.bits a &&& BitVec.ofInt k.bits b).toNat : Int)))
  | .or => some (.int k (k.wrap ((BitVec.ofInt k.bits a ||| BitVec.ofInt k.bits b).toNat : Int)))
  | .xor => some (.int k (k.wrap ((BitVec.ofInt k.bits a ^^^ BitVec.ofInt k.bits b).toNat : Int)))
  | .andNot => some (.int k (k.wrap ((BitVec.ofInt k.bits a &&& ~~~(BitVec.ofInt k.bits b)).toNat : Int)))
  | .eql => some (.bool (a == b))
  | .neq => some (.bool (a != b))
  | .lss => some (.bool (decide (a < b)))
  | .leq => some (.bool (decide (a ≤ b)))
  | .gtr => some (.bool (decide (a > b)))
  | .geq => some (.bool (decide (a ≥ b)))
  | _ => none
def shiftOp (op : BinOp) (k : IntKind) (a b : Int) : Option V :=
  if b < 0 then none else
  match op with
  | .shl => some (.int k (k.wrap (a * 2 ^ (min b.toNat k.bits))))
  | .shr => some (.int k (a.fdiv (2 ^ (min b.toNat k.bits))))
  | _ => none
def strOp (op : BinOp) (x y : List UInt8) : Option V :=
  match op with
  | .add => if x.length + y.length ≤ 9223372036854775807 then some (.str (x ++ y)) else none
  | .eql => some (.bool (decide (x = y)))
  | .neq => some (.bool (!decide (x = y)))
  | .lss => some (.bool (bytesLess x y))
  | .leq => some (.bool (bytesLess x y || decide (x = y)))
  | .gtr => some (.bool (!(bytesLess x y || decide (x = y))))
  | .geq => some (.bool (!bytesLess x y))
  | _ => none
/-- '==' of values of one cell; their kinds are held against the type by DenSim's own look. -/
def eqScalar (d : TypeDesc) : V → V → Option Bool
  | .bool a, .bool b => match d with | .bool => some (a == b) | _ => none
  | .int k a, .int k' b => match d with | .int _ => if k = k' then some (a == b) else none | _ => none
  | .str a, .str b => match d with | .string => some (decide (a = b)) | _ => none
  | .nilp, .nilp => match d with | .pointer _ => some true | _ => none
  | .nilp, .ptr _ _ => match d with | .pointer _ => some false | _ => none
  | .ptr _ _, .nilp => match d with | .pointer _ => some false | _ => none
  | .nils, .nils => match d with | .slice _ => some true | _ => none
  | .nils, .sl _ _ _ _ _ => match d with | .slice _ => some false | _ => none
  | .sl _ _ _ _ _, .nils => match d with | .slice _ => some false | _ => none
  | .nilm, .nilm => match d with | .map _ _ => some true | _ => none
  | .nilm, .map _ => match d with | .map _ _ => some false | _ => none
  | .map _, .nilm => match d with | .map _ _ => some false | _ => none
  | .nilf, .nilf => match d with | .func _ _ _ => some true | _ => none
  | .nilf, .fn _ _ _ => match d with | .func _ _ _ => some false | _ => none
  | .fn _ _ _, .nilf => match d with | .func _ _ _ => some false | _ => none
  | _, _ => none
/-- the fields of a struct, each of one cell and of a plain kind -/
def eqFields : List Field → List V → List V → Option Bool
  | [], _, _ => some true
  | f :: fs, xs, ys =>
    if f.name = "_" then none else
    match P.underlying f.type, xs[f.offset]?, ys[f.offset]? with
    | some d, some x, some y => match eqScalar d x y with
      | some true => eqFields fs xs ys
      | some false => some false
      | none => none
    | _, _, _ => none
def eqElems (d : TypeDesc) : Nat → Nat → List V → List V → Option Bool
  | 0, _, _, _ => some true
  | n + 1, i, xs, ys =>
    match xs[i]?, ys[i]? with
    | some x, some y => match eqScalar d x y with
      | some true => eqElems d n (i + 1) xs ys
      | some false => some false
      | none => none
    | _, _ => none
def eqOp (t : TypeId) (x y : V) : Option Bool :=
  match P.underlying t with
  | some (.struct fs) => match x, y with
    | .agg xs, .agg ys => if P.stoodInHeld t || P.eqGuardType P.depth t then none else eqFields P fs.toList xs ys
    | _, _ => none
  | some (.array n e) => match x, y with
    | .agg xs, .agg ys => match P.underlying e, size? P e with
      | some d, some 1 => if P.eqGuardType P.depth t then none else eqElems d n 0 xs ys
      | _, _ => none
    | _, _ => none
  | some d => eqScalar d x y
  | none => none

def binV (op : BinOp) (t : TypeId) (x y : V) : Option V :=
  match x, y with
  | .int k a, .int k' b =>
    match op with
    | .shl => shiftOp op k a b
    | .shr => shiftOp op k a b
    | _ => if k = k' then intOp op k a b else none
  | .str a, .str b => strOp op a b
  | x, y =>
    match op with
    | .eql => (eqOp P t x y).map .bool
    | .neq => (eqOp P t x y).map (fun b => .bool (!b))
    | _ => none
def unV (op : UnOp) (x : V) : Option V :=
  match op, x with
  | .neg, .int k n => some (.int k (k.wrap (0 - n)))
  | .xor, .int k n => intOp .xor k (if k.signed then -1 else k.max) n
  | .not, .bool b => some (.bool !b)
  | _, _ => none

def partV (t : TypeId) (cs : List V) (off : Nat) : Option V :=
  match agg? P t, size? P t with
  | some true, some n => if off + n ≤ cs.length then some (.agg ((cs.drop off).take n)) else none
  | some false, some _ => cs[off]?
  | _, _ => none
def fieldV (t : TypeId) (x : V) (f : Nat) : Option V :=
  match P.underlying t, x with
  | some (.struct fs), .agg cs => match fs[f]? with
    | some f => partV P f.type cs f.offset
    | none => none
  | _, _ => none
def indexV (t : TypeId) (x ix : V) : Option V :=
  match P.underlying t, x, ix with
  | some (.array n e), .agg cs, .int _ i => if 0 ≤ i ∧ i < n then (match size? P e with | some s => partV P e cs (i.toNat * s) | none => none) else none
  | some .string, .str s, .int _ i => if 0 ≤ i then (match s[i.toNat]? with | some b => some (.int .u8 (b.toNat : Int)) | none => none) else none
  | _, _, _ => none
def fill1 (cells : List V) (off : Nat) (cs : List V) : Option (List V) :=
  if off + cs.length ≤ cells.length then some (cells.take off ++ cs ++ cells.drop (off + cs.length)) else none
def fillV (place : Nat → Option (Nat × Nat)) (cells : List V) : List (Nat × V) → Option (List V)
  | [] => some cells
  | (i, v) :: r =>
    match place i with
    | some (off, size) => if v.cells.length = size then (match fill1 cells off v.cells with | some cs => fillV place cs r | none => none) else none
    | none => none
def structPlace (fs : Array Field) (i : Nat) : Option (Nat × Nat) :=
  match fs[i]? with
  | some f => (size? P f.type).map fun s => (f.offset, s)
  | none => none
def buildV (t : TypeId) (parts : List (Nat × V)) : Option V :=
  match zero? P t, P.underlying t with
  | some z, some (.struct fs) => if fs.toList.all (fun f => (size? P f.type).isSome) then (fillV (structPlace P fs) z.cells parts).map .agg else none
  | some z, some (.array _ e) => match size? P e with
    | some s => (fillV (fun i => some (i * s, s)) z.cells parts).map .agg
    | none => none
  | _, _ => none
def reps (n : Nat) (z : List V) : List V := match n with
  | 0 => []
  | n + 1 => z ++ reps n z

def addrV (t : TypeId) (x ix : V) : Option V :=
  match P.underlying t, x, ix with
  | some (.array n e), .ptr b o, .int _ i => if 0 ≤ i ∧ i < n then (size? P e).map fun s => .ptr b (o + i.toNat * s) else none
  | some (.slice e), .sl b o n _ es, .int _ i => if 0 ≤ i ∧ i < n then (if size? P e = some es then some (.ptr b (o + i.toNat * es)) else none) else none
  | _, _, _ => none
def fieldAddrV (t : TypeId) (x : V) (f : Nat) : Option V :=
  match P.underlying t, x with
  | some (.struct fs), .ptr b o => match fs[f]? with
    | some f => (match size? P f.type with | some (_ + 1) => some (.ptr b (o + f.offset)) | _ => none)
    | none => none
  | _, _ => none
abbrev Rd := Nat → Option (List V)
/-- bounds: low, high, max -/
def bound (x : Option V) (dflt : Nat) (top : Nat) : Option Nat :=
  match x with
  | none => some dflt
  | some (.int _ i) => if 0 ≤ i ∧ i ≤ top then some i.toNat else none
  | some _ => none
/-- a capacity: none (not known), k below 2^63 (k), or 2^63 + k (at least k) -/
def capOf (c : Option Nat) (n : Nat) : Nat := match c with
  | some k => max n (if k < 9223372036854775808 then k else k - 9223372036854775808)
  | none => n
def capSub (c : Option Nat) (l : Nat) : Option Nat := match c with
  | some k => some (if k < 9223372036854775808 then k - l else 9223372036854775808 + (k - 9223372036854775808 - l))
  | none => none
def capUp (c : Option Nat) (n : Nat) : Option Nat := match c with
  | some k => some (if k < 9223372036854775808 then k else max k (9223372036854775808 + n))
  | none => some (9223372036854775808 + n)
def sliceV (rd : Rd) (t : TypeId) (x : V) (lo hi mx : Option V) : Option V :=
  match P.underlying t, x with
  | some .string, .str s =>
    if mx.isSome then none else
    match bound hi s.length s.length with
    | some h => match bound lo 0 h with
      | some l => some (.str ((s.drop l).take (h - l)))
      | none => none
    | none => none
  | some (.slice e), .sl b o n c es =>
    if size? P e = some es then
      match bound mx n (capOf c n), bound hi n (capOf c n) with
      | some m, some h => if mx.isSome && (hi.isNone || decide (m < h)) then none else
        match bound lo 0 h with
        | some l => some (.sl b (o + l * es) (h - l) (if mx.isSome then some (m - l) else capSub c l) es)
        | none => none
      | _, _ => none
    else none
  | some (.slice e), .nils =>
    match size? P e, bound mx 0 0, bound hi 0 0, bound lo 0 0 with
    | some _, some _, some _, some _ => if mx.isSome && hi.isNone then none else some .nils
    | _, _, _, _ => none
  | some (.array n e), .ptr b o =>
    match size? P e, rd b with
    | some s, some cs =>
      if o + n * s ≤ cs.length then
        match bound mx n n with
        | some m => match bound hi n m with
          | some h => if mx.isSome && hi.isNone then none else
            match bound lo 0 h with
            | some l => some (.sl b (o + l * s) (h - l) (some (m - l)) s)
            | none => none
          | none => none
        | none => none
      else none
    | _, _ => none
  | _, _ => none

/-! ### operations on memory -/
/-- what a light operation comes to: a value, or a new block and what leads to it -/
inductive NK : Type where
  | ptr
  | sl (n : Nat) (c : Option Nat) (es : Nat)
def NK.at : NK → Nat → V
  | .ptr, b => .ptr b 0
  | .sl n c es, b => .sl b 0 n c es
inductive LR : Type where
  | val (v : V)
  | new (l : List V) (k : NK)
def val (v : Option V) : Option LR := match v with
  | some v => some (.val v)
  | none => none

def loadV (t : TypeId) (x : V) (rd : Rd) : Option V :=
  match x with
  | .ptr b o => match rd b with
    | some cs => partV P t cs o
    | none => none
  | _ => none
def elems (rd : Rd) (es : Nat) : V → Option (Nat × List V)
  | .nils => some (0, [])
  | .sl b o n _ es' => if es = es' then (match rd b with
      | some cs => if o + n * es ≤ cs.length then some (n, (cs.drop o).take (n * es)) else none
      | none => none) else none
  | .str s => if es = 1 then some (s.length, s.map fun b => .int .u8 (b.toNat : Int)) else none
  | _ => none
def lenV (ts : List TypeId) (x : V) : Option V :=
  match ts with
  | [t] => match P.underlying t, x with
    | some .string, .str s => some (.int .i64 (s.length : Int))
    | some (.slice _), .sl _ _ n _ _ => some (.int .i64 (n : Int))
    | some (.slice _), .nils => some (.int .i64 0)
    | some (.array n _), _ => some (.int .i64 (n : Int))
    | some (.map _ _), .nilm => some (.int .i64 0)
    | _, _ => none
  | _ => none
def makeSliceV (t : TypeId) (l c : V) : Option LR :=
  match P.underlying t, l, c with
  | some (.slice e), .int _ n, .int _ m =>
    match P.info? e with
    | some i => match i.zero.bind ofValue with
      | some z =>
        if z.cells.length = i.size ∧ 0 ≤ n ∧ n ≤ m ∧ m ≤ 9223372036854775807 ∧ i.bytes * m ≤ 281474976710656 then
          some (.new (reps m.toNat z.cells) (.sl n.toNat (some m.toNat) i.size)) else none
      | none => none
    | none => none
  | _, _, _ => none
def buildSliceV (t : TypeId) (n : Nat) (parts : List (Nat × V)) : Option LR :=
  match P.underlying t with
  | some (.slice e) => match P.info? e with
    | some i => match i.zero.bind ofValue with
      | some z => if z.cells.length = i.size ∧ n * i.size ≤ 16777216 ∧ n ≤ 9223372036854775807 then
          (match fillV (fun j => some (j * i.size, i.size)) (reps n z.cells) parts with
            | some cs => some (.new cs (.sl n (some n) i.size))
            | none => none) else none
      | none => none
    | none => none
  | _ => none
def toByte : V → Option UInt8
  | .int .u8 n => some (UInt8.ofNat n.toNat)
  | _ => none
def convV (rd : Rd) (src dst : TypeId) (x : V) : Option LR :=
  match P.underlying src, P.underlying dst, x with
  | some (.int _), some (.int k), .int _ n => some (.val (.int k (k.wrap n)))
  | some .string, some .string, .str s => some (.val (.str s))
  | some .string, some (.slice e), .str s => match P.underlying e with
    | some (.int .u8) => if s.length ≤ 9223372036854775807 then some (.new (s.map fun b => .int .u8 (b.toNat : Int)) (.sl s.length none 1)) else none
    | _ => none
  | some (.slice e), some .string, x => match P.underlying e with
    | some (.int .u8) => match x with
      | .nils => some (.val (.str []))
      | .sl _ _ _ _ _ => match elems rd 1 x with
        | some (_, xs) => match omap toByte xs with
          | some s => some (.val (.str s))
          | none => none
        | none => none
      | _ => none
    | _ => none
  | _, _, _ => none

def evs (e : Env) (l : List Operand) : Option (List V) := omap (ev e) l
def evo (e : Env) : Option Operand → Option (Option V)
  | none => some none
  | some x => match ev e x with
    | some v => some (some v)
    | none => none
def evPart (e : Env) (p : Nat × Operand) : Option (Nat × V) := match ev e p.2 with
  | some v => some (p.1, v)
  | none => none
def evParts (e : Env) (l : List (Nat × Operand)) : Option (List (Nat × V)) := omap (evPart e) l

/-- the operations that only tell a value or make a block, reading by 'rd' alone -/
def lightOp (rd : Rd) (e : Env) (o : Op) : Option LR :=
  match o with
  | .move x => val (ev e x)
  | .assign x => val (ev e x)
  | .pick c a b => match ev e c, ev e a, ev e b with
    | some (.bool t), some x, some y => some (.val (if t then x else y))
    | _, _, _ => none
  | .alloc t => match zero? P t with
    | some z => some (.new z.cells .ptr)
    | none => none
  | .box _ x => match ev e x with
    | some v => some (.new v.cells .ptr)
    | none => none
  | .build t ps => match evParts e ps.toList with
    | some ps => val (buildV P t ps)
    | none => none
  | .buildSlice t n ps => match evParts e ps.toList with
    | some ps => buildSliceV P t n ps
    | none => none
  | .load t a => match ev e a with
    | some a => val (loadV P t a rd)
    | none => none
  | .nilCheck x => match ev e x with
    | some (.ptr b o) => some (.val (.ptr b o))
    | some (.fn (.func f) a b) => some (.val (.fn (.func f) a b))
    | _ => none
  | .binOp op t x y _ => match ev e x, ev e y with
    | some x, some y => val (binV P op t x y)
    | _, _ => none
  | .unOp op _ x => match ev e x with
    | some x => val (unV op x)
    | none => none
  | .convert s d x => match ev e x with
    | some x => convV P rd s d x
    | none => none
  | .makeFunc f a c => match evs e a.toList, evs e c.toList with
    | some a, some c => some (.val (.fn f a c))
    | _, _ => none
  | .makeSlice t l c => match ev e l, ev e c with
    | some l, some c => makeSliceV P t l c
    | _, _ => none
  | .slice t x l m k => match ev e x, evo e l, evo e m, evo e k with
    | some x, some l, some m, some k => val (sliceV P rd t x l m k)
    | _, _, _, _ => none
  | .fieldAddr t x f => match ev e x with
    | some x => val (fieldAddrV P t x f)
    | none => none
  | .field t x f => match ev e x with
    | some x => val (fieldV P t x f)
    | none => none
  | .indexAddr t x i => match ev e x, ev e i with
    | some x, some i => val (addrV P t x i)
    | _, _ => none
  | .index t x i => match ev e x, ev e i with
    | some x, some i => val (indexV P t x i)
    | _, _ => none
  | .extract x i => match ev e x with
    | some (.tup vs) => val vs[i]?
    | _ => none
  | .call { callee := .builtin .len, args, argTypes } => match evs e args.toList with
    | some [x] => val (lenV P argTypes.toList x)
    | _ => none
  | .call { callee := .builtin .max, args, .. } => match evs e args.toList with
    | some [.int k x, .int _ y] => some (.val (.int k (if y > x then y else x)))
    | _ => none
  | .call { callee := .builtin .min, args, .. } => match evs e args.toList with
    | some [.int k x, .int _ y] => some (.val (.int k (if y < x then y else x)))
    | _ => none
  | _ => none

/-! ### operations that turn memory -/
def storeV (lo : Nat) (t : TypeId) (x v : V) (h : H) : Option H :=
  match x with
  | .ptr b o => match h.owned lo b with
    | some (cs, f, _) => if size? P t = some v.cells.length ∧ v.cells.all scal = true then (match fill1 cs o v.cells with
      | some cs => some (h.put b f cs)
      | none => none) else none
    | none => none
  | _ => none
/-- is it known that there is no room? -/
def forced (c : Option Nat) (n : Nat) : Bool := match c with
  | some k => decide (k < n)
  | none => false
def appendV (lo : Nat) (ts : List TypeId) (s x : V) (h : H) : Option (V × H) :=
  match ts with
  | [t, u] => match P.underlying t, P.underlying u with
    | some (.slice e), some d => match P.info? e, (match d with | .slice _ => true | .string => true | _ => false) with
      | some i, true => match elems h.read i.size x, i.zero with
        | some (m, xs), some z =>
          if z.cells.size ≠ i.size ∨ xs.all scal = false then none else
          match s with
          | .nils => if m = 0 then some (.nils, h) else if m * i.bytes ≤ 140737488355328 ∧ m ≤ 9223372036854775807 then some (.sl h.next 0 m (capUp none m) i.size, h.alloc xs) else none
          | .sl b o n c es =>
            if es ≠ i.size then none else
            if m = 0 then some (s, h) else
            if (n + m) * i.bytes ≤ 140737488355328 ∧ n + m ≤ 9223372036854775807 then
              if forced c (n + m) = true then
                match h.read b with
                | some cs => if o + n * es ≤ cs.length then some (.sl h.next 0 (n + m) (capUp none (n + m)) es, h.alloc ((cs.drop o).take (n * es) ++ xs)) else none
                | none => none
              else
                match h.owned lo b with
                | some (cs, f, low) => if o + n * es ≤ cs.length then
                    some (.sl h.next 0 (n + m) (capUp c (n + m)) es, h.more f (if o + n * es = cs.length then low else h.next) ((cs.drop o).take (n * es) ++ xs)) else none
                | none => none
            else none
          | _ => none
        | _, _ => none
      | _, _ => none
    | _, _ => none
  | _ => none
def copyV (lo : Nat) (ts : List TypeId) (d s : V) (h : H) : Option (V × H) :=
  match ts with
  | [t, _] => match P.underlying t with
    | some (.slice e) => match size? P e with
      | some es => match elems h.read es s, d with
        | some _, .nils => some (.int .i64 0, h)
        | some (m, xs), .sl b o n _ es' =>
          if es ≠ es' ∨ xs.all scal = false then none else
          let k := min m n
          if k * es = 0 then some (.int .i64 (k : Int), h) else
          match h.owned lo b with
          | some (cs, f, _) => (match fill1 cs o (xs.take (k * es)) with
            | some cs => some (.int .i64 (k : Int), h.put b f cs)
            | none => none)
          | none => none
        | _, _ => none
      | none => none
    | _ => none
  | _ => none
/-- a slice of bytes converted to its own type ('[]byte("abc")'): the block is marked behind its end -/
def markV (lo : Nat) (t : TypeId) (x : V) (h : H) : Option (V × H) :=
  match P.underlying t, x with
  | some (.slice e), .sl b o n c es => match P.underlying e, h.owned lo b with
    | some (.int .u8), some _ => if n = 0 then none else some (.sl b o n c es, h)
    | _, _ => none
  | _, _ => none
def isSlice (t : TypeId) : Bool := match P.underlying t with
  | some (.slice _) => true
  | _ => false

variable (call : FuncId → List V → Nat → H → Option (V × H))
def keep (h : H) : Option LR → Option (V × H)
  | some (.val v) => some (v, h)
  | some (.new l k) => some (k.at h.next, h.alloc l)
  | none => none
def aop (lo : Nat) (e : Env) (h : H) (o : Op) : Option (V × H) :=
  match o with
  | .store t a x => match ev e a, ev e x with
    | some a, some x => match storeV P lo t a x h with
      | some h => some (undef, h)
      | none => none
    | _, _ => none
  | .convert s d x => if s = d ∧ isSlice P s = true then (match ev e x with
      | some x => markV P lo s x h
      | none => none) else keep h (lightOp P h.read e (.convert s d x))
  | .call { callee := .value f, args, .. } => match evs e args.toList, ev e f with
    | some as, some (.fn (.func f) a b) => call f (a ++ as ++ b) lo h
    | _, _ => none
  | .call { callee := .builtin .append, args, argTypes } => match evs e args.toList with
    | some [s, x] => appendV P lo argTypes.toList s x h
    | _ => none
  | .call { callee := .builtin .copy, args, argTypes } => match evs e args.toList with
    | some [d, s] => copyV P lo argTypes.toList d s h
    | _ => none
  | o => keep h (lightOp P h.read e o)
end
end Go.Den
/- The machine's code: regions (those whose order is open, too), tests, blocks, loops, calls. -/
namespace Go.Den

/-! ### regions -/
def tmpOf : Operand → Option Nat
  | .tmp t => some t
  | _ => none
def names (ops : Array Oper) (o : Oper) : List Nat :=
  o.dst.toList ++ o.op.operands.toList.filterMap tmpOf ++ (match o.guard with
    | some (j, _) => ((ops[j]?).bind (·.dst)).toList
    | none => [])
def heavy (o : Op) : Bool :=
  match o with
  | .call { callee := .value _, .. } => true
  | .call { callee := .builtin .append, .. } => true
  | .store _ _ _ => true
  | .convert s d _ => decide (s = d)
  | _ => false
def light (o : Op) : Bool :=
  match o with
  | .move _ | .assign _ | .pick .. | .alloc _ | .box .. | .build .. | .buildSlice .. | .load .. | .nilCheck _ | .binOp .. | .unOp .. | .makeFunc ..
  | .makeSlice .. | .slice .. | .fieldAddr .. | .field .. | .indexAddr .. | .index .. | .extract .. => true
  | .convert s d _ => decide (s ≠ d)
  | .call { callee := .builtin .len, .. } | .call { callee := .builtin .max, .. } | .call { callee := .builtin .min, .. } => true
  | _ => false
def isStore (o : Op) : Bool :=
  match o with
  | .store _ _ _ => true
  | _ => false
def befOf (acc : List Nat) (es : List Edge) : Nat :=
  match es with
  | [] => 0
  | e :: r => if Region.binds .any e && decide (e.on < acc.length) then (2 ^ e.on ||| acc.getD e.on 0) ||| befOf acc r else befOf acc r
def befs (acc : List Nat) : List Oper → List Nat
  | [] => acc
  | o :: r => befs (acc ++ [befOf acc o.after.toList]) r
/-- may two operations of a front stand in either order? -/
def apartOk (ops : Array Oper) (x y : Oper) : Bool :=
  !(x.dst.any (fun t => (names ops y).contains t) || y.dst.any (fun t => (names ops x).contains t) || (heavy x.op && heavy y.op))
def pairsOk (ops : Array Oper) (j : Nat) (oj : Oper) (bj : Nat) : Nat → List Oper → Bool
  | _, [] => true
  | i, o :: r => if j ≤ i then true else (bj.testBit i || apartOk ops o oj) && pairsOk ops j oj bj (i + 1) r
def frontOk (ops : Array Oper) (bs : List Nat) : Nat → Nat → List Oper → Bool
  | _, 0, _ => true
  | _, _ + 1, [] => false
  | j, k + 1, o :: r => (heavy o.op || light o.op) && pairsOk ops j o (bs.getD j 0) 0 ops.toList && frontOk ops bs (j + 1) k r
def tailOk : Nat → List Nat → Bool
  | _, [] => true
  | j, b :: r => decide (b = 2 ^ j - 1) && tailOk (j + 1) r
/-- the first place from which on every operation waits for all ahead of it -/
def tailAt : Nat → List Nat → Nat
  | j, [] => j
  | j, b :: r => if tailOk j (b :: r) then j else tailAt (j + 1) r

section
variable (P : Program) (call : FuncId → List V → Nat → H → Option (V × H))
def put (nt : Nat) (d : Option Nat) (v : V) (e : Env) : Option Env :=
  match d with
  | none => some e
  | some t => if t < nt then some (e.set t v) else none
def yieldedV (ops : Array Oper) (e : Env) (j : Nat) : Option Bool :=
  match (ops[j]?).bind (·.dst) with
  | some t => match e.at t with
    | .bool b => some b
    | _ => none
  | none => none
def wantedV (ops : Array Oper) (e : Env) (o : Oper) : Bool :=
  match o.guard with
  | none => true
  | some (j, want) => yieldedV ops e j == some want
def runOps (lo nt : Nat) (ops : Array Oper) : List Oper → Env → H → Option (Env × H)
  | [], e, h => some (e, h)
  | o :: r, e, h =>
    if wantedV ops e o then
      match aop P call lo e h o.op with
      | some (v, h') => match put nt o.dst v e with
        | some e' => runOps lo nt ops r e' h'
        | none => none
      | none => none
    else match put nt o.dst undef e with
      | some e' => runOps lo nt ops r e' h
      | none => none
/-- append in a front: behind the block's own end alone -/
def atEnd (e : Env) (h : H) (o : Op) : Bool :=
  match o with
  | .call { callee := .builtin .append, args, .. } => match args.toList with
    | x :: _ => match ev e x with
      | some (.sl b off n _ es) => match h.read b with
        | some cs => decide (off + n * es = cs.length)
        | none => false
      | _ => true
    | [] => true
  | _ => true
/-- below which number a front's heavy operations may turn nothing: append and a marking as ever, a store nothing older than the region, a call nothing that there is -/
def barrier (lo old : Nat) (h : H) (o : Op) : Nat :=
  match o with
  | .store _ _ _ => max lo old
  | .call { callee := .value _, .. } => h.next
  | _ => lo
/-- what a front's light operations may read -/
def rdOf (st : Bool) (old : Nat) (h : H) : Rd := fun b => if st && decide (old ≤ b) then none else h.read b
def frontOp (lo old : Nat) (st : Bool) (e : Env) (h : H) (o : Op) : Option (V × H) :=
  if heavy o then (if atEnd e h o then aop P call (barrier lo old h o) e h o else none)
  else keep h (lightOp P (rdOf st old h) e o)
def runFront (lo old nt : Nat) (st : Bool) (ops : Array Oper) : Nat → List Oper → Env → H → Option (Env × H)
  | 0, _, e, h => some (e, h)
  | _ + 1, [], e, h => some (e, h)
  | k + 1, o :: r, e, h =>
    if wantedV ops e o then
      match frontOp P call lo old st e h o.op with
      | some (v, h') => match put nt o.dst v e with
        | some e' => runFront lo old nt st ops k r e' h'
        | none => none
      | none => none
    else match put nt o.dst undef e with
      | some e' => runFront lo old nt st ops k r e' h
      | none => none
/-- each operation waits for earlier ones alone -/
def edgesOk : Nat → List Oper → Bool
  | _, [] => true
  | j, o :: r => o.after.toList.all (fun e => !Region.binds .any e || decide (e.on < j)) && edgesOk (j + 1) r
def anyStore : Nat → List Oper → Bool
  | k + 1, o :: r => isStore o.op || anyStore k r
  | _, _ => false
def runRegion (lo nt : Nat) (ops : Array Oper) (draw : Bool) (e : Env) (h : H) : Option (Env × H) :=
  if draw then
    let bs := befs [] ops.toList
    let k := tailAt 0 bs
    if frontOk ops bs 0 k ops.toList && edgesOk 0 ops.toList then
      match runFront P call lo h.next nt (anyStore k ops.toList) ops k ops.toList e h with
      | some (e', h') => runOps P call lo nt ops (ops.toList.drop k) e' h'
      | none => none
    else none
  else runOps P call lo nt ops ops.toList e h
end

/-! ### code -/
inductive R : Type where
  | nx
  | ex (id : Nat)
  | rt

def mkEnv : Nat → List V → Env → Env
  | _, [], e => e
  | i, v :: r, e => mkEnv (i + 1) r (e.set i v)
def resV (P : Program) (e : Env) (h : H) : ResultVar → Option V
  | .tmp t => some (e.at t)
  | .cell a t => loadV P t (e.at a) h.read
def resultsV (P : Program) (fn : Func) (e : Env) (h : H) : Option V :=
  match omap (resV P e h) fn.results.toList with
  | some [v] => some v
  | some vs => some (.tup vs)
  | none => none

section
variable (C : Cfg)
abbrev Rec := Nat → Nat → Code → Env → H → Option (R × Env × H)
def callStep (rec : Rec) (f : FuncId) (as : List V) (lo : Nat) (h : H) : Option (V × H) :=
  match C.S f with
  | some g => g as lo h
  | none => match C.P.funcs[f]? with
    | some fn => match fn.body with
      | some c => if as.length ≤ fn.ntmps then
          match rec lo fn.ntmps c (mkEnv 0 as .nil) h with
          | some (.nx, e, h') => (resultsV C.P fn e h').map fun v => (v, h')
          | some (.rt, e, h') => (resultsV C.P fn e h').map fun v => (v, h')
          | _ => none
        else none
      | none => none
    | none => none
def execStep (rec : Rec) (lo nt : Nat) (c : Code) (e : Env) (h : H) : Option (R × Env × H) :=
  match c with
  | .skip => some (.nx, e, h)
  | .label _ => some (.nx, e, h)
  | .region _ ops draw => match runRegion C.P (callStep C rec) lo nt ops draw e h with
    | some (e', h') => some (.nx, e', h')
    | none => none
  | .seq a b => match rec lo nt a e h with
    | some (.nx, e', h') => rec lo nt b e' h'
    | r => r
  | .cond x a b => match ev e x with
    | some (.bool t) => rec lo nt (if t then a else b) e h
    | _ => none
  | .block id b => match rec lo nt b e h with
    | some (.ex id', e', h') => if id' = id then some (.nx, e', h') else some (.ex id', e', h')
    | r => r
  | .loop b => match rec lo nt b e h with
    | some (.nx, e', h') => rec lo nt (.loop b) e' h'
    | r => r
  | .exit id => some (.ex id, e, h)
  | .ret => some (.rt, e, h)
  | _ => none
noncomputable def exec (n : Nat) : Rec := Nat.rec (fun _ _ _ _ _ => none) (fun _ r => execStep C r) n
noncomputable def call (n : Nat) : FuncId → List V → Nat → H → Option (V × H) := callStep C (exec C n)
theorem exec_zero : exec C 0 = fun _ _ _ _ _ => none := rfl
theorem exec_succ (n : Nat) : exec C (n + 1) = execStep C (exec C n) := rfl
end
def H0 : H := { m := .nil, f := .nil, next := 0 }
end Go.Den
/- How the machine's values stand for the model's, and how its memory stands for the model's. -/
namespace Go.Den

/-! ### tables -/
namespace T
variable {α : Type}
theorem get_nil (i : Nat) : (T.nil : T α).get i = none := by cases i <;> rfl
theorem get_zero (v : Option α) (l r : T α) : (T.node v l r).get 0 = v := rfl
theorem get_succ (v : Option α) (l r : T α) (i : Nat) : (T.node v l r).get (i + 1) = if i % 2 = 0 then l.get (i / 2) else r.get (i / 2) := by
  rw [get]
  rcases Nat.mod_two_eq_zero_or_one i with h | h <;> simp [h]
theorem get_val (t : T α) : t.val = t.get 0 := by cases t <;> rfl
theorem get_left (t : T α) (i : Nat) (h : i % 2 = 0) : t.left.get (i / 2) = t.get (i + 1) := by
  cases t with
  | nil => simp [left, get_nil]
  | node v l r => rw [get_succ, if_pos h]; rfl
theorem get_right (t : T α) (i : Nat) (h : ¬ i % 2 = 0) : t.right.get (i / 2) = t.get (i + 1) := by
  cases t with
  | nil => simp [right, get_nil]
  | node v l r => rw [get_succ, if_neg h]; rfl
theorem get_node (v : Option α) (t : T α) (j : Nat) (hj : j ≠ 0) : (T.node v t.left t.right).get j = t.get j := by
  obtain ⟨j, rfl⟩ : ∃ k, j = k + 1 := ⟨j - 1, by omega⟩
  rw [get_succ]
  by_cases h : j % 2 = 0
  · rw [if_pos h, get_left t j h]
  · rw [if_neg h, get_right t j h]
theorem get_setF (v : Option α) : ∀ (n : Nat) (t : T α) (i j : Nat), i < 2 ^ n → (setF n t i v).get j = if j = i then v else t.get j := by
  intro n
  induction n with
  | zero =>
    intro t i j hi
    have : i = 0 := by simpa using hi
    subst this
    by_cases hj : j = 0
    · subst hj; rfl
    · rw [if_neg hj, setF, get_node v t j hj]
  | succ n ih =>
    intro t i j hi
    cases i with
    | zero =>
      rw [setF]
      by_cases hj : j = 0
      · subst hj; rfl
      · rw [if_neg hj, get_node v t j hj]
    | succ i =>
      have hlt : i / 2 < 2 ^ n := by rw [Nat.pow_succ] at hi; omega
      rw [setF]
      rcases Nat.mod_two_eq_zero_or_one i with h | h
      · simp only [h]
        cases j with
        | zero => rw [get_zero, get_val, if_neg (by omega)]
        | succ j =>
          rw [get_succ]
          by_cases hj : j % 2 = 0
          · rw [if_pos hj, ih _ _ _ hlt]
            by_cases e : j = i
            · subst e; simp
            · rw [if_neg (by omega), if_neg (by omega), get_left t j hj]
          · rw [if_neg hj, if_neg (by omega), get_right t j hj]
      · simp only [h]
        cases j with
        | zero => rw [get_zero, get_val, if_neg (by omega)]
        | succ j =>
          rw [get_succ]
          by_cases hj : j % 2 = 0
          · rw [if_pos hj, if_neg (by omega), get_left t j hj]
          · rw [if_neg hj, ih _ _ _ hlt]
            by_cases e : j = i
            · subst e; simp
            · rw [if_neg (by omega), if_neg (by omega), get_right t j hj]
theorem get_set (t : T α) (i j : Nat) (v : α) : (t.set i v).get j = if j = i then some v else t.get j := by
  unfold set
  exact get_setF (some v) _ t i j (by
    by_cases h : i = 0
    · subst h; decide
    · exact Nat.lt_log2_self)
end T

theorem Env.at_set (e : Env) (i j : Nat) (v : V) : Env.at (T.set e i v) j = if j = i then v else e.at j := by
  unfold Env.at
  rw [T.get_set]
  split <;> rfl
theorem Env.at_nil (j : Nat) : Env.at T.nil j = undef := by unfold Env.at; rw [T.get_nil]; rfl

/-! ### values -/
/-- where a block of the machine's lies: the model's block, from which place on, how many cells that block has -/
abbrev Phi := Nat → Option (Nat × Nat × Nat)
def Phi.le (φ φ' : Phi) : Prop := ∀ b x, φ b = some x → φ' b = some x
theorem Phi.le.refl (φ : Phi) : φ.le φ := fun _ _ h => h
theorem Phi.le.trans {a b c : Phi} (h : a.le b) (h' : b.le c) : a.le c := fun _ _ e => h' _ _ (h _ _ e)

/-- what is known of a capacity -/
def CapIs (c : Option Nat) (c' : Nat) : Prop := ∀ k, c = some k → (k < 9223372036854775808 → c' = k) ∧ (9223372036854775808 ≤ k → k - 9223372036854775808 ≤ c')
theorem CapIs.none (c' : Nat) : CapIs none c' := fun _ h => by cases h
theorem CapIs.is (c : Nat) : CapIs (some c) c := fun k h => by cases h; exact ⟨fun _ => rfl, fun _ => Nat.sub_le _ _⟩
theorem CapIs.of {c : Option Nat} {c' : Nat} (h : CapIs c c') {n : Nat} (hn : n ≤ c') : n ≤ capOf c n ∧ capOf c n ≤ c' := by
  cases c with
  | none => exact ⟨Nat.le_refl _, hn⟩
  | some k =>
    have := h k rfl
    unfold capOf
    simp only
    split <;> omega
theorem CapIs.sub {c : Option Nat} {c' : Nat} (h : CapIs c c') (l : Nat) : CapIs (capSub c l) (c' - l) := by
  cases c with
  | none => exact CapIs.none _
  | some k =>
    have := h k rfl
    intro j hj
    unfold capSub at hj
    simp only at hj
    cases hj
    split <;> omega
theorem CapIs.up {c : Option Nat} {c' n : Nat} (h : CapIs c c') (hn : n ≤ c') : CapIs (capUp c n) c' := by
  cases c with
  | none => intro j hj; cases hj; omega
  | some k =>
    have := h k rfl
    intro j hj
    unfold capUp at hj
    simp only at hj
    cases hj
    split <;> omega
theorem CapIs.more {c : Option Nat} {c' c2 n : Nat} (h : CapIs c c') (hf : c' < n) (hc : ∀ k, c = some k → 9223372036854775808 ≤ k) (hn : n ≤ c2) : CapIs (capUp c n) c2 := by
  cases c with
  | none => intro j hj; cases hj; omega
  | some k =>
    have := h k rfl
    have := hc k rfl
    intro j hj
    unfold capUp at hj
    simp only at hj
    cases hj
    split <;> omega
mutual
inductive VR (φ : Phi) : V → Value → Prop
  | bool (b : Bool) : VR φ (.bool b) (.bool b)
  | int (k : IntKind) (n : Int) : VR φ (.int k n) (.int k n)
  | str (s : List UInt8) : VR φ (.str s) (.string ⟨⟨s⟩⟩)
  | ptr {b o g base sz : Nat} (h : φ b = some (g, base, sz)) : VR φ (.ptr b o) (.pointer (some ⟨g, base + o, none⟩))
  | nilp : VR φ .nilp (.pointer none)
  | sl {b o n es c' g base sz : Nat} {c : Option Nat} {a : Addr} (h : φ b = some (g, base, sz) ∨ (c' = 0 ∧ c = some 0)) (ha : a = ⟨g, base + o, none⟩ ∨ (c' = 0 ∧ a.block = g))
      (hn : n ≤ c') (hc : CapIs c c') (hr : base + o + c' * es ≤ sz ∨ c' = 0) : VR φ (.sl b o n c es) (.slice (some a) n c')
  | nils : VR φ .nils (.slice none 0 0)
  | map {r g base sz : Nat} (h : φ r = some (g, base, sz)) : VR φ (.map r) (.map (some g))
  | nilm : VR φ .nilm (.map none)
  | fn {f : Fn} {a b : List V} {a' b' : List Value} (ha : VRs φ a a') (hb : VRs φ b b') : VR φ (.fn f a b) (.func f ⟨a'⟩ ⟨b'⟩)
  | nilf : VR φ .nilf .nilFunc
  | iface {t : TypeId} {v : V} {v' : Value} (h : VR φ v v') : VR φ (.iface t v) (.iface t v')
  | nili : VR φ .nili .nilIface
  | agg {cs : List V} {cs' : List Value} (h : VRs φ cs cs') : VR φ (.agg cs) (.agg ⟨cs'⟩)
  | tup {cs : List V} {cs' : List Value} (h : VRs φ cs cs') : VR φ (.tup cs) (.tuple ⟨cs'⟩)
inductive VRs (φ : Phi) : List V → List Value → Prop
  | nil : VRs φ [] []
  | cons {v : V} {v' : Value} {r : List V} {r' : List Value} (h : VR φ v v') (hr : VRs φ r r') : VRs φ (v :: r) (v' :: r')
end

mutual
theorem VR.mono {φ φ' : Phi} (hl : φ.le φ') : ∀ {v : V} {v' : Value}, VR φ v v' → VR φ' v v'
  | _, _, .bool b => .bool b
  | _, _, .int k n => .int k n
  | _, _, .str s => .str s
  | _, _, .ptr h => .ptr (hl _ _ h)
  | _, _, .nilp => .nilp
  | _, _, .sl h ha hn hc hr => .sl (h.imp (hl _ _) id) ha hn hc hr
  | _, _, .nils => .nils
  | _, _, .map h => .map (hl _ _ h)
  | _, _, .nilm => .nilm
  | _, _, .fn ha hb => .fn (VRs.mono hl ha) (VRs.mono hl hb)
  | _, _, .nilf => .nilf
  | _, _, .iface h => .iface (VR.mono hl h)
  | _, _, .nili => .nili
  | _, _, .agg h => .agg (VRs.mono hl h)
  | _, _, .tup h => .tup (VRs.mono hl h)
theorem VRs.mono {φ φ' : Phi} (hl : φ.le φ') : ∀ {v : List V} {v' : List Value}, VRs φ v v' → VRs φ' v v'
  | _, _, .nil => .nil
  | _, _, .cons h hr => .cons (VR.mono hl h) (VRs.mono hl hr)
end

section
variable {φ : Phi}
theorem VRs.length {l : List V} {l' : List Value} (h : VRs φ l l') : l.length = l'.length := by
  induction l generalizing l' with
  | nil => cases h; rfl
  | cons v r ih => cases h with | cons h hr => simp [ih hr]
theorem VRs.get {l : List V} {l' : List Value} (h : VRs φ l l') : ∀ (i : Nat) (v : V), l[i]? = some v → ∃ v', l'[i]? = some v' ∧ VR φ v v' := by
  induction l generalizing l' with
  | nil => intro i v hv; simp at hv
  | cons x r ih =>
    cases h with
    | cons h hr =>
      intro i v hv
      cases i with
      | zero => simp at hv; subst hv; exact ⟨_, by simp, h⟩
      | succ i => simp at hv; obtain ⟨v', h1, h2⟩ := ih hr i v hv; exact ⟨v', by simpa using h1, h2⟩
theorem VRs.get' {l : List V} {l' : List Value} (h : VRs φ l l') (i : Nat) (v' : Value) (hv : l'[i]? = some v') : ∃ v, l[i]? = some v ∧ VR φ v v' := by
  have hl := h.length
  have hi : i < l'.length := by
    rcases Nat.lt_or_ge i l'.length with h1 | h1
    · exact h1
    · rw [List.getElem?_eq_none h1] at hv; cases hv
  obtain ⟨v'', h1, h2⟩ := h.get i (l[i]'(by omega)) (List.getElem?_eq_getElem (by omega))
  rw [h1] at hv
  cases hv
  exact ⟨_, List.getElem?_eq_getElem (by omega), h2⟩
theorem VRs.of_get : ∀ {l : List V} {l' : List Value}, l.length = l'.length → (∀ (i : Nat) (v : V) (v' : Value), l[i]? = some v → l'[i]? = some v' → VR φ v v') → VRs φ l l'
  | [], [], _, _ => .nil
  | [], _ :: _, h, _ => by simp at h
  | _ :: _, [], h, _ => by simp at h
  | v :: r, v' :: r', h, hg => .cons (hg 0 v v' (by simp) (by simp)) (VRs.of_get (by simpa using h) fun i x x' hx hx' => hg (i + 1) x x' (by simpa using hx) (by simpa using hx'))
theorem VRs.append {a b : List V} {a' b' : List Value} (h : VRs φ a a') (h' : VRs φ b b') : VRs φ (a ++ b) (a' ++ b') := by
  induction a generalizing a' with
  | nil => cases h; exact h'
  | cons v r ih => cases h with | cons h hr => exact .cons h (ih hr)
theorem VRs.drop {a : List V} {a' : List Value} (h : VRs φ a a') (n : Nat) : VRs φ (a.drop n) (a'.drop n) := by
  induction n generalizing a a' with
  | zero => simpa using h
  | succ n ih => cases h with
    | nil => exact .nil
    | cons h hr => simpa using ih hr
theorem VRs.take {a : List V} {a' : List Value} (h : VRs φ a a') (n : Nat) : VRs φ (a.take n) (a'.take n) := by
  induction n generalizing a a' with
  | zero => simpa using VRs.nil
  | succ n ih => cases h with
    | nil => exact .nil
    | cons h hr => simpa using VRs.cons h (ih hr)

theorem VR.cells {v : V} {v' : Value} (h : VR φ v v') : VRs φ v.cells v'.cells.toList := by
  cases h <;> first | exact .cons (by constructor <;> assumption) .nil | assumption | skip
  all_goals first
    | exact .cons (.ptr ‹_›) .nil
    | exact .cons (.sl ‹_› ‹_› ‹_› ‹_› ‹_›) .nil
    | exact .cons (.map ‹_›) .nil
    | exact .cons (.fn ‹_› ‹_›) .nil
    | exact .cons (.iface ‹_›) .nil
    | exact .cons (.tup ‹_›) .nil

theorem VR.undef : VR φ undef Go.undef := .tup .nil

/-! ### constants -/
theorem ofScalar_rel {v : Value} {x : V} (h : ofScalar v = some x) : VR φ x v := by
  unfold ofScalar at h
  split at h
  all_goals first | (cases h; done) | skip
  all_goals (injection h with h; subst h)
  · exact .bool _
  · exact .int _ _
  · rename_i s; exact .str _
  · exact .nilp
  · exact .nils
  · exact .nilm
  · exact .nilf
  · exact .nili
theorem omap_rel {f : Value → Option V} (hf : ∀ v x, f v = some x → VR φ x v) : ∀ {l : List Value} {xs : List V}, omap f l = some xs → VRs φ xs l
  | [], xs, h => by cases h; exact .nil
  | v :: r, xs, h => by
    unfold omap at h
    split at h
    · rename_i y hy
      split at h
      · rename_i ys hys
        cases h
        exact .cons (hf _ _ hy) (omap_rel hf hys)
      · cases h
    · cases h
theorem ofValue_rel {v : Value} {x : V} (h : ofValue v = some x) : VR φ x v := by
  unfold ofValue at h
  split at h
  · rename_i cs
    rw [Option.map_eq_some_iff] at h
    obtain ⟨xs, hx, rfl⟩ := h
    exact .agg (omap_rel (fun v x => ofScalar_rel) hx)
  · rename_i cs
    split at h
    · rename_i h0
      cases h
      have : cs = #[] := by simpa using h0
      subst this
      exact .tup .nil
    · cases h
  · exact ofScalar_rel h

/-- the frame -/
def GR (φ : Phi) : Prop := ∀ g b, gAt g = some b → ∃ sz, φ b = some (g, 0, sz)
theorem GR.mono {φ φ' : Phi} (hl : φ.le φ') (h : GR φ) : GR φ' := fun g b hb => by
  obtain ⟨sz, h1⟩ := h g b hb
  exact ⟨sz, hl _ _ h1⟩
structure ER (φ : Phi) (e : Env) (a : Array Value) : Prop where
  gr : GR φ
  at_ : ∀ t, VR φ (e.at t) (a.getD t Go.undef)
theorem ER.mono {φ φ' : Phi} (hl : φ.le φ') {e : Env} {a : Array Value} (h : ER φ e a) : ER φ' e a := ⟨h.gr.mono hl, fun t => (h.at_ t).mono hl⟩
theorem ev_rel {e : Env} {a : Act} (h : ER φ e a.tmps) {x : Operand} {v : V} (hv : ev e x = some v) : VR φ v (a.eval x) := by
  unfold ev at hv
  split at hv
  · cases hv; exact h.at_ _
  · exact ofValue_rel hv
  · rename_i g
    rw [Option.map_eq_some_iff] at hv
    obtain ⟨b, hb, rfl⟩ := hv
    obtain ⟨sz, h1⟩ := h.gr g b hb
    exact VR.ptr (o := 0) h1
  · cases hv; exact .fn .nil .nil
theorem evs_rel {e : Env} {a : Act} (h : ER φ e a.tmps) : ∀ {l : List Operand} {vs : List V}, evs e l = some vs → VRs φ vs (l.map a.eval)
  | [], vs, hv => by cases hv; exact .nil
  | x :: r, vs, hv => by
    unfold evs omap at hv
    split at hv
    · rename_i y hy
      split at hv
      · rename_i ys hys
        cases hv
        exact .cons (ev_rel h hy) (evs_rel h hys)
      · cases hv
    · cases hv
end
end Go.Den
