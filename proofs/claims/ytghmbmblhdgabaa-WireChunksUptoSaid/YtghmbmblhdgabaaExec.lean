/- The machine's code: regions (those whose order is open, too), tests, blocks, loops, calls. -/
import Derived.Test.YtghmbmblhdgabaaDen
set_option linter.all false
namespace Go.Den

/-! ### regions -/
def tmpOf : Operand → Option Nat
  | .tmp t => some t
  | _ => none
def names (ops : Array Oper) (o : Oper) : List Nat :=
  o.dst.toList ++ o.op.operands.toList.filterMap tmpOf ++ (match o.guard with
    | some (j, _) => ((ops[j]?).bind (·.dst)).toList
    | none => [])
def heavy (o : Op) : Bool :=
  match o with
  | .call { callee := .value _, .. } => true
  | .call { callee := .builtin .append, .. } => true
  | .store _ _ _ => true
  | .convert s d _ => decide (s = d)
  | _ => false
def light (o : Op) : Bool :=
  match o with
  | .move _ | .assign _ | .pick .. | .alloc _ | .box .. | .build .. | .buildSlice .. | .load .. | .nilCheck _ | .binOp .. | .unOp .. | .makeFunc ..
  | .makeSlice .. | .slice .. | .fieldAddr .. | .field .. | .indexAddr .. | .index .. | .extract .. => true
  | .convert s d _ => decide (s ≠ d)
  | .call { callee := .builtin .len, .. } | .call { callee := .builtin .max, .. } | .call { callee := .builtin .min, .. } => true
  | _ => false
def isStore (o : Op) : Bool :=
  match o with
  | .store _ _ _ => true
  | _ => false
def befOf (acc : List Nat) (es : List Edge) : Nat :=
  match es with
  | [] => 0
  | e :: r => if Region.binds .any e && decide (e.on < acc.length) then (2 ^ e.on ||| acc.getD e.on 0) ||| befOf acc r else befOf acc r
def befs (acc : List Nat) : List Oper → List Nat
  | [] => acc
  | o :: r => befs (acc ++ [befOf acc o.after.toList]) r
/-- may two operations of a front stand in either order? -/
def apartOk (ops : Array Oper) (x y : Oper) : Bool :=
  !(x.dst.any (fun t => (names ops y).contains t) || y.dst.any (fun t => (names ops x).contains t) || (heavy x.op && heavy y.op))
def pairsOk (ops : Array Oper) (j : Nat) (oj : Oper) (bj : Nat) : Nat → List Oper → Bool
  | _, [] => true
  | i, o :: r => if j ≤ i then true else (bj.testBit i || apartOk ops o oj) && pairsOk ops j oj bj (i + 1) r
def frontOk (ops : Array Oper) (bs : List Nat) : Nat → Nat → List Oper → Bool
  | _, 0, _ => true
  | _, _ + 1, [] => false
  | j, k + 1, o :: r => (heavy o.op || light o.op) && pairsOk ops j o (bs.getD j 0) 0 ops.toList && frontOk ops bs (j + 1) k r
def tailOk : Nat → List Nat → Bool
  | _, [] => true
  | j, b :: r => decide (b = 2 ^ j - 1) && tailOk (j + 1) r
/-- the first place from which on every operation waits for all ahead of it -/
def tailAt : Nat → List Nat → Nat
  | j, [] => j
  | j, b :: r => if tailOk j (b :: r) then j else tailAt (j + 1) r

section
variable (P : Program) (call : FuncId → List V → Nat → H → Option (V × H))
def put (nt : Nat) (d : Option Nat) (v : V) (e : Env) : Option Env :=
  match d with
  | none => some e
  | some t => if t < nt then some (e.set t v) else none
def yieldedV (ops : Array Oper) (e : Env) (j : Nat) : Option Bool :=
  match (ops[j]?).bind (·.dst) with
  | some t => match e.at t with
    | .bool b => some b
    | _ => none
  | none => none
def wantedV (ops : Array Oper) (e : Env) (o : Oper) : Bool :=
  match o.guard with
  | none => true
  | some (j, want) => yieldedV ops e j == some want
def runOps (lo nt : Nat) (ops : Array Oper) : List Oper → Env → H → Option (Env × H)
  | [], e, h => some (e, h)
  | o :: r, e, h =>
    if wantedV ops e o then
      match aop P call lo e h o.op with
      | some (v, h') => match put nt o.dst v e with
        | some e' => runOps lo nt ops r e' h'
        | none => none
      | none => none
    else match put nt o.dst undef e with
      | some e' => runOps lo nt ops r e' h
      | none => none
/-- append in a front: behind the block's own end alone -/
def atEnd (e : Env) (h : H) (o : Op) : Bool :=
  match o with
  | .call { callee := .builtin .append, args, .. } => match args.toList with
    | x :: _ => match ev e x with
      | some (.sl b off n _ es) => match h.read b with
        | some cs => decide (off + n * es = cs.length)
        | none => false
      | _ => true
    | [] => true
  | _ => true
/-- below which number a front's heavy operations may turn nothing: append and a marking as ever, a store nothing older than the region, a call nothing that there is -/
def barrier (lo old : Nat) (h : H) (o : Op) : Nat :=
  match o with
  | .store _ _ _ => max lo old
  | .call { callee := .value _, .. } => h.next
  | _ => lo
/-- what a front's light operations may read -/
def rdOf (st : Bool) (old : Nat) (h : H) : Rd := fun b => if st && decide (old ≤ b) then none else h.read b
def frontOp (lo old : Nat) (st : Bool) (e : Env) (h : H) (o : Op) : Option (V × H) :=
  if heavy o then (if atEnd e h o then aop P call (barrier lo old h o) e h o else none)
  else keep h (lightOp P (rdOf st old h) e o)
def runFront (lo old nt : Nat) (st : Bool) (ops : Array Oper) : Nat → List Oper → Env → H → Option (Env × H)
  | 0, _, e, h => some (e, h)
  | _ + 1, [], e, h => some (e, h)
  | k + 1, o :: r, e, h =>
    if wantedV ops e o then
      match frontOp P call lo old st e h o.op with
      | some (v, h') => match put nt o.dst v e with
        | some e' => runFront lo old nt st ops k r e' h'
        | none => none
      | none => none
    else match put nt o.dst undef e with
      | some e' => runFront lo old nt st ops k r e' h
      | none => none
/-- each operation waits for earlier ones alone -/
def edgesOk : Nat → List Oper → Bool
  | _, [] => true
  | j, o :: r => o.after.toList.all (fun e => !Region.binds .any e || decide (e.on < j)) && edgesOk (j + 1) r
def anyStore : Nat → List Oper → Bool
  | k + 1, o :: r => isStore o.op || anyStore k r
  | _, _ => false
def runRegion (lo nt : Nat) (ops : Array Oper) (draw : Bool) (e : Env) (h : H) : Option (Env × H) :=
  if draw then
    let bs := befs [] ops.toList
    let k := tailAt 0 bs
    if frontOk ops bs 0 k ops.toList && edgesOk 0 ops.toList then
      match runFront P call lo h.next nt (anyStore k ops.toList) ops k ops.toList e h with
      | some (e', h') => runOps P call lo nt ops (ops.toList.drop k) e' h'
      | none => none
    else none
  else runOps P call lo nt ops ops.toList e h
end

/-! ### code -/
inductive R : Type where
  | nx
  | ex (id : Nat)
  | rt

def mkEnv : Nat → List V → Env → Env
  | _, [], e => e
  | i, v :: r, e => mkEnv (i + 1) r (e.set i v)
def resV (P : Program) (e : Env) (h : H) : ResultVar → Option V
  | .tmp t => some (e.at t)
  | .cell a t => loadV P t (e.at a) h.read
def resultsV (P : Program) (fn : Func) (e : Env) (h : H) : Option V :=
  match omap (resV P e h) fn.results.toList with
  | some [v] => some v
  | some vs => some (.tup vs)
  | none => none

section
variable (C : Cfg)
abbrev Rec := Nat → Nat → Code → Env → H → Option (R × Env × H)
def callStep (rec : Rec) (f : FuncId) (as : List V) (lo : Nat) (h : H) : Option (V × H) :=
  match C.S f with
  | some g => g as lo h
  | none => match C.P.funcs[f]? with
    | some fn => match fn.body with
      | some c => if as.length ≤ fn.ntmps then
          match rec lo fn.ntmps c (mkEnv 0 as .nil) h with
          | some (.nx, e, h') => (resultsV C.P fn e h').map fun v => (v, h')
          | some (.rt, e, h') => (resultsV C.P fn e h').map fun v => (v, h')
          | _ => none
        else none
      | none => none
    | none => none
def execStep (rec : Rec) (lo nt : Nat) (c : Code) (e : Env) (h : H) : Option (R × Env × H) :=
  match c with
  | .skip => some (.nx, e, h)
  | .label _ => some (.nx, e, h)
  | .region _ ops draw => match runRegion C.P (callStep C rec) lo nt ops draw e h with
    | some (e', h') => some (.nx, e', h')
    | none => none
  | .seq a b => match rec lo nt a e h with
    | some (.nx, e', h') => rec lo nt b e' h'
    | r => r
  | .cond x a b => match ev e x with
    | some (.bool t) => rec lo nt (if t then a else b) e h
    | _ => none
  | .block id b => match rec lo nt b e h with
    | some (.ex id', e', h') => if id' = id then some (.nx, e', h') else some (.ex id', e', h')
    | r => r
  | .loop b => match rec lo nt b e h with
    | some (.nx, e', h') => rec lo nt (.loop b) e' h'
    | r => r
  | .exit id => some (.ex id, e, h)
  | .ret => some (.rt, e, h)
  | _ => none
noncomputable def exec (n : Nat) : Rec := Nat.rec (fun _ _ _ _ _ => none) (fun _ r => execStep C r) n
noncomputable def call (n : Nat) : FuncId → List V → Nat → H → Option (V × H) := callStep C (exec C n)
theorem exec_zero : exec C 0 = fun _ _ _ _ _ => none := rfl
theorem exec_succ (n : Nat) : exec C (n + 1) = execStep C (exec C n) := rfl
end
def H0 : H := { m := .nil, f := .nil, next := 0 }
end Go.Den
