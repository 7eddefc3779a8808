/- Code with short environments: what it comes to reduces by computation alone, so that a printed form of each part is proved by the kernel's own reckoning. -/
import Derived.Test.YtghmbmblhdgabaaSr
set_option linter.all false
namespace Go.Den
open Go
variable {C : Cfg} {P : Program} {lo old : Nat} {h : H}

/-! ### continuations that simp leaves alone -/
def bd {A : Type} (o : Option A) (K : A → Prop) : Prop := match o with
  | some a => K a
  | none => False
def bd2 {A B : Type} (o : Option (A × B)) (K : A → B → Prop) : Prop := match o with
  | some (a, b) => K a b
  | none => False
def bdB (o : Option V) (K : Bool → Prop) : Prop := match o with
  | some (.bool b) => K b
  | _ => False
def byT (b : Bool) (A B : Prop) : Prop := match b with
  | true => A
  | false => B
def byV (v : V) (A B D : Prop) : Prop := match v with
  | .bool b => byT b A B
  | .tup [] => D
  | _ => False
/-- not by rfl in the eyes of simp -/
theorem nrfl {a b : Prop} (h : a = b) : a = b := h
theorem bd_some {A : Type} (a : A) (K : A → Prop) : bd (some a) K = K a := propext Iff.rfl
theorem bd2_some {A B : Type} (a : A) (b : B) (K : A → B → Prop) : bd2 (some (a, b)) K = K a b := propext Iff.rfl
theorem bdB_some (b : Bool) (K : Bool → Prop) : bdB (some (.bool b)) K = K b := propext Iff.rfl
theorem byT_true (A B : Prop) : byT true A B = A := propext Iff.rfl
theorem byT_false (A B : Prop) : byT false A B = B := propext Iff.rfl
theorem byV_bool (b : Bool) (A B D : Prop) : byV (.bool b) A B D = byT b A B := propext Iff.rfl
theorem byT_iff {b : Bool} {A B : Prop} : byT b A B ↔ (b = true → A) ∧ (b = false → B) := by cases b <;> simp [byT]
theorem byT_mk {b : Bool} {A B : Prop} (h1 : b = true → A) (h2 : b = false → B) : byT b A B := byT_iff.2 ⟨h1, h2⟩
theorem byT_dec {p : Prop} [Decidable p] {A B : Prop} (h1 : p → A) (h2 : ¬ p → B) : byT (decide p) A B := byT_mk (fun h => h1 (of_decide_eq_true h)) (fun h => h2 (of_decide_eq_false h))
theorem byT_pos {p : Prop} [Decidable p] {A B : Prop} (hp : p) : byT (decide p) A B = A := by rw [decide_eq_true hp]; rfl
theorem byT_neg {p : Prop} [Decidable p] {A B : Prop} (hp : ¬ p) : byT (decide p) A B = B := by rw [decide_eq_false hp]; rfl
theorem bd_mk {A : Type} {o : Option A} {K : A → Prop} (a : A) (h1 : o = some a) (h2 : K a) : bd o K := by subst h1; exact h2
theorem bd_iff {A : Type} {o : Option A} {K : A → Prop} : bd o K ↔ ∃ a, o = some a ∧ K a := by
  cases o with
  | none => exact ⟨False.elim, fun ⟨_, h, _⟩ => by cases h⟩
  | some a => exact ⟨fun h => ⟨a, rfl, h⟩, fun ⟨_, h, k⟩ => by cases h; exact k⟩
theorem bd2_iff {A B : Type} {o : Option (A × B)} {K : A → B → Prop} : bd2 o K ↔ ∃ a b, o = some (a, b) ∧ K a b := by
  cases o with
  | none => exact ⟨False.elim, fun ⟨_, _, h, _⟩ => by cases h⟩
  | some a => obtain ⟨a, b⟩ := a; exact ⟨fun h => ⟨a, b, rfl, h⟩, fun ⟨_, _, h, k⟩ => by cases h; exact k⟩
theorem bdB_iff {o : Option V} {K : Bool → Prop} : bdB o K ↔ ∃ b, o = some (.bool b) ∧ K b := by
  unfold bdB
  split
  · exact ⟨fun h => ⟨_, rfl, h⟩, fun ⟨_, h, k⟩ => by cases h; exact k⟩
  · rename_i hno; exact ⟨False.elim, fun ⟨b, h, k⟩ => hno b h⟩
theorem byV_iff {v : V} {A B D : Prop} : byV v A B D ↔ (v = .bool true ∧ A) ∨ (v = .bool false ∧ B) ∨ (v = undef ∧ D) := by
  unfold byV
  split
  · rename_i b; cases b <;> simp [byT]
  · simp
  · rename_i h1 h2
    constructor
    · exact False.elim
    · rintro (⟨rfl, _⟩ | ⟨rfl, _⟩ | ⟨rfl, _⟩)
      · exact (h1 _ rfl).elim
      · exact (h1 _ rfl).elim
      · exact (h2 rfl).elim
@[congr] theorem bd_congr {A : Type} {o o' : Option A} {K : A → Prop} (h1 : o = o') : bd o K = bd o' K := by rw [h1]
@[congr] theorem bd2_congr {A B : Type} {o o' : Option (A × B)} {K : A → B → Prop} (h1 : o = o') : bd2 o K = bd2 o' K := by rw [h1]
@[congr] theorem bdB_congr {o o' : Option V} {K : Bool → Prop} (h1 : o = o') : bdB o K = bdB o' K := by rw [h1]
@[congr] theorem byT_congr {b b' : Bool} {A B : Prop} (h1 : b = b') : byT b A B = byT b' A B := by rw [h1]
@[congr] theorem byV_congr {v v' : V} {A B D : Prop} (h1 : v = v') : byV v A B D = byV v' A B D := by rw [h1]

/-! ### environments -/
abbrev E := List (Nat × V)
def E.get : E → Nat → V
  | [], _ => undef
  | (t, v) :: r, i => bif Nat.beq i t then v else E.get r i
theorem E.get_cons (t : Nat) (v : V) (r : E) (i : Nat) : E.get ((t, v) :: r) i = if i = t then v else E.get r i := by
  rw [E.get]
  by_cases e : i = t
  · subst e; simp
  · have : Nat.beq i t = false := by cases hb : Nat.beq i t with
      | false => rfl
      | true => exact (e (Nat.eq_of_beq_eq_true hb)).elim
    rw [this, if_neg e]; rfl
def only : List Nat → E → E
  | [], _ => []
  | t :: r, e => (t, e.get t) :: only r e
def outs : List Nat → E → E → E
  | [], _, e => e
  | t :: r, e', e => (t, e'.get t) :: outs r e' e
theorem get_only {L : List Nat} {e : E} {t : Nat} (ht : t ∈ L) : E.get (only L e) t = e.get t := by
  induction L with
  | nil => cases ht
  | cons a L ih =>
    rw [only, E.get_cons]
    split
    · rename_i h; rw [h]
    · rename_i h
      rcases List.mem_cons.1 ht with h1 | h1
      · exact (h h1).elim
      · exact ih h1
theorem get_outs {L : List Nat} {e' e : E} {t : Nat} : E.get (outs L e' e) t = if t ∈ L then e'.get t else e.get t := by
  induction L with
  | nil => simp [outs]
  | cons a L ih =>
    rw [outs, E.get_cons]
    by_cases h1 : t = a
    · simp [h1]
    · rw [if_neg h1, ih]
      simp [h1]
def evX (e : E) : Operand → Option V
  | .tmp t => some (e.get t)
  | .const v => ofValue v
  | .global _ => none
  | .func f => some (.fn (.func f) [] [])

/-! ### operations -/
section
variable (ex : Operand → Option V)
def evsX : List Operand → Option (List V)
  | [] => some []
  | x :: r => match ex x with
    | some v => match evsX r with
      | some vs => some (v :: vs)
      | none => none
    | none => none
def evoX : Option Operand → Option (Option V)
  | none => some none
  | some x => match ex x with
    | some v => some (some v)
    | none => none
def evPartsX : List (Nat × Operand) → Option (List (Nat × V))
  | [] => some []
  | (i, x) :: r => match ex x with
    | some v => match evPartsX r with
      | some vs => some ((i, v) :: vs)
      | none => none
    | none => none
/-- a new value, or a new block -/
def KX (h : H) (K : V → H → Prop) : LR → Prop
  | .val v => K v h
  | .new l k => K (k.at h.next) (h.alloc l)
@[congr] theorem KX_congr {h : H} {K : V → H → Prop} {r r' : LR} (h1 : r = r') : KX h K r = KX h K r' := by rw [h1]
theorem KX_val {v : V} {K : V → H → Prop} : KX h K (.val v) = K v h := propext Iff.rfl
theorem KX_new {l : List V} {k : NK} {K : V → H → Prop} : KX h K (.new l k) = K (k.at h.next) (h.alloc l) := propext Iff.rfl
def oneX (l : List V) (K : V → Prop) : Prop := match l with
  | [a] => K a
  | _ => False
def twoX (l : List V) (K : V → V → Prop) : Prop := match l with
  | [a, b] => K a b
  | _ => False
def intX (v : V) (K : IntKind → Int → Prop) : Prop := match v with
  | .int k n => K k n
  | _ => False
@[congr] theorem intX_congr {v v' : V} {K : IntKind → Int → Prop} (h1 : v = v') : intX v K = intX v' K := by rw [h1]
theorem intX_int {k : IntKind} {n : Int} {K : IntKind → Int → Prop} : intX (.int k n) K = K k n := propext Iff.rfl
def tupX (v : V) (K : List V → Prop) : Prop := match v with
  | .tup l => K l
  | _ => False
@[congr] theorem tupX_congr {v v' : V} {K : List V → Prop} (h1 : v = v') : tupX v K = tupX v' K := by rw [h1]
theorem tupX_tup {l : List V} {K : List V → Prop} : tupX (.tup l) K = K l := propext Iff.rfl
def cmp : BinOp → Bool
  | .eql | .neq | .lss | .leq | .gtr | .geq => true
  | _ => false
def binX (P : Program) (op : BinOp) (t : TypeId) (a b : V) (K : V → Prop) : Prop := match cmp op with
  | true => bdB (binV P op t a b) fun c => K (.bool c)
  | false => bd (binV P op t a b) K
def LO' (P : Program) (rd : Rd) (h : H) (o : Op) (K : V → H → Prop) : Prop :=
  match o with
  | .move x => bd (ex x) fun v => K v h
  | .assign x => bd (ex x) fun v => K v h
  | .pick c x y => bd (ex c) fun c => bd (ex x) fun a => bd (ex y) fun b => byV c (K a h) (K b h) False
  | .alloc t => bd (zero? P t) fun z => K (.ptr h.next 0) (h.alloc z.cells)
  | .box _ x => bd (ex x) fun v => K (.ptr h.next 0) (h.alloc v.cells)
  | .build t ps => bd (evPartsX ex ps.toList) fun l => bd (buildV P t l) fun v => K v h
  | .buildSlice t n ps => bd (evPartsX ex ps.toList) fun l => bd (buildSliceV P t n l) fun r => KX h K r
  | .load t x => bd (ex x) fun a => bd (loadV P t a rd) fun v => K v h
  | .nilCheck x => bd (ex x) fun a => bd (ncV a) fun v => K v h
  | .binOp op t x y _ => bd (ex x) fun a => bd (ex y) fun b => binX P op t a b fun v => K v h
  | .unOp op _ x => bd (ex x) fun a => bd (unV op a) fun v => K v h
  | .convert s d x => bd (ex x) fun a => bd (convV P rd s d a) fun r => KX h K r
  | .makeFunc f a c => bd (evsX ex a.toList) fun a => bd (evsX ex c.toList) fun c => K (.fn f a c) h
  | .makeSlice t l c => bd (ex l) fun a => bd (ex c) fun b => bd (makeSliceV P t a b) fun r => KX h K r
  | .slice t x l m k => bd (ex x) fun a => bd (evoX ex l) fun l' => bd (evoX ex m) fun m' => bd (evoX ex k) fun k' => bd (sliceV P rd t a l' m' k') fun v => K v h
  | .fieldAddr t x f => bd (ex x) fun a => bd (fieldAddrV P t a f) fun v => K v h
  | .field t x f => bd (ex x) fun a => bd (fieldV P t a f) fun v => K v h
  | .indexAddr t x y => bd (ex x) fun a => bd (ex y) fun b => bd (addrV P t a b) fun v => K v h
  | .index t x y => bd (ex x) fun a => bd (ex y) fun b => bd (indexV P t a b) fun v => K v h
  | .extract x f => bd (ex x) fun c => tupX c fun vs => bd vs[f]? fun v => K v h
  | .call { callee := .builtin .len, args, argTypes } => bd (evsX ex args.toList) fun l => oneX l fun a => bd (lenV P argTypes.toList a) fun v => K v h
  | .call { callee := .builtin .min, args, .. } => bd (evsX ex args.toList) fun l => twoX l fun x y => intX x fun k a => intX y fun _ b => K (.int k (if b < a then b else a)) h
  | .call { callee := .builtin .max, args, .. } => bd (evsX ex args.toList) fun l => twoX l fun x y => intX x fun k a => intX y fun _ b => K (.int k (if b > a then b else a)) h
  | _ => False
/-- a call of a value -/
def callX (C : Cfg) (f : V) (vs : List V) (lo : Nat) (h : H) (K : V → H → Prop) : Prop := match f with
  | .fn (.func g) a b => CW C g (a ++ vs ++ b) lo h K
  | _ => False
def OX (C : Cfg) (lo : Nat) (h : H) (o : Op) (K : V → H → Prop) : Prop :=
  match o with
  | .store t x y => bd (ex x) fun a => bd (ex y) fun v => bd (storeV C.P lo t a v h) fun h1 => K undef h1
  | .convert s d x => bif Nat.beq s d then (bif isSlice C.P s then bd (ex x) fun x => bd2 (markV C.P lo s x h) K else False) else LO' ex C.P h.read h (.convert s d x) K
  | .call { callee := .value f, args, .. } => bd (evsX ex args.toList) fun vs => bd (ex f) fun f => callX C f vs lo h K
  | .call { callee := .builtin .append, args, argTypes } => bd (evsX ex args.toList) fun l => twoX l fun s x => bd2 (appendV C.P lo argTypes.toList s x h) K
  | .call { callee := .builtin .copy, args, argTypes } => bd (evsX ex args.toList) fun l => twoX l fun s x => bd2 (copyV C.P lo argTypes.toList s x h) K
  | o => LO' ex C.P h.read h o K
def endX (h : H) (s : V) (K : Prop) : Prop := match s with
  | .sl b off n _ es => bd (h.read b) fun cs => off + n * es = cs.length ∧ K
  | _ => K
/-- an operation of a front -/
def FOX (C : Cfg) (lo old : Nat) (st : Bool) (h : H) (o : Op) (K : V → H → Prop) : Prop :=
  match o with
  | .store t x y => bd (ex x) fun a => bd (ex y) fun v => bd (storeV C.P (max lo old) t a v h) fun h1 => K undef h1
  | .convert s d x => bif Nat.beq s d then (bif isSlice C.P s then bd (ex x) fun x => bd2 (markV C.P lo s x h) K else False) else LO' ex C.P (rdOf st old h) h (.convert s d x) K
  | .call { callee := .value f, args, .. } => bd (evsX ex args.toList) fun vs => bd (ex f) fun f => callX C f vs h.next h K
  | .call { callee := .builtin .append, args, argTypes } => bd (evsX ex args.toList) fun l => twoX l fun s x => endX h s (bd2 (appendV C.P lo argTypes.toList s x h) K)
  | .call { callee := .builtin .copy, .. } => False
  | .call { callee := .builtin .min, .. } => False
  | .call { callee := .builtin .max, .. } => False
  | o => LO' ex C.P (rdOf st old h) h o K
end
end Go.Den
