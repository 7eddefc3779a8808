/- Code with short environments: what it comes to reduces by computation alone, so that a printed form of each part is proved by the kernel's own reckoning. -/
import Derived.Test.YtghmbmblhdgabaaDoorDenF
import Derived.Test.YtghmbmblhdgabaaDoorDenE
set_option linter.all false
namespace Go.Den
open Go
variable {C : Cfg} {P : Program} {lo old : Nat} {h : H}

/-! ### continuations that simp leaves alone -/
def bd {A : Type} (o : Option A) (K : A → Prop) : Prop := match o with
  | some a => K a
  | none => False
/-- an operand's value: it is there, and the kernel is to look at once -/
noncomputable abbrev bdE {A : Type} (o : Option A) (K : A → Prop) : Prop := @Option.rec A (fun _ => Prop) False K o
noncomputable abbrev bdE2 {A B : Type} (o : Option (A × B)) (K : A → B → Prop) : Prop := @Option.rec (A × B) (fun _ => Prop) False (fun p => @Prod.rec A B (fun _ => Prop) K p) o
def bd2 {A B : Type} (o : Option (A × B)) (K : A → B → Prop) : Prop := match o with
  | some (a, b) => K a b
  | none => False
def bdB (o : Option V) (K : Bool → Prop) : Prop := match o with
  | some (.bool b) => K b
  | _ => False
def byT (b : Bool) (A B : Prop) : Prop := match b with
  | true => A
  | false => B
def byV (v : V) (A B D : Prop) : Prop := match v with
  | .bool b => byT b A B
  | .tup [] => D
  | _ => False
/-- not by rfl in the eyes of simp -/
theorem nrfl {a b : Prop} (h : a = b) : a = b := h
theorem bd_some {A : Type} (a : A) (K : A → Prop) : bd (some a) K = K a := propext Iff.rfl
theorem bd2_some {A B : Type} (a : A) (b : B) (K : A → B → Prop) : bd2 (some (a, b)) K = K a b := propext Iff.rfl
theorem bdB_some (b : Bool) (K : Bool → Prop) : bdB (some (.bool b)) K = K b := propext Iff.rfl
theorem byT_true (A B : Prop) : byT true A B = A := propext Iff.rfl
theorem byT_false (A B : Prop) : byT false A B = B := propext Iff.rfl
theorem byV_bool (b : Bool) (A B D : Prop) : byV (.bool b) A B D = byT b A B := propext Iff.rfl
theorem byT_iff {b : Bool} {A B : Prop} : byT b A B ↔ (b = true → A) ∧ (b = false → B) := by cases b <;> simp [byT]
theorem byT_mk {b : Bool} {A B : Prop} (h1 : b = true → A) (h2 : b = false → B) : byT b A B := byT_iff.2 ⟨h1, h2⟩
theorem byT_dec {p : Prop} [Decidable p] {A B : Prop} (h1 : p → A) (h2 : ¬ p → B) : byT (decide p) A B := byT_mk (fun h => h1 (of_decide_eq_true h)) (fun h => h2 (of_decide_eq_false h))
theorem byT_pos {p : Prop} [Decidable p] {A B : Prop} (hp : p) : byT (decide p) A B = A := by rw [decide_eq_true hp]; rfl
theorem byT_neg {p : Prop} [Decidable p] {A B : Prop} (hp : ¬ p) : byT (decide p) A B = B := by rw [decide_eq_false hp]; rfl
theorem bd_mk {A : Type} {o : Option A} {K : A → Prop} (a : A) (h1 : o = some a) (h2 : K a) : bd o K := by subst h1; exact h2
theorem bd_iff {A : Type} {o : Option A} {K : A → Prop} : bd o K ↔ ∃ a, o = some a ∧ K a := by
  cases o with
  | none => exact ⟨False.elim, fun ⟨_, h, _⟩ => by cases h⟩
  | some a => exact ⟨fun h => ⟨a, rfl, h⟩, fun ⟨_, h, k⟩ => by cases h; exact k⟩
theorem bdE_iff {A : Type} {o : Option A} {K : A → Prop} : bdE o K ↔ ∃ a, o = some a ∧ K a := by
  cases o with
  | none => exact ⟨False.elim, fun ⟨_, h, _⟩ => by cases h⟩
  | some a => exact ⟨fun h => ⟨a, rfl, h⟩, fun ⟨_, h, k⟩ => by cases h; exact k⟩
theorem bdE2_iff {A B : Type} {o : Option (A × B)} {K : A → B → Prop} : bdE2 o K ↔ ∃ a b, o = some (a, b) ∧ K a b := by
  cases o with
  | none => exact ⟨False.elim, fun ⟨_, _, h, _⟩ => by cases h⟩
  | some a => obtain ⟨a, b⟩ := a; exact ⟨fun h => ⟨a, b, rfl, h⟩, fun ⟨_, _, h, k⟩ => by cases h; exact k⟩
theorem bd2_iff {A B : Type} {o : Option (A × B)} {K : A → B → Prop} : bd2 o K ↔ ∃ a b, o = some (a, b) ∧ K a b := by
  cases o with
  | none => exact ⟨False.elim, fun ⟨_, _, h, _⟩ => by cases h⟩
  | some a => obtain ⟨a, b⟩ := a; exact ⟨fun h => ⟨a, b, rfl, h⟩, fun ⟨_, _, h, k⟩ => by cases h; exact k⟩
theorem bdB_iff {o : Option V} {K : Bool → Prop} : bdB o K ↔ ∃ b, o = some (.bool b) ∧ K b := by
  unfold bdB
  split
  · exact ⟨fun h => ⟨_, rfl, h⟩, fun ⟨_, h, k⟩ => by cases h; exact k⟩
  · rename_i hno; exact ⟨False.elim, fun ⟨b, h, k⟩ => hno b h⟩
theorem byV_iff {v : V} {A B D : Prop} : byV v A B D ↔ (v = .bool true ∧ A) ∨ (v = .bool false ∧ B) ∨ (v = undef ∧ D) := by
  unfold byV
  split
  · rename_i b; cases b <;> simp [byT]
  · simp
  · rename_i h1 h2
    constructor
    · exact False.elim
    · rintro (⟨rfl, _⟩ | ⟨rfl, _⟩ | ⟨rfl, _⟩)
      · exact (h1 _ rfl).elim
      · exact (h1 _ rfl).elim
      · exact (h2 rfl).elim
@[congr] theorem bd_congr {A : Type} {o o' : Option A} {K : A → Prop} (h1 : o = o') : bd o K = bd o' K := by rw [h1]
@[congr] theorem bd2_congr {A B : Type} {o o' : Option (A × B)} {K : A → B → Prop} (h1 : o = o') : bd2 o K = bd2 o' K := by rw [h1]
@[congr] theorem bdB_congr {o o' : Option V} {K : Bool → Prop} (h1 : o = o') : bdB o K = bdB o' K := by rw [h1]
@[congr] theorem byT_congr {b b' : Bool} {A B : Prop} (h1 : b = b') : byT b A B = byT b' A B := by rw [h1]
@[congr] theorem byV_congr {v v' : V} {A B D : Prop} (h1 : v = v') : byV v A B D = byV v' A B D := by rw [h1]

/-! ### environments -/
abbrev E := List (Nat × V)
def E.get : E → Nat → V
  | [], _ => undef
  | (t, v) :: r, i => bif Nat.beq i t then v else E.get r i
theorem E.get_cons (t : Nat) (v : V) (r : E) (i : Nat) : E.get ((t, v) :: r) i = if i = t then v else E.get r i := by
  rw [E.get]
  by_cases e : i = t
  · subst e; simp
  · have : Nat.beq i t = false := by cases hb : Nat.beq i t with
      | false => rfl
      | true => exact (e (Nat.eq_of_beq_eq_true hb)).elim
    rw [this, if_neg e]; rfl
def only : List Nat → E → E
  | [], _ => []
  | t :: r, e => (t, e.get t) :: only r e
def outs : List Nat → E → E → E
  | [], _, e => e
  | t :: r, e', e => (t, e'.get t) :: outs r e' e
theorem get_only {L : List Nat} {e : E} {t : Nat} (ht : t ∈ L) : E.get (only L e) t = e.get t := by
  induction L with
  | nil => cases ht
  | cons a L ih =>
    rw [only, E.get_cons]
    split
    · rename_i h; rw [h]
    · rename_i h
      rcases List.mem_cons.1 ht with h1 | h1
      · exact (h h1).elim
      · exact ih h1
theorem get_outs {L : List Nat} {e' e : E} {t : Nat} : E.get (outs L e' e) t = if t ∈ L then e'.get t else e.get t := by
  induction L with
  | nil => simp [outs]
  | cons a L ih =>
    rw [outs, E.get_cons]
    by_cases h1 : t = a
    · simp [h1]
    · rw [if_neg h1, ih]
      simp [h1]
def evX (e : E) : Operand → Option V
  | .tmp t => some (e.get t)
  | .const v => ofValue v
  | .global g => (gAt g).map fun b => .ptr b 0
  | .func f => some (.fn (.func f) [] [])

/-! ### operations -/
section
variable (ex : Operand → Option V)
def evsX : List Operand → Option (List V)
  | [] => some []
  | x :: r => match ex x with
    | some v => match evsX r with
      | some vs => some (v :: vs)
      | none => none
    | none => none
def evoX : Option Operand → Option (Option V)
  | none => some none
  | some x => match ex x with
    | some v => some (some v)
    | none => none
def evPartsX : List (Nat × Operand) → Option (List (Nat × V))
  | [] => some []
  | (i, x) :: r => match ex x with
    | some v => match evPartsX r with
      | some vs => some ((i, v) :: vs)
      | none => none
    | none => none
/-- a new value, or a new block -/
def KX (h : H) (K : V → H → Prop) : LR → Prop
  | .val v => K v h
  | .new l k => K (k.at h.next) (h.alloc l)
@[congr] theorem KX_congr {h : H} {K : V → H → Prop} {r r' : LR} (h1 : r = r') : KX h K r = KX h K r' := by rw [h1]
theorem KX_val {v : V} {K : V → H → Prop} : KX h K (.val v) = K v h := propext Iff.rfl
theorem KX_new {l : List V} {k : NK} {K : V → H → Prop} : KX h K (.new l k) = K (k.at h.next) (h.alloc l) := propext Iff.rfl
def one? : List V → Option V
  | [a] => some a
  | _ => none
def two? : List V → Option (V × V)
  | [a, b] => some (a, b)
  | _ => none
noncomputable abbrev oneX (l : List V) (K : V → Prop) : Prop := bdE (one? l) K
noncomputable abbrev twoX (l : List V) (K : V → V → Prop) : Prop := bdE2 (two? l) K
def intX (v : V) (K : IntKind → Int → Prop) : Prop := match v with
  | .int k n => K k n
  | _ => False
@[congr] theorem intX_congr {v v' : V} {K : IntKind → Int → Prop} (h1 : v = v') : intX v K = intX v' K := by rw [h1]
theorem intX_int {k : IntKind} {n : Int} {K : IntKind → Int → Prop} : intX (.int k n) K = K k n := propext Iff.rfl
def tupX (v : V) (K : List V → Prop) : Prop := match v with
  | .tup l => K l
  | _ => False
@[congr] theorem tupX_congr {v v' : V} {K : List V → Prop} (h1 : v = v') : tupX v K = tupX v' K := by rw [h1]
theorem tupX_tup {l : List V} {K : List V → Prop} : tupX (.tup l) K = K l := propext Iff.rfl
def cmp : BinOp → Bool
  | .eql | .neq | .lss | .leq | .gtr | .geq => true
  | _ => false
noncomputable abbrev binX (P : Program) (op : BinOp) (t : TypeId) (a b : V) (K : V → Prop) : Prop :=
  @Bool.rec (fun _ => Prop) (bd (binV P op t a b) K) (bdB (binV P op t a b) fun c => K (.bool c)) (cmp op)
noncomputable def LO' (P : Program) (rd : Rd) (h : H) (o : Op) (K : V → H → Prop) : Prop :=
  match o with
  | .move x => bdE (ex x) fun v => K v h
  | .assign x => bdE (ex x) fun v => K v h
  | .pick c x y => bdE (ex c) fun c => bdE (ex x) fun a => bdE (ex y) fun b => byV c (K a h) (K b h) False
  | .alloc t => bd (zero? P t) fun z => K (.ptr h.next 0) (h.alloc z.cells)
  | .box _ x => bdE (ex x) fun v => K (.ptr h.next 0) (h.alloc v.cells)
  | .build t ps => bdE (evPartsX ex ps.toList) fun l => bd (buildV P t l) fun v => K v h
  | .buildSlice t n ps => bdE (evPartsX ex ps.toList) fun l => bd (buildSliceV P t n l) fun r => KX h K r
  | .load t x => bdE (ex x) fun a => bd (loadV P t a rd) fun v => K v h
  | .nilCheck x => bdE (ex x) fun a => bd (ncV a) fun v => K v h
  | .binOp op t x y _ => bdE (ex x) fun a => bdE (ex y) fun b => binX P op t a b fun v => K v h
  | .unOp op _ x => bdE (ex x) fun a => bdE (unV op a) fun v => K v h
  | .convert s d x => bdE (ex x) fun a => bd (convV P rd s d a) fun r => KX h K r
  | .makeFunc f a c => bdE (evsX ex a.toList) fun a => bdE (evsX ex c.toList) fun c => K (.fn f a c) h
  | .makeSlice t l c => bdE (ex l) fun a => bdE (ex c) fun b => bd (makeSliceV P t a b) fun r => KX h K r
  | .slice t x l m k => bdE (ex x) fun a => bdE (evoX ex l) fun l' => bdE (evoX ex m) fun m' => bdE (evoX ex k) fun k' => bd (sliceV P rd t a l' m' k') fun v => K v h
  | .fieldAddr t x f => bdE (ex x) fun a => bd (fieldAddrV P t a f) fun v => K v h
  | .field t x f => bdE (ex x) fun a => bd (fieldV P t a f) fun v => K v h
  | .indexAddr t x y => bdE (ex x) fun a => bdE (ex y) fun b => bd (addrV P t a b) fun v => K v h
  | .index t x y => bdE (ex x) fun a => bdE (ex y) fun b => bd (indexV P t a b) fun v => K v h
  | .extract x f => bdE (ex x) fun c => tupX c fun vs => bd vs[f]? fun v => K v h
  | .call { callee := .builtin .len, args, argTypes } => bdE (evsX ex args.toList) fun l => oneX l fun a => bd (lenV P argTypes.toList a) fun v => K v h
  | .call { callee := .builtin .min, args, .. } => bdE (evsX ex args.toList) fun l => twoX l fun x y => intX x fun k a => intX y fun _ b => K (.int k (if b < a then b else a)) h
  | .call { callee := .builtin .max, args, .. } => bdE (evsX ex args.toList) fun l => twoX l fun x y => intX x fun k a => intX y fun _ b => K (.int k (if b > a then b else a)) h
  | _ => False
/-- a call of a value -/
def callX (C : Cfg) (f : V) (vs : List V) (lo : Nat) (h : H) (K : V → H → Prop) : Prop := match f with
  | .fn (.func g) a b => CW C g (a ++ vs ++ b) lo h K
  | _ => False
noncomputable def OX (C : Cfg) (lo : Nat) (h : H) (o : Op) (K : V → H → Prop) : Prop :=
  match o with
  | .store t x y => bdE (ex x) fun a => bdE (ex y) fun v => bd (storeV C.P lo t a v h) fun h1 => K undef h1
  | .convert s d x => bif Nat.beq s d then (bif isSlice C.P s then bdE (ex x) fun x => bd2 (markV C.P lo s x h) K else False) else LO' ex C.P h.read h (.convert s d x) K
  | .call { callee := .value (.func g), args, .. } => bdE (evsX ex args.toList) fun vs => CW C g vs lo h K
  | .call { callee := .value f, args, .. } => bdE (evsX ex args.toList) fun vs => bdE (ex f) fun f => callX C f vs lo h K
  | .call { callee := .builtin .append, args, argTypes } => bdE (evsX ex args.toList) fun l => twoX l fun s x => bd2 (appendV C.P lo argTypes.toList s x h) K
  | .call { callee := .builtin .copy, args, argTypes } => bdE (evsX ex args.toList) fun l => twoX l fun s x => bd2 (copyV C.P lo argTypes.toList s x h) K
  | o => LO' ex C.P h.read h o K
def endX (h : H) (s : V) (K : Prop) : Prop := match s with
  | .sl b off n _ es => bd (h.read b) fun cs => off + n * es = cs.length ∧ K
  | _ => K
/-- an operation of a front -/
noncomputable def FOX (C : Cfg) (lo old : Nat) (st : Bool) (h : H) (o : Op) (K : V → H → Prop) : Prop :=
  match o with
  | .store t x y => bdE (ex x) fun a => bdE (ex y) fun v => bd (storeV C.P (max lo old) t a v h) fun h1 => K undef h1
  | .convert s d x => bif Nat.beq s d then (bif isSlice C.P s then bdE (ex x) fun x => bd2 (markV C.P lo s x h) K else False) else LO' ex C.P (rdOf st old h) h (.convert s d x) K
  | .call { callee := .value (.func g), args, .. } => bdE (evsX ex args.toList) fun vs => CW C g vs h.next h K
  | .call { callee := .value f, args, .. } => bdE (evsX ex args.toList) fun vs => bdE (ex f) fun f => callX C f vs h.next h K
  | .call { callee := .builtin .append, args, argTypes } => bdE (evsX ex args.toList) fun l => twoX l fun s x => endX h s (bd2 (appendV C.P lo argTypes.toList s x h) K)
  | .call { callee := .builtin .copy, .. } => False
  | .call { callee := .builtin .min, .. } => False
  | .call { callee := .builtin .max, .. } => False
  | o => LO' ex C.P (rdOf st old h) h o K
end
end Go.Den
/- What an operation with a short environment comes to, it comes to on the machine. -/
namespace Go.Den
open Go
variable {C : Cfg} {P : Program} {lo old : Nat} {h : H} {st : Bool}

theorem bd_P {A : Type} {o : Option A} {K : A → Prop} (hb : bd o K) : bindP o K := bd_iff.1 hb
theorem bd_P' {A : Type} {o : Option A} {K K' : A → Prop} (hb : bd o K) (hk : ∀ a, K a → K' a) : bindP o K' := by
  obtain ⟨a, h1, h2⟩ := bd_iff.1 hb; exact ⟨a, h1, hk _ h2⟩
theorem eP {A : Type} {o : Option A} {K : A → Prop} (hb : bdE o K) : bindP o K := bdE_iff.1 hb
theorem eP' {A : Type} {o : Option A} {K K' : A → Prop} (hb : bdE o K) (hk : ∀ a, K a → K' a) : bindP o K' := by
  obtain ⟨a, h1, h2⟩ := bdE_iff.1 hb; exact ⟨a, h1, hk _ h2⟩
theorem KX_L {K : V → H → Prop} {r : LR} (hk : KX h K r) : KL h K r := by cases r <;> exact hk
theorem evsX_ev {e : Env} : ∀ l : List Operand, evsX (ev e) l = evs e l
  | [] => rfl
  | x :: r => by
    have ih := evsX_ev (e := e) r
    unfold evs at ih ⊢
    unfold evsX omap
    rw [ih]
    cases ev e x with
    | none => rfl
    | some v => cases omap (ev e) r <;> rfl
theorem evoX_ev {e : Env} (x : Option Operand) : evoX (ev e) x = evo e x := by cases x <;> rfl
theorem evPartsX_ev {e : Env} : ∀ l : List (Nat × Operand), evPartsX (ev e) l = evParts e l
  | [] => rfl
  | (i, x) :: r => by
    have ih := evPartsX_ev (e := e) r
    unfold evParts at ih ⊢
    unfold evPartsX omap
    rw [ih]
    have he : evPart e (i, x) = match ev e x with
      | some v => some (i, v)
      | none => none := rfl
    rw [he]
    cases ev e x with
    | none => rfl
    | some v => cases omap (evPart e) r <;> rfl
theorem oneX_one {l : List V} {K : V → Prop} (ho : oneX l K) : ∃ a, l = [a] ∧ K a := by
  obtain ⟨a, h1, h2⟩ := bdE_iff.1 ho
  unfold one? at h1
  split at h1
  · cases h1; exact ⟨_, rfl, h2⟩
  · cases h1
theorem twoX_two {l : List V} {K : V → V → Prop} (ho : twoX l K) : ∃ a b, l = [a, b] ∧ K a b := by
  obtain ⟨a, b, h1, h2⟩ := bdE2_iff.1 ho
  unfold two? at h1
  split at h1
  · cases h1; exact ⟨_, _, rfl, h2⟩
  · cases h1
theorem intX_int' {v : V} {K : IntKind → Int → Prop} (ho : intX v K) : ∃ k n, v = .int k n ∧ K k n := by
  unfold intX at ho
  split at ho
  · exact ⟨_, _, rfl, ho⟩
  · exact ho.elim
theorem tupX_tup' {v : V} {K : List V → Prop} (ho : tupX v K) : ∃ l, v = .tup l ∧ K l := by
  unfold tupX at ho
  split at ho
  · exact ⟨_, rfl, ho⟩
  · exact ho.elim
theorem binX_bin {op : BinOp} {t : TypeId} {a b : V} {K : V → Prop} (hb : binX P op t a b K) : bindP (binV P op t a b) K := by
  unfold binX at hb
  cases hc : cmp op with
  | true =>
    rw [hc] at hb
    have hb : bdB (binV P op t a b) fun c => K (.bool c) := hb
    obtain ⟨c, h1, h2⟩ := bdB_iff.1 hb
    exact ⟨_, h1, h2⟩
  | false =>
    rw [hc] at hb
    exact bd_P (show bd (binV P op t a b) K from hb)
theorem LO'_LO {e : Env} {rd : Rd} {o : Op} {K : V → H → Prop} (hw : LO' (ev e) P rd h o K) : LO P rd e h o K := by
  cases o <;> try exact hw.elim
  case move x => rw [LO_move]; exact eP hw
  case assign x => rw [LO_assign]; exact eP hw
  case pick c x y =>
    obtain ⟨c', h1, hw⟩ := bdE_iff.1 hw
    obtain ⟨a, h2, hw⟩ := bdE_iff.1 hw
    obtain ⟨b, h3, hw⟩ := bdE_iff.1 hw
    rw [LO_pick]
    rcases byV_iff.1 hw with ⟨rfl, hk⟩ | ⟨rfl, hk⟩ | ⟨_, hk⟩
    · exact ⟨_, h1, true, rfl, a, h2, b, h3, hk⟩
    · exact ⟨_, h1, false, rfl, a, h2, b, h3, by simpa using hk⟩
    · exact hk.elim
  case alloc t => rw [LO_alloc]; exact bd_P hw
  case box t x => rw [LO_box]; exact eP hw
  case build t ps => rw [LO_build, ← evPartsX_ev]; exact eP' hw fun _ h => bd_P h
  case buildSlice t n ps => rw [LO_buildSlice, ← evPartsX_ev]; exact eP' hw fun _ h => bd_P' h fun _ h => KX_L h
  case load t x => rw [LO_load]; exact eP' hw fun _ h => bd_P h
  case nilCheck x => rw [LO_nilCheck]; exact eP' hw fun _ h => bd_P h
  case binOp op t x y _ => rw [LO_binOp]; exact eP' hw fun _ h => eP' h fun _ h => binX_bin h
  case unOp op t x => rw [LO_unOp]; exact eP' hw fun _ h => eP h
  case convert s d x => rw [LO_conv]; exact eP' hw fun _ h => bd_P' h fun _ h => KX_L h
  case makeFunc f a c =>
    obtain ⟨as, h1, hw⟩ := bdE_iff.1 hw
    obtain ⟨cs, h2, hw⟩ := bdE_iff.1 hw
    rw [evsX_ev] at h1 h2
    exact ⟨.val (.fn f as cs), by simp only [lightOp, h1, h2], hw⟩
  case makeSlice t x y => rw [LO_makeSlice]; exact eP' hw fun _ h => eP' h fun _ h => bd_P' h fun _ h => KX_L h
  case slice t x l m k =>
    rw [LO_slice, ← evoX_ev, ← evoX_ev, ← evoX_ev]
    exact eP' hw fun _ h => eP' h fun _ h => eP' h fun _ h => eP' h fun _ h => bd_P h
  case fieldAddr t x f => rw [LO_fieldAddr]; exact eP' hw fun _ h => bd_P h
  case field t x f => rw [LO_field]; exact eP' hw fun _ h => bd_P h
  case indexAddr t x y => rw [LO_indexAddr]; exact eP' hw fun _ h => eP' h fun _ h => bd_P h
  case index t x y => rw [LO_index]; exact eP' hw fun _ h => eP' h fun _ h => bd_P h
  case extract x f =>
    rw [LO_extract]
    refine eP' hw fun _ h => ?_
    obtain ⟨l, h1, h2⟩ := tupX_tup' h
    exact ⟨l, h1, bd_P h2⟩
  case call c =>
    obtain ⟨callee, args, ts⟩ := c
    cases callee <;> try exact hw.elim
    rename_i b
    cases b <;> try exact hw.elim
    · rw [LO_len, ← evsX_ev]
      refine eP' hw fun _ h => ?_
      obtain ⟨a, rfl, h2⟩ := oneX_one h
      exact bd_P h2
    · rw [LO_max]
      obtain ⟨l, h1, hw⟩ := bdE_iff.1 hw
      rw [evsX_ev] at h1
      obtain ⟨a, b, rfl, h2⟩ := twoX_two hw
      obtain ⟨k, x, e1, h3⟩ := intX_int' h2
      have h3 : intX b _ := h3
      obtain ⟨k', y, e2, h4⟩ := intX_int' h3
      exact ⟨_, h1, k, x, e1, k', y, e2, h4⟩
    · rw [LO_min]
      obtain ⟨l, h1, hw⟩ := bdE_iff.1 hw
      rw [evsX_ev] at h1
      obtain ⟨a, b, rfl, h2⟩ := twoX_two hw
      obtain ⟨k, x, e1, h3⟩ := intX_int' h2
      have h3 : intX b _ := h3
      obtain ⟨k', y, e2, h4⟩ := intX_int' h3
      exact ⟨_, h1, k, x, e1, k', y, e2, h4⟩
theorem callX_CW {f : V} {vs : List V} {K : V → H → Prop} (hw : callX C f vs lo h K) : ∃ g a b, f = .fn (.func g) a b ∧ CW C g (a ++ vs ++ b) lo h K := by
  unfold callX at hw
  split at hw
  · exact ⟨_, _, _, rfl, hw⟩
  · exact hw.elim
theorem OW_call_val {e : Env} {f : Operand} {as : Array Operand} {ts : Array TypeId} {K : V → H → Prop} (hw : bdE (evsX (ev e) as.toList) fun vs => bdE (ev e f) fun f => callX C f vs lo h K) : OW C lo e h (.call { callee := .value f, args := as, argTypes := ts }) K := by
  obtain ⟨vs, h1, hw⟩ := bdE_iff.1 hw
  obtain ⟨fv, h2, hw⟩ := bdE_iff.1 hw
  obtain ⟨g, a, b, rfl, hw⟩ := callX_CW hw
  rw [evsX_ev] at h1
  unfold OW
  exact ⟨vs, g, a, b, h1, h2, hw⟩
theorem OW_call_fn {e : Env} {g : FuncId} {as : Array Operand} {ts : Array TypeId} {K : V → H → Prop} (hw : bdE (evsX (ev e) as.toList) fun vs => CW C g vs lo h K) : OW C lo e h (.call { callee := .value (.func g), args := as, argTypes := ts }) K := by
  obtain ⟨vs, h1, hw⟩ := bdE_iff.1 hw
  rw [evsX_ev] at h1
  rw [OW_call]
  exact ⟨vs, h1, hw⟩
theorem OW_append_X {e : Env} {as : Array Operand} {ts : Array TypeId} {K : V → H → Prop} (hw : bdE (evsX (ev e) as.toList) fun l => twoX l fun s x => bd2 (appendV C.P lo ts.toList s x h) K) : OW C lo e h (.call { callee := .builtin .append, args := as, argTypes := ts }) K := by
  rw [OW_append']
  obtain ⟨vs, h1, hw⟩ := bdE_iff.1 hw
  obtain ⟨a, b, rfl, h2⟩ := twoX_two hw
  obtain ⟨v, h3, h4, h5⟩ := bd2_iff.1 h2
  rw [evsX_ev] at h1
  exact ⟨a, b, v, h3, h1, h4, h5⟩
theorem OW_copy_X {e : Env} {as : Array Operand} {ts : Array TypeId} {K : V → H → Prop} (hw : bdE (evsX (ev e) as.toList) fun l => twoX l fun s x => bd2 (copyV C.P lo ts.toList s x h) K) : OW C lo e h (.call { callee := .builtin .copy, args := as, argTypes := ts }) K := by
  rw [OW_copy']
  obtain ⟨vs, h1, hw⟩ := bdE_iff.1 hw
  obtain ⟨a, b, rfl, h2⟩ := twoX_two hw
  obtain ⟨v, h3, h4, h5⟩ := bd2_iff.1 h2
  rw [evsX_ev] at h1
  exact ⟨a, b, v, h3, h1, h4, h5⟩
theorem OW_mark_X {e : Env} {s : TypeId} {x : Operand} {K : V → H → Prop} (hs : isSlice C.P s = true) (hw : bdE (ev e x) fun x => bd2 (markV C.P lo s x h) K) : OW C lo e h (.convert s s x) K := by
  rw [OW_mark' hs]
  obtain ⟨a, h1, hw⟩ := bdE_iff.1 hw
  obtain ⟨v, h3, h4, h5⟩ := bd2_iff.1 hw
  exact ⟨a, v, h3, h1, h4, h5⟩
theorem beq_of_false {a b : Nat} (h : Nat.beq a b = false) : a ≠ b := fun e => by rw [e, Nat.beq_refl] at h; cases h
theorem OX_OW {e : Env} {o : Op} {K : V → H → Prop} (hw : OX (ev e) C lo h o K) : OW C lo e h o K := by
  cases o <;> try exact hw.elim
  case store t x y =>
    rw [OW_store]
    exact eP' hw fun _ h => eP' h fun _ h => bd_P h
  case convert s d x =>
    unfold OX at hw
    simp only at hw
    cases hb : Nat.beq s d with
    | true =>
      rw [hb] at hw
      have := Nat.eq_of_beq_eq_true hb
      subst this
      cases hs : isSlice C.P s with
      | true => rw [hs] at hw; exact OW_mark_X hs hw
      | false => rw [hs] at hw; exact hw.elim
    | false =>
      rw [hb] at hw
      rw [OW_conv (beq_of_false hb)]
      exact LO'_LO hw
  case call c =>
    obtain ⟨callee, args, ts⟩ := c
    cases callee
    case value f => cases f <;> first | exact OW_call_fn hw | exact OW_call_val hw
    case builtin b =>
      cases b
      case append => exact OW_append_X hw
      case copy => exact OW_copy_X hw
      case len => rw [OW_len]; exact LO'_LO hw
      case min => rw [OW_min]; exact LO'_LO hw
      case max => rw [OW_max]; exact LO'_LO hw
      all_goals exact hw.elim
    all_goals exact hw.elim
  all_goals exact Eq.mpr LO_keep (LO'_LO hw)
theorem FOX_FOW {e : Env} {o : Op} {K : V → H → Prop} (hw : FOX (ev e) C lo old st h o K) : FOW C lo old st e h o K := by
  cases o <;> try exact hw.elim
  case store t x y =>
    rw [FOW_store]
    exact eP' hw fun _ h => eP' h fun _ h => bd_P h
  case convert s d x =>
    unfold FOX at hw
    simp only at hw
    cases hb : Nat.beq s d with
    | true =>
      rw [hb] at hw
      have := Nat.eq_of_beq_eq_true hb
      subst this
      cases hs : isSlice C.P s with
      | true =>
        rw [hs] at hw
        unfold FOW
        have : heavy (.convert s s x) = true := by simp [heavy]
        rw [this]
        exact ⟨rfl, OW_mark_X hs hw⟩
      | false => rw [hs] at hw; exact hw.elim
    | false =>
      rw [hb] at hw
      rw [FOW_conv (beq_of_false hb)]
      exact LO'_LO hw
  case call c =>
    obtain ⟨callee, args, ts⟩ := c
    cases callee
    case value f => cases f <;> first | exact ⟨rfl, OW_call_fn hw⟩ | exact ⟨rfl, OW_call_val hw⟩
    case builtin b =>
      cases b
      case append =>
        rw [FOW_append']
        obtain ⟨vs, h1, hw⟩ := bdE_iff.1 hw
        obtain ⟨a, b, rfl, h2⟩ := twoX_two hw
        rw [evsX_ev] at h1
        have key : atEnd e h (.call { callee := .builtin .append, args := args, argTypes := ts }) = true ∧ bd2 (appendV C.P lo ts.toList a b h) K := by
          have hx : ∃ x r, args.toList = x :: r ∧ ev e x = some a := by
            generalize args.toList = l at h1
            cases l with
            | nil => cases h1
            | cons x r =>
              refine ⟨x, r, rfl, ?_⟩
              unfold evs omap at h1
              split at h1
              · rename_i y hy
                split at h1
                · cases h1; exact hy
                · cases h1
              · cases h1
          obtain ⟨x, r, hl, hx⟩ := hx
          unfold atEnd
          simp only [hl, hx]
          unfold endX at h2
          split at h2
          · obtain ⟨cs, h3, h4, h5⟩ := bd_iff.1 h2
            simp only [h3]
            exact ⟨decide_eq_true h4, h5⟩
          · rename_i hno
            refine ⟨?_, h2⟩
            split
            · rename_i hh; cases hh; exact (hno _ _ _ _ _ rfl).elim
            · rfl
        obtain ⟨v, h3, h4, h5⟩ := bd2_iff.1 key.2
        exact ⟨key.1, a, b, v, h3, h1, h4, h5⟩
      case len => rw [FOW_len]; exact LO'_LO hw
      all_goals exact hw.elim
    all_goals exact hw.elim
  all_goals exact Eq.mpr LO_keep (LO'_LO hw)
end Go.Den
/- Code with short environments, out of code in short: which numbers are known where is looked at by a program that the kernel runs. -/
namespace Go.Den
open Go
variable {C : Cfg} {P : Program} {lo old : Nat} {st : Bool}

/-! ### the statements one behind the other -/
def asc : S → S → S
  | .seq a b, k => asc a (asc b k)
  | .skip, k => k
  | .ops l, k => .seq (.ops l) k
  | .front st l r, k => .seq (.front st l r) k
  | .cond x a b, k => .seq (.cond x (asc a .skip) (asc b .skip)) k
  | .block id b, k => .seq (.block id (asc b .skip)) k
  | .loop b, k => .seq (.loop (asc b .skip)) k
  | .exit id, _ => .exit id
  | .ret, _ => .ret
theorem kSeq_skip {Q : RQ} {r : R} {e : Env} {h : H} (hq : kSeq (SW C lo .skip Q) Q r e h) : Q r e h := by cases r <;> exact hq
theorem asc_SW : ∀ (s : S) {k : S} {Q : RQ} {e : Env} {h : H}, SW C lo (asc s k) Q e h → SW C lo s (kSeq (SW C lo k Q) Q) e h
  | .seq a b, k, Q, e, h, hw => by
    rw [SW_seq]
    refine SW_mono a (fun r e h hr => ?_) (asc_SW a hw)
    cases r with
    | nx => exact asc_SW b hr
    | ex id => exact hr
    | rt => exact hr
  | .skip, k, Q, e, h, hw => hw
  | .ops l, k, Q, e, h, hw => hw
  | .front _ _ _, k, Q, e, h, hw => hw
  | .cond x a b, k, Q, e, h, hw => by
    obtain ⟨t, h1, h2, h3⟩ := hw
    exact ⟨t, h1, fun ht => SW_mono a (fun _ _ _ hq => kSeq_skip hq) (asc_SW a (h2 ht)), fun ht => SW_mono b (fun _ _ _ hq => kSeq_skip hq) (asc_SW b (h3 ht))⟩
  | .block id b, k, Q, e, h, hw => SW_mono b (fun _ _ _ hq => kSeq_skip hq) (asc_SW b hw)
  | .loop b, k, Q, e, h, hw => by
    obtain ⟨n, hw⟩ := hw
    exact ⟨n, loopN_map (b := SW C lo (asc b .skip)) (b' := SW C lo b) (fun Q e h hq => SW_mono b (fun _ _ _ hq => kSeq_skip hq) (asc_SW b hq)) (fun Q Q' e h hq hw => SW_mono b hq hw) hw⟩
  | .exit id, k, Q, e, h, hw => hw
  | .ret, k, Q, e, h, hw => hw

/-! ### operations one behind the other -/
def putX (d : Option Nat) (v : V) (e : E) : E := match d with
  | some t => (t, v) :: e
  | none => e
noncomputable abbrev gateX (e : E) (g : Option (Option Nat × Bool)) (A B : E → Prop) : Prop :=
  @Option.rec (Option Nat × Bool) (fun _ => Prop) (A e) (fun p => @Prod.rec (Option Nat) Bool (fun _ => Prop) (fun t w => @Option.rec Nat (fun _ => Prop) (B e) (fun t =>
    byV (e.get t) (@Bool.rec (fun _ => Prop) (B ((t, .bool true) :: e)) (A ((t, .bool true) :: e)) w) (@Bool.rec (fun _ => Prop) (A ((t, .bool false) :: e)) (B ((t, .bool false) :: e)) w) (B ((t, undef) :: e))) t) p) g
noncomputable def LX (C : Cfg) (lo : Nat) : List SI → (E → H → Prop) → E → H → Prop
  | [], K, e, h => K e h
  | o :: r, K, e, h => gateX e o.g (fun e => OX (evX e) C lo h o.op fun v h' => LX C lo r K (putX o.d v e) h') (fun e => LX C lo r K (putX o.d undef e) h)
noncomputable def FX (C : Cfg) (lo old : Nat) (st : Bool) : List SI → (E → H → Prop) → E → H → Prop
  | [], K, e, h => K e h
  | o :: r, K, e, h => gateX e o.g (fun e => FOX (evX e) C lo old st h o.op fun v h' => FX C lo old st r K (putX o.d v e) h') (fun e => FX C lo old st r K (putX o.d undef e) h)
inductive X : Type where
  | skip
  | exit (id : Nat)
  | ret
  | ops (l : List SI) (out : List Nat) (k : X)
  | front (st : Bool) (l r : List SI) (out : List Nat) (k : X)
  | cond (x : Operand) (a b k : X)
  | block (id : Nat) (b k : X)
  | loop (L : List Nat) (b : X)
  | trim (L : List Nat) (k : X)
abbrev XQ := R → E → H → Prop
def kX (K : E → H → Prop) (Q : XQ) : XQ := fun r e h => match r with
  | .nx => K e h
  | r => Q r e h
def kXB (id : Nat) (K : E → H → Prop) (Q : XQ) : XQ := fun r e h => match r with
  | .nx => K e h
  | .ex i => bif Nat.beq i id then K e h else Q (.ex i) e h
  | .rt => Q .rt e h
def loopX (L : List Nat) (body : XQ → E → H → Prop) (Q : XQ) : Nat → E → H → Prop
  | 0, _, _ => False
  | n + 1, e, h => body (kX (loopX L body Q n) Q) (only L e) h
noncomputable def XW (C : Cfg) (lo : Nat) : X → XQ → E → H → Prop
  | .skip, Q, e, h => Q .nx e h
  | .exit id, Q, e, h => Q (.ex id) e h
  | .ret, Q, e, h => Q .rt e h
  | .ops l out k, Q, e, h => LX C lo l (fun e' h' => XW C lo k Q (outs out e' e) h') e h
  | .front st l r out k, Q, e, h => FX C lo h.next st l (LX C lo r fun e' h' => XW C lo k Q (outs out e' e) h') e h
  | .cond x a b k, Q, e, h => bd (evX e x) fun v => byV v (XW C lo a (kX (XW C lo k Q) Q) e h) (XW C lo b (kX (XW C lo k Q) Q) e h) False
  | .block id b k, Q, e, h => XW C lo b (kXB id (XW C lo k Q) Q) e h
  | .loop L b, Q, e, h => ∃ n, loopX L (XW C lo b) Q n e h
  | .trim L k, Q, e, h => XW C lo k Q (only L e) h

/-! ### what is known where -/
def memN (t : Nat) : List Nat → Bool
  | [] => false
  | a :: r => bif Nat.beq t a then true else memN t r
theorem memN_iff {t : Nat} {l : List Nat} : memN t l = true ↔ t ∈ l := by
  induction l with
  | nil => simp [memN]
  | cons a r ih =>
    unfold memN
    cases hb : Nat.beq t a with
    | true => simp [Nat.eq_of_beq_eq_true hb]
    | false => simp [ih, beq_of_false hb]
def subN : List Nat → List Nat → Bool
  | [], _ => true
  | a :: r, l => memN a l && subN r l
theorem subN_mem {a l : List Nat} (h : subN a l = true) {t : Nat} (ht : t ∈ a) : t ∈ l := by
  induction a with
  | nil => cases ht
  | cons x r ih =>
    unfold subN at h
    rw [Bool.and_eq_true] at h
    rcases List.mem_cons.1 ht with rfl | h2
    · exact memN_iff.1 h.1
    · exact ih h.2 h2
def without (D : List Nat) : List Nat → List Nat
  | [] => []
  | a :: r => bif memN a D then without D r else a :: without D r
theorem mem_without {D A : List Nat} {t : Nat} (ht : t ∈ without D A) : t ∈ A ∧ t ∉ D := by
  induction A with
  | nil => cases ht
  | cons a r ih =>
    unfold without at ht
    cases hb : memN a D with
    | true => rw [hb] at ht; exact ⟨List.mem_cons_of_mem _ (ih ht).1, (ih ht).2⟩
    | false =>
      rw [hb] at ht
      rcases List.mem_cons.1 ht with rfl | h2
      · exact ⟨List.mem_cons_self, fun hd => by rw [memN_iff.2 hd] at hb; cases hb⟩
      · exact ⟨List.mem_cons_of_mem _ (ih h2).1, (ih h2).2⟩
def meetN (A B : List Nat) : List Nat := match A with
  | [] => []
  | a :: r => bif memN a B then a :: meetN r B else meetN r B
theorem mem_meet {A B : List Nat} {t : Nat} (ht : t ∈ meetN A B) : t ∈ A ∧ t ∈ B := by
  induction A with
  | nil => cases ht
  | cons a r ih =>
    unfold meetN at ht
    cases hb : memN a B with
    | true =>
      rw [hb] at ht
      rcases List.mem_cons.1 ht with rfl | h2
      · exact ⟨List.mem_cons_self, memN_iff.1 hb⟩
      · exact ⟨List.mem_cons_of_mem _ (ih h2).1, (ih h2).2⟩
    | false => rw [hb] at ht; exact ⟨List.mem_cons_of_mem _ (ih ht).1, (ih ht).2⟩
def opIn (A : List Nat) : Operand → Bool
  | .tmp t => memN t A
  | _ => true
def opsIn (A : List Nat) : List Operand → Bool
  | [] => true
  | x :: r => opIn A x && opsIn A r
def optIn (A : List Nat) : Option Operand → Bool
  | none => true
  | some x => opIn A x
def partsIn (A : List Nat) : List (Nat × Operand) → Bool
  | [] => true
  | x :: r => opIn A x.2 && partsIn A r
def knows (A : List Nat) : Op → Bool
  | .move x => opIn A x
  | .assign x => opIn A x
  | .pick c x y => opIn A c && (opIn A x && opIn A y)
  | .alloc _ => true
  | .box _ x => opIn A x
  | .build _ ps => partsIn A ps.toList
  | .buildSlice _ _ ps => partsIn A ps.toList
  | .load _ x => opIn A x
  | .nilCheck x => opIn A x
  | .binOp _ _ x y _ => opIn A x && opIn A y
  | .unOp _ _ x => opIn A x
  | .convert _ _ x => opIn A x
  | .makeFunc _ a c => opsIn A a.toList && opsIn A c.toList
  | .makeSlice _ l c => opIn A l && opIn A c
  | .slice _ x l m k => opIn A x && (optIn A l && (optIn A m && optIn A k))
  | .fieldAddr _ x _ => opIn A x
  | .field _ x _ => opIn A x
  | .indexAddr _ x y => opIn A x && opIn A y
  | .index _ x y => opIn A x && opIn A y
  | .extract x _ => opIn A x
  | .store _ x y => opIn A x && opIn A y
  | .call { callee := .builtin _, args, .. } => opsIn A args.toList
  | .call { callee := .value f, args, .. } => opsIn A args.toList && opIn A f
  | _ => false
def gateIn (A : List Nat) : Option (Option Nat × Bool) → Bool
  | some (some t, _) => memN t A
  | _ => true
def okL : List Nat → List SI → Option (List Nat)
  | A, [] => some A
  | A, o :: r => bif knows A o.op && gateIn A o.g then okL (match o.d with | some t => t :: A | none => A) r else none
def dsts : List SI → List Nat
  | [] => []
  | o :: r => match o.d with
    | some t => t :: dsts r
    | none => dsts r
inductive Ann : Type where
  | stop
  | ops (out : List Nat) (k : Ann)
  | cond (a b k : Ann)
  | block (L : List Nat) (b k : Ann)
  | loop (L : List Nat) (b : Ann)
  | trim (L : List Nat) (k : Ann)
abbrev Res := Option (X × Option (List Nat))
def exL (Ex : Nat → List Nat) (id : Nat) (L : List Nat) : Nat → List Nat := fun i => bif Nat.beq i id then L else Ex i
def meetO : Option (List Nat) → Option (List Nat) → Option (List Nat)
  | none, b => b
  | a, none => a
  | some a, some b => some (meetN a b)
def endsIn (L : List Nat) : Option (List Nat) → Bool
  | some A => subN L A
  | none => true
theorem meetO_some {ra rb : Option (List Nat)} {A A2 : List Nat} (hm : meetO ra rb = some A) (hor : ra = some A2 ∨ rb = some A2) {t : Nat} (ht : t ∈ A) : t ∈ A2 := by
  cases ra with
  | none =>
    have hm : rb = some A := by cases rb <;> exact hm
    rcases hor with hor | hor
    · cases hor
    · rw [hm] at hor; cases hor; exact ht
  | some a => cases rb with
    | none =>
      cases hm
      rcases hor with hor | hor
      · cases hor; exact ht
      · cases hor
    | some b =>
      cases hm
      obtain ⟨m1, m2⟩ := mem_meet ht
      rcases hor with hor | hor
      · cases hor; exact m1
      · cases hor; exact m2
theorem meetO_none {ra rb : Option (List Nat)} (hm : meetO ra rb = none) : ra = none ∧ rb = none := by
  cases ra <;> cases rb <;> first | exact ⟨rfl, rfl⟩ | cases hm
def ann (RS : List Nat) : (Ex : Nat → List Nat) → Ann → S → List Nat → Res
  | Ex, .stop, s, A => match s with
    | .skip => some (.skip, some A)
    | .exit id => bif subN (Ex id) A then some (.exit id, none) else none
    | .ret => bif subN RS A then some (.ret, none) else none
    | _ => none
  | Ex, .trim L n, s, A => bif subN L A then match ann RS Ex n s L with
      | some (x, r) => some (.trim L x, r)
      | none => none
    else none
  | Ex, .ops out n, s, A => match s with
    | .seq (.ops l) k => match okL A l with
      | some A' => bif subN out A' then match ann RS Ex n k (out ++ without (dsts l) A) with
          | some (x, r) => some (.ops l out x, r)
          | none => none
        else none
      | none => none
    | .seq (.front st l l') k => match okL A l with
      | some A1 => match okL A1 l' with
        | some A' => bif subN out A' then match ann RS Ex n k (out ++ without (dsts l ++ dsts l') A) with
            | some (x, r) => some (.front st l l' out x, r)
            | none => none
          else none
        | none => none
      | none => none
    | _ => none
  | Ex, .cond na nb n, s, A => match s with
    | .seq (.cond x a b) k => bif opIn A x then match ann RS Ex na a A, ann RS Ex nb b A with
        | some (xa, ra), some (xb, rb) => match meetO ra rb with
          | some A' => match ann RS Ex n k A' with
            | some (xk, r) => some (.cond x xa xb xk, r)
            | none => none
          | none => some (.cond x xa xb .skip, none)
        | _, _ => none
      else none
    | _ => none
  | Ex, .block L nb n, s, A => match s with
    | .seq (.block id b) k => match ann RS (exL Ex id L) nb b A with
      | some (xb, rb) => bif endsIn L rb then match ann RS Ex n k L with
          | some (xk, r) => some (.block id xb xk, r)
          | none => none
        else none
      | none => none
    | _ => none
  | Ex, .loop L nb, s, A => match s with
    | .seq (.loop b) _ => bif subN L A then match ann RS Ex nb b L with
        | some (xb, rb) => bif endsIn L rb then some (.loop L xb, none) else none
        | none => none
      else none
    | _ => none

/-! ### what is known is the same -/
def Ag (A : List Nat) (e : Env) (x : E) : Prop := ∀ t, t ∈ A → e.at t = x.get t
theorem Ag.sub {A B : List Nat} {e : Env} {x : E} (a : Ag A e x) (h : subN B A = true) : Ag B e x := fun t ht => a t (subN_mem h ht)
theorem Ag.only {A L : List Nat} {e : Env} {x : E} (a : Ag A e x) (h : subN L A = true) : Ag L e (only L x) := fun t ht => by rw [get_only ht]; exact a t (subN_mem h ht)
theorem Ag.set {A : List Nat} {e : Env} {x : E} (a : Ag A e x) (t : Nat) (v : V) : Ag (t :: A) (T.set e t v) ((t, v) :: x) := fun s hs => by
  rw [Env.at_set, E.get_cons]
  split
  · rfl
  · rename_i hne
    rcases List.mem_cons.1 hs with h1 | h1
    · exact (hne h1).elim
    · exact a s h1
theorem Ag.known {A : List Nat} {e : Env} {x : E} (a : Ag A e x) {t : Nat} {v : V} (hv : e.at t = v) : Ag A e ((t, v) :: x) := fun s hs => by
  rw [E.get_cons]
  split
  · rename_i h; rw [h]; exact hv
  · exact a s hs
theorem opIn_ev {A : List Nat} {e : Env} {x : E} (a : Ag A e x) {o : Operand} (ho : opIn A o = true) : evX x o = ev e o := by
  cases o with
  | tmp t => show some _ = some _; rw [a t (memN_iff.1 ho)]
  | _ => rfl
theorem opsIn_ev {A : List Nat} {e : Env} {x : E} (a : Ag A e x) : ∀ {l : List Operand}, opsIn A l = true → evsX (evX x) l = evsX (ev e) l
  | [], _ => rfl
  | o :: r, h => by
    unfold opsIn at h
    rw [Bool.and_eq_true] at h
    unfold evsX
    rw [opIn_ev a h.1, opsIn_ev a h.2]
theorem optIn_ev {A : List Nat} {e : Env} {x : E} (a : Ag A e x) {o : Option Operand} (ho : optIn A o = true) : evoX (evX x) o = evoX (ev e) o := by
  cases o with
  | none => rfl
  | some o => unfold evoX; simp only; rw [opIn_ev a ho]
theorem partsIn_ev {A : List Nat} {e : Env} {x : E} (a : Ag A e x) : ∀ {l : List (Nat × Operand)}, partsIn A l = true → evPartsX (evX x) l = evPartsX (ev e) l
  | [], _ => rfl
  | (i, o) :: r, h => by
    unfold partsIn at h
    rw [Bool.and_eq_true] at h
    unfold evPartsX
    rw [opIn_ev a h.1, partsIn_ev a h.2]
theorem and_both {a b : Bool} (h : (a && b) = true) : a = true ∧ b = true := by simpa using h
theorem LO'_ev {A : List Nat} {e : Env} {x : E} (a : Ag A e x) {o : Op} (hk : knows A o = true) {rd : Rd} {h : H} {K : V → H → Prop} (hw : LO' (evX x) P rd h o K) : LO' (ev e) P rd h o K := by
  cases o <;> try exact hw.elim
  case call c =>
    obtain ⟨callee, args, ts⟩ := c
    cases callee <;> try exact hw.elim
    rename_i b
    have hk : opsIn A args.toList = true := hk
    have he := opsIn_ev a hk
    cases b <;> first | exact hw.elim | (unfold LO' at hw ⊢; simp only at hw ⊢; rw [he] at hw; exact hw)
  all_goals (unfold knows at hk; unfold LO' at hw ⊢; simp only at hk hw ⊢)
  case move => rwa [opIn_ev a hk] at hw
  case assign => rwa [opIn_ev a hk] at hw
  case pick => obtain ⟨h1, h2⟩ := and_both hk; obtain ⟨h2, h3⟩ := and_both h2; rwa [opIn_ev a h1, opIn_ev a h2, opIn_ev a h3] at hw
  case alloc => exact hw
  case box => rwa [opIn_ev a hk] at hw
  case build => rwa [partsIn_ev a hk] at hw
  case buildSlice => rwa [partsIn_ev a hk] at hw
  case load => rwa [opIn_ev a hk] at hw
  case nilCheck => rwa [opIn_ev a hk] at hw
  case binOp => obtain ⟨h1, h2⟩ := and_both hk; rwa [opIn_ev a h1, opIn_ev a h2] at hw
  case unOp => rwa [opIn_ev a hk] at hw
  case convert => rwa [opIn_ev a hk] at hw
  case makeFunc => obtain ⟨h1, h2⟩ := and_both hk; rwa [opsIn_ev a h1, opsIn_ev a h2] at hw
  case makeSlice => obtain ⟨h1, h2⟩ := and_both hk; rwa [opIn_ev a h1, opIn_ev a h2] at hw
  case slice => obtain ⟨h1, h2⟩ := and_both hk; obtain ⟨h2, h3⟩ := and_both h2; obtain ⟨h3, h4⟩ := and_both h3; rwa [opIn_ev a h1, optIn_ev a h2, optIn_ev a h3, optIn_ev a h4] at hw
  case fieldAddr => rwa [opIn_ev a hk] at hw
  case field => rwa [opIn_ev a hk] at hw
  case indexAddr => obtain ⟨h1, h2⟩ := and_both hk; rwa [opIn_ev a h1, opIn_ev a h2] at hw
  case index => obtain ⟨h1, h2⟩ := and_both hk; rwa [opIn_ev a h1, opIn_ev a h2] at hw
  case extract => rwa [opIn_ev a hk] at hw
theorem OX_ev {A : List Nat} {e : Env} {x : E} (a : Ag A e x) {o : Op} (hk : knows A o = true) {h : H} {K : V → H → Prop} (hw : OX (evX x) C lo h o K) : OX (ev e) C lo h o K := by
  cases o <;> try exact hw.elim
  case store t y z =>
    obtain ⟨h1, h2⟩ := and_both hk
    unfold OX at hw ⊢
    simp only at hw ⊢
    rwa [opIn_ev a h1, opIn_ev a h2] at hw
  case convert s d y =>
    have he := opIn_ev a (o := y) hk
    unfold OX at hw ⊢
    simp only at hw ⊢
    cases hb : Nat.beq s d with
    | true => rw [hb] at hw; simp only [cond_true] at hw ⊢; rwa [he] at hw
    | false => rw [hb] at hw; exact LO'_ev a hk hw
  case call c =>
    obtain ⟨callee, args, ts⟩ := c
    cases callee <;> try exact hw.elim
    case value f =>
      obtain ⟨h1, h2⟩ := and_both hk
      cases f <;> (unfold OX at hw ⊢; simp only at hw ⊢; rw [opsIn_ev a h1] at hw) <;> first | exact hw | (rw [opIn_ev a h2] at hw; exact hw)
    case builtin b =>
      have hk' : opsIn A args.toList = true := hk
      have he := opsIn_ev a hk'
      cases b
      case append => unfold OX at hw ⊢; simp only at hw ⊢; rwa [he] at hw
      case copy => unfold OX at hw ⊢; simp only at hw ⊢; rwa [he] at hw
      all_goals exact LO'_ev (P := C.P) (rd := h.read) (h := h) (K := K) a hk hw
  all_goals exact LO'_ev (P := C.P) (rd := h.read) (h := h) (K := K) a hk hw
theorem FOX_ev {A : List Nat} {e : Env} {x : E} (a : Ag A e x) {o : Op} (hk : knows A o = true) {h : H} {K : V → H → Prop} (hw : FOX (evX x) C lo old st h o K) : FOX (ev e) C lo old st h o K := by
  cases o <;> try exact hw.elim
  case store t y z =>
    obtain ⟨h1, h2⟩ := and_both hk
    unfold FOX at hw ⊢
    simp only at hw ⊢
    rwa [opIn_ev a h1, opIn_ev a h2] at hw
  case convert s d y =>
    have he := opIn_ev a (o := y) hk
    unfold FOX at hw ⊢
    simp only at hw ⊢
    cases hb : Nat.beq s d with
    | true => rw [hb] at hw; simp only [cond_true] at hw ⊢; rwa [he] at hw
    | false => rw [hb] at hw; exact LO'_ev a hk hw
  case call c =>
    obtain ⟨callee, args, ts⟩ := c
    cases callee <;> try exact hw.elim
    case value f =>
      obtain ⟨h1, h2⟩ := and_both hk
      cases f <;> (unfold FOX at hw ⊢; simp only at hw ⊢; rw [opsIn_ev a h1] at hw) <;> first | exact hw | (rw [opIn_ev a h2] at hw; exact hw)
    case builtin b =>
      have hk' : opsIn A args.toList = true := hk
      have he := opsIn_ev a hk'
      cases b
      case append => unfold FOX at hw ⊢; simp only at hw ⊢; rwa [he] at hw
      case copy => exact hw.elim
      case min => exact hw.elim
      case max => exact hw.elim
      all_goals exact LO'_ev (P := C.P) (rd := rdOf st old h) (h := h) (K := K) a hk hw
  all_goals exact LO'_ev (P := C.P) (rd := rdOf st old h) (h := h) (K := K) a hk hw
theorem gateX_lets {A : List Nat} {e : Env} {x : E} (a : Ag A e x) {g : Option (Option Nat × Bool)} (hg : gateIn A g = true) {M N : E → Prop} (hw : gateX x g M N) : ∃ x', Ag A e x' ∧ ((lets e g = true ∧ M x') ∨ (lets e g = false ∧ N x')) := by
  cases g with
  | none => exact ⟨x, a, .inl ⟨rfl, hw⟩⟩
  | some g =>
    obtain ⟨t, w⟩ := g
    cases t with
    | none => exact ⟨x, a, .inr ⟨by cases w <;> rfl, hw⟩⟩
    | some t =>
      have ht := a t (memN_iff.1 hg)
      unfold gateX at hw
      simp only at hw
      rw [← ht] at hw
      rcases byV_iff.1 hw with ⟨h1, h2⟩ | ⟨h1, h2⟩ | ⟨h1, h2⟩
      · refine ⟨_, a.known h1, ?_⟩
        have hl : lets e (some (some t, w)) = (tru (e.at t) == some w) := rfl
        rw [hl, h1]
        cases w
        · exact .inr ⟨rfl, h2⟩
        · exact .inl ⟨rfl, h2⟩
      · refine ⟨_, a.known h1, ?_⟩
        have hl : lets e (some (some t, w)) = (tru (e.at t) == some w) := rfl
        rw [hl, h1]
        cases w
        · exact .inl ⟨rfl, h2⟩
        · exact .inr ⟨rfl, h2⟩
      · refine ⟨_, a.known h1, ?_⟩
        have hl : lets e (some (some t, w)) = (tru (e.at t) == some w) := rfl
        rw [hl, h1]
        exact .inr ⟨by cases w <;> rfl, h2⟩
theorem Ag.put {A : List Nat} {e : Env} {x : E} (a : Ag A e x) (d : Option Nat) (v : V) : Ag (match d with | some t => t :: A | none => A) (putS d v e) (putX d v x) := by
  cases d with
  | none => exact a
  | some t => exact a.set t v
theorem put_old {d : Option Nat} {v : V} {e : Env} {t : Nat} (ht : d ≠ some t) : (putS d v e).at t = e.at t := by
  cases d with
  | none => rfl
  | some s =>
    show Env.at (T.set e s v) t = _
    rw [Env.at_set, if_neg]
    intro h
    exact ht (by rw [h])
theorem dsts_cons {o : SI} {r : List SI} {t : Nat} (ht : t ∉ dsts (o :: r)) : o.d ≠ some t ∧ t ∉ dsts r := by
  unfold dsts at ht
  split at ht
  · rename_i s hs
    rw [hs]
    exact ⟨fun h => ht (by cases h; exact List.mem_cons_self), fun h => ht (List.mem_cons_of_mem _ h)⟩
  · rename_i hs
    rw [hs]
    exact ⟨fun h => (by cases h), ht⟩
theorem LX_SL {K : E → H → Prop} {K' : Env → H → Prop} : ∀ {l : List SI} {A A' : List Nat} {e : Env} {x : E} {h : H}, okL A l = some A' → Ag A e x → LX C lo l K x h →
    (∀ e1 x1 h1, Ag A' e1 x1 → (∀ t, t ∉ dsts l → e1.at t = e.at t) → K x1 h1 → K' e1 h1) → SL C lo l K' e h
  | [], A, A', e, x, h, ho, a, hw, hk => by
    unfold okL at ho
    cases ho
    exact hk e x h a (fun _ _ => rfl) hw
  | o :: r, A, A', e, x, h, ho, a, hw, hk => by
    unfold okL at ho
    cases hb : knows A o.op && gateIn A o.g with
    | false => rw [hb] at ho; cases ho
    | true =>
      rw [hb] at ho
      simp only [cond_true] at ho
      obtain ⟨h1, h2⟩ := and_both hb
      unfold LX at hw
      obtain ⟨x', a', hc⟩ := gateX_lets a h2 hw
      unfold SL
      rcases hc with ⟨hl, hw⟩ | ⟨hl, hw⟩
      · refine ⟨fun _ => ?_, fun h => by rw [hl] at h; cases h⟩
        refine OW_mono (fun v h' hx => ?_) (OX_OW (OX_ev a' h1 hw))
        exact LX_SL ho (a'.put o.d v) hx fun e1 x1 h1 ag1 old1 hk1 => hk e1 x1 h1 ag1 (fun t ht => by
          obtain ⟨n1, n2⟩ := dsts_cons ht
          rw [old1 t n2, put_old n1]) hk1
      · refine ⟨fun h => (by rw [hl] at h; cases h), fun _ => ?_⟩
        exact LX_SL ho (a'.put o.d undef) hw fun e1 x1 h1 ag1 old1 hk1 => hk e1 x1 h1 ag1 (fun t ht => by
          obtain ⟨n1, n2⟩ := dsts_cons ht
          rw [old1 t n2, put_old n1]) hk1
theorem FX_SF {K : E → H → Prop} {K' : Env → H → Prop} : ∀ {l : List SI} {A A' : List Nat} {e : Env} {x : E} {h : H}, okL A l = some A' → Ag A e x → FX C lo old st l K x h →
    (∀ e1 x1 h1, Ag A' e1 x1 → (∀ t, t ∉ dsts l → e1.at t = e.at t) → K x1 h1 → K' e1 h1) → SF C lo old st l K' e h
  | [], A, A', e, x, h, ho, a, hw, hk => by
    unfold okL at ho
    cases ho
    exact hk e x h a (fun _ _ => rfl) hw
  | o :: r, A, A', e, x, h, ho, a, hw, hk => by
    unfold okL at ho
    cases hb : knows A o.op && gateIn A o.g with
    | false => rw [hb] at ho; cases ho
    | true =>
      rw [hb] at ho
      simp only [cond_true] at ho
      obtain ⟨h1, h2⟩ := and_both hb
      unfold FX at hw
      obtain ⟨x', a', hc⟩ := gateX_lets a h2 hw
      unfold SF
      rcases hc with ⟨hl, hw⟩ | ⟨hl, hw⟩
      · refine ⟨fun _ => ?_, fun h => by rw [hl] at h; cases h⟩
        refine FOW_mono (fun v h' hx => ?_) (FOX_FOW (FOX_ev a' h1 hw))
        exact FX_SF ho (a'.put o.d v) hx fun e1 x1 h1 ag1 old1 hk1 => hk e1 x1 h1 ag1 (fun t ht => by
          obtain ⟨n1, n2⟩ := dsts_cons ht
          rw [old1 t n2, put_old n1]) hk1
      · refine ⟨fun h => (by rw [hl] at h; cases h), fun _ => ?_⟩
        exact FX_SF ho (a'.put o.d undef) hw fun e1 x1 h1 ag1 old1 hk1 => hk e1 x1 h1 ag1 (fun t ht => by
          obtain ⟨n1, n2⟩ := dsts_cons ht
          rw [old1 t n2, put_old n1]) hk1
theorem Ag.outs {A A' D out : List Nat} {e e1 : Env} {x x1 : E} (a : Ag A e x) (a1 : Ag A' e1 x1) (hs : subN out A' = true) (old1 : ∀ t, t ∉ D → e1.at t = e.at t) : Ag (out ++ without D A) e1 (outs out x1 x) := fun t ht => by
  rw [get_outs]
  split
  · rename_i h1; exact a1 t (subN_mem hs h1)
  · rename_i h1
    rcases List.mem_append.1 ht with h2 | h2
    · exact (h1 h2).elim
    · obtain ⟨h3, h4⟩ := mem_without h2
      rw [old1 t h4]
      exact a t h3
end Go.Den
/- A call, out of what its body with short environments comes to. -/
namespace Go.Den
open Go
variable {C : Cfg} {P : Program} {lo old : Nat} {st : Bool}

theorem ann_SW {RS : List Nat} : ∀ (n : Ann) {Ex : Nat → List Nat} {s : S} {A : List Nat} {x : X} {r : Option (List Nat)}, ann RS Ex n s A = some (x, r) → ∀ {Q' : XQ} {Q : RQ} {e : Env} {fe : E} {h : H}, Ag A e fe → XW C lo x Q' fe h →
    (∀ A' e fe h, r = some A' → Ag A' e fe → Q' .nx fe h → Q .nx e h) → (∀ id e fe h, Ag (Ex id) e fe → Q' (.ex id) fe h → Q (.ex id) e h) → (∀ e fe h, Ag RS e fe → Q' .rt fe h → Q .rt e h) → SW C lo s Q e h
  | .stop, Ex, s, A, x, r, ha, Q', Q, e, fe, h, a, hw, hn, hx, ht => by
    unfold ann at ha
    split at ha
    · cases ha; exact hn _ _ _ _ rfl a hw
    · rename_i id
      cases hb : subN (Ex id) A with
      | true => rw [hb] at ha; cases ha; exact hx _ _ _ _ (a.sub hb) hw
      | false => rw [hb] at ha; cases ha
    · cases hb : subN RS A with
      | true => rw [hb] at ha; cases ha; exact ht _ _ _ (a.sub hb) hw
      | false => rw [hb] at ha; cases ha
    · cases ha
  | .trim L n, Ex, s, A, x, r, ha, Q', Q, e, fe, h, a, hw, hn, hx, ht => by
    unfold ann at ha
    cases hb : subN L A with
    | false => rw [hb] at ha; cases ha
    | true =>
      rw [hb] at ha
      simp only [cond_true] at ha
      split at ha
      · rename_i x1 r1 h1
        cases ha
        exact ann_SW n h1 (a.only hb) hw hn hx ht
      · cases ha
  | .ops out n, Ex, s, A, x, r, ha, Q', Q, e, fe, h, a, hw, hn, hx, ht => by
    unfold ann at ha
    split at ha
    · rename_i l k
      split at ha
      · rename_i A' ho
        cases hb : subN out A' with
        | false => rw [hb] at ha; cases ha
        | true =>
          rw [hb] at ha
          simp only [cond_true] at ha
          split at ha
          · rename_i x1 r1 h1
            cases ha
            rw [SW_seq, SW_ops]
            exact LX_SL ho a hw fun e1 fe1 h2 a1 old1 hk => ann_SW n h1 (a.outs a1 hb old1) hk hn hx ht
          · cases ha
      · cases ha
    · rename_i st l l' k
      split at ha
      · rename_i A1 ho1
        split at ha
        · rename_i A' ho
          cases hb : subN out A' with
          | false => rw [hb] at ha; cases ha
          | true =>
            rw [hb] at ha
            simp only [cond_true] at ha
            split at ha
            · rename_i x1 r1 h1
              cases ha
              rw [SW_seq, SW_front]
              refine FX_SF ho1 a hw fun e1 fe1 h2 a1 old1 hk => ?_
              refine LX_SL ho a1 hk fun e2 fe2 h3 a2 old2 hk2 => ?_
              exact ann_SW n h1 (a.outs a2 hb fun t ht2 => by
                rw [old2 t fun h => ht2 (List.mem_append_right _ h), old1 t fun h => ht2 (List.mem_append_left _ h)]) hk2 hn hx ht
            · cases ha
        · cases ha
      · cases ha
    · cases ha
  | .cond na nb n, Ex, s, A, x, r, ha, Q', Q, e, fe, h, a, hw, hn, hx, ht => by
    unfold ann at ha
    split at ha
    · rename_i y sa sb k
      cases hb : opIn A y with
      | false => rw [hb] at ha; cases ha
      | true =>
        rw [hb] at ha
        simp only [cond_true] at ha
        split at ha
        · rename_i xa ra xb rb ha1 hb1
          have fin : ∀ (xk : X), x = .cond y xa xb xk → (∀ A' e fe h, (ra = some A' ∨ rb = some A') → Ag A' e fe → XW C lo xk Q' fe h → SW C lo k Q e h) → SW C lo (.seq (.cond y sa sb) k) Q e h := by
            rintro xk rfl hfin
            obtain ⟨v, h1, hw⟩ := bd_iff.1 hw
            rw [opIn_ev a hb] at h1
            have hA : ∀ (sx : S) (nx : Ann) (xx : X) (rx : Option (List Nat)), ann RS Ex nx sx A = some (xx, rx) → (rx = ra ∨ rx = rb) → (∀ {Q' : XQ} {Q : RQ} {e : Env} {fe : E} {h : H}, Ag A e fe → XW C lo xx Q' fe h → (∀ A' e fe h, rx = some A' → Ag A' e fe → Q' .nx fe h → Q .nx e h) → (∀ id e fe h, Ag (Ex id) e fe → Q' (.ex id) fe h → Q (.ex id) e h) → (∀ e fe h, Ag RS e fe → Q' .rt fe h → Q .rt e h) → SW C lo sx Q e h) →
                XW C lo xx (kX (XW C lo xk Q') Q') fe h → SW C lo sx (kSeq (SW C lo k Q) Q) e h := by
              intro sx nx xx rx hax hrx ih hwx
              refine ih a hwx (fun A' e fe h hr ag hq => hfin A' e fe h ?_ ag hq) (fun id e fe h ag hq => hx id e fe h ag hq) (fun e fe h ag hq => ht e fe h ag hq)
              rcases hrx with rfl | rfl
              · exact .inl hr
              · exact .inr hr
            rw [SW_seq]
            rcases byV_iff.1 hw with ⟨rfl, hw⟩ | ⟨rfl, hw⟩ | ⟨_, hw⟩
            · exact ⟨true, h1, fun _ => hA sa na xa ra ha1 (.inl rfl) (ann_SW na ha1) hw, fun h => by cases h⟩
            · exact ⟨false, h1, fun h => (by cases h), fun _ => hA sb nb xb rb hb1 (.inr rfl) (ann_SW nb hb1) hw⟩
            · exact hw.elim
          split at ha
          · rename_i A' hm
            split at ha
            · rename_i xk r1 hk1
              cases ha
              refine fin xk rfl fun A2 e fe h hor ag hq => ann_SW n hk1 ?_ hq hn hx ht
              exact fun t ht2 => ag t (meetO_some hm hor ht2)
            · cases ha
          · rename_i hm
            cases ha
            refine fin .skip rfl fun A2 e fe h hor ag hq => ?_
            obtain ⟨m1, m2⟩ := meetO_none hm
            rcases hor with hor | hor
            · rw [m1] at hor; cases hor
            · rw [m2] at hor; cases hor
        · cases ha
    · cases ha
  | .block L nb n, Ex, s, A, x, r, ha, Q', Q, e, fe, h, a, hw, hn, hx, ht => by
    unfold ann at ha
    split at ha
    · rename_i id sb k
      split at ha
      · rename_i xb rb hb1
        cases hb : endsIn L rb with
        | false => rw [hb] at ha; cases ha
        | true =>
          rw [hb] at ha
          simp only [cond_true] at ha
          split at ha
          · rename_i xk r1 hk1
            cases ha
            rw [SW_seq, SW_block]
            have hk : ∀ e fe h, Ag L e fe → XW C lo xk Q' fe h → SW C lo k Q e h := fun e fe h ag hq => ann_SW n hk1 ag hq hn hx ht
            refine ann_SW nb hb1 (Q := kBlk id (kSeq (SW C lo k Q) Q)) a hw ?_ ?_ ?_
            · intro A' e fe h hr ag hq
              subst hr
              exact hk e fe h (ag.sub hb) hq
            · intro i e fe h ag hq
              rw [kBlk_ex]
              unfold exL at ag
              have hq : (bif Nat.beq i id then XW C lo xk Q' fe h else Q' (.ex i) fe h) := hq
              cases hi : Nat.beq i id with
              | true =>
                rw [hi] at ag hq
                rw [if_pos (Nat.eq_of_beq_eq_true hi)]
                exact hk e fe h ag hq
              | false =>
                rw [hi] at ag hq
                rw [if_neg (beq_of_false hi)]
                exact hx i e fe h ag hq
            · intro e fe h ag hq
              exact ht e fe h ag hq
          · cases ha
      · cases ha
    · cases ha
  | .loop L nb, Ex, s, A, x, r, ha, Q', Q, e, fe, h, a, hw, hn, hx, ht => by
    unfold ann at ha
    split at ha
    · rename_i sb k
      cases hb0 : subN L A with
      | false => rw [hb0] at ha; cases ha
      | true =>
        rw [hb0] at ha
        simp only [cond_true] at ha
        split at ha
        · rename_i xb rb hb1
          cases hb : endsIn L rb with
          | false => rw [hb] at ha; cases ha
          | true =>
            rw [hb] at ha
            cases ha
            rw [SW_seq]
            obtain ⟨m, hw⟩ := hw
            refine ⟨m, ?_⟩
            have key : ∀ (m : Nat) (e : Env) (fe : E) (h : H), Ag L e fe → loopX L (XW C lo xb) Q' m fe h → loopN (SW C lo sb) (kSeq (SW C lo k Q) Q) m e h := by
              intro m
              induction m with
              | zero => intro e fe h _ hf; exact hf.elim
              | succ m ih =>
                intro e fe h ag hf
                have ag' : Ag L e (only L fe) := fun t ht => by rw [get_only ht]; exact ag t ht
                refine ann_SW nb hb1 ag' hf ?_ ?_ ?_
                · intro A' e fe h hr ag hq
                  subst hr
                  exact ih e fe h (ag.sub hb) hq
                · intro i e fe h ag hq
                  exact hx i e fe h ag hq
                · intro e fe h ag hq
                  exact ht e fe h ag hq
            exact key m e fe h (a.sub hb0) hw
        · cases ha
    · cases ha

/-! ### a function -/
def resNs : List ResultVar → List Nat
  | [] => []
  | .tmp t :: r => t :: resNs r
  | .cell a _ :: r => a :: resNs r
def resX1 (P : Program) (e : E) (h : H) : ResultVar → Option V
  | .tmp t => some (e.get t)
  | .cell a t => loadV P t (e.get a) h.read
def resXs (P : Program) (e : E) (h : H) : List ResultVar → Option (List V)
  | [] => some []
  | r :: l => match resX1 P e h r with
    | some v => match resXs P e h l with
      | some vs => some (v :: vs)
      | none => none
    | none => none
def tupV : List V → V
  | [v] => v
  | vs => .tup vs
def resX (P : Program) (rs : List ResultVar) (e : E) (h : H) (K : V → H → Prop) : Prop := bd (resXs P e h rs) fun vs => K (tupV vs) h
def args : Nat → List V → E
  | _, [] => []
  | i, v :: r => (i, v) :: args (i + 1) r
def upto : Nat → Nat → List Nat
  | _, 0 => []
  | i, n + 1 => i :: upto (i + 1) n
def annFn (fn : Func) (na : Nat) (n : Ann) : Option X := match shortFn fn with
  | some s => match ann (resNs fn.results.toList) (fun _ => [0, 0, 99999999]) n (asc s .skip) (upto 0 na) with
    | some (x, r) => bif endsIn (resNs fn.results.toList) r then some x else none
    | none => none
  | none => none
def kFnX (P : Program) (rs : List ResultVar) (K : V → H → Prop) : XQ := fun r e h => match r with
  | .ex _ => False
  | .nx => resX P rs e h K
  | .rt => resX P rs e h K
theorem mem_upto {t : Nat} : ∀ {i n : Nat}, t ∈ upto i n ↔ i ≤ t ∧ t < i + n
  | i, 0 => by simp [upto]
  | i, n + 1 => by
    unfold upto
    rw [List.mem_cons, mem_upto]
    omega
theorem get_args {t : Nat} : ∀ {i : Nat} {as : List V}, i ≤ t → t < i + as.length → E.get (args i as) t = as.getD (t - i) undef
  | i, [], h1, h2 => by simp at h2; omega
  | i, v :: r, h1, h2 => by
    unfold args
    rw [E.get_cons]
    split
    · rename_i h; subst h; simp
    · rename_i h
      rw [get_args (i := i + 1) (by omega) (by simp at h2; omega)]
      have : t - i = (t - (i + 1)) + 1 := by omega
      rw [this]
      rfl
theorem resXs_ag {e : Env} {fe : E} {h : H} : ∀ {rs : List ResultVar}, Ag (resNs rs) e fe → ∀ {vs : List V}, resXs P fe h rs = some vs → omap (resV P e h) rs = some vs
  | [], _, vs, hv => by unfold resXs at hv; cases hv; rfl
  | r :: l, a, vs, hv => by
    unfold resXs at hv
    have h1 : resX1 P fe h r = resV P e h r := by
      cases r with
      | tmp t => show some _ = some _; rw [a t (by unfold resNs; exact List.mem_cons_self)]
      | cell b t => show loadV _ _ _ _ = loadV _ _ _ _; rw [a b (by unfold resNs; exact List.mem_cons_self)]
    have h2 : Ag (resNs l) e fe := by
      intro t ht
      apply a t
      cases r <;> exact List.mem_cons_of_mem _ ht
    unfold omap
    rw [← h1]
    split at hv
    · rename_i v hv1
      split at hv
      · rename_i vs1 hv2
        cases hv
        rw [hv1]
        simp only [resXs_ag h2 hv2]
      · cases hv
    · cases hv
theorem CW_X (hS : ShortLow C) {f : FuncId} {fn : Func} {x : X} {na : Nat} {n : Ann} {as : List V} {h : H} {K : V → H → Prop} (hs : C.S f = none) (hf : C.P.funcs[f]? = some fn) (ha : annFn fn na n = some x) (hl : as.length = na) (hn : na ≤ fn.ntmps)
    (hw : XW C lo x (kFnX C.P fn.results.toList K) (args 0 as) h) : CW C f as lo h K := by
  unfold annFn at ha
  split at ha
  · rename_i s hsh
    split at ha
    · rename_i x1 r1 h1
      cases hb : endsIn (resNs fn.results.toList) r1 with
      | false => rw [hb] at ha; cases ha
      | true =>
      rw [hb] at ha
      cases ha
      refine CW_run hS hs hf hsh (by omega) ?_
      have hres : ∀ (e : Env) (fe : E) (h : H), Ag (resNs fn.results.toList) e fe → resX C.P fn.results.toList fe h K → ∃ v, resultsV C.P fn e h = some v ∧ K v h := by
        intro e fe h ag hq
        obtain ⟨vs, h2, h3⟩ := bd_iff.1 hq
        refine ⟨_, ?_, h3⟩
        unfold resultsV
        rw [resXs_ag ag h2]
        unfold tupV
        cases vs with
        | nil => rfl
        | cons v r => cases r <;> rfl
      have hag : Ag (upto 0 na) (mkEnv 0 as .nil) (args 0 as) := by
        intro t ht
        obtain ⟨_, ht2⟩ := mem_upto.1 ht
        rw [mkEnv_at, get_args (by omega) (by omega), if_pos (by omega)]
      have hsw : SW C lo (asc s .skip) (kFn C.P fn K) (mkEnv 0 as .nil) h := by
        refine ann_SW n h1 (Q := kFn C.P fn K) hag hw ?_ ?_ ?_
        · intro A' e fe h hr ag hq
          subst hr
          exact hres e fe h (ag.sub hb) hq
        · intro id e fe h ag hq
          exact hq.elim
        · intro e fe h ag hq
          exact hres e fe h ag hq
      exact SW_mono s (fun _ _ _ hq => kSeq_skip hq) (asc_SW s hsw)
    · cases ha
  · cases ha
end Go.Den
/- Rules for code with short environments. -/
namespace Go.Den
open Go
variable {C : Cfg} {P : Program} {lo old : Nat} {st : Bool} {h : H} {e : E} {Q : XQ} {K : E → H → Prop}

theorem kX_nx : kX K Q .nx e h = K e h := propext Iff.rfl
theorem kX_ex (id : Nat) : kX K Q (.ex id) e h = Q (.ex id) e h := propext Iff.rfl
theorem kX_rt : kX K Q .rt e h = Q .rt e h := propext Iff.rfl
theorem kXB_nx (id : Nat) : kXB id K Q .nx e h = K e h := propext Iff.rfl
theorem kXB_ex (id i : Nat) : kXB id K Q (.ex i) e h = if i = id then K e h else Q (.ex i) e h := by
  show (bif Nat.beq i id then K e h else Q (.ex i) e h) = _
  cases hb : Nat.beq i id with
  | true => rw [if_pos (Nat.eq_of_beq_eq_true hb)]; rfl
  | false => rw [if_neg (beq_of_false hb)]; rfl
theorem kXB_rt (id : Nat) : kXB id K Q .rt e h = Q .rt e h := propext Iff.rfl
theorem kX_skip : kX (XW C lo .skip Q) Q = Q := by
  funext r e h
  cases r <;> rfl
theorem XW_skip : XW C lo .skip Q e h = Q .nx e h := propext Iff.rfl
theorem XW_ret : XW C lo .ret Q e h = Q .rt e h := propext Iff.rfl
theorem XW_exit (id : Nat) : XW C lo (.exit id) Q e h = Q (.ex id) e h := propext Iff.rfl
theorem gateX_mono {e : E} {g : Option (Option Nat × Bool)} {M N M' N' : E → Prop} (hm : ∀ e, M e → M' e) (hn : ∀ e, N e → N' e) (hw : gateX e g M N) : gateX e g M' N' := by
  cases g with
  | none => exact hm _ hw
  | some g =>
    obtain ⟨t, w⟩ := g
    cases t with
    | none => exact hn _ hw
    | some t =>
      unfold gateX at hw ⊢
      simp only at hw ⊢
      rcases byV_iff.1 hw with ⟨h1, h2⟩ | ⟨h1, h2⟩ | ⟨h1, h2⟩
      · exact byV_iff.2 (.inl ⟨h1, by cases w <;> first | exact hm _ h2 | exact hn _ h2⟩)
      · exact byV_iff.2 (.inr (.inl ⟨h1, by cases w <;> first | exact hm _ h2 | exact hn _ h2⟩))
      · exact byV_iff.2 (.inr (.inr ⟨h1, hn _ h2⟩))
theorem bd_mono {A : Type} {o : Option A} {K K' : A → Prop} (hk : ∀ a, K a → K' a) (hw : bd o K) : bd o K' := by
  cases o with
  | none => exact hw
  | some a => exact hk a hw
theorem bdE_mono {A : Type} {o : Option A} {K K' : A → Prop} (hk : ∀ a, K a → K' a) (hw : bdE o K) : bdE o K' := by
  cases o with
  | none => exact hw
  | some a => exact hk a hw
theorem bd2_mono {A B : Type} {o : Option (A × B)} {K K' : A → B → Prop} (hk : ∀ a b, K a b → K' a b) (hw : bd2 o K) : bd2 o K' := by
  cases o with
  | none => exact hw
  | some a => exact hk a.1 a.2 hw
theorem bdB_mono {o : Option V} {K K' : Bool → Prop} (hk : ∀ a, K a → K' a) (hw : bdB o K) : bdB o K' := by
  obtain ⟨b, h1, h2⟩ := bdB_iff.1 hw
  exact bdB_iff.2 ⟨b, h1, hk b h2⟩
theorem byV_mono {v : V} {A B D A' B' D' : Prop} (h1 : A → A') (h2 : B → B') (h3 : D → D') (hw : byV v A B D) : byV v A' B' D' := by
  rcases byV_iff.1 hw with ⟨h, k⟩ | ⟨h, k⟩ | ⟨h, k⟩
  · exact byV_iff.2 (.inl ⟨h, h1 k⟩)
  · exact byV_iff.2 (.inr (.inl ⟨h, h2 k⟩))
  · exact byV_iff.2 (.inr (.inr ⟨h, h3 k⟩))
section
variable {KO KO' : V → H → Prop} {ex : Operand → Option V}
theorem KX_mono (hk : ∀ v h, KO v h → KO' v h) {r : LR} (hw : KX h KO r) : KX h KO' r := by cases r <;> exact hk _ _ hw
theorem binX_mono {op : BinOp} {t : TypeId} {a b : V} {K K' : V → Prop} (hk : ∀ v, K v → K' v) (hw : binX P op t a b K) : binX P op t a b K' := by
  unfold binX at hw ⊢
  cases hc : cmp op with
  | true =>
    rw [hc] at hw
    exact bdB_mono (K := fun c => K (.bool c)) (fun _ h => hk _ h) hw
  | false =>
    rw [hc] at hw
    exact bd_mono hk (show bd (binV P op t a b) K from hw)
theorem oneX_mono {l : List V} {K K' : V → Prop} (hk : ∀ v, K v → K' v) (hw : oneX l K) : oneX l K' := by
  obtain ⟨a, rfl, h⟩ := oneX_one hw; exact hk _ h
theorem twoX_mono {l : List V} {K K' : V → V → Prop} (hk : ∀ v w, K v w → K' v w) (hw : twoX l K) : twoX l K' := by
  obtain ⟨a, b, rfl, h⟩ := twoX_two hw; exact hk _ _ h
theorem intX_mono {v : V} {K K' : IntKind → Int → Prop} (hk : ∀ v w, K v w → K' v w) (hw : intX v K) : intX v K' := by
  obtain ⟨a, b, rfl, h⟩ := intX_int' hw; exact hk _ _ h
theorem tupX_mono {v : V} {K K' : List V → Prop} (hk : ∀ v, K v → K' v) (hw : tupX v K) : tupX v K' := by
  obtain ⟨a, rfl, h⟩ := tupX_tup' hw; exact hk _ h
theorem LO'_mono {rd : Rd} (hk : ∀ v h, KO v h → KO' v h) {o : Op} (hw : LO' ex P rd h o KO) : LO' ex P rd h o KO' := by
  cases o <;> try exact hw.elim
  case move x => exact bdE_mono (fun _ h => hk _ _ h) hw
  case assign x => exact bdE_mono (fun _ h => hk _ _ h) hw
  case pick => exact bdE_mono (fun _ h => bdE_mono (fun _ h => bdE_mono (fun _ h => byV_mono (hk _ _) (hk _ _) id h) h) h) hw
  case alloc t => exact bd_mono (fun _ h => hk _ _ h) hw
  case box t x => exact bdE_mono (fun _ h => hk _ _ h) hw
  case build t ps => exact bdE_mono (fun _ h => bd_mono (fun _ h => hk _ _ h) h) hw
  case buildSlice t n ps => exact bdE_mono (fun _ h => bd_mono (fun _ h => KX_mono hk h) h) hw
  case load t x => exact bdE_mono (fun _ h => bd_mono (fun _ h => hk _ _ h) h) hw
  case nilCheck x => exact bdE_mono (fun _ h => bd_mono (fun _ h => hk _ _ h) h) hw
  case binOp op t x y _ => exact bdE_mono (fun _ h => bdE_mono (fun _ h => binX_mono (fun _ h => hk _ _ h) h) h) hw
  case unOp op t x => exact bdE_mono (fun _ h => bdE_mono (fun _ h => hk _ _ h) h) hw
  case convert s d x => exact bdE_mono (fun _ h => bd_mono (fun _ h => KX_mono hk h) h) hw
  case makeFunc f a c => exact bdE_mono (fun _ h => bdE_mono (fun _ h => hk _ _ h) h) hw
  case makeSlice t x y => exact bdE_mono (fun _ h => bdE_mono (fun _ h => bd_mono (fun _ h => KX_mono hk h) h) h) hw
  case slice t x l m k => exact bdE_mono (fun _ h => bdE_mono (fun _ h => bdE_mono (fun _ h => bdE_mono (fun _ h => bd_mono (fun _ h => hk _ _ h) h) h) h) h) hw
  case fieldAddr t x f => exact bdE_mono (fun _ h => bd_mono (fun _ h => hk _ _ h) h) hw
  case field t x f => exact bdE_mono (fun _ h => bd_mono (fun _ h => hk _ _ h) h) hw
  case indexAddr t x y => exact bdE_mono (fun _ h => bdE_mono (fun _ h => bd_mono (fun _ h => hk _ _ h) h) h) hw
  case index t x y => exact bdE_mono (fun _ h => bdE_mono (fun _ h => bd_mono (fun _ h => hk _ _ h) h) h) hw
  case extract x f => exact bdE_mono (fun _ h => tupX_mono (fun _ h => bd_mono (fun _ h => hk _ _ h) h) h) hw
  case call c =>
    obtain ⟨callee, args, ts⟩ := c
    cases callee <;> try exact hw.elim
    rename_i b
    cases b <;> try exact hw.elim
    · exact bdE_mono (fun _ h => oneX_mono (fun _ h => bd_mono (fun _ h => hk _ _ h) h) h) hw
    · exact bdE_mono (fun _ h => twoX_mono (fun _ _ h => intX_mono (fun _ _ h => intX_mono (fun _ _ h => hk _ _ h) h) h) h) hw
    · exact bdE_mono (fun _ h => twoX_mono (fun _ _ h => intX_mono (fun _ _ h => intX_mono (fun _ _ h => hk _ _ h) h) h) h) hw
theorem callX_mono (hk : ∀ v h, KO v h → KO' v h) {f : V} {vs : List V} (hw : callX C f vs lo h KO) : callX C f vs lo h KO' := by
  obtain ⟨g, a, b, rfl, hw⟩ := callX_CW hw
  exact hw.mono hk
theorem OX_mono (hk : ∀ v h, KO v h → KO' v h) {o : Op} (hw : OX ex C lo h o KO) : OX ex C lo h o KO' := by
  cases o <;> try exact hw.elim
  case store => exact bdE_mono (fun _ h => bdE_mono (fun _ h => bd_mono (fun _ h => hk _ _ h) h) h) hw
  case convert s d x =>
    unfold OX at hw ⊢
    simp only at hw ⊢
    cases hb : Nat.beq s d with
    | true =>
      rw [hb] at hw
      simp only [cond_true] at hw ⊢
      cases hs : isSlice C.P s with
      | true => rw [hs] at hw; exact bdE_mono (fun _ h => bd2_mono hk h) hw
      | false => rw [hs] at hw; exact hw.elim
    | false => rw [hb] at hw; simp only [cond_false] at hw ⊢; exact LO'_mono hk hw
  case call c =>
    obtain ⟨callee, args, ts⟩ := c
    cases callee <;> try exact hw.elim
    case value f => cases f <;> first | exact bdE_mono (fun _ h => CW.mono h hk) hw | exact bdE_mono (fun _ h => bdE_mono (fun _ h => callX_mono hk h) h) hw
    case builtin b =>
      cases b
      case append => exact bdE_mono (fun _ h => twoX_mono (fun _ _ h => bd2_mono hk h) h) hw
      case copy => exact bdE_mono (fun _ h => twoX_mono (fun _ _ h => bd2_mono hk h) h) hw
      all_goals (unfold OX at hw ⊢; exact LO'_mono hk hw)
  all_goals (unfold OX at hw ⊢; exact LO'_mono hk hw)
theorem FOX_mono (hk : ∀ v h, KO v h → KO' v h) {o : Op} (hw : FOX ex C lo old st h o KO) : FOX ex C lo old st h o KO' := by
  cases o <;> try exact hw.elim
  case store => exact bdE_mono (fun _ h => bdE_mono (fun _ h => bd_mono (fun _ h => hk _ _ h) h) h) hw
  case convert s d x =>
    unfold FOX at hw ⊢
    simp only at hw ⊢
    cases hb : Nat.beq s d with
    | true =>
      rw [hb] at hw
      simp only [cond_true] at hw ⊢
      cases hs : isSlice C.P s with
      | true => rw [hs] at hw; exact bdE_mono (fun _ h => bd2_mono hk h) hw
      | false => rw [hs] at hw; exact hw.elim
    | false => rw [hb] at hw; simp only [cond_false] at hw ⊢; exact LO'_mono hk hw
  case call c =>
    obtain ⟨callee, args, ts⟩ := c
    cases callee <;> try exact hw.elim
    case value f => cases f <;> first | exact bdE_mono (fun _ h => CW.mono h hk) hw | exact bdE_mono (fun _ h => bdE_mono (fun _ h => callX_mono hk h) h) hw
    case builtin b =>
      cases b
      case append =>
        refine bdE_mono (fun _ h => twoX_mono (fun a b h => ?_) h) hw
        unfold endX at h ⊢
        split at h
        · exact bd_mono (fun _ h => ⟨h.1, bd2_mono hk h.2⟩) h
        · exact bd2_mono hk h
      case copy => exact hw.elim
      case min => exact hw.elim
      case max => exact hw.elim
      all_goals (unfold FOX at hw ⊢; exact LO'_mono hk hw)
  all_goals (unfold FOX at hw ⊢; exact LO'_mono hk hw)
end
theorem LX_mono {K K' : E → H → Prop} (hk : ∀ e h, K e h → K' e h) : ∀ {l : List SI} {e : E} {h : H}, LX C lo l K e h → LX C lo l K' e h
  | [], e, h, hw => hk _ _ hw
  | o :: r, e, h, hw => by
    unfold LX at hw ⊢
    exact gateX_mono (fun _ hw => OX_mono (fun _ _ hw => LX_mono hk hw) hw) (fun _ hw => LX_mono hk hw) hw
theorem FX_mono {K K' : E → H → Prop} (hk : ∀ e h, K e h → K' e h) : ∀ {l : List SI} {e : E} {h : H}, FX C lo old st l K e h → FX C lo old st l K' e h
  | [], e, h, hw => hk _ _ hw
  | o :: r, e, h, hw => by
    unfold FX at hw ⊢
    exact gateX_mono (fun _ hw => FOX_mono (fun _ _ hw => FX_mono hk hw) hw) (fun _ hw => FX_mono hk hw) hw
theorem loopX_mono {L : List Nat} {body : XQ → E → H → Prop} (hb : ∀ (Q Q' : XQ) (e : E) (h : H), (∀ r e h, Q r e h → Q' r e h) → body Q e h → body Q' e h) {Q Q' : XQ} (hq : ∀ r e h, Q r e h → Q' r e h) : ∀ {n : Nat} {e : E} {h : H}, loopX L body Q n e h → loopX L body Q' n e h
  | 0, _, _, hw => hw
  | n + 1, e, h, hw => hb _ _ _ h (fun r e h hr => by
    cases r with
    | nx => exact loopX_mono hb hq hr
    | ex id => exact hq _ _ _ hr
    | rt => exact hq _ _ _ hr) hw
theorem kX_mono {K K' : E → H → Prop} {Q Q' : XQ} (hk : ∀ e h, K e h → K' e h) (hq : ∀ r e h, Q r e h → Q' r e h) (r : R) (e : E) (h : H) (hr : kX K Q r e h) : kX K' Q' r e h := by
  cases r with
  | nx => exact hk _ _ hr
  | ex id => exact hq _ _ _ hr
  | rt => exact hq _ _ _ hr
theorem XW_mono : ∀ (x : X) {Q Q' : XQ} {e : E} {h : H}, (∀ r e h, Q r e h → Q' r e h) → XW C lo x Q e h → XW C lo x Q' e h
  | .skip, _, _, _, _, hq, hw => hq _ _ _ hw
  | .exit _, _, _, _, _, hq, hw => hq _ _ _ hw
  | .ret, _, _, _, _, hq, hw => hq _ _ _ hw
  | .ops l out k, _, _, _, _, hq, hw => LX_mono (fun _ _ hw => XW_mono k hq hw) hw
  | .front st l r out k, _, _, _, _, hq, hw => FX_mono (fun _ _ hw => LX_mono (fun _ _ hw => XW_mono k hq hw) hw) hw
  | .cond x a b k, _, _, _, _, hq, hw => bd_mono (fun _ hw => byV_mono (fun hw => XW_mono a (kX_mono (fun _ _ hw => XW_mono k hq hw) hq) hw) (fun hw => XW_mono b (kX_mono (fun _ _ hw => XW_mono k hq hw) hq) hw) id hw) hw
  | .block id b k, _, _, _, _, hq, hw => XW_mono b (fun r e h hr => by
    cases r with
    | nx => exact XW_mono k hq hr
    | rt => exact hq _ _ _ hr
    | ex i =>
      rw [kXB_ex] at hr ⊢
      split at hr
      · rename_i hi; rw [if_pos hi]; exact XW_mono k hq hr
      · rename_i hi; rw [if_neg hi]; exact hq _ _ _ hr) hw
  | .loop L b, _, _, _, _, hq, ⟨n, hw⟩ => ⟨n, loopX_mono (body := XW C lo b) (fun _ _ _ _ hq hw => XW_mono b hq hw) hq hw⟩
  | .trim L k, _, _, _, _, hq, hw => XW_mono k hq hw
/-- a loop: what holds at each round's start, and a number that falls -/
theorem rounds {L : List Nat} {b : X} (I : Nat → E → H → Prop) (hI : ∀ m e h, I m e h → XW C lo b (kX (fun e' h' => ∃ m', m' < m ∧ I m' (only L e') h') Q) e h)
    (m : Nat) (hi : I m (only L e) h) : ∃ n, loopX L (XW C lo b) Q n e h := by
  have key : ∀ (k m : Nat) (e : E) (h : H), m < k → I m (only L e) h → loopX L (XW C lo b) Q k e h := by
    intro k
    induction k with
    | zero => intro m e h hm; omega
    | succ k ih =>
      intro m e h hlt hi
      refine XW_mono b (fun r e' h' hq => ?_) (hI m _ h hi)
      cases r with
      | nx => obtain ⟨m', h1, h2⟩ := hq; exact ih m' e' h' (by omega) h2
      | ex id => exact hq
      | rt => exact hq
  exact ⟨m + 1, key (m + 1) m e h (by omega) hi⟩
end Go.Den
/- A function without arguments, reckoned once over an empty memory, answers so over every memory: a shortcut. -/
namespace Go.Den
open Go
variable {P : Program} {φ : Phi} {h : H} {w w' : World}

/-- what leaves the blocks that there are leaves the machine's view of them -/
theorem Sim.below (s : Sim φ h w) (hsz : w.heap.size ≤ w'.heap.size) (hk : ∀ g, g < w.heap.size → w'.heap[g]? = w.heap[g]?) : Sim φ h w' where
  at_ := fun b x l hb hr => by
    have hc := s.at_ b x l hb hr
    exact hc.mono (Phi.le.refl φ) (hk _ hc.lt)
  gl := s.gl
  sep := s.sep
  wf := s.wf
  bnd := fun b x hb => Nat.lt_of_lt_of_le (s.bnd b x hb) hsz
  frz := fun b x l f hb hg => by
    have hc := s.frz b x l f hb hg
    have hlt := s.bnd b x hb
    have he := hk _ hlt
    unfold Clear at hc ⊢
    rw [he]
    exact hc
def closed (v : V) : List V → Nat → H → Option (V × H)
  | [], _, h => some (v, h)
  | _, _, _ => none
/-- the shortcuts: for each function of the list its answer -/
def closedS (l : List (Nat × V)) : FuncId → Option (List V → Nat → H → Option (V × H)) := fun f => match l.find? (fun p => Nat.beq p.1 f) with
  | some p => some (closed p.2)
  | none => none
theorem closedS_some {l : List (Nat × V)} {f : FuncId} {g : List V → Nat → H → Option (V × H)} (hs : closedS l f = some g) : ∃ v, (f, v) ∈ l ∧ g = closed v := by
  unfold closedS at hs
  split at hs
  · rename_i p hp
    cases hs
    have h1 := List.find?_some hp
    have h2 := List.mem_of_find?_eq_some hp
    have h3 := Nat.eq_of_beq_eq_true h1
    obtain ⟨a, b⟩ := p
    simp only at h3
    subst h3
    exact ⟨b, h2, rfl⟩
  · cases hs
theorem closed_some {v x : V} {as : List V} {lo : Nat} {h h' : H} (hc : closed v as lo h = some (x, h')) : as = [] ∧ x = v ∧ h' = h := by
  cases as with
  | nil => cases hc; exact ⟨rfl, rfl, rfl⟩
  | cons a r => cases hc
theorem progOk_closed {l : List (Nat × V)} (ok : ProgOk { P := P, S := fun _ => none }) (hgr : l = [] ∨ GR fun _ => none)
    (hl : ∀ f v, (f, v) ∈ l → (∃ b, v = .bool b) ∧ ∃ n h', call { P := P, S := fun _ => none } n f [] 0 H0 = some (v, h')) : ProgOk { P := P, S := closedS l } where
  mix := ok.mix
  names := ok.names
  next := fun f g hs as lo h v h' hc => by
    obtain ⟨x, _, rfl⟩ := closedS_some hs
    obtain ⟨_, _, rfl⟩ := closed_some hc
    exact Nat.le_refl _
  good := fun f g hs as lo h v h' hc _ => by
    obtain ⟨x, _, rfl⟩ := closedS_some hs
    obtain ⟨_, _, rfl⟩ := closed_some hc
    exact Good.refl _ _
  sim := fun f g hs as lo h v h' hc => by
    obtain ⟨x, hm, rfl⟩ := closedS_some hs
    obtain ⟨rfl, rfl, rfl⟩ := closed_some hc
    obtain ⟨⟨b, rfl⟩, n, h1, hcall⟩ := hl _ _ hm
    obtain ⟨c1, c2⟩ := ok.call n f [] 0 H0 _ h1 hcall
    refine ⟨c1, fun hlo φ w as' s ff hr => ?_⟩
    cases hr
    have hgr : GR fun _ => none := hgr.resolve_left (fun e => by rw [e] at hm; cases hm)
    refine (c2 (Nat.zero_le _) (fun _ => none) w [] (sim_none hgr w) (fun _ _ _ => rfl) .nil).mono fun e w' hp => ?_
    obtain ⟨v', φ', he, x, _, hv⟩ := hp
    cases hv
    have hk : ∀ g, g < w.heap.size → w'.heap[g]? = w.heap[g]? := fun g hg => x.keep g hg (fun b y _ _ h2 => by cases h2)
    exact ⟨_, φ, he, ⟨Phi.le.refl φ, fun _ h1 h2 => absurd h1 h2, Nat.le_refl _, x.tape, x.os, x.out, x.size, fun g hg _ => hk g hg, fun b y hb ho hy => .inr ⟨b, y, hb, ho, hy, rfl⟩, fun _ _ h => h, fun _ _ h1 h2 => by rw [h1] at h2; cases h2⟩, s.below x.size hk, .bool _⟩
theorem closedS_low (l : List (Nat × V)) : ShortLow { P := P, S := closedS l } := fun f g hs as lo lo' h v h' _ hc => by
  obtain ⟨x, _, rfl⟩ := closedS_some hs
  obtain ⟨rfl, rfl, rfl⟩ := closed_some hc
  rfl
theorem closed_CW {l : List (Nat × V)} {f : FuncId} {v : V} (hs : closedS l f = some (closed v)) {lo : Nat} {K : V → H → Prop} (hk : K v h) : CW { P := P, S := closedS l } f [] lo h K :=
  ⟨0, v, h, by
    show callStep _ _ _ _ _ _ = _
    unfold callStep
    simp only [hs]
    rfl, hk⟩
end Go.Den
