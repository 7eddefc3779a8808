/- The rules by which code in short is stepped through. -/
import Derived.Test.YtghmbmblhdgabaaSc
set_option linter.all false
namespace Go.Den
open Go
variable {C : Cfg} {P : Program} {lo old : Nat} {e : Env} {h : H} {st : Bool}

theorem SL_nil {K : Env → H → Prop} : SL C lo [] K e h = K e h := rfl
theorem SF_nil {K : Env → H → Prop} : SF C lo old st [] K e h = K e h := rfl
theorem SL_go {d : Option Nat} {op : Op} {r : List SI} {K : Env → H → Prop} : SL C lo (⟨d, op, none⟩ :: r) K e h = OW C lo e h op fun v h' => SL C lo r K (putS d v e) h' := by
  apply propext; rw [SL]; simp [lets]
theorem SF_go {d : Option Nat} {op : Op} {r : List SI} {K : Env → H → Prop} : SF C lo old st (⟨d, op, none⟩ :: r) K e h = FOW C lo old st e h op fun v h' => SF C lo old st r K (putS d v e) h' := by
  apply propext; rw [SF]; simp [lets]
theorem SL_if {d : Option Nat} {op : Op} {t : Nat} {want : Bool} {r : List SI} {K : Env → H → Prop} : SL C lo (⟨d, op, some (some t, want)⟩ :: r) K e h =
    ((tru (e.at t) = some want → OW C lo e h op fun v h' => SL C lo r K (putS d v e) h') ∧ (tru (e.at t) ≠ some want → SL C lo r K (putS d undef e) h)) := by
  apply propext; rw [SL]; simp [lets]
theorem SF_if {d : Option Nat} {op : Op} {t : Nat} {want : Bool} {r : List SI} {K : Env → H → Prop} : SF C lo old st (⟨d, op, some (some t, want)⟩ :: r) K e h =
    ((tru (e.at t) = some want → FOW C lo old st e h op fun v h' => SF C lo old st r K (putS d v e) h') ∧ (tru (e.at t) ≠ some want → SF C lo old st r K (putS d undef e) h)) := by
  apply propext; rw [SF]; simp [lets]
theorem putS_some {t : Nat} {v : V} : putS (some t) v e = T.set e t v := rfl
theorem putS_none {v : V} : putS none v e = e := rfl
theorem tru_bool (b : Bool) : tru (.bool b) = some b := rfl
theorem rdOf_false : rdOf false old h = h.read := by funext b; simp [rdOf]

def bindP {A : Type} (o : Option A) (K : A → Prop) : Prop := ∃ v, o = some v ∧ K v
def bind2 {A B : Type} (o : Option (A × B)) (K : A → B → Prop) : Prop := ∃ a b, o = some (a, b) ∧ K a b
theorem bindP_some {A : Type} (a : A) (K : A → Prop) : bindP (some a) K = K a := by unfold bindP; simp
theorem bind2_some {A B : Type} (a : A) (b : B) (K : A → B → Prop) : bind2 (some (a, b)) K = K a b := by
  unfold bind2
  exact propext ⟨fun ⟨_, _, e, k⟩ => by (cases e; exact k), fun k => ⟨a, b, rfl, k⟩⟩
def boolP (v : V) (K : Bool → Prop) : Prop := ∃ t, v = .bool t ∧ K t
def tupP (v : V) (K : List V → Prop) : Prop := ∃ l, v = .tup l ∧ K l
theorem boolP_mk (t : Bool) (K : Bool → Prop) : boolP (.bool t) K = K t := by unfold boolP; simp
theorem tupP_mk (l : List V) (K : List V → Prop) : tupP (.tup l) K = K l := by unfold tupP; simp
/-! ### operations that only tell a value or make a block -/
def KL (h : H) (K : V → H → Prop) : LR → Prop
  | .val v => K v h
  | .new l k => K (k.at h.next) (h.alloc l)
theorem KL_val {v : V} {K : V → H → Prop} : KL h K (.val v) = K v h := rfl
theorem KL_new {l : List V} {k : NK} {K : V → H → Prop} : KL h K (.new l k) = K (k.at h.next) (h.alloc l) := rfl
def LO (P : Program) (rd : Rd) (e : Env) (h : H) (o : Op) (K : V → H → Prop) : Prop := ∃ r, lightOp P rd e o = some r ∧ KL h K r
theorem LO_keep {rd : Rd} {o : Op} {K : V → H → Prop} : (∃ v h', keep h (lightOp P rd e o) = some (v, h') ∧ K v h') = LO P rd e h o K := by
  apply propext
  unfold LO
  cases lightOp P rd e o with
  | none => exact ⟨fun ⟨v, h', he, _⟩ => (by cases he), fun ⟨r, he, _⟩ => (by cases he)⟩
  | some r => cases r with
    | val v => exact ⟨fun ⟨v, h', he, hk⟩ => by (cases he; exact ⟨_, rfl, hk⟩), fun ⟨r, he, hk⟩ => by (cases he; exact ⟨_, _, rfl, hk⟩)⟩
    | new l k => exact ⟨fun ⟨v, h', he, hk⟩ => by (cases he; exact ⟨_, rfl, hk⟩), fun ⟨r, he, hk⟩ => by (cases he; exact ⟨_, _, rfl, hk⟩)⟩
theorem ex_val {K : V → H → Prop} {v : Option V} : (∃ r, val v = some r ∧ KL h K r) ↔ ∃ w, v = some w ∧ K w h := by
  cases v with
  | none => exact ⟨fun ⟨r, he, _⟩ => (by cases he), fun ⟨r, he, _⟩ => (by cases he)⟩
  | some v => exact ⟨fun ⟨r, he, hk⟩ => by (cases he; exact ⟨_, rfl, hk⟩), fun ⟨r, he, hk⟩ => by (cases he; exact ⟨_, rfl, hk⟩)⟩
theorem ex_keep {K : V → H → Prop} {x : Option (V × H)} : (∃ v h', x = some (v, h') ∧ K v h') ↔ ∃ v h', x = some (v, h') ∧ K v h' := Iff.rfl
section
variable {K : V → H → Prop} {rd : Rd} {x y z : Operand} {t u : TypeId} {f : Nat}
theorem OW_move : OW C lo e h (.move x) K = LO C.P h.read e h (.move x) K := LO_keep
theorem OW_assign : OW C lo e h (.assign x) K = LO C.P h.read e h (.assign x) K := LO_keep
theorem OW_pick : OW C lo e h (.pick x y z) K = LO C.P h.read e h (.pick x y z) K := LO_keep
theorem OW_alloc : OW C lo e h (.alloc t) K = LO C.P h.read e h (.alloc t) K := LO_keep
theorem OW_box : OW C lo e h (.box t x) K = LO C.P h.read e h (.box t x) K := LO_keep
theorem OW_build {ps : Array (Nat × Operand)} : OW C lo e h (.build t ps) K = LO C.P h.read e h (.build t ps) K := LO_keep
theorem OW_buildSlice {n : Nat} {ps : Array (Nat × Operand)} : OW C lo e h (.buildSlice t n ps) K = LO C.P h.read e h (.buildSlice t n ps) K := LO_keep
theorem OW_load : OW C lo e h (.load t x) K = LO C.P h.read e h (.load t x) K := LO_keep
theorem OW_nilCheck : OW C lo e h (.nilCheck x) K = LO C.P h.read e h (.nilCheck x) K := LO_keep
theorem OW_binOp {op : BinOp} : OW C lo e h (.binOp op t x y u) K = LO C.P h.read e h (.binOp op t x y u) K := LO_keep
theorem OW_unOp {op : UnOp} : OW C lo e h (.unOp op t x) K = LO C.P h.read e h (.unOp op t x) K := LO_keep
theorem OW_makeSlice : OW C lo e h (.makeSlice t x y) K = LO C.P h.read e h (.makeSlice t x y) K := LO_keep
theorem OW_slice {l m k : Option Operand} : OW C lo e h (.slice t x l m k) K = LO C.P h.read e h (.slice t x l m k) K := LO_keep
theorem OW_fieldAddr : OW C lo e h (.fieldAddr t x f) K = LO C.P h.read e h (.fieldAddr t x f) K := LO_keep
theorem OW_field : OW C lo e h (.field t x f) K = LO C.P h.read e h (.field t x f) K := LO_keep
theorem OW_indexAddr : OW C lo e h (.indexAddr t x y) K = LO C.P h.read e h (.indexAddr t x y) K := LO_keep
theorem OW_index : OW C lo e h (.index t x y) K = LO C.P h.read e h (.index t x y) K := LO_keep
theorem OW_extract : OW C lo e h (.extract x f) K = LO C.P h.read e h (.extract x f) K := LO_keep
theorem OW_len {as : Array Operand} {ts : Array TypeId} : OW C lo e h (.call { callee := .builtin .len, args := as, argTypes := ts }) K = LO C.P h.read e h (.call { callee := .builtin .len, args := as, argTypes := ts }) K := LO_keep
theorem OW_max {as : Array Operand} {ts : Array TypeId} : OW C lo e h (.call { callee := .builtin .max, args := as, argTypes := ts }) K = LO C.P h.read e h (.call { callee := .builtin .max, args := as, argTypes := ts }) K := LO_keep
theorem OW_min {as : Array Operand} {ts : Array TypeId} : OW C lo e h (.call { callee := .builtin .min, args := as, argTypes := ts }) K = LO C.P h.read e h (.call { callee := .builtin .min, args := as, argTypes := ts }) K := LO_keep
theorem OW_conv (hne : t ≠ u) : OW C lo e h (.convert t u x) K = LO C.P h.read e h (.convert t u x) K := by
  unfold OW
  simp only [aop]
  simp only [hne, false_and, if_false]
  exact LO_keep
theorem OW_mark' (hs : isSlice C.P t = true) : OW C lo e h (.convert t t x) K = ∃ x' v h1, ev e x = some x' ∧ markV C.P lo t x' h = some (v, h1) ∧ K v h1 := by
  apply propext
  unfold OW
  simp only [aop]
  simp only [hs, and_self, if_true]
  cases ev e x <;> simp
theorem OW_store' : OW C lo e h (.store t x y) K = ∃ a v h1, ev e x = some a ∧ ev e y = some v ∧ storeV C.P lo t a v h = some h1 ∧ K undef h1 := by
  apply propext
  unfold OW
  simp only [aop]
  constructor
  · rintro ⟨w, h', ha, hk⟩
    split at ha
    · rename_i a v e1 e2
      split at ha
      · rename_i h2 e3; cases ha; exact ⟨a, v, _, e1, e2, e3, hk⟩
      · cases ha
    · cases ha
  · rintro ⟨a, v, h1, e1, e2, e3, hk⟩
    exact ⟨undef, h1, by simp only [e1, e2, e3], hk⟩
theorem OW_append' {as : Array Operand} {ts : Array TypeId} : OW C lo e h (.call { callee := .builtin .append, args := as, argTypes := ts }) K = ∃ s x v h1, evs e as.toList = some [s, x] ∧ appendV C.P lo ts.toList s x h = some (v, h1) ∧ K v h1 := by
  apply propext
  unfold OW
  simp only [aop]
  constructor
  · rintro ⟨v, h1, ha, hk⟩
    split at ha
    · rename_i s x hx; exact ⟨s, x, v, h1, hx, ha, hk⟩
    · cases ha
  · rintro ⟨s, x, v, h1, hx, ha, hk⟩
    exact ⟨v, h1, by simp only [hx]; exact ha, hk⟩
theorem OW_copy' {as : Array Operand} {ts : Array TypeId} : OW C lo e h (.call { callee := .builtin .copy, args := as, argTypes := ts }) K = ∃ s x v h1, evs e as.toList = some [s, x] ∧ copyV C.P lo ts.toList s x h = some (v, h1) ∧ K v h1 := by
  apply propext
  unfold OW
  simp only [aop]
  constructor
  · rintro ⟨v, h1, ha, hk⟩
    split at ha
    · rename_i s x hx; exact ⟨s, x, v, h1, hx, ha, hk⟩
    · cases ha
  · rintro ⟨s, x, v, h1, hx, ha, hk⟩
    exact ⟨v, h1, by simp only [hx]; exact ha, hk⟩
theorem OW_call {f : FuncId} {as : Array Operand} {ts : Array TypeId} : OW C lo e h (.call { callee := .value (.func f), args := as, argTypes := ts }) K = bindP (evs e as.toList) fun vs => CW C f vs lo h K := by
  apply propext
  unfold OW
  constructor
  · rintro ⟨vs, f', a, b, h1, h2, h3⟩
    cases h2
    exact ⟨vs, h1, by simpa using h3⟩
  · rintro ⟨vs, h1, h3⟩
    exact ⟨vs, f, [], [], h1, rfl, by simpa using h3⟩
theorem FOW_move : FOW C lo old st e h (.move x) K = LO C.P (rdOf st old h) e h (.move x) K := LO_keep
theorem FOW_assign : FOW C lo old st e h (.assign x) K = LO C.P (rdOf st old h) e h (.assign x) K := LO_keep
theorem FOW_pick : FOW C lo old st e h (.pick x y z) K = LO C.P (rdOf st old h) e h (.pick x y z) K := LO_keep
theorem FOW_alloc : FOW C lo old st e h (.alloc t) K = LO C.P (rdOf st old h) e h (.alloc t) K := LO_keep
theorem FOW_box : FOW C lo old st e h (.box t x) K = LO C.P (rdOf st old h) e h (.box t x) K := LO_keep
theorem FOW_build {ps : Array (Nat × Operand)} : FOW C lo old st e h (.build t ps) K = LO C.P (rdOf st old h) e h (.build t ps) K := LO_keep
theorem FOW_buildSlice {n : Nat} {ps : Array (Nat × Operand)} : FOW C lo old st e h (.buildSlice t n ps) K = LO C.P (rdOf st old h) e h (.buildSlice t n ps) K := LO_keep
theorem FOW_load : FOW C lo old st e h (.load t x) K = LO C.P (rdOf st old h) e h (.load t x) K := LO_keep
theorem FOW_nilCheck : FOW C lo old st e h (.nilCheck x) K = LO C.P (rdOf st old h) e h (.nilCheck x) K := LO_keep
theorem FOW_binOp {op : BinOp} : FOW C lo old st e h (.binOp op t x y u) K = LO C.P (rdOf st old h) e h (.binOp op t x y u) K := LO_keep
theorem FOW_unOp {op : UnOp} : FOW C lo old st e h (.unOp op t x) K = LO C.P (rdOf st old h) e h (.unOp op t x) K := LO_keep
theorem FOW_makeSlice : FOW C lo old st e h (.makeSlice t x y) K = LO C.P (rdOf st old h) e h (.makeSlice t x y) K := LO_keep
theorem FOW_slice {l m k : Option Operand} : FOW C lo old st e h (.slice t x l m k) K = LO C.P (rdOf st old h) e h (.slice t x l m k) K := LO_keep
theorem FOW_fieldAddr : FOW C lo old st e h (.fieldAddr t x f) K = LO C.P (rdOf st old h) e h (.fieldAddr t x f) K := LO_keep
theorem FOW_field : FOW C lo old st e h (.field t x f) K = LO C.P (rdOf st old h) e h (.field t x f) K := LO_keep
theorem FOW_indexAddr : FOW C lo old st e h (.indexAddr t x y) K = LO C.P (rdOf st old h) e h (.indexAddr t x y) K := LO_keep
theorem FOW_index : FOW C lo old st e h (.index t x y) K = LO C.P (rdOf st old h) e h (.index t x y) K := LO_keep
theorem FOW_extract : FOW C lo old st e h (.extract x f) K = LO C.P (rdOf st old h) e h (.extract x f) K := LO_keep
theorem FOW_len {as : Array Operand} {ts : Array TypeId} : FOW C lo old st e h (.call { callee := .builtin .len, args := as, argTypes := ts }) K = LO C.P (rdOf st old h) e h (.call { callee := .builtin .len, args := as, argTypes := ts }) K := LO_keep
theorem FOW_conv (hne : t ≠ u) : FOW C lo old st e h (.convert t u x) K = LO C.P (rdOf st old h) e h (.convert t u x) K := by
  unfold FOW
  have : heavy (.convert t u x) = false := by simp [heavy, hne]
  rw [this]
  exact LO_keep
theorem FOW_call {f : FuncId} {as : Array Operand} {ts : Array TypeId} : FOW C lo old st e h (.call { callee := .value (.func f), args := as, argTypes := ts }) K = bindP (evs e as.toList) fun vs => CW C f vs h.next h K := by
  apply propext
  unfold FOW
  simp [heavy, atEnd, OW_call, barrier]
theorem FOW_append' {as : Array Operand} {ts : Array TypeId} : FOW C lo old st e h (.call { callee := .builtin .append, args := as, argTypes := ts }) K =
    (atEnd e h (.call { callee := .builtin .append, args := as, argTypes := ts }) = true ∧ ∃ s x v h1, evs e as.toList = some [s, x] ∧ appendV C.P lo ts.toList s x h = some (v, h1) ∧ K v h1) := by
  apply propext
  unfold FOW
  simp [heavy, OW_append', barrier]
theorem FOW_store' : FOW C lo old st e h (.store t x y) K = ∃ a v h1, ev e x = some a ∧ ev e y = some v ∧ storeV C.P (max lo old) t a v h = some h1 ∧ K undef h1 := by
  apply propext
  unfold FOW
  simp [heavy, atEnd, OW_store', barrier]

def ncV : V → Option V
  | .ptr b o => some (.ptr b o)
  | .fn (.func f) a b => some (.fn (.func f) a b)
  | _ => none
theorem ncV_ptr (b o : Nat) : ncV (.ptr b o) = some (.ptr b o) := rfl
theorem LO_val {o : Op} {v : Option V} (hl : lightOp P rd e o = val v) : LO P rd e h o K = bindP (v) fun w => K w h := by
  apply propext
  unfold LO
  rw [hl]
  exact ex_val
theorem LO_move : LO P rd e h (.move x) K = bindP (ev e x) fun v => K v h := LO_val rfl
theorem LO_assign : LO P rd e h (.assign x) K = bindP (ev e x) fun v => K v h := LO_val rfl
theorem LO_pick' : LO P rd e h (.pick x y z) K = ∃ t a b, ev e x = some (.bool t) ∧ ev e y = some a ∧ ev e z = some b ∧ K (if t then a else b) h := by
  apply propext
  unfold LO
  simp only [lightOp]
  constructor
  · rintro ⟨r, hr, hk⟩
    split at hr
    · rename_i t a b h1 h2 h3; cases hr; exact ⟨t, a, b, h1, h2, h3, hk⟩
    · cases hr
  · rintro ⟨t, a, b, h1, h2, h3, hk⟩
    exact ⟨.val (if t then a else b), by simp only [h1, h2, h3], hk⟩
theorem LO_alloc : LO P rd e h (.alloc t) K = bindP (zero? P t) fun z => K (.ptr h.next 0) (h.alloc z.cells) := by
  apply propext
  unfold LO
  simp only [lightOp]
  cases zero? P t <;> simp [KL, NK.at, bindP]
theorem LO_box : LO P rd e h (.box t x) K = bindP (ev e x) fun v => K (.ptr h.next 0) (h.alloc v.cells) := by
  apply propext
  unfold LO
  simp only [lightOp]
  cases ev e x <;> simp [KL, NK.at, bindP]
theorem LO_build' {ps : Array (Nat × Operand)} : LO P rd e h (.build t ps) K = ∃ l v, evParts e ps.toList = some l ∧ buildV P t l = some v ∧ K v h := by
  apply propext
  unfold LO
  simp only [lightOp]
  cases evParts e ps.toList with
  | none => simp
  | some l => simp [ex_val]
theorem LO_buildSlice' {n : Nat} {ps : Array (Nat × Operand)} : LO P rd e h (.buildSlice t n ps) K = ∃ l r, evParts e ps.toList = some l ∧ buildSliceV P t n l = some r ∧ KL h K r := by
  apply propext
  unfold LO
  simp only [lightOp]
  cases evParts e ps.toList <;> simp
theorem LO_load' : LO P rd e h (.load t x) K = ∃ a v, ev e x = some a ∧ loadV P t a rd = some v ∧ K v h := by
  apply propext
  unfold LO
  simp only [lightOp]
  cases ev e x with
  | none => simp
  | some a => simp [ex_val]
theorem LO_nilCheck' : LO P rd e h (.nilCheck x) K = ∃ a v, ev e x = some a ∧ ncV a = some v ∧ K v h := by
  apply propext
  unfold LO
  simp only [lightOp]
  cases hx : ev e x with
  | none => simp
  | some a =>
    constructor
    · rintro ⟨r, hr, hk⟩
      split at hr
      · rename_i hh; cases hh; cases hr; exact ⟨_, _, rfl, rfl, hk⟩
      · rename_i hh; cases hh; cases hr; exact ⟨_, _, rfl, rfl, hk⟩
      · cases hr
    · rintro ⟨a', v, ha, hn, hk⟩
      cases ha
      unfold ncV at hn
      split at hn
      · cases hn; exact ⟨_, rfl, hk⟩
      · cases hn; exact ⟨_, rfl, hk⟩
      · cases hn
theorem LO_binOp' {op : BinOp} : LO P rd e h (.binOp op t x y u) K = ∃ a b v, ev e x = some a ∧ ev e y = some b ∧ binV P op t a b = some v ∧ K v h := by
  apply propext
  unfold LO
  simp only [lightOp]
  cases ev e x with
  | none => simp
  | some a => cases ev e y with
    | none => simp
    | some b => simp [ex_val]
theorem LO_unOp' {op : UnOp} : LO P rd e h (.unOp op t x) K = ∃ a v, ev e x = some a ∧ unV op a = some v ∧ K v h := by
  apply propext
  unfold LO
  simp only [lightOp]
  cases ev e x with
  | none => simp
  | some a => simp [ex_val]
theorem LO_conv' : LO P rd e h (.convert t u x) K = ∃ a r, ev e x = some a ∧ convV P rd t u a = some r ∧ KL h K r := by
  apply propext
  unfold LO
  simp only [lightOp]
  cases ev e x <;> simp
theorem LO_makeSlice' : LO P rd e h (.makeSlice t x y) K = ∃ a b r, ev e x = some a ∧ ev e y = some b ∧ makeSliceV P t a b = some r ∧ KL h K r := by
  apply propext
  unfold LO
  simp only [lightOp]
  cases ev e x with
  | none => simp
  | some a => cases ev e y <;> simp
theorem LO_slice' {l m k : Option Operand} : LO P rd e h (.slice t x l m k) K = ∃ a l' m' k' v, ev e x = some a ∧ evo e l = some l' ∧ evo e m = some m' ∧ evo e k = some k' ∧ sliceV P rd t a l' m' k' = some v ∧ K v h := by
  apply propext
  unfold LO
  simp only [lightOp]
  constructor
  · rintro ⟨r, hr, hk⟩
    split at hr
    · rename_i a l' m' k' h1 h2 h3 h4
      cases hs : sliceV P rd t a l' m' k' with
      | none => rw [hs] at hr; cases hr
      | some v => rw [hs] at hr; cases hr; exact ⟨a, l', m', k', v, h1, h2, h3, h4, hs, hk⟩
    · cases hr
  · rintro ⟨a, l', m', k', v, h1, h2, h3, h4, hs, hk⟩
    exact ⟨.val v, by simp only [h1, h2, h3, h4, hs, val], hk⟩
theorem LO_fieldAddr' : LO P rd e h (.fieldAddr t x f) K = ∃ a v, ev e x = some a ∧ fieldAddrV P t a f = some v ∧ K v h := by
  apply propext
  unfold LO
  simp only [lightOp]
  cases ev e x with
  | none => simp
  | some a => simp [ex_val]
theorem LO_field' : LO P rd e h (.field t x f) K = ∃ a v, ev e x = some a ∧ fieldV P t a f = some v ∧ K v h := by
  apply propext
  unfold LO
  simp only [lightOp]
  cases ev e x with
  | none => simp
  | some a => simp [ex_val]
theorem LO_indexAddr' : LO P rd e h (.indexAddr t x y) K = ∃ a b v, ev e x = some a ∧ ev e y = some b ∧ addrV P t a b = some v ∧ K v h := by
  apply propext
  unfold LO
  simp only [lightOp]
  cases ev e x with
  | none => simp
  | some a => cases ev e y with
    | none => simp
    | some b => simp [ex_val]
theorem LO_index' : LO P rd e h (.index t x y) K = ∃ a b v, ev e x = some a ∧ ev e y = some b ∧ indexV P t a b = some v ∧ K v h := by
  apply propext
  unfold LO
  simp only [lightOp]
  cases ev e x with
  | none => simp
  | some a => cases ev e y with
    | none => simp
    | some b => simp [ex_val]
theorem LO_extract' : LO P rd e h (.extract x f) K = ∃ vs v, ev e x = some (.tup vs) ∧ vs[f]? = some v ∧ K v h := by
  apply propext
  unfold LO
  simp only [lightOp]
  constructor
  · rintro ⟨r, hr, hk⟩
    split at hr
    · rename_i vs h1
      cases hv : vs[f]? with
      | none => rw [hv] at hr; cases hr
      | some v => rw [hv] at hr; cases hr; exact ⟨vs, v, h1, hv, hk⟩
    · cases hr
  · rintro ⟨vs, v, h1, hv, hk⟩
    exact ⟨.val v, by simp only [h1, hv, val], hk⟩
theorem LO_len' {as : Array Operand} {ts : Array TypeId} : LO P rd e h (.call { callee := .builtin .len, args := as, argTypes := ts }) K = ∃ a v, evs e as.toList = some [a] ∧ lenV P ts.toList a = some v ∧ K v h := by
  apply propext
  unfold LO
  simp only [lightOp]
  constructor
  · rintro ⟨r, hr, hk⟩
    split at hr
    · rename_i a h1
      cases hv : lenV P ts.toList a with
      | none => rw [hv] at hr; cases hr
      | some v => rw [hv] at hr; cases hr; exact ⟨a, v, h1, hv, hk⟩
    · cases hr
  · rintro ⟨a, v, h1, hv, hk⟩
    exact ⟨.val v, by simp only [h1, hv, val], hk⟩
theorem LO_min' {as : Array Operand} {ts : Array TypeId} : LO P rd e h (.call { callee := .builtin .min, args := as, argTypes := ts }) K = ∃ k k' a b, evs e as.toList = some [.int k a, .int k' b] ∧ K (.int k (if b < a then b else a)) h := by
  apply propext
  unfold LO
  simp only [lightOp]
  constructor
  · rintro ⟨r, hr, hk⟩
    split at hr
    · rename_i k a k' b h1; cases hr; exact ⟨k, k', a, b, h1, hk⟩
    · cases hr
  · rintro ⟨k, k', a, b, h1, hk⟩
    exact ⟨.val _, by simp only [h1], hk⟩
theorem LO_max' {as : Array Operand} {ts : Array TypeId} : LO P rd e h (.call { callee := .builtin .max, args := as, argTypes := ts }) K = ∃ k k' a b, evs e as.toList = some [.int k a, .int k' b] ∧ K (.int k (if b > a then b else a)) h := by
  apply propext
  unfold LO
  simp only [lightOp]
  constructor
  · rintro ⟨r, hr, hk⟩
    split at hr
    · rename_i k a k' b h1; cases hr; exact ⟨k, k', a, b, h1, hk⟩
    · cases hr
  · rintro ⟨k, k', a, b, h1, hk⟩
    exact ⟨.val _, by simp only [h1], hk⟩
theorem OW_mark (hs : isSlice C.P t = true) : OW C lo e h (.convert t t x) K = bindP (ev e x) fun x' => bind2 (markV C.P lo t x' h) fun v h1 => K v h1 := by
  rw [OW_mark' hs]
  exact propext ⟨fun ⟨x', v, h1, q0, q1, q2⟩ => ⟨x', q0, v, h1, q1, q2⟩, fun ⟨x', q0, v, h1, q1, q2⟩ => ⟨x', v, h1, q0, q1, q2⟩⟩
theorem OW_store : OW C lo e h (.store t x y) K = bindP (ev e x) fun a => bindP (ev e y) fun v => bindP (storeV C.P lo t a v h) fun h1 => K undef h1 := by
  rw [OW_store']
  exact propext ⟨fun ⟨a, v, h1, q0, q1, q2, q3⟩ => ⟨a, q0, v, q1, h1, q2, q3⟩, fun ⟨a, q0, v, q1, h1, q2, q3⟩ => ⟨a, v, h1, q0, q1, q2, q3⟩⟩
theorem FOW_store : FOW C lo old st e h (.store t x y) K = bindP (ev e x) fun a => bindP (ev e y) fun v => bindP (storeV C.P (max lo old) t a v h) fun h1 => K undef h1 := by
  rw [FOW_store']
  exact propext ⟨fun ⟨a, v, h1, q0, q1, q2, q3⟩ => ⟨a, q0, v, q1, h1, q2, q3⟩, fun ⟨a, q0, v, q1, h1, q2, q3⟩ => ⟨a, v, h1, q0, q1, q2, q3⟩⟩
theorem LO_pick : LO P rd e h (.pick x y z) K = bindP (ev e x) fun c => boolP c fun t => bindP (ev e y) fun a => bindP (ev e z) fun b => K (if t then a else b) h := by
  rw [LO_pick']
  exact propext ⟨fun ⟨t, a, b, q0, q1, q2, q3⟩ => ⟨_, q0, t, rfl, a, q1, b, q2, q3⟩, fun ⟨_, q0, t, e0, a, q1, b, q2, q3⟩ => ⟨t, a, b, e0 ▸ q0, q1, q2, q3⟩⟩
theorem LO_build {ps : Array (Nat × Operand)} : LO P rd e h (.build t ps) K = bindP (evParts e ps.toList) fun l => bindP (buildV P t l) fun v => K v h := by
  rw [LO_build']
  exact propext ⟨fun ⟨l, v, q0, q1, q2⟩ => ⟨l, q0, v, q1, q2⟩, fun ⟨l, q0, v, q1, q2⟩ => ⟨l, v, q0, q1, q2⟩⟩
theorem LO_buildSlice {n : Nat} {ps : Array (Nat × Operand)} : LO P rd e h (.buildSlice t n ps) K = bindP (evParts e ps.toList) fun l => bindP (buildSliceV P t n l) fun r => KL h K r := by
  rw [LO_buildSlice']
  exact propext ⟨fun ⟨l, v, q0, q1, q2⟩ => ⟨l, q0, v, q1, q2⟩, fun ⟨l, q0, v, q1, q2⟩ => ⟨l, v, q0, q1, q2⟩⟩
theorem LO_load : LO P rd e h (.load t x) K = bindP (ev e x) fun a => bindP (loadV P t a rd) fun v => K v h := by
  rw [LO_load']
  exact propext ⟨fun ⟨a, v, q0, q1, q2⟩ => ⟨a, q0, v, q1, q2⟩, fun ⟨a, q0, v, q1, q2⟩ => ⟨a, v, q0, q1, q2⟩⟩
theorem LO_nilCheck : LO P rd e h (.nilCheck x) K = bindP (ev e x) fun a => bindP (ncV a) fun v => K v h := by
  rw [LO_nilCheck']
  exact propext ⟨fun ⟨a, v, q0, q1, q2⟩ => ⟨a, q0, v, q1, q2⟩, fun ⟨a, q0, v, q1, q2⟩ => ⟨a, v, q0, q1, q2⟩⟩
theorem LO_binOp {op : BinOp} : LO P rd e h (.binOp op t x y u) K = bindP (ev e x) fun a => bindP (ev e y) fun b => bindP (binV P op t a b) fun v => K v h := by
  rw [LO_binOp']
  exact propext ⟨fun ⟨a, b, v, q0, q1, q2, q3⟩ => ⟨a, q0, b, q1, v, q2, q3⟩, fun ⟨a, q0, b, q1, v, q2, q3⟩ => ⟨a, b, v, q0, q1, q2, q3⟩⟩
theorem LO_unOp {op : UnOp} : LO P rd e h (.unOp op t x) K = bindP (ev e x) fun a => bindP (unV op a) fun v => K v h := by
  rw [LO_unOp']
  exact propext ⟨fun ⟨a, v, q0, q1, q2⟩ => ⟨a, q0, v, q1, q2⟩, fun ⟨a, q0, v, q1, q2⟩ => ⟨a, v, q0, q1, q2⟩⟩
theorem LO_conv : LO P rd e h (.convert t u x) K = bindP (ev e x) fun a => bindP (convV P rd t u a) fun r => KL h K r := by
  rw [LO_conv']
  exact propext ⟨fun ⟨a, r, q0, q1, q2⟩ => ⟨a, q0, r, q1, q2⟩, fun ⟨a, q0, r, q1, q2⟩ => ⟨a, r, q0, q1, q2⟩⟩
theorem LO_makeSlice : LO P rd e h (.makeSlice t x y) K = bindP (ev e x) fun a => bindP (ev e y) fun b => bindP (makeSliceV P t a b) fun r => KL h K r := by
  rw [LO_makeSlice']
  exact propext ⟨fun ⟨a, b, r, q0, q1, q2, q3⟩ => ⟨a, q0, b, q1, r, q2, q3⟩, fun ⟨a, q0, b, q1, r, q2, q3⟩ => ⟨a, b, r, q0, q1, q2, q3⟩⟩
theorem LO_slice {l m k : Option Operand} : LO P rd e h (.slice t x l m k) K = bindP (ev e x) fun a => bindP (evo e l) fun l' => bindP (evo e m) fun m' => bindP (evo e k) fun k' => bindP (sliceV P rd t a l' m' k') fun v => K v h := by
  rw [LO_slice']
  exact propext ⟨fun ⟨a, l', m', k', v, q0, q1, q2, q3, q4, q5⟩ => ⟨a, q0, l', q1, m', q2, k', q3, v, q4, q5⟩, fun ⟨a, q0, l', q1, m', q2, k', q3, v, q4, q5⟩ => ⟨a, l', m', k', v, q0, q1, q2, q3, q4, q5⟩⟩
theorem LO_fieldAddr : LO P rd e h (.fieldAddr t x f) K = bindP (ev e x) fun a => bindP (fieldAddrV P t a f) fun v => K v h := by
  rw [LO_fieldAddr']
  exact propext ⟨fun ⟨a, v, q0, q1, q2⟩ => ⟨a, q0, v, q1, q2⟩, fun ⟨a, q0, v, q1, q2⟩ => ⟨a, v, q0, q1, q2⟩⟩
theorem LO_field : LO P rd e h (.field t x f) K = bindP (ev e x) fun a => bindP (fieldV P t a f) fun v => K v h := by
  rw [LO_field']
  exact propext ⟨fun ⟨a, v, q0, q1, q2⟩ => ⟨a, q0, v, q1, q2⟩, fun ⟨a, q0, v, q1, q2⟩ => ⟨a, v, q0, q1, q2⟩⟩
theorem LO_indexAddr : LO P rd e h (.indexAddr t x y) K = bindP (ev e x) fun a => bindP (ev e y) fun b => bindP (addrV P t a b) fun v => K v h := by
  rw [LO_indexAddr']
  exact propext ⟨fun ⟨a, b, v, q0, q1, q2, q3⟩ => ⟨a, q0, b, q1, v, q2, q3⟩, fun ⟨a, q0, b, q1, v, q2, q3⟩ => ⟨a, b, v, q0, q1, q2, q3⟩⟩
theorem LO_index : LO P rd e h (.index t x y) K = bindP (ev e x) fun a => bindP (ev e y) fun b => bindP (indexV P t a b) fun v => K v h := by
  rw [LO_index']
  exact propext ⟨fun ⟨a, b, v, q0, q1, q2, q3⟩ => ⟨a, q0, b, q1, v, q2, q3⟩, fun ⟨a, q0, b, q1, v, q2, q3⟩ => ⟨a, b, v, q0, q1, q2, q3⟩⟩
theorem LO_extract : LO P rd e h (.extract x f) K = bindP (ev e x) fun c => tupP c fun vs => bindP vs[f]? fun v => K v h := by
  rw [LO_extract']
  exact propext ⟨fun ⟨vs, v, q0, q1, q2⟩ => ⟨_, q0, vs, rfl, v, q1, q2⟩, fun ⟨_, q0, vs, e0, v, q1, q2⟩ => ⟨vs, v, e0 ▸ q0, q1, q2⟩⟩
def one (l : List V) (K : V → Prop) : Prop := match l with
  | [a] => K a
  | _ => False
def two (l : List V) (K : V → V → Prop) : Prop := match l with
  | [a, b] => K a b
  | _ => False
theorem one_mk {a : V} {K : V → Prop} : one [a] K = K a := rfl
theorem two_mk {a b : V} {K : V → V → Prop} : two [a, b] K = K a b := rfl
theorem one_iff {o : Option (List V)} {K : V → Prop} : (∃ a, o = some [a] ∧ K a) ↔ ∃ l, o = some l ∧ one l K := by
  constructor
  · rintro ⟨a, h1, h2⟩; exact ⟨_, h1, h2⟩
  · rintro ⟨l, h1, h2⟩
    unfold one at h2
    split at h2
    · exact ⟨_, h1, h2⟩
    · exact h2.elim
theorem two_iff {o : Option (List V)} {K : V → V → Prop} : (∃ a b, o = some [a, b] ∧ K a b) ↔ ∃ l, o = some l ∧ two l K := by
  constructor
  · rintro ⟨a, b, h1, h2⟩; exact ⟨_, h1, h2⟩
  · rintro ⟨l, h1, h2⟩
    unfold two at h2
    split at h2
    · exact ⟨_, _, h1, h2⟩
    · exact h2.elim
theorem OW_append {as : Array Operand} {ts : Array TypeId} : OW C lo e h (.call { callee := .builtin .append, args := as, argTypes := ts }) K = bindP (evs e as.toList) fun l => two l fun s x => bind2 (appendV C.P lo ts.toList s x h) fun v h1 => K v h1 := by
  rw [OW_append']
  refine Eq.trans ?_ (propext two_iff)
  exact propext ⟨fun ⟨s, x, v, h1, q0, q1, q2⟩ => ⟨s, x, q0, v, h1, q1, q2⟩, fun ⟨s, x, q0, v, h1, q1, q2⟩ => ⟨s, x, v, h1, q0, q1, q2⟩⟩
theorem OW_copy {as : Array Operand} {ts : Array TypeId} : OW C lo e h (.call { callee := .builtin .copy, args := as, argTypes := ts }) K = bindP (evs e as.toList) fun l => two l fun s x => bind2 (copyV C.P lo ts.toList s x h) fun v h1 => K v h1 := by
  rw [OW_copy']
  refine Eq.trans ?_ (propext two_iff)
  exact propext ⟨fun ⟨s, x, v, h1, q0, q1, q2⟩ => ⟨s, x, q0, v, h1, q1, q2⟩, fun ⟨s, x, q0, v, h1, q1, q2⟩ => ⟨s, x, v, h1, q0, q1, q2⟩⟩
theorem FOW_append {as : Array Operand} {ts : Array TypeId} : FOW C lo old st e h (.call { callee := .builtin .append, args := as, argTypes := ts }) K =
    (atEnd e h (.call { callee := .builtin .append, args := as, argTypes := ts }) = true ∧ ∃ l, evs e as.toList = some l ∧ two l fun s x => ∃ v h1, appendV C.P lo ts.toList s x h = some (v, h1) ∧ K v h1) := by
  rw [FOW_append', ← two_iff]
  exact propext ⟨fun ⟨h0, s, x, v, h1, q0, q1, q2⟩ => ⟨h0, s, x, q0, v, h1, q1, q2⟩, fun ⟨h0, s, x, q0, v, h1, q1, q2⟩ => ⟨h0, s, x, v, h1, q0, q1, q2⟩⟩
theorem LO_len {as : Array Operand} {ts : Array TypeId} : LO P rd e h (.call { callee := .builtin .len, args := as, argTypes := ts }) K = bindP (evs e as.toList) fun l => one l fun a => bindP (lenV P ts.toList a) fun v => K v h := by
  rw [LO_len']
  refine Eq.trans ?_ (propext one_iff)
  exact propext ⟨fun ⟨a, v, q0, q1, q2⟩ => ⟨a, q0, v, q1, q2⟩, fun ⟨a, q0, v, q1, q2⟩ => ⟨a, v, q0, q1, q2⟩⟩
theorem LO_min {as : Array Operand} {ts : Array TypeId} : LO P rd e h (.call { callee := .builtin .min, args := as, argTypes := ts }) K = ∃ l, evs e as.toList = some l ∧ two l fun x y => ∃ k a, x = .int k a ∧ ∃ k' b, y = .int k' b ∧ K (.int k (if b < a then b else a)) h := by
  rw [LO_min', ← two_iff]
  apply propext
  constructor
  · rintro ⟨k, k', a, b, q0, q1⟩; exact ⟨_, _, q0, k, a, rfl, k', b, rfl, q1⟩
  · rintro ⟨_, _, q0, k, a, rfl, k', b, rfl, q1⟩; exact ⟨k, k', a, b, q0, q1⟩
theorem LO_max {as : Array Operand} {ts : Array TypeId} : LO P rd e h (.call { callee := .builtin .max, args := as, argTypes := ts }) K = ∃ l, evs e as.toList = some l ∧ two l fun x y => ∃ k a, x = .int k a ∧ ∃ k' b, y = .int k' b ∧ K (.int k (if b > a then b else a)) h := by
  rw [LO_max', ← two_iff]
  apply propext
  constructor
  · rintro ⟨k, k', a, b, q0, q1⟩; exact ⟨_, _, q0, k, a, rfl, k', b, rfl, q1⟩
  · rintro ⟨_, _, q0, k, a, rfl, k', b, rfl, q1⟩; exact ⟨k, k', a, b, q0, q1⟩
end
theorem ev_tmp (t : Nat) : ev e (.tmp t) = some (e.at t) := rfl
theorem ev_func (f : FuncId) : ev e (.func f) = some (.fn (.func f) [] []) := rfl
theorem ev_const (v : Value) : ev e (.const v) = ofValue v := rfl
theorem ofValue_bool (b : Bool) : ofValue (.bool b) = some (.bool b) := rfl
theorem ofValue_int (k : IntKind) (n : Int) : ofValue (.int k n) = some (.int k n) := rfl
theorem ofValue_string (s : ByteArray) : ofValue (.string s) = some (.str s.data.toList) := rfl
theorem ofValue_nilp : ofValue (.pointer none) = some .nilp := rfl
theorem ofValue_nils : ofValue (.slice none 0 0) = some .nils := rfl
theorem evs_nil : evs e [] = some [] := rfl
theorem evs_cons (x : Operand) (r : List Operand) {v : V} {vs : List V} (h1 : ev e x = some v) (h2 : evs e r = some vs) : evs e (x :: r) = some (v :: vs) := by
  unfold evs at h2 ⊢
  unfold omap
  rw [h1, h2]
theorem evs1 {x : Operand} : evs e [x] = (ev e x).map fun v => [v] := by
  unfold evs omap omap
  cases ev e x <;> rfl
theorem evs2 {x y : Operand} : evs e [x, y] = (ev e x).bind fun v => (ev e y).map fun w => [v, w] := by
  unfold evs omap omap omap
  cases ev e x <;> cases ev e y <;> rfl
theorem evs3 {x y z : Operand} : evs e [x, y, z] = (ev e x).bind fun v => (ev e y).bind fun w => (ev e z).map fun u => [v, w, u] := by
  unfold evs omap omap omap omap
  cases ev e x <;> cases ev e y <;> cases ev e z <;> rfl
theorem evo_none : evo e none = some none := rfl
theorem evo_some {x : Operand} : evo e (some x) = (ev e x).map some := by unfold evo; simp only; cases ev e x <;> rfl
theorem evParts_nil : evParts e [] = some [] := rfl
theorem evParts_cons {i : Nat} {x : Operand} {r : List (Nat × Operand)} : evParts e ((i, x) :: r) = (ev e x).bind fun v => (evParts e r).map fun vs => (i, v) :: vs := by
  unfold evParts
  rw [omap]
  unfold evPart
  cases hx : ev e x with
  | none => simp
  | some v =>
    simp only [Option.bind_some]
    split <;> simp_all
/-! ### code -/
def kSeq (K : Env → H → Prop) (Q : RQ) : RQ := fun r e h => match r with
  | .nx => K e h
  | r => Q r e h
def kBlk (id : Nat) (Q : RQ) : RQ := fun r e h => match r with
  | .ex id' => if id' = id then Q .nx e h else Q (.ex id') e h
  | r => Q r e h
/-- what a body is to come to -/
def kFn (P : Program) (fn : Func) (K : V → H → Prop) : RQ := fun r e h => match r with
  | .ex _ => False
  | _ => ∃ v, resultsV P fn e h = some v ∧ K v h
section
variable {K : Env → H → Prop} {Q : RQ} {a b : S}
theorem kSeq_nx : kSeq K Q .nx e h = K e h := rfl
theorem kSeq_ex (id : Nat) : kSeq K Q (.ex id) e h = Q (.ex id) e h := rfl
theorem kSeq_rt : kSeq K Q .rt e h = Q .rt e h := rfl
theorem kBlk_nx (id : Nat) : kBlk id Q .nx e h = Q .nx e h := rfl
theorem kBlk_rt (id : Nat) : kBlk id Q .rt e h = Q .rt e h := rfl
theorem kBlk_ex (id id' : Nat) : kBlk id Q (.ex id') e h = if id' = id then Q .nx e h else Q (.ex id') e h := rfl
theorem kFn_nx {fn : Func} {K : V → H → Prop} : kFn P fn K .nx e h = bindP (resultsV P fn e h) fun v => K v h := rfl
theorem kFn_rt {fn : Func} {K : V → H → Prop} : kFn P fn K .rt e h = bindP (resultsV P fn e h) fun v => K v h := rfl
theorem SW_skip : SW C lo .skip Q e h = Q .nx e h := rfl
theorem SW_ops {l : List SI} : SW C lo (.ops l) Q e h = SL C lo l (fun e h => Q .nx e h) e h := rfl
theorem SW_front {l r : List SI} : SW C lo (.front st l r) Q e h = SF C lo h.next st l (SL C lo r fun e h => Q .nx e h) e h := rfl
theorem SW_seq : SW C lo (.seq a b) Q e h = SW C lo a (kSeq (SW C lo b Q) Q) e h := rfl
theorem SW_cond {x : Operand} : SW C lo (.cond x a b) Q e h = bindP (ev e x) fun c => boolP c fun t => (t = true → SW C lo a Q e h) ∧ (t = false → SW C lo b Q e h) :=
  propext ⟨fun ⟨t, q0, q1, q2⟩ => ⟨_, q0, t, rfl, q1, q2⟩, fun ⟨_, q0, t, e0, q1, q2⟩ => ⟨t, e0 ▸ q0, q1, q2⟩⟩
theorem SW_block {id : Nat} : SW C lo (.block id b) Q e h = SW C lo b (kBlk id Q) e h := rfl
theorem SW_exit {id : Nat} : SW C lo (.exit id) Q e h = Q (.ex id) e h := rfl
theorem SW_ret : SW C lo .ret Q e h = Q .rt e h := rfl
theorem SW_rounds {b : S} (I : Nat → Env → H → Prop) (hI : ∀ m e h, I m e h → SW C lo b (kSeq (fun e' h' => ∃ m', m' < m ∧ I m' e' h') Q) e h) (m : Nat) (hi : I m e h) : SW C lo (.loop b) Q e h :=
  SW_loop I hI m e h hi
end
theorem CW_run (hS : ShortLow C) {f : FuncId} {fn : Func} {s : S} {as : List V} {K : V → H → Prop} (hs : C.S f = none) (hf : C.P.funcs[f]? = some fn) (hb : shortFn fn = some s) (hn : as.length ≤ fn.ntmps)
    (hw : SW C lo s (kFn C.P fn K) (mkEnv 0 as .nil) h) : CW C f as lo h K := CW_short hS hs hf hb hn hw
theorem binV_add (t : Nat) (k : IntKind) (a b : Int) : binV P .add t (.int k a) (.int k b) = some (.int k (k.wrap (a + b))) := by simp [binV, intOp]
theorem binV_sub (t : Nat) (k : IntKind) (a b : Int) : binV P .sub t (.int k a) (.int k b) = some (.int k (k.wrap (a - b))) := by simp [binV, intOp]
theorem binV_mul (t : Nat) (k : IntKind) (a b : Int) : binV P .mul t (.int k a) (.int k b) = some (.int k (k.wrap (a * b))) := by simp [binV, intOp]
theorem binV_eql (t : Nat) (k : IntKind) (a b : Int) : binV P .eql t (.int k a) (.int k b) = some (.bool (a == b)) := by simp [binV, intOp]
theorem binV_neq (t : Nat) (k : IntKind) (a b : Int) : binV P .neq t (.int k a) (.int k b) = some (.bool (a != b)) := by simp [binV, intOp]
theorem binV_lss (t : Nat) (k : IntKind) (a b : Int) : binV P .lss t (.int k a) (.int k b) = some (.bool (decide (a < b))) := by simp [binV, intOp]
theorem binV_leq (t : Nat) (k : IntKind) (a b : Int) : binV P .leq t (.int k a) (.int k b) = some (.bool (decide (a ≤ b))) := by simp [binV, intOp]
theorem binV_gtr (t : Nat) (k : IntKind) (a b : Int) : binV P .gtr t (.int k a) (.int k b) = some (.bool (decide (a > b))) := by simp [binV, intOp]
theorem binV_geq (t : Nat) (k : IntKind) (a b : Int) : binV P .geq t (.int k a) (.int k b) = some (.bool (decide (a ≥ b))) := by simp [binV, intOp]
theorem unV_not (b : Bool) : unV .not (.bool b) = some (.bool (!b)) := rfl
theorem V.bool_inj (a b : Bool) : (V.bool a = V.bool b) = (a = b) := by simp
end Go.Den
