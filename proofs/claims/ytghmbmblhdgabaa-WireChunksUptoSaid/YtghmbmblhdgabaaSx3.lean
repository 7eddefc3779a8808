/- Code with short environments, out of code in short: which numbers are known where is looked at by a program that the kernel runs. -/
import Derived.Test.YtghmbmblhdgabaaSx2
set_option linter.all false
namespace Go.Den
open Go
variable {C : Cfg} {P : Program} {lo old : Nat} {st : Bool}

/-! ### the statements one behind the other -/
def asc : S → S → S
  | .seq a b, k => asc a (asc b k)
  | .skip, k => k
  | .ops l, k => .seq (.ops l) k
  | .front st l r, k => .seq (.front st l r) k
  | .cond x a b, k => .seq (.cond x (asc a .skip) (asc b .skip)) k
  | .block id b, k => .seq (.block id (asc b .skip)) k
  | .loop b, k => .seq (.loop (asc b .skip)) k
  | .exit id, _ => .exit id
  | .ret, _ => .ret
theorem kSeq_skip {Q : RQ} {r : R} {e : Env} {h : H} (hq : kSeq (SW C lo .skip Q) Q r e h) : Q r e h := by cases r <;> exact hq
theorem asc_SW : ∀ (s : S) {k : S} {Q : RQ} {e : Env} {h : H}, SW C lo (asc s k) Q e h → SW C lo s (kSeq (SW C lo k Q) Q) e h
  | .seq a b, k, Q, e, h, hw => by
    rw [SW_seq]
    refine SW_mono a (fun r e h hr => ?_) (asc_SW a hw)
    cases r with
    | nx => exact asc_SW b hr
    | ex id => exact hr
    | rt => exact hr
  | .skip, k, Q, e, h, hw => hw
  | .ops l, k, Q, e, h, hw => hw
  | .front _ _ _, k, Q, e, h, hw => hw
  | .cond x a b, k, Q, e, h, hw => by
    obtain ⟨t, h1, h2, h3⟩ := hw
    exact ⟨t, h1, fun ht => SW_mono a (fun _ _ _ hq => kSeq_skip hq) (asc_SW a (h2 ht)), fun ht => SW_mono b (fun _ _ _ hq => kSeq_skip hq) (asc_SW b (h3 ht))⟩
  | .block id b, k, Q, e, h, hw => SW_mono b (fun _ _ _ hq => kSeq_skip hq) (asc_SW b hw)
  | .loop b, k, Q, e, h, hw => by
    obtain ⟨n, hw⟩ := hw
    exact ⟨n, loopN_map (b := SW C lo (asc b .skip)) (b' := SW C lo b) (fun Q e h hq => SW_mono b (fun _ _ _ hq => kSeq_skip hq) (asc_SW b hq)) (fun Q Q' e h hq hw => SW_mono b hq hw) hw⟩
  | .exit id, k, Q, e, h, hw => hw
  | .ret, k, Q, e, h, hw => hw

/-! ### operations one behind the other -/
def putX (d : Option Nat) (v : V) (e : E) : E := match d with
  | some t => (t, v) :: e
  | none => e
def gateX (e : E) (g : Option (Option Nat × Bool)) (A B : E → Prop) : Prop := match g with
  | none => A e
  | some (none, _) => B e
  | some (some t, w) => byV (e.get t) (match w with | true => A ((t, .bool true) :: e) | false => B ((t, .bool true) :: e)) (match w with | true => B ((t, .bool false) :: e) | false => A ((t, .bool false) :: e)) (B ((t, undef) :: e))
def LX (C : Cfg) (lo : Nat) : List SI → (E → H → Prop) → E → H → Prop
  | [], K, e, h => K e h
  | o :: r, K, e, h => gateX e o.g (fun e => OX (evX e) C lo h o.op fun v h' => LX C lo r K (putX o.d v e) h') (fun e => LX C lo r K (putX o.d undef e) h)
def FX (C : Cfg) (lo old : Nat) (st : Bool) : List SI → (E → H → Prop) → E → H → Prop
  | [], K, e, h => K e h
  | o :: r, K, e, h => gateX e o.g (fun e => FOX (evX e) C lo old st h o.op fun v h' => FX C lo old st r K (putX o.d v e) h') (fun e => FX C lo old st r K (putX o.d undef e) h)
inductive X : Type where
  | skip
  | exit (id : Nat)
  | ret
  | ops (l : List SI) (out : List Nat) (k : X)
  | front (st : Bool) (l r : List SI) (out : List Nat) (k : X)
  | cond (x : Operand) (a b k : X)
  | block (id : Nat) (b k : X)
  | loop (L : List Nat) (b : X)
  | trim (L : List Nat) (k : X)
abbrev XQ := R → E → H → Prop
def kX (K : E → H → Prop) (Q : XQ) : XQ := fun r e h => match r with
  | .nx => K e h
  | r => Q r e h
def kXB (id : Nat) (K : E → H → Prop) (Q : XQ) : XQ := fun r e h => match r with
  | .nx => K e h
  | .ex i => bif Nat.beq i id then K e h else Q (.ex i) e h
  | .rt => Q .rt e h
def loopX (L : List Nat) (body : XQ → E → H → Prop) (Q : XQ) : Nat → E → H → Prop
  | 0, _, _ => False
  | n + 1, e, h => body (kX (loopX L body Q n) Q) (only L e) h
def XW (C : Cfg) (lo : Nat) : X → XQ → E → H → Prop
  | .skip, Q, e, h => Q .nx e h
  | .exit id, Q, e, h => Q (.ex id) e h
  | .ret, Q, e, h => Q .rt e h
  | .ops l out k, Q, e, h => LX C lo l (fun e' h' => XW C lo k Q (outs out e' e) h') e h
  | .front st l r out k, Q, e, h => FX C lo h.next st l (LX C lo r fun e' h' => XW C lo k Q (outs out e' e) h') e h
  | .cond x a b k, Q, e, h => bd (evX e x) fun v => byV v (XW C lo a (kX (XW C lo k Q) Q) e h) (XW C lo b (kX (XW C lo k Q) Q) e h) False
  | .block id b k, Q, e, h => XW C lo b (kXB id (XW C lo k Q) Q) e h
  | .loop L b, Q, e, h => ∃ n, loopX L (XW C lo b) Q n e h
  | .trim L k, Q, e, h => XW C lo k Q (only L e) h

/-! ### what is known where -/
def memN (t : Nat) : List Nat → Bool
  | [] => false
  | a :: r => bif Nat.beq t a then true else memN t r
theorem memN_iff {t : Nat} {l : List Nat} : memN t l = true ↔ t ∈ l := by
  induction l with
  | nil => simp [memN]
  | cons a r ih =>
    unfold memN
    cases hb : Nat.beq t a with
    | true => simp [Nat.eq_of_beq_eq_true hb]
    | false => simp [ih, beq_of_false hb]
def subN : List Nat → List Nat → Bool
  | [], _ => true
  | a :: r, l => memN a l && subN r l
theorem subN_mem {a l : List Nat} (h : subN a l = true) {t : Nat} (ht : t ∈ a) : t ∈ l := by
  induction a with
  | nil => cases ht
  | cons x r ih =>
    unfold subN at h
    rw [Bool.and_eq_true] at h
    rcases List.mem_cons.1 ht with rfl | h2
    · exact memN_iff.1 h.1
    · exact ih h.2 h2
def without (D : List Nat) : List Nat → List Nat
  | [] => []
  | a :: r => bif memN a D then without D r else a :: without D r
theorem mem_without {D A : List Nat} {t : Nat} (ht : t ∈ without D A) : t ∈ A ∧ t ∉ D := by
  induction A with
  | nil => cases ht
  | cons a r ih =>
    unfold without at ht
    cases hb : memN a D with
    | true => rw [hb] at ht; exact ⟨List.mem_cons_of_mem _ (ih ht).1, (ih ht).2⟩
    | false =>
      rw [hb] at ht
      rcases List.mem_cons.1 ht with rfl | h2
      · exact ⟨List.mem_cons_self, fun hd => by rw [memN_iff.2 hd] at hb; cases hb⟩
      · exact ⟨List.mem_cons_of_mem _ (ih h2).1, (ih h2).2⟩
def meetN (A B : List Nat) : List Nat := match A with
  | [] => []
  | a :: r => bif memN a B then a :: meetN r B else meetN r B
theorem mem_meet {A B : List Nat} {t : Nat} (ht : t ∈ meetN A B) : t ∈ A ∧ t ∈ B := by
  induction A with
  | nil => cases ht
  | cons a r ih =>
    unfold meetN at ht
    cases hb : memN a B with
    | true =>
      rw [hb] at ht
      rcases List.mem_cons.1 ht with rfl | h2
      · exact ⟨List.mem_cons_self, memN_iff.1 hb⟩
      · exact ⟨List.mem_cons_of_mem _ (ih h2).1, (ih h2).2⟩
    | false => rw [hb] at ht; exact ⟨List.mem_cons_of_mem _ (ih ht).1, (ih ht).2⟩
def opIn (A : List Nat) : Operand → Bool
  | .tmp t => memN t A
  | _ => true
def opsIn (A : List Nat) : List Operand → Bool
  | [] => true
  | x :: r => opIn A x && opsIn A r
def optIn (A : List Nat) : Option Operand → Bool
  | none => true
  | some x => opIn A x
def partsIn (A : List Nat) : List (Nat × Operand) → Bool
  | [] => true
  | x :: r => opIn A x.2 && partsIn A r
def knows (A : List Nat) : Op → Bool
  | .move x => opIn A x
  | .assign x => opIn A x
  | .pick c x y => opIn A c && (opIn A x && opIn A y)
  | .alloc _ => true
  | .box _ x => opIn A x
  | .build _ ps => partsIn A ps.toList
  | .buildSlice _ _ ps => partsIn A ps.toList
  | .load _ x => opIn A x
  | .nilCheck x => opIn A x
  | .binOp _ _ x y _ => opIn A x && opIn A y
  | .unOp _ _ x => opIn A x
  | .convert _ _ x => opIn A x
  | .makeFunc _ a c => opsIn A a.toList && opsIn A c.toList
  | .makeSlice _ l c => opIn A l && opIn A c
  | .slice _ x l m k => opIn A x && (optIn A l && (optIn A m && optIn A k))
  | .fieldAddr _ x _ => opIn A x
  | .field _ x _ => opIn A x
  | .indexAddr _ x y => opIn A x && opIn A y
  | .index _ x y => opIn A x && opIn A y
  | .extract x _ => opIn A x
  | .store _ x y => opIn A x && opIn A y
  | .call { callee := .builtin _, args, .. } => opsIn A args.toList
  | .call { callee := .value f, args, .. } => opsIn A args.toList && opIn A f
  | _ => false
def gateIn (A : List Nat) : Option (Option Nat × Bool) → Bool
  | some (some t, _) => memN t A
  | _ => true
def okL : List Nat → List SI → Option (List Nat)
  | A, [] => some A
  | A, o :: r => bif knows A o.op && gateIn A o.g then okL (match o.d with | some t => t :: A | none => A) r else none
def dsts : List SI → List Nat
  | [] => []
  | o :: r => match o.d with
    | some t => t :: dsts r
    | none => dsts r
inductive Ann : Type where
  | stop
  | ops (out : List Nat) (k : Ann)
  | cond (a b k : Ann)
  | block (L : List Nat) (b k : Ann)
  | loop (L : List Nat) (b : Ann)
  | trim (L : List Nat) (k : Ann)
abbrev Res := Option (X × Option (List Nat))
def exL (Ex : Nat → List Nat) (id : Nat) (L : List Nat) : Nat → List Nat := fun i => bif Nat.beq i id then L else Ex i
def meetO : Option (List Nat) → Option (List Nat) → Option (List Nat)
  | none, b => b
  | a, none => a
  | some a, some b => some (meetN a b)
def endsIn (L : List Nat) : Option (List Nat) → Bool
  | some A => subN L A
  | none => true
theorem meetO_some {ra rb : Option (List Nat)} {A A2 : List Nat} (hm : meetO ra rb = some A) (hor : ra = some A2 ∨ rb = some A2) {t : Nat} (ht : t ∈ A) : t ∈ A2 := by
  cases ra with
  | none =>
    have hm : rb = some A := by cases rb <;> exact hm
    rcases hor with hor | hor
    · cases hor
    · rw [hm] at hor; cases hor; exact ht
  | some a => cases rb with
    | none =>
      cases hm
      rcases hor with hor | hor
      · cases hor; exact ht
      · cases hor
    | some b =>
      cases hm
      obtain ⟨m1, m2⟩ := mem_meet ht
      rcases hor with hor | hor
      · cases hor; exact m1
      · cases hor; exact m2
theorem meetO_none {ra rb : Option (List Nat)} (hm : meetO ra rb = none) : ra = none ∧ rb = none := by
  cases ra <;> cases rb <;> first | exact ⟨rfl, rfl⟩ | cases hm
def ann (RS : List Nat) : (Ex : Nat → List Nat) → Ann → S → List Nat → Res
  | Ex, .stop, s, A => match s with
    | .skip => some (.skip, some A)
    | .exit id => bif subN (Ex id) A then some (.exit id, none) else none
    | .ret => bif subN RS A then some (.ret, none) else none
    | _ => none
  | Ex, .trim L n, s, A => bif subN L A then match ann RS Ex n s L with
      | some (x, r) => some (.trim L x, r)
      | none => none
    else none
  | Ex, .ops out n, s, A => match s with
    | .seq (.ops l) k => match okL A l with
      | some A' => bif subN out A' then match ann RS Ex n k (out ++ without (dsts l) A) with
          | some (x, r) => some (.ops l out x, r)
          | none => none
        else none
      | none => none
    | .seq (.front st l l') k => match okL A l with
      | some A1 => match okL A1 l' with
        | some A' => bif subN out A' then match ann RS Ex n k (out ++ without (dsts l ++ dsts l') A) with
            | some (x, r) => some (.front st l l' out x, r)
            | none => none
          else none
        | none => none
      | none => none
    | _ => none
  | Ex, .cond na nb n, s, A => match s with
    | .seq (.cond x a b) k => bif opIn A x then match ann RS Ex na a A, ann RS Ex nb b A with
        | some (xa, ra), some (xb, rb) => match meetO ra rb with
          | some A' => match ann RS Ex n k A' with
            | some (xk, r) => some (.cond x xa xb xk, r)
            | none => none
          | none => some (.cond x xa xb .skip, none)
        | _, _ => none
      else none
    | _ => none
  | Ex, .block L nb n, s, A => match s with
    | .seq (.block id b) k => match ann RS (exL Ex id L) nb b A with
      | some (xb, rb) => bif endsIn L rb then match ann RS Ex n k L with
          | some (xk, r) => some (.block id xb xk, r)
          | none => none
        else none
      | none => none
    | _ => none
  | Ex, .loop L nb, s, A => match s with
    | .seq (.loop b) _ => bif subN L A then match ann RS Ex nb b L with
        | some (xb, rb) => bif endsIn L rb then some (.loop L xb, none) else none
        | none => none
      else none
    | _ => none

/-! ### what is known is the same -/
def Ag (A : List Nat) (e : Env) (x : E) : Prop := ∀ t, t ∈ A → e.at t = x.get t
theorem Ag.sub {A B : List Nat} {e : Env} {x : E} (a : Ag A e x) (h : subN B A = true) : Ag B e x := fun t ht => a t (subN_mem h ht)
theorem Ag.only {A L : List Nat} {e : Env} {x : E} (a : Ag A e x) (h : subN L A = true) : Ag L e (only L x) := fun t ht => by rw [get_only ht]; exact a t (subN_mem h ht)
theorem Ag.set {A : List Nat} {e : Env} {x : E} (a : Ag A e x) (t : Nat) (v : V) : Ag (t :: A) (T.set e t v) ((t, v) :: x) := fun s hs => by
  rw [Env.at_set, E.get_cons]
  split
  · rfl
  · rename_i hne
    rcases List.mem_cons.1 hs with h1 | h1
    · exact (hne h1).elim
    · exact a s h1
theorem Ag.known {A : List Nat} {e : Env} {x : E} (a : Ag A e x) {t : Nat} {v : V} (hv : e.at t = v) : Ag A e ((t, v) :: x) := fun s hs => by
  rw [E.get_cons]
  split
  · rename_i h; rw [h]; exact hv
  · exact a s hs
theorem opIn_ev {A : List Nat} {e : Env} {x : E} (a : Ag A e x) {o : Operand} (ho : opIn A o = true) : evX x o = ev e o := by
  cases o with
  | tmp t => show some _ = some _; rw [a t (memN_iff.1 ho)]
  | _ => rfl
theorem opsIn_ev {A : List Nat} {e : Env} {x : E} (a : Ag A e x) : ∀ {l : List Operand}, opsIn A l = true → evsX (evX x) l = evsX (ev e) l
  | [], _ => rfl
  | o :: r, h => by
    unfold opsIn at h
    rw [Bool.and_eq_true] at h
    unfold evsX
    rw [opIn_ev a h.1, opsIn_ev a h.2]
theorem optIn_ev {A : List Nat} {e : Env} {x : E} (a : Ag A e x) {o : Option Operand} (ho : optIn A o = true) : evoX (evX x) o = evoX (ev e) o := by
  cases o with
  | none => rfl
  | some o => unfold evoX; simp only; rw [opIn_ev a ho]
theorem partsIn_ev {A : List Nat} {e : Env} {x : E} (a : Ag A e x) : ∀ {l : List (Nat × Operand)}, partsIn A l = true → evPartsX (evX x) l = evPartsX (ev e) l
  | [], _ => rfl
  | (i, o) :: r, h => by
    unfold partsIn at h
    rw [Bool.and_eq_true] at h
    unfold evPartsX
    rw [opIn_ev a h.1, partsIn_ev a h.2]
theorem and_both {a b : Bool} (h : (a && b) = true) : a = true ∧ b = true := by simpa using h
theorem LO'_ev {A : List Nat} {e : Env} {x : E} (a : Ag A e x) {o : Op} (hk : knows A o = true) {rd : Rd} {h : H} {K : V → H → Prop} (hw : LO' (evX x) P rd h o K) : LO' (ev e) P rd h o K := by
  cases o <;> try exact hw.elim
  case call c =>
    obtain ⟨callee, args, ts⟩ := c
    cases callee <;> try exact hw.elim
    rename_i b
    have hk : opsIn A args.toList = true := hk
    have he := opsIn_ev a hk
    cases b <;> first | exact hw.elim | (unfold LO' at hw ⊢; simp only at hw ⊢; rw [he] at hw; exact hw)
  all_goals (unfold knows at hk; unfold LO' at hw ⊢; simp only at hk hw ⊢)
  case move => rwa [opIn_ev a hk] at hw
  case assign => rwa [opIn_ev a hk] at hw
  case pick => obtain ⟨h1, h2⟩ := and_both hk; obtain ⟨h2, h3⟩ := and_both h2; rwa [opIn_ev a h1, opIn_ev a h2, opIn_ev a h3] at hw
  case alloc => exact hw
  case box => rwa [opIn_ev a hk] at hw
  case build => rwa [partsIn_ev a hk] at hw
  case buildSlice => rwa [partsIn_ev a hk] at hw
  case load => rwa [opIn_ev a hk] at hw
  case nilCheck => rwa [opIn_ev a hk] at hw
  case binOp => obtain ⟨h1, h2⟩ := and_both hk; rwa [opIn_ev a h1, opIn_ev a h2] at hw
  case unOp => rwa [opIn_ev a hk] at hw
  case convert => rwa [opIn_ev a hk] at hw
  case makeFunc => obtain ⟨h1, h2⟩ := and_both hk; rwa [opsIn_ev a h1, opsIn_ev a h2] at hw
  case makeSlice => obtain ⟨h1, h2⟩ := and_both hk; rwa [opIn_ev a h1, opIn_ev a h2] at hw
  case slice => obtain ⟨h1, h2⟩ := and_both hk; obtain ⟨h2, h3⟩ := and_both h2; obtain ⟨h3, h4⟩ := and_both h3; rwa [opIn_ev a h1, optIn_ev a h2, optIn_ev a h3, optIn_ev a h4] at hw
  case fieldAddr => rwa [opIn_ev a hk] at hw
  case field => rwa [opIn_ev a hk] at hw
  case indexAddr => obtain ⟨h1, h2⟩ := and_both hk; rwa [opIn_ev a h1, opIn_ev a h2] at hw
  case index => obtain ⟨h1, h2⟩ := and_both hk; rwa [opIn_ev a h1, opIn_ev a h2] at hw
  case extract => rwa [opIn_ev a hk] at hw
theorem OX_ev {A : List Nat} {e : Env} {x : E} (a : Ag A e x) {o : Op} (hk : knows A o = true) {h : H} {K : V → H → Prop} (hw : OX (evX x) C lo h o K) : OX (ev e) C lo h o K := by
  cases o <;> try exact hw.elim
  case store t y z =>
    obtain ⟨h1, h2⟩ := and_both hk
    unfold OX at hw ⊢
    simp only at hw ⊢
    rwa [opIn_ev a h1, opIn_ev a h2] at hw
  case convert s d y =>
    have he := opIn_ev a (o := y) hk
    unfold OX at hw ⊢
    simp only at hw ⊢
    cases hb : Nat.beq s d with
    | true => rw [hb] at hw; simp only [cond_true] at hw ⊢; rwa [he] at hw
    | false => rw [hb] at hw; exact LO'_ev a hk hw
  case call c =>
    obtain ⟨callee, args, ts⟩ := c
    cases callee <;> try exact hw.elim
    case value f =>
      obtain ⟨h1, h2⟩ := and_both hk
      unfold OX at hw ⊢
      simp only at hw ⊢
      rwa [opsIn_ev a h1, opIn_ev a h2] at hw
    case builtin b =>
      have hk' : opsIn A args.toList = true := hk
      have he := opsIn_ev a hk'
      cases b
      case append => unfold OX at hw ⊢; simp only at hw ⊢; rwa [he] at hw
      case copy => unfold OX at hw ⊢; simp only at hw ⊢; rwa [he] at hw
      all_goals exact LO'_ev (P := C.P) (rd := h.read) (h := h) (K := K) a hk hw
  all_goals exact LO'_ev (P := C.P) (rd := h.read) (h := h) (K := K) a hk hw
theorem FOX_ev {A : List Nat} {e : Env} {x : E} (a : Ag A e x) {o : Op} (hk : knows A o = true) {h : H} {K : V → H → Prop} (hw : FOX (evX x) C lo old st h o K) : FOX (ev e) C lo old st h o K := by
  cases o <;> try exact hw.elim
  case store t y z =>
    obtain ⟨h1, h2⟩ := and_both hk
    unfold FOX at hw ⊢
    simp only at hw ⊢
    rwa [opIn_ev a h1, opIn_ev a h2] at hw
  case convert s d y =>
    have he := opIn_ev a (o := y) hk
    unfold FOX at hw ⊢
    simp only at hw ⊢
    cases hb : Nat.beq s d with
    | true => rw [hb] at hw; simp only [cond_true] at hw ⊢; rwa [he] at hw
    | false => rw [hb] at hw; exact LO'_ev a hk hw
  case call c =>
    obtain ⟨callee, args, ts⟩ := c
    cases callee <;> try exact hw.elim
    case value f =>
      obtain ⟨h1, h2⟩ := and_both hk
      unfold FOX at hw ⊢
      simp only at hw ⊢
      rwa [opsIn_ev a h1, opIn_ev a h2] at hw
    case builtin b =>
      have hk' : opsIn A args.toList = true := hk
      have he := opsIn_ev a hk'
      cases b
      case append => unfold FOX at hw ⊢; simp only at hw ⊢; rwa [he] at hw
      case copy => exact hw.elim
      case min => exact hw.elim
      case max => exact hw.elim
      all_goals exact LO'_ev (P := C.P) (rd := rdOf st old h) (h := h) (K := K) a hk hw
  all_goals exact LO'_ev (P := C.P) (rd := rdOf st old h) (h := h) (K := K) a hk hw
theorem gateX_lets {A : List Nat} {e : Env} {x : E} (a : Ag A e x) {g : Option (Option Nat × Bool)} (hg : gateIn A g = true) {M N : E → Prop} (hw : gateX x g M N) : ∃ x', Ag A e x' ∧ ((lets e g = true ∧ M x') ∨ (lets e g = false ∧ N x')) := by
  cases g with
  | none => exact ⟨x, a, .inl ⟨rfl, hw⟩⟩
  | some g =>
    obtain ⟨t, w⟩ := g
    cases t with
    | none => exact ⟨x, a, .inr ⟨by cases w <;> rfl, hw⟩⟩
    | some t =>
      have ht := a t (memN_iff.1 hg)
      unfold gateX at hw
      simp only at hw
      rw [← ht] at hw
      rcases byV_iff.1 hw with ⟨h1, h2⟩ | ⟨h1, h2⟩ | ⟨h1, h2⟩
      · refine ⟨_, a.known h1, ?_⟩
        have hl : lets e (some (some t, w)) = (tru (e.at t) == some w) := rfl
        rw [hl, h1]
        cases w
        · exact .inr ⟨rfl, h2⟩
        · exact .inl ⟨rfl, h2⟩
      · refine ⟨_, a.known h1, ?_⟩
        have hl : lets e (some (some t, w)) = (tru (e.at t) == some w) := rfl
        rw [hl, h1]
        cases w
        · exact .inl ⟨rfl, h2⟩
        · exact .inr ⟨rfl, h2⟩
      · refine ⟨_, a.known h1, ?_⟩
        have hl : lets e (some (some t, w)) = (tru (e.at t) == some w) := rfl
        rw [hl, h1]
        exact .inr ⟨by cases w <;> rfl, h2⟩
theorem Ag.put {A : List Nat} {e : Env} {x : E} (a : Ag A e x) (d : Option Nat) (v : V) : Ag (match d with | some t => t :: A | none => A) (putS d v e) (putX d v x) := by
  cases d with
  | none => exact a
  | some t => exact a.set t v
theorem put_old {d : Option Nat} {v : V} {e : Env} {t : Nat} (ht : d ≠ some t) : (putS d v e).at t = e.at t := by
  cases d with
  | none => rfl
  | some s =>
    show Env.at (T.set e s v) t = _
    rw [Env.at_set, if_neg]
    intro h
    exact ht (by rw [h])
theorem dsts_cons {o : SI} {r : List SI} {t : Nat} (ht : t ∉ dsts (o :: r)) : o.d ≠ some t ∧ t ∉ dsts r := by
  unfold dsts at ht
  split at ht
  · rename_i s hs
    rw [hs]
    exact ⟨fun h => ht (by cases h; exact List.mem_cons_self), fun h => ht (List.mem_cons_of_mem _ h)⟩
  · rename_i hs
    rw [hs]
    exact ⟨fun h => (by cases h), ht⟩
theorem LX_SL {K : E → H → Prop} {K' : Env → H → Prop} : ∀ {l : List SI} {A A' : List Nat} {e : Env} {x : E} {h : H}, okL A l = some A' → Ag A e x → LX C lo l K x h →
    (∀ e1 x1 h1, Ag A' e1 x1 → (∀ t, t ∉ dsts l → e1.at t = e.at t) → K x1 h1 → K' e1 h1) → SL C lo l K' e h
  | [], A, A', e, x, h, ho, a, hw, hk => by
    unfold okL at ho
    cases ho
    exact hk e x h a (fun _ _ => rfl) hw
  | o :: r, A, A', e, x, h, ho, a, hw, hk => by
    unfold okL at ho
    cases hb : knows A o.op && gateIn A o.g with
    | false => rw [hb] at ho; cases ho
    | true =>
      rw [hb] at ho
      simp only [cond_true] at ho
      obtain ⟨h1, h2⟩ := and_both hb
      unfold LX at hw
      obtain ⟨x', a', hc⟩ := gateX_lets a h2 hw
      unfold SL
      rcases hc with ⟨hl, hw⟩ | ⟨hl, hw⟩
      · refine ⟨fun _ => ?_, fun h => by rw [hl] at h; cases h⟩
        refine OW_mono (fun v h' hx => ?_) (OX_OW (OX_ev a' h1 hw))
        exact LX_SL ho (a'.put o.d v) hx fun e1 x1 h1 ag1 old1 hk1 => hk e1 x1 h1 ag1 (fun t ht => by
          obtain ⟨n1, n2⟩ := dsts_cons ht
          rw [old1 t n2, put_old n1]) hk1
      · refine ⟨fun h => (by rw [hl] at h; cases h), fun _ => ?_⟩
        exact LX_SL ho (a'.put o.d undef) hw fun e1 x1 h1 ag1 old1 hk1 => hk e1 x1 h1 ag1 (fun t ht => by
          obtain ⟨n1, n2⟩ := dsts_cons ht
          rw [old1 t n2, put_old n1]) hk1
theorem FX_SF {K : E → H → Prop} {K' : Env → H → Prop} : ∀ {l : List SI} {A A' : List Nat} {e : Env} {x : E} {h : H}, okL A l = some A' → Ag A e x → FX C lo old st l K x h →
    (∀ e1 x1 h1, Ag A' e1 x1 → (∀ t, t ∉ dsts l → e1.at t = e.at t) → K x1 h1 → K' e1 h1) → SF C lo old st l K' e h
  | [], A, A', e, x, h, ho, a, hw, hk => by
    unfold okL at ho
    cases ho
    exact hk e x h a (fun _ _ => rfl) hw
  | o :: r, A, A', e, x, h, ho, a, hw, hk => by
    unfold okL at ho
    cases hb : knows A o.op && gateIn A o.g with
    | false => rw [hb] at ho; cases ho
    | true =>
      rw [hb] at ho
      simp only [cond_true] at ho
      obtain ⟨h1, h2⟩ := and_both hb
      unfold FX at hw
      obtain ⟨x', a', hc⟩ := gateX_lets a h2 hw
      unfold SF
      rcases hc with ⟨hl, hw⟩ | ⟨hl, hw⟩
      · refine ⟨fun _ => ?_, fun h => by rw [hl] at h; cases h⟩
        refine FOW_mono (fun v h' hx => ?_) (FOX_FOW (FOX_ev a' h1 hw))
        exact FX_SF ho (a'.put o.d v) hx fun e1 x1 h1 ag1 old1 hk1 => hk e1 x1 h1 ag1 (fun t ht => by
          obtain ⟨n1, n2⟩ := dsts_cons ht
          rw [old1 t n2, put_old n1]) hk1
      · refine ⟨fun h => (by rw [hl] at h; cases h), fun _ => ?_⟩
        exact FX_SF ho (a'.put o.d undef) hw fun e1 x1 h1 ag1 old1 hk1 => hk e1 x1 h1 ag1 (fun t ht => by
          obtain ⟨n1, n2⟩ := dsts_cons ht
          rw [old1 t n2, put_old n1]) hk1
theorem Ag.outs {A A' D out : List Nat} {e e1 : Env} {x x1 : E} (a : Ag A e x) (a1 : Ag A' e1 x1) (hs : subN out A' = true) (old1 : ∀ t, t ∉ D → e1.at t = e.at t) : Ag (out ++ without D A) e1 (outs out x1 x) := fun t ht => by
  rw [get_outs]
  split
  · rename_i h1; exact a1 t (subN_mem hs h1)
  · rename_i h1
    rcases List.mem_append.1 ht with h2 | h2
    · exact (h1 h2).elim
    · obtain ⟨h3, h4⟩ := mem_without h2
      rw [old1 t h4]
      exact a t h3
end Go.Den
