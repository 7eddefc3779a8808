/- A call, out of what its body with short environments comes to. -/
import Derived.Test.YtghmbmblhdgabaaSx3
set_option linter.all false
namespace Go.Den
open Go
variable {C : Cfg} {P : Program} {lo old : Nat} {st : Bool}

theorem ann_SW {RS : List Nat} : ∀ (n : Ann) {Ex : Nat → List Nat} {s : S} {A : List Nat} {x : X} {r : Option (List Nat)}, ann RS Ex n s A = some (x, r) → ∀ {Q' : XQ} {Q : RQ} {e : Env} {fe : E} {h : H}, Ag A e fe → XW C lo x Q' fe h →
    (∀ A' e fe h, r = some A' → Ag A' e fe → Q' .nx fe h → Q .nx e h) → (∀ id e fe h, Ag (Ex id) e fe → Q' (.ex id) fe h → Q (.ex id) e h) → (∀ e fe h, Ag RS e fe → Q' .rt fe h → Q .rt e h) → SW C lo s Q e h
  | .stop, Ex, s, A, x, r, ha, Q', Q, e, fe, h, a, hw, hn, hx, ht => by
    unfold ann at ha
    split at ha
    · cases ha; exact hn _ _ _ _ rfl a hw
    · rename_i id
      cases hb : subN (Ex id) A with
      | true => rw [hb] at ha; cases ha; exact hx _ _ _ _ (a.sub hb) hw
      | false => rw [hb] at ha; cases ha
    · cases hb : subN RS A with
      | true => rw [hb] at ha; cases ha; exact ht _ _ _ (a.sub hb) hw
      | false => rw [hb] at ha; cases ha
    · cases ha
  | .trim L n, Ex, s, A, x, r, ha, Q', Q, e, fe, h, a, hw, hn, hx, ht => by
    unfold ann at ha
    cases hb : subN L A with
    | false => rw [hb] at ha; cases ha
    | true =>
      rw [hb] at ha
      simp only [cond_true] at ha
      split at ha
      · rename_i x1 r1 h1
        cases ha
        exact ann_SW n h1 (a.only hb) hw hn hx ht
      · cases ha
  | .ops out n, Ex, s, A, x, r, ha, Q', Q, e, fe, h, a, hw, hn, hx, ht => by
    unfold ann at ha
    split at ha
    · rename_i l k
      split at ha
      · rename_i A' ho
        cases hb : subN out A' with
        | false => rw [hb] at ha; cases ha
        | true =>
          rw [hb] at ha
          simp only [cond_true] at ha
          split at ha
          · rename_i x1 r1 h1
            cases ha
            rw [SW_seq, SW_ops]
            exact LX_SL ho a hw fun e1 fe1 h2 a1 old1 hk => ann_SW n h1 (a.outs a1 hb old1) hk hn hx ht
          · cases ha
      · cases ha
    · rename_i st l l' k
      split at ha
      · rename_i A1 ho1
        split at ha
        · rename_i A' ho
          cases hb : subN out A' with
          | false => rw [hb] at ha; cases ha
          | true =>
            rw [hb] at ha
            simp only [cond_true] at ha
            split at ha
            · rename_i x1 r1 h1
              cases ha
              rw [SW_seq, SW_front]
              refine FX_SF ho1 a hw fun e1 fe1 h2 a1 old1 hk => ?_
              refine LX_SL ho a1 hk fun e2 fe2 h3 a2 old2 hk2 => ?_
              exact ann_SW n h1 (a.outs a2 hb fun t ht2 => by
                rw [old2 t fun h => ht2 (List.mem_append_right _ h), old1 t fun h => ht2 (List.mem_append_left _ h)]) hk2 hn hx ht
            · cases ha
        · cases ha
      · cases ha
    · cases ha
  | .cond na nb n, Ex, s, A, x, r, ha, Q', Q, e, fe, h, a, hw, hn, hx, ht => by
    unfold ann at ha
    split at ha
    · rename_i y sa sb k
      cases hb : opIn A y with
      | false => rw [hb] at ha; cases ha
      | true =>
        rw [hb] at ha
        simp only [cond_true] at ha
        split at ha
        · rename_i xa ra xb rb ha1 hb1
          have fin : ∀ (xk : X), x = .cond y xa xb xk → (∀ A' e fe h, (ra = some A' ∨ rb = some A') → Ag A' e fe → XW C lo xk Q' fe h → SW C lo k Q e h) → SW C lo (.seq (.cond y sa sb) k) Q e h := by
            rintro xk rfl hfin
            obtain ⟨v, h1, hw⟩ := bd_iff.1 hw
            rw [opIn_ev a hb] at h1
            have hA : ∀ (sx : S) (nx : Ann) (xx : X) (rx : Option (List Nat)), ann RS Ex nx sx A = some (xx, rx) → (rx = ra ∨ rx = rb) → (∀ {Q' : XQ} {Q : RQ} {e : Env} {fe : E} {h : H}, Ag A e fe → XW C lo xx Q' fe h → (∀ A' e fe h, rx = some A' → Ag A' e fe → Q' .nx fe h → Q .nx e h) → (∀ id e fe h, Ag (Ex id) e fe → Q' (.ex id) fe h → Q (.ex id) e h) → (∀ e fe h, Ag RS e fe → Q' .rt fe h → Q .rt e h) → SW C lo sx Q e h) →
                XW C lo xx (kX (XW C lo xk Q') Q') fe h → SW C lo sx (kSeq (SW C lo k Q) Q) e h := by
              intro sx nx xx rx hax hrx ih hwx
              refine ih a hwx (fun A' e fe h hr ag hq => hfin A' e fe h ?_ ag hq) (fun id e fe h ag hq => hx id e fe h ag hq) (fun e fe h ag hq => ht e fe h ag hq)
              rcases hrx with rfl | rfl
              · exact .inl hr
              · exact .inr hr
            rw [SW_seq]
            rcases byV_iff.1 hw with ⟨rfl, hw⟩ | ⟨rfl, hw⟩ | ⟨_, hw⟩
            · exact ⟨true, h1, fun _ => hA sa na xa ra ha1 (.inl rfl) (ann_SW na ha1) hw, fun h => by cases h⟩
            · exact ⟨false, h1, fun h => (by cases h), fun _ => hA sb nb xb rb hb1 (.inr rfl) (ann_SW nb hb1) hw⟩
            · exact hw.elim
          split at ha
          · rename_i A' hm
            split at ha
            · rename_i xk r1 hk1
              cases ha
              refine fin xk rfl fun A2 e fe h hor ag hq => ann_SW n hk1 ?_ hq hn hx ht
              exact fun t ht2 => ag t (meetO_some hm hor ht2)
            · cases ha
          · rename_i hm
            cases ha
            refine fin .skip rfl fun A2 e fe h hor ag hq => ?_
            obtain ⟨m1, m2⟩ := meetO_none hm
            rcases hor with hor | hor
            · rw [m1] at hor; cases hor
            · rw [m2] at hor; cases hor
        · cases ha
    · cases ha
  | .block L nb n, Ex, s, A, x, r, ha, Q', Q, e, fe, h, a, hw, hn, hx, ht => by
    unfold ann at ha
    split at ha
    · rename_i id sb k
      split at ha
      · rename_i xb rb hb1
        cases hb : endsIn L rb with
        | false => rw [hb] at ha; cases ha
        | true =>
          rw [hb] at ha
          simp only [cond_true] at ha
          split at ha
          · rename_i xk r1 hk1
            cases ha
            rw [SW_seq, SW_block]
            have hk : ∀ e fe h, Ag L e fe → XW C lo xk Q' fe h → SW C lo k Q e h := fun e fe h ag hq => ann_SW n hk1 ag hq hn hx ht
            refine ann_SW nb hb1 (Q := kBlk id (kSeq (SW C lo k Q) Q)) a hw ?_ ?_ ?_
            · intro A' e fe h hr ag hq
              subst hr
              exact hk e fe h (ag.sub hb) hq
            · intro i e fe h ag hq
              rw [kBlk_ex]
              unfold exL at ag
              have hq : (bif Nat.beq i id then XW C lo xk Q' fe h else Q' (.ex i) fe h) := hq
              cases hi : Nat.beq i id with
              | true =>
                rw [hi] at ag hq
                rw [if_pos (Nat.eq_of_beq_eq_true hi)]
                exact hk e fe h ag hq
              | false =>
                rw [hi] at ag hq
                rw [if_neg (beq_of_false hi)]
                exact hx i e fe h ag hq
            · intro e fe h ag hq
              exact ht e fe h ag hq
          · cases ha
      · cases ha
    · cases ha
  | .loop L nb, Ex, s, A, x, r, ha, Q', Q, e, fe, h, a, hw, hn, hx, ht => by
    unfold ann at ha
    split at ha
    · rename_i sb k
      cases hb0 : subN L A with
      | false => rw [hb0] at ha; cases ha
      | true =>
        rw [hb0] at ha
        simp only [cond_true] at ha
        split at ha
        · rename_i xb rb hb1
          cases hb : endsIn L rb with
          | false => rw [hb] at ha; cases ha
          | true =>
            rw [hb] at ha
            cases ha
            rw [SW_seq]
            obtain ⟨m, hw⟩ := hw
            refine ⟨m, ?_⟩
            have key : ∀ (m : Nat) (e : Env) (fe : E) (h : H), Ag L e fe → loopX L (XW C lo xb) Q' m fe h → loopN (SW C lo sb) (kSeq (SW C lo k Q) Q) m e h := by
              intro m
              induction m with
              | zero => intro e fe h _ hf; exact hf.elim
              | succ m ih =>
                intro e fe h ag hf
                have ag' : Ag L e (only L fe) := fun t ht => by rw [get_only ht]; exact ag t ht
                refine ann_SW nb hb1 ag' hf ?_ ?_ ?_
                · intro A' e fe h hr ag hq
                  subst hr
                  exact ih e fe h (ag.sub hb) hq
                · intro i e fe h ag hq
                  exact hx i e fe h ag hq
                · intro e fe h ag hq
                  exact ht e fe h ag hq
            exact key m e fe h (a.sub hb0) hw
        · cases ha
    · cases ha

/-! ### a function -/
def resNs : List ResultVar → List Nat
  | [] => []
  | .tmp t :: r => t :: resNs r
  | .cell a _ :: r => a :: resNs r
def resX1 (P : Program) (e : E) (h : H) : ResultVar → Option V
  | .tmp t => some (e.get t)
  | .cell a t => loadV P t (e.get a) h.read
def resXs (P : Program) (e : E) (h : H) : List ResultVar → Option (List V)
  | [] => some []
  | r :: l => match resX1 P e h r with
    | some v => match resXs P e h l with
      | some vs => some (v :: vs)
      | none => none
    | none => none
def tupV : List V → V
  | [v] => v
  | vs => .tup vs
def resX (P : Program) (rs : List ResultVar) (e : E) (h : H) (K : V → H → Prop) : Prop := bd (resXs P e h rs) fun vs => K (tupV vs) h
def args : Nat → List V → E
  | _, [] => []
  | i, v :: r => (i, v) :: args (i + 1) r
def upto : Nat → Nat → List Nat
  | _, 0 => []
  | i, n + 1 => i :: upto (i + 1) n
def annFn (fn : Func) (na : Nat) (n : Ann) : Option X := match shortFn fn with
  | some s => match ann (resNs fn.results.toList) (fun _ => [0, 0, 99999999]) n (asc s .skip) (upto 0 na) with
    | some (x, r) => bif endsIn (resNs fn.results.toList) r then some x else none
    | none => none
  | none => none
def kFnX (P : Program) (rs : List ResultVar) (K : V → H → Prop) : XQ := fun r e h => match r with
  | .ex _ => False
  | .nx => resX P rs e h K
  | .rt => resX P rs e h K
theorem mem_upto {t : Nat} : ∀ {i n : Nat}, t ∈ upto i n ↔ i ≤ t ∧ t < i + n
  | i, 0 => by simp [upto]
  | i, n + 1 => by
    unfold upto
    rw [List.mem_cons, mem_upto]
    omega
theorem get_args {t : Nat} : ∀ {i : Nat} {as : List V}, i ≤ t → t < i + as.length → E.get (args i as) t = as.getD (t - i) undef
  | i, [], h1, h2 => by simp at h2; omega
  | i, v :: r, h1, h2 => by
    unfold args
    rw [E.get_cons]
    split
    · rename_i h; subst h; simp
    · rename_i h
      rw [get_args (i := i + 1) (by omega) (by simp at h2; omega)]
      have : t - i = (t - (i + 1)) + 1 := by omega
      rw [this]
      rfl
theorem resXs_ag {e : Env} {fe : E} {h : H} : ∀ {rs : List ResultVar}, Ag (resNs rs) e fe → ∀ {vs : List V}, resXs P fe h rs = some vs → omap (resV P e h) rs = some vs
  | [], _, vs, hv => by unfold resXs at hv; cases hv; rfl
  | r :: l, a, vs, hv => by
    unfold resXs at hv
    have h1 : resX1 P fe h r = resV P e h r := by
      cases r with
      | tmp t => show some _ = some _; rw [a t (by unfold resNs; exact List.mem_cons_self)]
      | cell b t => show loadV _ _ _ _ = loadV _ _ _ _; rw [a b (by unfold resNs; exact List.mem_cons_self)]
    have h2 : Ag (resNs l) e fe := by
      intro t ht
      apply a t
      cases r <;> exact List.mem_cons_of_mem _ ht
    unfold omap
    rw [← h1]
    split at hv
    · rename_i v hv1
      split at hv
      · rename_i vs1 hv2
        cases hv
        rw [hv1]
        simp only [resXs_ag h2 hv2]
      · cases hv
    · cases hv
theorem CW_X (hS : ShortLow C) {f : FuncId} {fn : Func} {x : X} {na : Nat} {n : Ann} {as : List V} {h : H} {K : V → H → Prop} (hs : C.S f = none) (hf : C.P.funcs[f]? = some fn) (ha : annFn fn na n = some x) (hl : as.length = na) (hn : na ≤ fn.ntmps)
    (hw : XW C lo x (kFnX C.P fn.results.toList K) (args 0 as) h) : CW C f as lo h K := by
  unfold annFn at ha
  split at ha
  · rename_i s hsh
    split at ha
    · rename_i x1 r1 h1
      cases hb : endsIn (resNs fn.results.toList) r1 with
      | false => rw [hb] at ha; cases ha
      | true =>
      rw [hb] at ha
      cases ha
      refine CW_run hS hs hf hsh (by omega) ?_
      have hres : ∀ (e : Env) (fe : E) (h : H), Ag (resNs fn.results.toList) e fe → resX C.P fn.results.toList fe h K → ∃ v, resultsV C.P fn e h = some v ∧ K v h := by
        intro e fe h ag hq
        obtain ⟨vs, h2, h3⟩ := bd_iff.1 hq
        refine ⟨_, ?_, h3⟩
        unfold resultsV
        rw [resXs_ag ag h2]
        unfold tupV
        cases vs with
        | nil => rfl
        | cons v r => cases r <;> rfl
      have hag : Ag (upto 0 na) (mkEnv 0 as .nil) (args 0 as) := by
        intro t ht
        obtain ⟨_, ht2⟩ := mem_upto.1 ht
        rw [mkEnv_at, get_args (by omega) (by omega), if_pos (by omega)]
      have hsw : SW C lo (asc s .skip) (kFn C.P fn K) (mkEnv 0 as .nil) h := by
        refine ann_SW n h1 (Q := kFn C.P fn K) hag hw ?_ ?_ ?_
        · intro A' e fe h hr ag hq
          subst hr
          exact hres e fe h (ag.sub hb) hq
        · intro id e fe h ag hq
          exact hq.elim
        · intro e fe h ag hq
          exact hres e fe h ag hq
      exact SW_mono s (fun _ _ _ hq => kSeq_skip hq) (asc_SW s hsw)
    · cases ha
  · cases ha
end Go.Den
