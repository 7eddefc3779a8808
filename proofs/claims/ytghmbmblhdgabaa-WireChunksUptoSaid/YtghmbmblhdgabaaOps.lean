/- One operation, a row of operations: what the machine tells, the model tells. -/
import Derived.Test.YtghmbmblhdgabaaAppend
import Derived.Orders
set_option linter.all false
namespace Go.Den
open Go
variable {P : Program} {φ φ' : Phi} {w w' : World} {h h' : H}

def NameOk (P : Program) : Prop := ∀ (f : Nat) (fn : Func), P.funcs[f]? = some fn → (fn.name == "runtime.NumGoroutine") = false
def CallPost (lo : Nat) (φ : Phi) (h : H) (w : World) (h' : H) (v : V) : Ending → World → Prop :=
  fun e w' => ∃ v' φ', e = .returned v' ∧ Ext lo φ h w φ' h' w' ∧ Sim φ' h' w' ∧ VR φ' v v'
abbrev CallFn := FuncId → List V → Nat → H → Option (V × H)
def CallSim (P : Program) (call : CallFn) : Prop :=
  ∀ f as lo h v h', call f as lo h = some (v, h') → (∃ fn, P.funcs[f]? = some fn ∧ fn.body.isSome = true) ∧
    (lo ≤ h.next → ∀ φ w as', Sim φ h w → FreeIn φ h.next h'.next → VRs φ as as' → Calls P f as'.toArray w (CallPost lo φ h w h' v))
def CallNext (call : CallFn) : Prop := ∀ f as lo h v h', call f as lo h = some (v, h') → h.next ≤ h'.next

theorem keep_next {r : Option LR} {v : V} (hk : keep h r = some (v, h')) : h.next ≤ h'.next := by
  unfold keep at hk
  split at hk
  · cases hk; exact Nat.le_refl _
  · cases hk; exact Nat.le_succ _
  · cases hk
theorem storeV_next {lo : Nat} {t : TypeId} {x v : V} (hs : storeV P lo t x v h = some h') : h.next ≤ h'.next := by
  unfold storeV at hs
  split at hs
  · split at hs
    · split at hs
      · split at hs
        · cases hs; exact Nat.le_refl _
        · cases hs
      · cases hs
    · cases hs
  · cases hs
theorem appendV_next {lo : Nat} {ts : List TypeId} {s x v : V} (ha : appendV P lo ts s x h = some (v, h')) : h.next ≤ h'.next := by
  unfold appendV at ha
  repeat' (split at ha)
  all_goals first
    | (cases ha; done)
    | (cases ha; first | exact Nat.le_refl _ | exact Nat.le_succ _)
theorem copyV_next {lo : Nat} {ts : List TypeId} {d x v : V} (hc : copyV P lo ts d x h = some (v, h')) : h.next ≤ h'.next := by
  unfold copyV at hc
  repeat' (first | split at hc | simp only at hc)
  all_goals first
    | (cases hc; done)
    | (cases hc; exact Nat.le_refl _)
theorem markV_next {lo : Nat} {t : TypeId} {x v : V} (hm : markV P lo t x h = some (v, h')) : h.next ≤ h'.next := by
  unfold markV at hm
  repeat' (split at hm)
  all_goals first
    | (cases hm; done)
    | (cases hm; exact Nat.le_refl _)
theorem aop_next {call : CallFn} (hc : CallNext call) {lo : Nat} {e : Env} {o : Op} {v : V} (ha : aop P call lo e h o = some (v, h')) : h.next ≤ h'.next := by
  unfold aop at ha
  split at ha
  · split at ha
    · split at ha
      · rename_i hs; cases ha; exact storeV_next hs
      · cases ha
    · cases ha
  · split at ha
    · split at ha
      · exact markV_next ha
      · cases ha
    · exact keep_next ha
  · split at ha
    · exact hc _ _ _ _ _ _ ha
    · cases ha
  · split at ha
    · exact appendV_next ha
    · cases ha
  · split at ha
    · exact copyV_next ha
    · cases ha
  · exact keep_next ha

theorem Act.put_tmps (a : Act) (d : Option Nat) (v : Value) : (a.put d v).tmps = match d with | some d => a.tmps.setIfInBounds d v | none => a.tmps := by cases d <;> rfl
theorem put_rel {nt : Nat} {d : Option Nat} {v : V} {e e' : Env} (hp : put nt d v e = some e') {a : Act} (he : ER φ e a.tmps) (hsz : a.tmps.size = nt) {v' : Value} (hv : VR φ v v') :
    ER φ e' (a.put d v').tmps ∧ (a.put d v').tmps.size = nt := by
  unfold put at hp
  split at hp
  · cases hp; exact ⟨he, hsz⟩
  · rename_i t
    split at hp
    · rename_i hlt
      cases hp
      rw [Act.put_tmps]
      refine ⟨fun u => ?_, by simpa using hsz⟩
      rw [Env.at_set]
      simp only [Array.getD_eq_getD_getElem?]
      by_cases hu : u = t
      · subst hu
        rw [if_pos rfl, Array.getElem?_setIfInBounds_self_of_lt (by omega)]
        exact hv
      · rw [if_neg hu, Array.getElem?_setIfInBounds_ne (Ne.symm hu)]
        have := he u
        rwa [Array.getD_eq_getD_getElem?] at this
    · cases hp
theorem put_defers (a : Act) (d : Option Nat) (v : Value) : (a.put d v).defers = a.defers := by cases d <;> rfl

theorem yielded_rel {ops : Array Oper} {e : Env} {a : Array Value} (he : ER φ e a) (j : Nat) : yielded ops a j = yieldedV ops e j := by
  unfold yielded yieldedV
  cases hd : (ops[j]?).bind (·.dst) with
  | none => simp
  | some t =>
    simp only [Option.bind_some]
    have ht := he t
    rw [Array.getD_eq_getD_getElem?] at ht
    cases hat : a[t]? with
    | none =>
      rw [hat] at ht
      generalize e.at t = x at ht
      cases ht
      rfl
    | some v =>
      rw [hat] at ht
      simp only [Option.getD_some] at ht
      generalize e.at t = x at ht
      cases ht <;> rfl
theorem wanted_rel {ops : Array Oper} {e : Env} {a : Array Value} (he : ER φ e a) (o : Oper) : Region.wanted o (yielded ops a) = wantedV ops e o := by
  unfold Region.wanted wantedV
  split
  · rename_i hg; rw [hg]
  · rename_i j want hg
    rw [hg]
    simp only [yielded_rel he]

theorem args_rel {e : Env} {a : Act} (he : ER φ e a.tmps) {l : Array Operand} {vs : List V} (h : evs e l.toList = some vs) : ∃ vs', l.map a.eval = vs'.toArray ∧ VRs φ vs vs' :=
  ⟨_, evs_map rfl, evs_rel he h⟩

theorem aop_sim {call : CallFn} (hnm : NameOk P) (hcs : CallSim P call) {lo : Nat} {e : Env} {o : Oper} {v : V} (ha : aop P call lo e h o.op = some (v, h')) {a : Act} (he : ER φ e a.tmps) (s : Sim φ h w)
    (hfr : FreeIn φ h.next h'.next) (hlo : lo ≤ h.next) {K : Act → World → Prop} {Q : Exit → Act → World → Prop}
    (hK : ∀ φ' v' w', Ext lo φ h w φ' h' w' → Sim φ' h' w' → VR φ' v v' → K (a.put o.dst v') w') : o.wp P a w K Q := by
  have hlight : aop P call lo e h o.op = keep h (lightOp P h.read e o.op) → o.wp P a w K Q := by
    intro hl
    rw [hl] at ha
    cases hr : lightOp P h.read e o.op with
    | none => rw [hr] at ha; cases ha
    | some r =>
      rw [hr] at ha
      obtain ⟨v', w', h1, h2⟩ := lightOp_rel (w := w) hr he (fun b x l hb hr => s.at_ b x l hb hr)
      obtain ⟨φ', k1, k2, k3⟩ := light_sim h2 s hlo ha hfr
      unfold Oper.wp
      rw [h1, Oper.upon_value]
      exact hK φ' v' w' k1 k2 k3
  generalize hop : o.op = op at ha hlight
  cases op
  case store t x y =>
    simp only [aop] at ha
    split at ha
    · rename_i vx vy hx hy
      split at ha
      · rename_i h1 hst
        cases ha
        obtain ⟨w', r1, r2, r3⟩ := storeV_sim hst s (ev_rel he hx) (ev_rel he hy)
        unfold Oper.wp execOp
        rw [hop]
        simp only [Sem.run_bind, r1, Result.andThen_ok, Sem.run_pure, Oper.upon_skip]
        exact hK φ _ w' r3 r2 VR.undef
      · cases ha
    · cases ha
  case convert t d x =>
    by_cases hc : t = d ∧ isSlice P t = true
    · simp only [aop] at ha
      rw [if_pos hc] at ha
      obtain ⟨rfl, _⟩ := hc
      split at ha
      · rename_i vx hx
        obtain ⟨v', w', r1, r2, r3, r4⟩ := markV_sim ha s (ev_rel he hx)
        unfold Oper.wp execOp
        rw [hop]
        simp only [Sem.run_bind, r1, Result.andThen_ok, Sem.run_pure, Oper.upon_value]
        exact hK φ v' w' r2 r3 r4
      · cases ha
    · exact hlight (by simp only [aop]; rw [if_neg hc])
  case call c =>
    obtain ⟨cal, args, ats⟩ := c
    cases cal with
    | invoke x m => exact hlight rfl
    | value f =>
      simp only [aop] at ha
      split at ha
      · rename_i as g l1 l2 has hf
        obtain ⟨as', e1, e2⟩ := args_rel he has
        have hfv := ev_rel he hf
        generalize hfe : a.eval f = fv at hfv
        cases hfv with
        | fn h1 h2 =>
        rename_i l1' l2'
        obtain ⟨⟨fn, hfn, hbody⟩, hcalls⟩ := hcs _ _ _ _ _ _ ha
        have hcall := hcalls hlo φ w _ s hfr ((h1.append e2).append h2)
        have hn := hnm g fn hfn
        unfold Oper.wp execOp
        rw [hop]
        have hnone : fn.body.isNone = false := by rw [← Option.not_isSome, hbody]; rfl
        simp only [resolve, e1, hfe, Deferred.ofValue, Sem.run_bind, Sem.run_pure, Result.andThen_ok, invoke, callFunc, run_program, hfn, hn, Bool.false_eq_true, if_false, hnone, Oper.upon_enter]
        have ea : ((⟨l1'⟩ : Array Value) ++ as'.toArray ++ ⟨l2'⟩) = (l1' ++ as' ++ l2').toArray := by apply Array.ext'; simp
        rw [ea]
        refine hcall.mono ?_
        rintro e0 w0 ⟨v', φ', rfl, k1, k2, k3⟩
        exact hK φ' v' w0 k1 k2 k3
      · cases ha
    | builtin b =>
      cases b
      case append =>
        simp only [aop] at ha
        split at ha
        · rename_i sv x has
          obtain ⟨s', x', e1, e2, e3⟩ := evs_two he has
          obtain ⟨φ', v', w', r1, r2, r3, r4⟩ := appendV_sim ha s hfr hlo e2 e3 o.type
          rw [Array.toArray_toList] at r1
          unfold Oper.wp execOp
          rw [hop]
          simp only [resolve, e1, Sem.run_bind, Sem.run_pure, Result.andThen_ok, invoke, builtin, r1, Oper.upon_value]
          exact hK φ' v' w' r2 r3 r4
        · cases ha
      case copy =>
        simp only [aop] at ha
        split at ha
        · rename_i sv x has
          obtain ⟨s', x', e1, e2, e3⟩ := evs_two he has
          obtain ⟨v', w', r1, r2, r3, r4⟩ := copyV_sim ha s e2 e3 o.type
          rw [Array.toArray_toList] at r1
          unfold Oper.wp execOp
          rw [hop]
          simp only [resolve, e1, Sem.run_bind, Sem.run_pure, Result.andThen_ok, invoke, builtin, r1, Oper.upon_value]
          exact hK φ v' w' r2 r3 r4
        · cases ha
      all_goals exact hlight rfl
  all_goals exact hlight rfl

theorem FreeIn.left {a b c : Nat} (hf : FreeIn φ a c) (h : b ≤ c) : FreeIn φ a b := fun k h1 h2 => hf k h1 (by omega)
theorem FreeIn.right {lo : Nat} (x : Ext lo φ h w φ' h' w') {c : Nat} (hf : FreeIn φ h.next c) : FreeIn φ' h'.next c := by
  intro k h1 h2
  have hn : φ k = none := hf k (by have := x.next; omega) h2
  cases hk : φ' k with
  | none => rfl
  | some y => have := x.dom k hn (by rw [hk]; simp); omega

theorem runOps_next {call : CallFn} (hc : CallNext call) {lo nt : Nat} {ops : Array Oper} : ∀ {l : List Oper} {e e' : Env} {h h' : H}, runOps P call lo nt ops l e h = some (e', h') → h.next ≤ h'.next
  | [], e, e', h, h', hr => by cases hr; exact Nat.le_refl _
  | o :: r, e, e', h, h', hr => by
    unfold runOps at hr
    split at hr
    · split at hr
      · rename_i v h1 ha
        split at hr
        · exact Nat.le_trans (aop_next hc ha) (runOps_next hc hr)
        · cases hr
      · cases hr
    · split at hr
      · exact runOps_next hc hr
      · cases hr
theorem runOps_sim {call : CallFn} (hnm : NameOk P) (hcs : CallSim P call) (hcn : CallNext call) {lo nt : Nat} {ops : Array Oper} {Q : Exit → Act → World → Prop} :
    ∀ {l : List Oper} {e e' : Env} {h h' : H}, runOps P call lo nt ops l e h = some (e', h') → ∀ {φ : Phi} {w : World} {a : Act}, ER φ e a.tmps → a.tmps.size = nt → Sim φ h w → FreeIn φ h.next h'.next → lo ≤ h.next →
      (∀ φ' a' w', Ext lo φ h w φ' h' w' → Sim φ' h' w' → ER φ' e' a'.tmps → a'.tmps.size = nt → a'.defers = a.defers → Q .normal a' w') → wpList P ops Q l a w
  | [], e, e', h, h', hr, φ, w, a, he, hsz, s, hfr, hlo, hQ => by
    cases hr
    exact hQ φ a w (Ext.refl _ _ _ _) s he hsz rfl
  | o :: r, e, e', h, h', hr, φ, w, a, he, hsz, s, hfr, hlo, hQ => by
    unfold runOps at hr
    unfold wpList
    rw [wanted_rel he]
    split at hr
    · rename_i hw
      rw [if_pos hw]
      split at hr
      · rename_i v h1 ha
        split at hr
        · rename_i e1 hp
          have hn1 := aop_next hcn ha
          have hn2 := runOps_next hcn hr
          refine .inl (aop_sim hnm hcs ha he s (hfr.left hn2) hlo fun φ1 v1 w1 x1 s1 hv1 => ?_)
          obtain ⟨he1, hsz1⟩ := put_rel hp (he.mono x1.le) hsz hv1
          refine runOps_sim hnm hcs hcn hr he1 hsz1 s1 (FreeIn.right x1 hfr) (by omega) fun φ2 a2 w2 x2 s2 he2 hsz2 hd2 => ?_
          exact hQ φ2 a2 w2 (x1.trans x2) s2 he2 hsz2 (hd2.trans (put_defers _ _ _))
        · cases hr
      · cases hr
    · rename_i hw
      rw [if_neg hw]
      split at hr
      · rename_i e1 hp
        obtain ⟨he1, hsz1⟩ := put_rel hp he hsz VR.undef
        refine runOps_sim hnm hcs hcn hr he1 hsz1 s hfr hlo fun φ2 a2 w2 x2 s2 he2 hsz2 hd2 => ?_
        exact hQ φ2 a2 w2 x2 s2 he2 hsz2 (hd2.trans (put_defers _ _ _))
      · cases hr
end Go.Den
