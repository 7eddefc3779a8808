/- What stays below a barrier, whatever the machine does. -/
import Derived.Test.YtghmbmblhdgabaaDoorDenC
import Derived.Tactics
import Derived.LoopN
import Derived.Orders
set_option linter.all false
namespace Go.Den
open Go
variable {P : Program} {h h' h'' : H}

structure Good (lo : Nat) (h h' : H) : Prop where
  next : h.next ≤ h'.next
  wf : HWF h → HWF h'
  get : ∀ b, b < lo → h'.get b = h.get b
  fam : ∀ f, f < lo → h'.fam f = h.fam f
theorem Good.refl (lo : Nat) (h : H) : Good lo h h := ⟨Nat.le_refl _, id, fun _ _ => rfl, fun _ _ => rfl⟩
theorem Good.trans {lo : Nat} (a : Good lo h h') (b : Good lo h' h'') : Good lo h h'' :=
  ⟨Nat.le_trans a.next b.next, fun w => b.wf (a.wf w), fun c hc => (b.get c hc).trans (a.get c hc), fun c hc => (b.fam c hc).trans (a.fam c hc)⟩
theorem Good.lower {lo lo' : Nat} (hl : lo ≤ lo') (a : Good lo' h h') : Good lo h h' :=
  ⟨a.next, a.wf, fun c hc => a.get c (by omega), fun c hc => a.fam c (by omega)⟩
def CallGood (call : CallFn) : Prop := ∀ f as lo h v h', call f as lo h = some (v, h') → lo ≤ h.next → Good lo h h'

theorem good_alloc {lo : Nat} (hlo : lo ≤ h.next) (l : List V) : Good lo h (h.alloc l) :=
  ⟨Nat.le_succ _, fun w => w.alloc l, fun c hc => by rw [get_alloc, if_neg (by omega)], fun c hc => by rw [fam_alloc, if_neg (by omega)]⟩
theorem good_put {lo b f low : Nat} {l : List V} (ho : h.owned lo b = some (l, f, low)) (l' : List V) : Good lo h (h.put b f l') := by
  obtain ⟨hg, hf, hlo⟩ := owned_some ho
  have hlf := owned_fam ho
  exact ⟨Nat.le_refl _, fun w => w.put hg hf l', fun c hc => by rw [get_put, if_neg (by omega)], fun c hc => by rw [fam_put, if_neg (by omega)]⟩
theorem good_more {lo b f low low' : Nat} {l : List V} (hlo : lo ≤ h.next) (ho : h.owned lo b = some (l, f, low)) (hlow : low' = low ∨ low' = h.next) (l' : List V) : Good lo h (h.more f low' l') := by
  obtain ⟨hg, hf, _⟩ := owned_some ho
  have hlf := owned_fam ho
  exact ⟨Nat.le_succ _, fun w => w.more hg hf hlow l', fun c hc => by rw [get_more, if_neg (by omega)], fun c hc => by rw [fam_more, if_neg (by omega)]⟩
theorem keep_good {lo : Nat} (hlo : lo ≤ h.next) {r : Option LR} {v : V} (hk : keep h r = some (v, h')) : Good lo h h' := by
  unfold keep at hk
  split at hk
  · cases hk; exact Good.refl _ _
  · cases hk; exact good_alloc hlo _
  · cases hk
theorem storeV_good {lo : Nat} {t : TypeId} {x v : V} (hs : storeV P lo t x v h = some h') : Good lo h h' := by
  unfold storeV at hs
  split at hs
  · split at hs
    · rename_i ho
      split at hs
      · split at hs
        · cases hs; exact good_put ho _
        · cases hs
      · cases hs
    · cases hs
  · cases hs
theorem appendV_good {lo : Nat} (hlo : lo ≤ h.next) {ts : List TypeId} {s x v : V} (ha : appendV P lo ts s x h = some (v, h')) : Good lo h h' := by
  unfold appendV at ha
  repeat' (split at ha)
  all_goals first
    | (cases ha; done)
    | (cases ha; first
        | exact Good.refl _ _
        | exact good_alloc hlo _
        | exact good_more hlo ‹_› (by first | exact .inl rfl | exact .inr rfl) _
        | exact good_more hlo ‹_› (by split <;> simp) _)
theorem copyV_good {lo : Nat} {ts : List TypeId} {d x v : V} (hc : copyV P lo ts d x h = some (v, h')) : Good lo h h' := by
  unfold copyV at hc
  repeat' (first | split at hc | simp only at hc)
  all_goals first
    | (cases hc; done)
    | (cases hc; first | exact Good.refl _ _ | exact good_put ‹_› _)
theorem markV_good {lo : Nat} {t : TypeId} {x v : V} (hm : markV P lo t x h = some (v, h')) : Good lo h h' := by
  unfold markV at hm
  repeat' (split at hm)
  all_goals first
    | (cases hm; done)
    | (cases hm; exact Good.refl _ _)
theorem aop_good {call : CallFn} (hc : CallGood call) {lo : Nat} (hlo : lo ≤ h.next) {e : Env} {o : Op} {v : V} (ha : aop P call lo e h o = some (v, h')) : Good lo h h' := by
  unfold aop at ha
  split at ha
  · split at ha
    · split at ha
      · rename_i hs; cases ha; exact storeV_good hs
      · cases ha
    · cases ha
  · split at ha
    · split at ha
      · exact markV_good ha
      · cases ha
    · exact keep_good hlo ha
  · split at ha
    · exact hc _ _ _ _ _ _ ha hlo
    · cases ha
  · split at ha
    · exact appendV_good hlo ha
    · cases ha
  · split at ha
    · exact copyV_good ha
    · cases ha
  · exact keep_good hlo ha
theorem runOps_good {call : CallFn} (hc : CallGood call) {lo nt : Nat} {ops : Array Oper} : ∀ {l : List Oper} {e e' : Env} {h h' : H}, lo ≤ h.next → runOps P call lo nt ops l e h = some (e', h') → Good lo h h'
  | [], e, e', h, h', _, hr => by cases hr; exact Good.refl _ _
  | o :: r, e, e', h, h', hlo, hr => by
    unfold runOps at hr
    split at hr
    · split at hr
      · rename_i v h1 ha
        split at hr
        · have g := aop_good hc hlo ha
          exact g.trans (runOps_good hc (by have := g.next; omega) hr)
        · cases hr
      · cases hr
    · split at hr
      · exact runOps_good hc hlo hr
      · cases hr
theorem frontOp_good {call : CallFn} (hc : CallGood call) {lo old : Nat} (hlo : lo ≤ old) (hold : old ≤ h.next) {st : Bool} {e : Env} {o : Op} {v : V} (ha : frontOp P call lo old st e h o = some (v, h')) : Good lo h h' := by
  unfold frontOp at ha
  split at ha
  · split at ha
    · have hb : lo ≤ barrier lo old h o ∧ barrier lo old h o ≤ h.next := by unfold barrier; split <;> omega
      exact (aop_good hc hb.2 ha).lower hb.1
    · cases ha
  · exact keep_good (by omega) ha
theorem runFront_good {call : CallFn} (hc : CallGood call) {lo old nt : Nat} (hlo : lo ≤ old) {st : Bool} {ops : Array Oper} : ∀ {k : Nat} {l : List Oper} {e e' : Env} {h h' : H}, old ≤ h.next → runFront P call lo old nt st ops k l e h = some (e', h') → Good lo h h'
  | 0, l, e, e', h, h', _, hr => by cases hr; exact Good.refl _ _
  | k + 1, [], e, e', h, h', _, hr => by cases hr; exact Good.refl _ _
  | k + 1, o :: r, e, e', h, h', hold, hr => by
    unfold runFront at hr
    split at hr
    · split at hr
      · rename_i v h1 ha
        split at hr
        · have g := frontOp_good hc hlo hold ha
          exact g.trans (runFront_good hc hlo (by have := g.next; omega) hr)
        · cases hr
      · cases hr
    · split at hr
      · exact runFront_good hc hlo hold hr
      · cases hr
theorem runRegion_good {call : CallFn} (hc : CallGood call) {lo nt : Nat} (hlo : lo ≤ h.next) {ops : Array Oper} {draw : Bool} {e e' : Env} (hr : runRegion P call lo nt ops draw e h = some (e', h')) : Good lo h h' := by
  unfold runRegion at hr
  split at hr
  · simp only at hr
    split at hr
    · split at hr
      · rename_i e1 h1 hf
        have g := runFront_good hc hlo (Nat.le_refl _) hf
        exact g.trans (runOps_good hc (by have := g.next; omega) hr)
      · cases hr
    · cases hr
  · exact runOps_good hc hlo hr
def RecGood (rec : Rec) : Prop := ∀ lo nt c e h r e' h', rec lo nt c e h = some (r, e', h') → lo ≤ h.next → Good lo h h'
section
variable {C : Cfg}
def ShortGood (C : Cfg) : Prop := ∀ f g, C.S f = some g → ∀ as lo h v h', g as lo h = some (v, h') → lo ≤ h.next → Good lo h h'
theorem callStep_good (hS : ShortGood C) {rec : Rec} (hn : RecGood rec) : CallGood (callStep C rec) := by
  intro f as lo h v h' hc hlo
  unfold callStep at hc
  split at hc
  · rename_i g hg; exact hS _ _ hg _ _ _ _ _ hc hlo
  · split at hc
    · split at hc
      · split at hc
        · split at hc
          · rename_i hr
            rw [Option.map_eq_some_iff] at hc
            obtain ⟨v', _, he⟩ := hc
            cases he
            exact hn _ _ _ _ _ _ _ _ hr hlo
          · rename_i hr
            rw [Option.map_eq_some_iff] at hc
            obtain ⟨v', _, he⟩ := hc
            cases he
            exact hn _ _ _ _ _ _ _ _ hr hlo
          · cases hc
        · cases hc
      · cases hc
    · cases hc
theorem execStep_good (hS : ShortGood C) {rec : Rec} (hn : RecGood rec) : RecGood (execStep C rec) := by
  intro lo nt c e h r e' h' hr hlo
  unfold execStep at hr
  split at hr
  · cases hr; exact Good.refl _ _
  · cases hr; exact Good.refl _ _
  · split at hr
    · rename_i hg; cases hr; exact runRegion_good (callStep_good hS hn) hlo hg
    · cases hr
  · split at hr
    · rename_i h1
      have g := hn _ _ _ _ _ _ _ _ h1 hlo
      exact g.trans (hn _ _ _ _ _ _ _ _ hr (by have := g.next; omega))
    · exact hn _ _ _ _ _ _ _ _ hr hlo
  · split at hr
    · exact hn _ _ _ _ _ _ _ _ hr hlo
    · cases hr
  · split at hr
    · rename_i h1
      split at hr
      · cases hr; exact hn _ _ _ _ _ _ _ _ h1 hlo
      · cases hr; exact hn _ _ _ _ _ _ _ _ h1 hlo
    · exact hn _ _ _ _ _ _ _ _ hr hlo
  · split at hr
    · rename_i h1
      have g := hn _ _ _ _ _ _ _ _ h1 hlo
      exact g.trans (hn _ _ _ _ _ _ _ _ hr (by have := g.next; omega))
    · exact hn _ _ _ _ _ _ _ _ hr hlo
  · cases hr; exact Good.refl _ _
  · cases hr; exact Good.refl _ _
  · cases hr
theorem exec_good (hS : ShortGood C) : ∀ n, RecGood (exec C n)
  | 0 => fun _ _ _ _ _ _ _ _ hx => by cases hx
  | n + 1 => by rw [exec_succ]; exact execStep_good hS (exec_good hS n)
theorem call_good (hS : ShortGood C) (n : Nat) : CallGood (call C n) := callStep_good hS (exec_good hS n)
end
end Go.Den
/- The machine's code, carried over to the model: blocks, tests, loops, calls. (Regions whose order is open: Front.) -/
namespace Go.Den
open Go
variable {P : Program} {φ φ' : Phi} {w w' : World} {h h' : H}

def R.exit : R → Exit
  | .nx => .normal
  | .ex id => .exit id
  | .rt => .ret
/-- a loop ends behind at most n rounds -/
def wpn (P : Program) (n : Nat) (c : Code) (Q : Exit → Act → World → Prop) (a : Act) (w : World) : Prop :=
  match c with
  | .loop b => Code.rounds P b Q n a w
  | c => c.wp P Q a w
theorem wpn_wp {n : Nat} {c : Code} {Q : Exit → Act → World → Prop} {a : Act} {w : World} (h : wpn P n c Q a w) : c.wp P Q a w := by
  unfold wpn at h
  split at h
  · exact wp_loop_rounds n h
  · exact h
def RecSim (P : Program) (n : Nat) (rec : Rec) : Prop :=
  ∀ lo nt c e h r e' h', rec lo nt c e h = some (r, e', h') → ∀ {φ : Phi} {w : World} {a : Act}, ER φ e a.tmps → a.tmps.size = nt → a.defers = [] → Sim φ h w → FreeIn φ h.next h'.next → lo ≤ h.next →
    ∀ {Q : Exit → Act → World → Prop}, (∀ φ' a' w', Ext lo φ h w φ' h' w' → Sim φ' h' w' → ER φ' e' a'.tmps → a'.tmps.size = nt → a'.defers = [] → Q r.exit a' w') → wpn P n c Q a w
def RecNext (rec : Rec) : Prop := ∀ lo nt c e h r e' h', rec lo nt c e h = some (r, e', h') → h.next ≤ h'.next
/-- what is asked of regions whose order is open -/
def FrontSim (P : Program) : Prop :=
  ∀ (call : CallFn), CallSim P call → CallNext call → CallGood call → ∀ lo nt ops e h e' h', runRegion P call lo nt ops true e h = some (e', h') → ∀ {φ : Phi} {w : World} {a : Act}, ER φ e a.tmps → a.tmps.size = nt → Sim φ h w → FreeIn φ h.next h'.next → lo ≤ h.next →
    ∀ {Q : Exit → Act → World → Prop}, (∀ φ' a' w', Ext lo φ h w φ' h' w' → Sim φ' h' w' → ER φ' e' a'.tmps → a'.tmps.size = nt → a'.defers = a.defers → Q .normal a' w') → ∀ id, (Code.region id ops true).wp P Q a w

theorem frontOp_next {call : CallFn} (hc : CallNext call) {lo old : Nat} {st : Bool} {e : Env} {o : Op} {v : V} (ha : frontOp P call lo old st e h o = some (v, h')) : h.next ≤ h'.next := by
  unfold frontOp at ha
  split at ha
  · split at ha
    · exact aop_next hc ha
    · cases ha
  · exact keep_next ha
theorem runFront_next {call : CallFn} (hc : CallNext call) {lo old nt : Nat} {st : Bool} {ops : Array Oper} : ∀ {k : Nat} {l : List Oper} {e e' : Env} {h h' : H}, runFront P call lo old nt st ops k l e h = some (e', h') → h.next ≤ h'.next
  | 0, l, e, e', h, h', hr => by cases hr; exact Nat.le_refl _
  | k + 1, [], e, e', h, h', hr => by cases hr; exact Nat.le_refl _
  | k + 1, o :: r, e, e', h, h', hr => by
    unfold runFront at hr
    split at hr
    · split at hr
      · rename_i v h1 ha
        split at hr
        · exact Nat.le_trans (frontOp_next hc ha) (runFront_next hc hr)
        · cases hr
      · cases hr
    · split at hr
      · exact runFront_next hc hr
      · cases hr
theorem runRegion_next {call : CallFn} (hc : CallNext call) {lo nt : Nat} {ops : Array Oper} {draw : Bool} {e e' : Env} (hr : runRegion P call lo nt ops draw e h = some (e', h')) : h.next ≤ h'.next := by
  unfold runRegion at hr
  split at hr
  · simp only at hr
    split at hr
    · split at hr
      · rename_i e1 h1 hf
        exact Nat.le_trans (runFront_next hc hf) (runOps_next hc hr)
      · cases hr
    · cases hr
  · exact runOps_next hc hr

section
variable {C : Cfg}
def ShortNext (C : Cfg) : Prop := ∀ f g, C.S f = some g → ∀ as lo h v h', g as lo h = some (v, h') → h.next ≤ h'.next
def ShortSim (C : Cfg) : Prop := ∀ f g, C.S f = some g → ∀ as lo h v h', g as lo h = some (v, h') → (∃ fn, C.P.funcs[f]? = some fn ∧ fn.body.isSome = true) ∧
    (lo ≤ h.next → ∀ φ w as', Sim φ h w → FreeIn φ h.next h'.next → VRs φ as as' → Calls C.P f as'.toArray w (CallPost lo φ h w h' v))

theorem callStep_next (hS : ShortNext C) {rec : Rec} (hn : RecNext rec) : CallNext (callStep C rec) := by
  intro f as lo h v h' hc
  unfold callStep at hc
  split at hc
  · rename_i g hg; exact hS _ _ hg _ _ _ _ _ hc
  · split at hc
    · split at hc
      · split at hc
        · split at hc
          · rename_i hr
            rw [Option.map_eq_some_iff] at hc
            obtain ⟨v', _, he⟩ := hc
            cases he
            exact hn _ _ _ _ _ _ _ _ hr
          · rename_i hr
            rw [Option.map_eq_some_iff] at hc
            obtain ⟨v', _, he⟩ := hc
            cases he
            exact hn _ _ _ _ _ _ _ _ hr
          · cases hc
        · cases hc
      · cases hc
    · cases hc
theorem execStep_next (hS : ShortNext C) {rec : Rec} (hn : RecNext rec) : RecNext (execStep C rec) := by
  intro lo nt c e h r e' h' hr
  unfold execStep at hr
  split at hr
  · cases hr; exact Nat.le_refl _
  · cases hr; exact Nat.le_refl _
  · split at hr
    · rename_i hg; cases hr; exact runRegion_next (callStep_next hS hn) hg
    · cases hr
  · split at hr
    · rename_i h1; exact Nat.le_trans (hn _ _ _ _ _ _ _ _ h1) (hn _ _ _ _ _ _ _ _ hr)
    · exact hn _ _ _ _ _ _ _ _ hr
  · split at hr
    · exact hn _ _ _ _ _ _ _ _ hr
    · cases hr
  · split at hr
    · rename_i h1
      split at hr
      · cases hr; exact hn _ _ _ _ _ _ _ _ h1
      · cases hr; exact hn _ _ _ _ _ _ _ _ h1
    · exact hn _ _ _ _ _ _ _ _ hr
  · split at hr
    · rename_i h1; exact Nat.le_trans (hn _ _ _ _ _ _ _ _ h1) (hn _ _ _ _ _ _ _ _ hr)
    · exact hn _ _ _ _ _ _ _ _ hr
  · cases hr; exact Nat.le_refl _
  · cases hr; exact Nat.le_refl _
  · cases hr

theorem mkEnv_at : ∀ (as : List V) (i : Nat) (e : Env) (t : Nat), Env.at (mkEnv i as e) t = if i ≤ t ∧ t < i + as.length then as.getD (t - i) undef else e.at t
  | [], i, e, t => by rw [mkEnv, if_neg (by simp only [List.length_nil]; omega)]
  | v :: r, i, e, t => by
    rw [mkEnv, mkEnv_at r (i + 1)]
    by_cases h1 : i + 1 ≤ t ∧ t < i + 1 + r.length
    · rw [if_pos h1, if_pos (by simp; omega)]
      obtain ⟨k, hk⟩ : ∃ k, t - i = k + 1 := ⟨t - i - 1, by omega⟩
      rw [hk, show t - (i + 1) = k from by omega]
      simp [List.getD]
    · rw [if_neg h1, Env.at_set]
      by_cases h2 : t = i
      · subst h2; rw [if_pos rfl, if_pos (by simp)]; simp [List.getD]
      · rw [if_neg h2, if_neg (by simp; omega)]
theorem mkEnv_rel {as : List V} {as' : List Value} (hg : GR φ) (hr : VRs φ as as') (k : Nat) : ER φ (mkEnv 0 as .nil) (as'.toArray ++ Array.replicate k Go.undef) := by
  refine ⟨hg, fun t => ?_⟩
  have hl := hr.length
  rw [mkEnv_at, Array.getD_eq_getD_getElem?]
  by_cases ht : t < as.length
  · rw [if_pos (by omega)]
    obtain ⟨v', h1, h2⟩ := hr.get t _ (List.getElem?_eq_getElem ht)
    rw [Array.getElem?_append_left (by simpa using (by omega : t < as'.length))]
    simp only [List.getElem?_toArray, h1, Option.getD_some, Nat.sub_zero, List.getD, List.getElem?_eq_getElem ht]
    exact h2
  · rw [if_neg (by omega), Env.at_nil, Array.getElem?_append_right (by simpa using (by omega : as'.length ≤ t))]
    have : (((Array.replicate k Go.undef)[t - as'.toArray.size]?).getD Go.undef) = Go.undef := by
      rw [Array.getElem?_replicate]
      split <;> rfl
    rw [this]
    exact VR.undef

def resSem (a : Array Value) : ResultVar → Sem Value
  | .tmp t => pure (a.getD t Go.undef)
  | .cell x t => do loadVar t (← asAddr (a.getD x Go.undef))
theorem results_eq (fn : Func) (a : Array Value) : results fn a = (do let vs ← fn.results.mapM (resSem a); pure (if h : vs.size = 1 then vs[0] else .tuple vs)) := rfl
theorem resV_rel {e : Env} {a : Array Value} (he : ER φ e a) (s : Sim φ h w) {r : ResultVar} {v : V} (hv : resV P e h r = some v) :
    ∃ v', (resSem a r).run P w = .ok v' w ∧ VR φ v v' := by
  cases r with
  | tmp t => simp only [resV] at hv; cases hv; exact ⟨_, rfl, he.at_ t⟩
  | cell x t =>
    simp only [resV] at hv
    obtain ⟨v', h1, h2⟩ := loadV_rel hv (w := w) (fun b y l hb hr => s.at_ b y l hb hr) (he.at_ x)
    refine ⟨v', ?_, h2⟩
    have hx := he.at_ x
    show (do loadVar t (← asAddr (a.getD x Go.undef)) : Sem Value).run P w = _
    generalize a.getD x Go.undef = x' at hx h1 ⊢
    unfold loadV at hv
    split at hv
    · rename_i b o hxo
      rw [hxo] at hx
      cases hx
      simpa [Instr.loadAt, Instr.sureAddr, asAddr] using h1
    · cases hv
theorem omap_res {e : Env} {a : Array Value} (he : ER φ e a) (s : Sim φ h w) : ∀ {l : List ResultVar} {vs : List V}, omap (resV P e h) l = some vs → ∃ vs', (l.mapM (resSem a)).run P w = .ok vs' w ∧ VRs φ vs vs'
  | [], vs, hv => by cases hv; exact ⟨[], rfl, .nil⟩
  | r :: l, vs, hv => by
    unfold omap at hv
    split at hv
    · rename_i y hy
      split at hv
      · rename_i ys hys
        cases hv
        obtain ⟨v', h1, h2⟩ := resV_rel he s hy
        obtain ⟨vs', h3, h4⟩ := omap_res he s hys
        refine ⟨v' :: vs', ?_, .cons h2 h4⟩
        rw [List.mapM_cons]
        simp only [Sem.run_bind, h1, Result.andThen_ok, h3, Sem.run_pure]
      · cases hv
    · cases hv
theorem resultsV_rel {fn : Func} {e : Env} {a : Array Value} (he : ER φ e a) (s : Sim φ h w) {v : V} (hv : resultsV P fn e h = some v) : ∃ v', (results fn a).run P w = .ok v' w ∧ VR φ v v' := by
  have hrun : ∀ vs', (fn.results.toList.mapM (resSem a)).run P w = .ok vs' w → (results fn a).run P w = .ok (if h : vs'.toArray.size = 1 then vs'.toArray[0] else .tuple vs'.toArray) w := by
    intro vs' h1
    rw [results_eq, Array.mapM_eq_mapM_toList]
    simp only [Sem.run_bind, Sem.run_map, h1, Result.andThen_ok, Sem.run_pure]
  unfold resultsV at hv
  split at hv
  · rename_i x hx
    cases hv
    obtain ⟨vs', h1, h2⟩ := omap_res he s hx
    cases h2 with | cons h2 hr => cases hr with
    | nil => exact ⟨_, hrun _ h1, h2⟩
  · rename_i vs hne hx
    cases hv
    obtain ⟨vs', h1, h2⟩ := omap_res he s hx
    have hl := h2.length
    refine ⟨.tuple ⟨vs'⟩, ?_, .tup h2⟩
    rw [hrun _ h1]
    have hs : vs'.toArray.size ≠ 1 := by
      intro h1
      have : vs.length = 1 := by rw [hl]; simpa using h1
      match vs, this with
      | [x], _ => exact hne x rfl
    rw [dif_neg hs]
  · cases hv

theorem callStep_sim (hSim : ShortSim C) {n : Nat} {rec : Rec} (hr : RecSim C.P n rec) : CallSim C.P (callStep C rec) := by
  intro f as lo h v h' hc
  unfold callStep at hc
  split at hc
  · rename_i g hg; exact hSim _ _ hg _ _ _ _ _ hc
  · split at hc
    · rename_i fn hfn
      split at hc
      · rename_i c hb
        split at hc
        · rename_i hle
          refine ⟨⟨fn, hfn, by rw [hb]; rfl⟩, fun hlo φ w as' s hfr has => ?_⟩
          have hal := has.length
          have hsz : (as'.toArray ++ Array.replicate (fn.ntmps - as'.toArray.size) Go.undef).size = fn.ntmps := by simp; omega
          have key : ∀ r e1 h1, rec lo fn.ntmps c (mkEnv 0 as .nil) h = some (r, e1, h1) → (r = .nx ∨ r = .rt) → (resultsV C.P fn e1 h1).map (fun v => (v, h1)) = some (v, h') → Calls C.P f as'.toArray w (CallPost lo φ h w h' v) := by
            intro r e1 h1 hrec hrr hres
            rw [Option.map_eq_some_iff] at hres
            obtain ⟨v1, hv1, he⟩ := hres
            cases he
            refine calls_of_wp hfn hb ?_
            refine wpn_wp (hr _ _ _ _ _ _ _ _ hrec (mkEnv_rel s.gl has _) hsz rfl s hfr hlo fun φ' a' w' x s' he' hsz' hd' => ?_)
            obtain ⟨v', k1, k2⟩ := resultsV_rel (w := w') he' s' hv1
            rcases hrr with rfl | rfl
            · exact ⟨hd', v', k1, v', φ', rfl, x, s', k2⟩
            · exact ⟨hd', v', k1, v', φ', rfl, x, s', k2⟩
          split at hc
          · rename_i e1 h1 hrec; exact key _ _ _ hrec (.inl rfl) hc
          · rename_i e1 h1 hrec; exact key _ _ _ hrec (.inr rfl) hc
          · cases hc
        · cases hc
      · cases hc
    · cases hc

theorem execStep_sim (hnm : NameOk C.P) (hF : FrontSim C.P) (hSim : ShortSim C) (hSn : ShortNext C) {n : Nat} {rec : Rec} (hr : RecSim C.P n rec) (hn : RecNext rec) (hSg : ShortGood C) (hg : RecGood rec) : RecSim C.P (n + 1) (execStep C rec) := by
  intro lo nt c e h r e' h' hx φ w a he hsz hd s hfr hlo Q hQ
  have hcs := callStep_sim hSim hr
  have hcn := callStep_next hSn hn
  unfold execStep at hx
  split at hx
  · cases hx; exact wp_skip (hQ φ a w (Ext.refl _ _ _ _) s he hsz hd)
  · cases hx; exact wp_label (hQ φ a w (Ext.refl _ _ _ _) s he hsz hd)
  · rename_i id ops draw
    split at hx
    · rename_i e1 h1 hgo
      cases hx
      cases draw with
      | true => exact hF _ hcs hcn (callStep_good hSg hg) _ _ _ _ _ _ _ hgo he hsz s hfr hlo (fun φ' a' w' x s' he' hsz' hd' => hQ φ' a' w' x s' he' hsz' (hd'.trans hd)) id
      | false =>
        unfold runRegion at hgo
        simp only [Bool.false_eq_true, if_false] at hgo
        exact wp_region_list (runOps_sim hnm hcs hcn hgo he hsz s hfr hlo fun φ' a' w' x s' he' hsz' hd' => hQ φ' a' w' x s' he' hsz' (hd'.trans hd))
    · cases hx
  · rename_i c1 c2
    refine wp_seq ?_
    split at hx
    · rename_i e1 h1 h1x
      refine wpn_wp (hr _ _ _ _ _ _ _ _ h1x he hsz hd s (hfr.left (hn _ _ _ _ _ _ _ _ hx)) hlo fun φ1 a1 w1 x1 s1 he1 hsz1 hd1 => ?_)
      refine wpn_wp (hr _ _ _ _ _ _ _ _ hx he1 hsz1 hd1 s1 (FreeIn.right x1 hfr) (by have := x1.next; omega) fun φ2 a2 w2 x2 s2 he2 hsz2 hd2 => ?_)
      exact hQ φ2 a2 w2 (x1.trans x2) s2 he2 hsz2 hd2
    · rename_i hne
      refine wpn_wp (hr _ _ _ _ _ _ _ _ hx he hsz hd s hfr hlo fun φ1 a1 w1 x1 s1 he1 hsz1 hd1 => ?_)
      have := hQ φ1 a1 w1 x1 s1 he1 hsz1 hd1
      cases r with
      | nx => exact absurd hx (hne _ _)
      | ex id => exact this
      | rt => exact this
  · rename_i x c1 c2
    split at hx
    · rename_i t hev
      have hcv := ev_rel he hev
      generalize hcond : a.eval x = cv at hcv
      cases hcv
      exact wp_cond hcond (wpn_wp (hr _ _ _ _ _ _ _ _ hx he hsz hd s hfr hlo hQ))
    · cases hx
  · rename_i id b
    refine wp_block ?_
    split at hx
    · rename_i id' e1 h1 h1x
      split at hx
      · rename_i hid
        cases hx
        refine wpn_wp (hr _ _ _ _ _ _ _ _ h1x he hsz hd s hfr hlo fun φ1 a1 w1 x1 s1 he1 hsz1 hd1 => ?_)
        simp only [R.exit, Exit.inBlock, hid, if_true]
        exact hQ φ1 a1 w1 x1 s1 he1 hsz1 hd1
      · rename_i hid
        cases hx
        refine wpn_wp (hr _ _ _ _ _ _ _ _ h1x he hsz hd s hfr hlo fun φ1 a1 w1 x1 s1 he1 hsz1 hd1 => ?_)
        simp only [R.exit, Exit.inBlock, hid, if_false]
        exact hQ φ1 a1 w1 x1 s1 he1 hsz1 hd1
    · rename_i hne
      refine wpn_wp (hr _ _ _ _ _ _ _ _ hx he hsz hd s hfr hlo fun φ1 a1 w1 x1 s1 he1 hsz1 hd1 => ?_)
      have := hQ φ1 a1 w1 x1 s1 he1 hsz1 hd1
      cases r with
      | nx => exact this
      | ex id' => exact absurd hx (hne _ _ _)
      | rt => exact this
  · rename_i b
    show Code.rounds C.P b Q (n + 1) a w
    rw [rounds_succ]
    split at hx
    · rename_i e1 h1 h1x
      refine wpn_wp (hr _ _ _ _ _ _ _ _ h1x he hsz hd s (hfr.left (hn _ _ _ _ _ _ _ _ hx)) hlo fun φ1 a1 w1 x1 s1 he1 hsz1 hd1 => ?_)
      exact hr _ _ _ _ _ _ _ _ hx he1 hsz1 hd1 s1 (FreeIn.right x1 hfr) (by have := x1.next; omega) fun φ2 a2 w2 x2 s2 he2 hsz2 hd2 => hQ φ2 a2 w2 (x1.trans x2) s2 he2 hsz2 hd2
    · rename_i hne
      refine wpn_wp (hr _ _ _ _ _ _ _ _ hx he hsz hd s hfr hlo fun φ1 a1 w1 x1 s1 he1 hsz1 hd1 => ?_)
      have := hQ φ1 a1 w1 x1 s1 he1 hsz1 hd1
      cases r with
      | nx => exact absurd hx (hne _ _)
      | ex id => exact this
      | rt => exact this
  · cases hx; exact wp_exit (hQ φ a w (Ext.refl _ _ _ _) s he hsz hd)
  · cases hx; exact wp_ret (hQ φ a w (Ext.refl _ _ _ _) s he hsz hd)
  · cases hx

theorem exec_sim (hnm : NameOk C.P) (hF : FrontSim C.P) (hSim : ShortSim C) (hSn : ShortNext C) (hSg : ShortGood C) : ∀ n, RecSim C.P n (exec C n) ∧ RecNext (exec C n)
  | 0 => ⟨fun _ _ _ _ _ _ _ _ hx => by (cases hx), fun _ _ _ _ _ _ _ _ hx => by cases hx⟩
  | n + 1 => by
    obtain ⟨h1, h2⟩ := exec_sim hnm hF hSim hSn hSg n
    exact ⟨by rw [exec_succ]; exact execStep_sim hnm hF hSim hSn h1 h2 hSg (exec_good hSg n), by rw [exec_succ]; exact execStep_next hSn h2⟩
end
end Go.Den
/- What an operation tells hangs on the slots that it names alone. -/
namespace Go.Den
open Go
variable {P : Program} {h : H}

theorem omap_congr {α β : Type} {f g : α → Option β} : ∀ {l : List α}, (∀ x ∈ l, f x = g x) → omap f l = omap g l
  | [], _ => rfl
  | x :: r, hx => by
    unfold omap
    rw [hx x (by simp), omap_congr (l := r) (fun y hy => hx y (by simp [hy]))]
theorem evs_congr {e e' : Env} {l : List Operand} (hx : ∀ x ∈ l, ev e x = ev e' x) : evs e l = evs e' l := omap_congr hx
theorem evo_congr {e e' : Env} {x : Option Operand} (hx : ∀ y, x = some y → ev e y = ev e' y) : evo e x = evo e' x := by
  cases x with
  | none => rfl
  | some y => simp only [evo, hx y rfl]
theorem evParts_congr {e e' : Env} {l : List (Nat × Operand)} (hx : ∀ p ∈ l, ev e p.2 = ev e' p.2) : evParts e l = evParts e' l := by
  refine omap_congr fun p hp => ?_
  unfold evPart
  rw [hx p hp]
theorem lightOp_congr {rd : Rd} {e e' : Env} {o : Op} (hx : ∀ x ∈ o.operands.toList, ev e x = ev e' x) : lightOp P rd e o = lightOp P rd e' o := by
  cases o
  case call c =>
    obtain ⟨cal, args, ats⟩ := c
    cases cal with
    | value f => rfl
    | invoke x m => rfl
    | builtin b =>
      have ha : evs e args.toList = evs e' args.toList := evs_congr fun x hm => hx x (by simp [Op.operands, Call.operands]; simpa using hm)
      cases b <;> first | rfl | (simp only [lightOp, ha])
  case build t ps =>
    have ha : evParts e ps.toList = evParts e' ps.toList := evParts_congr fun p hp => hx p.2 (by simp [Op.operands]; exact ⟨p.1, by simpa using hp⟩)
    simp only [lightOp, ha]
  case buildSlice t n ps =>
    have ha : evParts e ps.toList = evParts e' ps.toList := evParts_congr fun p hp => hx p.2 (by simp [Op.operands]; exact ⟨p.1, by simpa using hp⟩)
    simp only [lightOp, ha]
  case makeFunc f a c =>
    have ha : evs e a.toList = evs e' a.toList := evs_congr fun x hm => hx x (by simp [Op.operands]; exact .inl (by simpa using hm))
    have hc : evs e c.toList = evs e' c.toList := evs_congr fun x hm => hx x (by simp [Op.operands]; exact .inr (by simpa using hm))
    simp only [lightOp, ha, hc]
  case slice t x l m k =>
    have h1 := hx x (by simp [Op.operands])
    have h2 : evo e l = evo e' l := evo_congr fun y hy => hx y (by simp [Op.operands, hy])
    have h3 : evo e m = evo e' m := evo_congr fun y hy => hx y (by simp [Op.operands, hy])
    have h4 : evo e k = evo e' k := evo_congr fun y hy => hx y (by simp [Op.operands, hy])
    simp only [lightOp, h1, h2, h3, h4]
  case pick c a b =>
    have h1 := hx c (by simp [Op.operands])
    have h2 := hx a (by simp [Op.operands])
    have h3 := hx b (by simp [Op.operands])
    simp only [lightOp, h1, h2, h3]
  all_goals first
    | rfl
    | (rename_i x; have h1 := hx x (by simp [Op.operands]); simp only [lightOp, h1]; done)
    | (rename_i t x; have h1 := hx x (by simp [Op.operands]); simp only [lightOp, h1]; done)
    | (rename_i x i; have h1 := hx x (by simp [Op.operands]); simp only [lightOp, h1]; done)
    | (rename_i t x i; have h1 := hx x (by simp [Op.operands]); simp only [lightOp, h1]; done)
    | (rename_i x y; have h1 := hx x (by simp [Op.operands]); have h2 := hx y (by simp [Op.operands]); simp only [lightOp, h1, h2]; done)
    | (rename_i x y k; have h1 := hx x (by simp [Op.operands]); have h2 := hx y (by simp [Op.operands]); simp only [lightOp, h1, h2]; done)
theorem aop_congr {call : CallFn} {lo : Nat} {e e' : Env} {o : Op} (hx : ∀ x ∈ o.operands.toList, ev e x = ev e' x) : aop P call lo e h o = aop P call lo e' h o := by
  cases o
  case store t a x =>
    have h1 := hx a (by simp [Op.operands])
    have h2 := hx x (by simp [Op.operands])
    simp only [aop, h1, h2]
  case convert s d x =>
    have h1 := hx x (by simp [Op.operands])
    have h2 := lightOp_congr (P := P) (rd := h.read) (e := e) (e' := e') (o := .convert s d x) hx
    simp only [aop, h1, h2]
  case call c =>
    have h2 := lightOp_congr (P := P) (rd := h.read) (e := e) (e' := e') (o := .call c) hx
    obtain ⟨cal, args, ats⟩ := c
    have ha : evs e args.toList = evs e' args.toList := evs_congr fun x hm => hx x (by simp [Op.operands, Call.operands]; exact .inr (by simpa using hm))
    cases cal with
    | value f =>
      have hf := hx f (by simp [Op.operands, Call.operands])
      simp only [aop, ha, hf]
    | invoke x m => simp only [aop, h2]
    | builtin b => cases b <;> first | (simp only [aop, ha]; done) | (simp only [aop, h2]; done)
  all_goals (simp only [aop]; rw [lightOp_congr hx])
theorem atEnd_congr {e e' : Env} {o : Op} (hx : ∀ x ∈ o.operands.toList, ev e x = ev e' x) : atEnd e h o = atEnd e' h o := by
  cases o
  case call c =>
    obtain ⟨cal, args, ats⟩ := c
    cases cal with
    | value f => rfl
    | invoke x m => rfl
    | builtin b =>
      cases b
      case append =>
        unfold atEnd
        simp only
        split
        · rename_i x r hr
          have h1 := hx x (by simp [Op.operands, Call.operands]; have : x ∈ args.toList := by rw [hr]; simp
                              simpa using this)
          rw [h1]
        · rfl
      all_goals rfl
  all_goals rfl
theorem wantedV_congr {ops : Array Oper} {e e' : Env} {o : Oper} (hx : ∀ j w, o.guard = some (j, w) → ∀ t, (ops[j]?).bind (·.dst) = some t → e.at t = e'.at t) : wantedV ops e o = wantedV ops e' o := by
  unfold wantedV
  split
  · rfl
  · rename_i j want hg
    unfold yieldedV
    split
    · rename_i t ht; rw [hx j want hg t ht]
    · rfl
/-- the slots that an operation names -/
theorem ev_of_names {ops : Array Oper} {e e' : Env} {o : Oper} (hx : ∀ t ∈ names ops o, e.at t = e'.at t) : (∀ x ∈ o.op.operands.toList, ev e x = ev e' x) ∧ wantedV ops e o = wantedV ops e' o := by
  refine ⟨fun x hm => ?_, wantedV_congr fun j want hg t ht => hx t ?_⟩
  · cases x with
    | tmp t =>
      have := hx t (by unfold names; simp only [List.mem_append, List.mem_filterMap]; exact .inl (.inr ⟨.tmp t, hm, rfl⟩))
      simp only [ev, this]
    | _ => rfl
  · unfold names
    simp only [List.mem_append]
    right
    simp [hg, ht]
end Go.Den
/- A region whose order is open: whatever order is drawn, it comes to what the text's order comes to. First: what the checks on a front say. -/
namespace Go.Den
open Go
variable {P : Program}

/-! ### what waits for what -/
/-- the operations that are done: with each of them all that it waits for -/
structure Closed (ops : Array Oper) (D : Nat → Prop) : Prop where
  lt : ∀ i, D i → i < ops.size
  dn : ∀ i o, D i → ops[i]? = some o → ∀ e ∈ o.after, Region.binds .any e = true → D e.on
theorem befOf_bit {D : Nat → Prop} {acc : List Nat} : ∀ {es : List Edge} {i : Nat}, (befOf acc es).testBit i = true → (∀ e ∈ es, Region.binds .any e = true → D e.on) → (∀ j, j < acc.length → D j → ∀ i, (acc.getD j 0).testBit i = true → D i) → D i
  | [], i, hb, _, _ => by simp [befOf] at hb
  | e :: r, i, hb, he, ha => by
    unfold befOf at hb
    have hr := fun hb => befOf_bit (es := r) (i := i) (D := D) (acc := acc) hb (fun e hm => he e (by simp [hm])) ha
    split at hb
    · rename_i hc
      rw [Bool.and_eq_true, decide_eq_true_eq] at hc
      have hd := he e (by simp) hc.1
      rw [Nat.testBit_or, Nat.testBit_or, Bool.or_eq_true, Bool.or_eq_true] at hb
      rcases hb with (hb | hb) | hb
      · rw [Nat.testBit_two_pow] at hb
        have : e.on = i := by simpa using hb
        rw [← this]; exact hd
      · exact ha _ hc.2 hd i hb
      · exact hr hb
    · exact hr hb
theorem befs_length : ∀ (l : List Oper) (acc : List Nat), (befs acc l).length = acc.length + l.length
  | [], acc => by simp [befs]
  | o :: r, acc => by rw [befs, befs_length r]; simp; omega
theorem befs_prefix : ∀ (l : List Oper) (acc : List Nat) (j : Nat), j < acc.length → (befs acc l).getD j 0 = acc.getD j 0
  | [], acc, j, _ => rfl
  | o :: r, acc, j, hj => by
    rw [befs, befs_prefix r _ j (by simp; omega)]
    simp [List.getD, List.getElem?_append_left hj]
/-- all that an operation waits for, near and far, is done when all that it waits for straight away is done -/
theorem befs_done {ops : Array Oper} {D : Nat → Prop} (hc : Closed ops D) : ∀ (l : List Oper) (acc : List Nat), (∀ j, l[j]? = ops[acc.length + j]?) →
    (∀ j, j < acc.length → ∀ o, ops[j]? = some o → (∀ e ∈ o.after, Region.binds .any e = true → D e.on) → ∀ i, (acc.getD j 0).testBit i = true → D i) →
    ∀ j, j < acc.length + l.length → ∀ o, ops[j]? = some o → (∀ e ∈ o.after, Region.binds .any e = true → D e.on) → ∀ i, ((befs acc l).getD j 0).testBit i = true → D i
  | [], acc, _, ha, j, hj, o, ho, he, i, hb => ha j (by simpa using hj) o ho he i hb
  | o :: r, acc, hl, ha, j, hj, oj, hoj, he, i, hb => by
    rw [befs] at hb
    refine befs_done hc r (acc ++ [befOf acc o.after.toList]) (fun j => ?_) ?_ j (by simp at hj ⊢; omega) oj hoj he i hb
    · have := hl (j + 1)
      simp only [List.getElem?_cons_succ] at this
      rw [this]
      simp [Nat.add_assoc, Nat.add_comm 1 j]
    · intro j' hj' o' ho' he' i' hb'
      by_cases hlt : j' < acc.length
      · refine ha j' hlt o' ho' he' i' ?_
        simpa [List.getD, List.getElem?_append_left hlt] using hb'
      · have hje : j' = acc.length := by simp at hj'; omega
        subst hje
        have h0 := hl 0
        simp only [List.getElem?_cons_zero, Nat.add_zero] at h0
        rw [ho'] at h0
        cases h0
        have hb2 : (befOf acc o.after.toList).testBit i' = true := by simpa [List.getD, List.getElem?_append_right (Nat.le_refl _)] using hb'
        refine befOf_bit hb2 (fun e hm => he' e (by simpa using hm)) fun j2 hj2 hd i2 hb3 => ?_
        have hlt2 := hc.lt _ hd
        obtain ⟨o2, ho2⟩ : ∃ o2, ops[j2]? = some o2 := ⟨ops[j2], by simp [hlt2]⟩
        exact ha j2 hj2 o2 ho2 (hc.dn _ _ hd ho2) i2 hb3
theorem done_of_bit {ops : Array Oper} {D : Nat → Prop} (hc : Closed ops D) {j : Nat} {o : Oper} (ho : ops[j]? = some o) (he : ∀ e ∈ o.after, Region.binds .any e = true → D e.on) {i : Nat}
    (hb : ((befs [] ops.toList).getD j 0).testBit i = true) : D i := by
  have hlt : j < ops.size := (Array.getElem?_eq_some_iff.1 ho).1
  exact befs_done hc ops.toList [] (fun j => by simp) (fun j hj => by simp at hj) j (by simpa using hlt) o ho he i hb

/-! ### the checks -/
theorem pairsOk_spec {ops : Array Oper} {j : Nat} {oj : Oper} {bj : Nat} : ∀ {l : List Oper} {i : Nat}, pairsOk ops j oj bj i l = true → ∀ d o, l[d]? = some o → i + d < j → bj.testBit (i + d) = true ∨ apartOk ops o oj = true
  | [], _, _, d, o, ho, _ => by simp at ho
  | x :: r, i, h, d, o, ho, hlt => by
    unfold pairsOk at h
    rw [if_neg (by omega), Bool.and_eq_true, Bool.or_eq_true] at h
    cases d with
    | zero => simp at ho; subst ho; exact h.1
    | succ d =>
      have := pairsOk_spec h.2 d o (by simpa using ho) (by omega)
      rwa [show i + 1 + d = i + (d + 1) from by omega] at this
theorem frontOk_spec {ops : Array Oper} {bs : List Nat} : ∀ {l : List Oper} {j k : Nat}, frontOk ops bs j k l = true → ∀ d o, d < k → l[d]? = some o → (heavy o.op || light o.op) = true ∧ pairsOk ops (j + d) o (bs.getD (j + d) 0) 0 ops.toList = true
  | _, _, 0, _, d, o, hd, _ => by omega
  | [], _, k + 1, h, d, o, _, ho => by simp at ho
  | x :: r, j, k + 1, h, d, o, hd, ho => by
    unfold frontOk at h
    rw [Bool.and_eq_true, Bool.and_eq_true] at h
    cases d with
    | zero => simp at ho; subst ho; exact ⟨h.1.1, h.1.2⟩
    | succ d =>
      have := frontOk_spec h.2 d o (by omega) (by simpa using ho)
      rwa [show j + 1 + d = j + (d + 1) from by omega] at this
theorem frontOk_len {ops : Array Oper} {bs : List Nat} : ∀ {l : List Oper} {j k : Nat}, frontOk ops bs j k l = true → k ≤ l.length
  | _, _, 0, _ => Nat.zero_le _
  | [], _, k + 1, h => by simp [frontOk] at h
  | x :: r, j, k + 1, h => by
    unfold frontOk at h
    rw [Bool.and_eq_true] at h
    have := frontOk_len h.2
    simp; omega
theorem tailOk_spec : ∀ {l : List Nat} {j : Nat}, tailOk j l = true → ∀ d b, l[d]? = some b → b = 2 ^ (j + d) - 1
  | [], _, _, d, b, hb => by simp at hb
  | x :: r, j, h, d, b, hb => by
    unfold tailOk at h
    rw [Bool.and_eq_true, decide_eq_true_eq] at h
    cases d with
    | zero => simp at hb; subst hb; exact h.1
    | succ d =>
      have := tailOk_spec h.2 d b (by simpa using hb)
      rwa [show j + 1 + d = j + (d + 1) from by omega] at this
theorem tailAt_spec : ∀ (l : List Nat) (j : Nat), j ≤ tailAt j l ∧ ∀ d b, tailAt j l ≤ j + d → l[d]? = some b → b = 2 ^ (j + d) - 1
  | [], j => ⟨Nat.le_refl _, fun d b _ hb => by simp at hb⟩
  | x :: r, j => by
    unfold tailAt
    split
    · rename_i ht
      exact ⟨Nat.le_refl _, fun d b _ hb => tailOk_spec ht d b hb⟩
    · obtain ⟨h1, h2⟩ := tailAt_spec r (j + 1)
      refine ⟨by omega, fun d b hd hb => ?_⟩
      cases d with
      | zero => omega
      | succ d =>
        have := h2 d b (by omega) (by simpa using hb)
        rwa [show j + 1 + d = j + (d + 1) from by omega] at this
/-- two operations of a front that do not wait for one another share no slot and are not both heavy -/
theorem apartOk_spec {ops : Array Oper} {x y : Oper} (h : apartOk ops x y = true) : (∀ t, x.dst = some t → t ∉ names ops y) ∧ (∀ t, y.dst = some t → t ∉ names ops x) ∧ ¬ (heavy x.op = true ∧ heavy y.op = true) := by
  unfold apartOk at h
  rw [Bool.not_eq_true', Bool.or_eq_false_iff, Bool.or_eq_false_iff] at h
  obtain ⟨⟨h1, h2⟩, h3⟩ := h
  refine ⟨fun t ht hm => ?_, fun t ht hm => ?_, fun hh => ?_⟩
  · rw [ht] at h1; simp [hm] at h1
  · rw [ht] at h2; simp [hm] at h2
  · rw [hh.1, hh.2] at h3; cases h3
end Go.Den
/- A region whose order is open, continued: the steps of a front, one by one. -/
namespace Go.Den
open Go
variable {P : Program} {h h' : H}

inductive FStep (P : Program) (call : CallFn) (lo old nt : Nat) (st : Bool) (ops : Array Oper) (o : Oper) (e : Env) (h : H) (e' : Env) (h' : H) : Prop
  | skip (hw : wantedV ops e o = false) (hp : put nt o.dst undef e = some e') (hh : h' = h)
  | light (v : V) (r : LR) (hw : wantedV ops e o = true) (hv : heavy o.op = false) (hl : lightOp P (rdOf st old h) e o.op = some r) (hk : keep h (some r) = some (v, h')) (hp : put nt o.dst v e = some e')
  | heavy (v : V) (hw : wantedV ops e o = true) (hv : heavy o.op = true) (he : atEnd e h o.op = true) (ha : aop P call (barrier lo old h o.op) e h o.op = some (v, h')) (hp : put nt o.dst v e = some e')

theorem front_trace {call : CallFn} {lo old nt : Nat} {st : Bool} {ops : Array Oper} : ∀ {k i : Nat} {e e' : Env} {h h' : H}, runFront P call lo old nt st ops k (ops.toList.drop i) e h = some (e', h') → i + k ≤ ops.size →
    ∃ (E : Nat → Env) (Hh : Nat → H), E 0 = e ∧ Hh 0 = h ∧ E k = e' ∧ Hh k = h' ∧ ∀ j, j < k → ∃ o, ops[i + j]? = some o ∧ FStep P call lo old nt st ops o (E j) (Hh j) (E (j + 1)) (Hh (j + 1))
  | 0, i, e, e', h, h', hr, _ => by cases hr; exact ⟨fun _ => e, fun _ => h, rfl, rfl, rfl, rfl, fun j hj => by omega⟩
  | k + 1, i, e, e', h, h', hr, hle => by
    have hlt : i < ops.size := by omega
    have hdrop : ops.toList.drop i = ops[i] :: ops.toList.drop (i + 1) := by
      rw [List.drop_eq_getElem_cons (by simpa using hlt)]
      simp
    rw [hdrop] at hr
    have hoi : ops[i]? = some ops[i] := by simp [hlt]
    have step : ∀ e1 h1, FStep P call lo old nt st ops ops[i] e h e1 h1 → runFront P call lo old nt st ops k (ops.toList.drop (i + 1)) e1 h1 = some (e', h') →
        ∃ (E : Nat → Env) (Hh : Nat → H), E 0 = e ∧ Hh 0 = h ∧ E (k + 1) = e' ∧ Hh (k + 1) = h' ∧ ∀ j, j < k + 1 → ∃ o, ops[i + j]? = some o ∧ FStep P call lo old nt st ops o (E j) (Hh j) (E (j + 1)) (Hh (j + 1)) := by
      intro e1 h1 hs hr1
      obtain ⟨E, Hh, e0, hh0, ek, hhk, hst⟩ := front_trace hr1 (by omega)
      refine ⟨fun j => match j with | 0 => e | j + 1 => E j, fun j => match j with | 0 => h | j + 1 => Hh j, rfl, rfl, ek, hhk, fun j hj => ?_⟩
      cases j with
      | zero => exact ⟨ops[i], by simp, by simp only [e0, hh0]; exact hs⟩
      | succ j =>
        obtain ⟨o, ho, hf⟩ := hst j (by omega)
        exact ⟨o, by rw [← ho]; congr 1; omega, hf⟩
    unfold runFront at hr
    split at hr
    · rename_i hw
      split at hr
      · rename_i v h1 ha
        split at hr
        · rename_i e1 hp
          refine step e1 h1 ?_ hr
          unfold frontOp at ha
          split at ha
          · rename_i hv
            split at ha
            · rename_i he
              exact .heavy v hw hv he ha hp
            · cases ha
          · rename_i hv
            cases hl : lightOp P (rdOf st old h) e ops[i].op with
            | none => rw [hl] at ha; cases ha
            | some r => rw [hl] at ha; exact .light v r hw (by simpa using hv) hl ha hp
        · cases hr
      · cases hr
    · rename_i hw
      split at hr
      · rename_i e1 hp
        exact step e1 h (.skip (by simpa using hw) hp rfl) hr
      · cases hr

theorem appendV_cases {lo : Nat} {ts : List TypeId} {s x v : V} (ha : appendV P lo ts s x h = some (v, h')) :
    h' = h ∨ (∃ l, h' = h.alloc l) ∨ ∃ b o n c es cs f low l, s = .sl b o n c es ∧ c ≠ some 0 ∧ h.owned lo b = some (cs, f, low) ∧ h' = h.more f (if o + n * es = cs.length then low else h.next) l := by
  have hfo : ∀ {c : Option Nat} {k m : Nat}, ¬ m = 0 → ¬ forced c (k + m) = true → c ≠ some 0 := by
    intro c k m hm hf e
    subst e
    exact hf (by simp [forced]; omega)
  unfold appendV at ha
  repeat' (split at ha)
  all_goals first
    | (cases ha; done)
    | (cases ha; first
        | exact .inl rfl
        | exact .inr (.inl ⟨_, rfl⟩)
        | exact .inr (.inr ⟨_, _, _, _, _, _, _, _, _, rfl, hfo ‹_› ‹_›, ‹_›, rfl⟩)
        | exact .inr (.inr ⟨_, _, _, _, _, _, _, _, _, rfl, hfo ‹_› ‹_›, ‹_›, congrArg (fun z => H.more _ _ z _) (if_pos ‹_›).symm⟩)
        | exact .inr (.inr ⟨_, _, _, _, _, _, _, _, _, rfl, hfo ‹_› ‹_›, ‹_›, congrArg (fun z => H.more _ _ z _) (if_neg ‹_›).symm⟩))

theorem read_eq_of {b : Nat} (wf : HWF h) (hg : h'.get b = h.get b) (hf : ∀ f, f ≤ b → h'.fam f = h.fam f) : h'.read b = h.read b := by
  unfold H.read
  rw [hg]
  split
  · rfl
  · rename_i l f hgb
    rw [hf f (wf.fam _ _ _ hgb).1]
  · rfl
theorem read_put_eq {b f low c : Nat} {l l' : List V} (hg : h.get b = some (.cells l (some f))) (hne : c ≠ b) (hfc : h.famOf c ≠ some f) : (h.put b f l').read c = h.read c := by
  unfold H.read
  rw [get_put, if_neg hne]
  split
  · rfl
  · rename_i l2 f2 hg2
    rw [famOf_of hg2] at hfc
    rw [fam_put, if_neg (by simpa using hfc)]
  · rfl
theorem read_more_eq {b f low c : Nat} {l' : List V} (hf : h.fam f = some (b, low)) (hne : c ≠ h.next) : (h.more f low l').read c = h.read c := by
  unfold H.read
  rw [get_more, if_neg hne]
  split
  · rfl
  · rename_i l2 f2 hg2
    by_cases e : f2 = f
    · subst e; rw [fam_more, if_pos rfl, hf]
    · rw [fam_more, if_neg e]
  · rfl

/-- what is read of what was there stands as it stood -/
theorem fstep_rd {call : CallFn} (hcg : CallGood call) {lo old nt : Nat} {st : Bool} {ops : Array Oper} {o : Oper} {e e' : Env} (hs : FStep P call lo old nt st ops o e h e' h') (wf : HWF h) (hlo : lo ≤ old) (hold : old ≤ h.next)
    (hst : isStore o.op = true → st = true) (b : Nat) (hb : b < h.next) : rdOf st old h' b = rdOf st old h b := by
  have halloc : ∀ l, rdOf st old (h.alloc l) b = rdOf st old h b := by
    intro l
    unfold rdOf
    simp only [read_alloc wf, if_neg (show ¬ b = h.next from by omega)]
  have hkeep : ∀ {r : Option LR} {v : V}, keep h r = some (v, h') → rdOf st old h' b = rdOf st old h b := by
    intro r v hk
    unfold keep at hk
    split at hk
    · cases hk; rfl
    · cases hk; exact halloc _
    · cases hk
  cases hs with
  | skip hw hp hh => rw [hh]
  | light v r hw hv hl hk hp => exact hkeep hk
  | heavy v hw hv he ha hp =>
    generalize hop : o.op = op at *
    cases op
    case store t x y =>
      have hst' := hst rfl
      subst hst'
      simp only [aop, barrier] at ha
      split at ha
      · split at ha
        · rename_i h1 hsto
          cases ha
          unfold storeV at hsto
          split at hsto
          · split at hsto
            · rename_i cs f low hown
              split at hsto
              · split at hsto
                · cases hsto
                  obtain ⟨hg, hf, hlob⟩ := owned_some hown
                  have hlof := owned_fam hown
                  unfold rdOf
                  by_cases hbo : old ≤ b
                  · simp [hbo]
                  · simp only [hbo, decide_false, Bool.and_false, Bool.false_eq_true, if_false]
                    refine read_put_eq (low := low) hg (by omega) fun hfb => ?_
                    unfold H.famOf at hfb
                    split at hfb
                    · rename_i l2 f2 hg2
                      subst hfb
                      have := (wf.fam _ _ _ hg2).1
                      omega
                    · cases hfb
                · cases hsto
              · cases hsto
            · cases hsto
          · cases hsto
        · cases ha
      · cases ha
    case convert s d x =>
      simp only [aop] at ha
      split at ha
      · split at ha
        · unfold markV at ha
          repeat' (split at ha)
          all_goals first | (cases ha; done) | (cases ha; rfl)
        · cases ha
      · exact hkeep ha
    case call c =>
      obtain ⟨cal, args, ats⟩ := c
      cases cal with
      | invoke x m => cases hv
      | value f =>
        simp only [aop, barrier] at ha
        split at ha
        · have g := hcg _ _ _ _ _ _ ha (Nat.le_refl _)
          unfold rdOf
          rw [read_eq_of wf (g.get b hb) fun f hf => g.fam f (by omega)]
        · cases ha
      | builtin bi =>
        cases bi
        case append =>
          simp only [aop, barrier] at ha
          split at ha
          · rename_i sv x hev
            rcases appendV_cases ha with rfl | ⟨l, rfl⟩ | ⟨b0, o0, n0, c0, es0, cs, f, low, l, rfl, hc00, hown, rfl⟩
            · rfl
            · exact halloc l
            · obtain ⟨hg, hf, _⟩ := owned_some hown
              have hrd := owned_read wf hown
              -- the append stands at the block's own end
              have hend : o0 + n0 * es0 = cs.length := by
                unfold atEnd at he
                simp only at he
                split at he
                · rename_i x0 r0 hargs
                  have hx0 : ev e x0 = some (.sl b0 o0 n0 c0 es0) := by
                    unfold evs at hev
                    rw [hargs] at hev
                    unfold omap at hev
                    split at hev
                    · rename_i y hy
                      split at hev
                      · cases hev; exact hy
                      · cases hev
                    · cases hev
                  rw [hx0] at he
                  simp only [hrd, decide_eq_true_eq] at he
                  exact he
                · rename_i hargs
                  unfold evs at hev
                  rw [hargs] at hev
                  cases hev
              rw [if_pos hend]
              unfold rdOf
              rw [read_more_eq hf (by omega)]
          · cases ha
        all_goals (cases hv)
    all_goals (cases hv)

/-- what nobody can name yet stays untouched -/
theorem fstep_far {call : CallFn} (hcg : CallGood call) {φ : Phi} {lo old nt : Nat} {st : Bool} {ops : Array Oper} {o : Oper} {e e' es : Env} (hs : FStep P call lo old nt st ops o e h e' h') (hag : ∀ x ∈ o.op.operands.toList, ev es x = ev e x)
    {a : Act} (her : ER φ es a.tmps) {b : Nat} (hb : b < h.next) (hφ : φ b = none) (hfb : h.fam b = some (b, b)) : h'.get b = h.get b ∧ h'.fam b = h.fam b := by
  have hne : ∀ {x : Operand} {v : V}, x ∈ o.op.operands.toList → ev e x = some v → VR φ v (a.eval x) := fun hm hv => ev_rel her ((hag _ hm).trans hv)
  have halloc : ∀ l, (h.alloc l).get b = h.get b ∧ (h.alloc l).fam b = h.fam b := fun l => ⟨by rw [get_alloc, if_neg (by omega)], by rw [fam_alloc, if_neg (by omega)]⟩
  have hkeep : ∀ {r : Option LR} {v : V}, keep h r = some (v, h') → h'.get b = h.get b ∧ h'.fam b = h.fam b := by
    intro r v hk
    unfold keep at hk
    split at hk
    · cases hk; exact ⟨rfl, rfl⟩
    · cases hk; exact halloc _
    · cases hk
  cases hs with
  | skip hw hp hh => rw [hh]; exact ⟨rfl, rfl⟩
  | light v r hw hv hl hk hp => exact hkeep hk
  | heavy v hw hv he ha hp =>
    generalize hop : o.op = op at *
    cases op
    case store t x y =>
      simp only [aop] at ha
      split at ha
      · rename_i vx vy hx hy
        split at ha
        · rename_i h1 hsto
          cases ha
          have hvx := hne (x := x) (by simp [Op.operands]) hx
          unfold storeV at hsto
          split at hsto
          · rename_i b0 o0
            generalize a.eval x = x' at hvx
            cases hvx with
            | ptr hb0 =>
            split at hsto
            · rename_i cs f low hown
              split at hsto
              · split at hsto
                · cases hsto
                  obtain ⟨hg, hf, _⟩ := owned_some hown
                  have hbb : b ≠ b0 := fun e => by subst e; rw [hφ] at hb0; cases hb0
                  refine ⟨by rw [get_put, if_neg hbb], ?_⟩
                  rw [fam_put, if_neg]
                  intro e
                  subst e
                  rw [hf] at hfb
                  cases hfb
                  exact hbb rfl
                · cases hsto
              · cases hsto
            · cases hsto
          · cases hsto
        · cases ha
      · cases ha
    case convert s d x =>
      simp only [aop] at ha
      split at ha
      · split at ha
        · unfold markV at ha
          repeat' (split at ha)
          all_goals first | (cases ha; done) | (cases ha; exact ⟨rfl, rfl⟩)
        · cases ha
      · exact hkeep ha
    case call c =>
      obtain ⟨cal, args, ats⟩ := c
      cases cal with
      | invoke x m => cases hv
      | value f =>
        simp only [aop, barrier] at ha
        split at ha
        · have g := hcg _ _ _ _ _ _ ha (Nat.le_refl _)
          exact ⟨g.get b hb, g.fam b hb⟩
        · cases ha
      | builtin bi =>
        cases bi
        case append =>
          simp only [aop] at ha
          split at ha
          · rename_i sv x hev
            rcases appendV_cases ha with rfl | ⟨l, rfl⟩ | ⟨b0, o0, n0, c0, es0, cs, f, low, l, rfl, hc00, hown, rfl⟩
            · exact ⟨rfl, rfl⟩
            · exact halloc l
            · obtain ⟨hg, hf, _⟩ := owned_some hown
              obtain ⟨x0, hm0, hx0⟩ : ∃ x0, x0 ∈ args.toList ∧ ev e x0 = some (.sl b0 o0 n0 c0 es0) := by
                unfold evs at hev
                cases hargs : args.toList with
                | nil => rw [hargs] at hev; cases hev
                | cons x0 r0 =>
                  rw [hargs] at hev
                  unfold omap at hev
                  split at hev
                  · rename_i y hy
                    split at hev
                    · cases hev; exact ⟨x0, by simp, hy⟩
                    · cases hev
                  · cases hev
              have hvx := hne (x := x0) (by simp [Op.operands, Call.operands]; simpa using hm0) hx0
              generalize a.eval x0 = x' at hvx
              cases hvx with
              | sl hb0 _ _ _ _ =>
              have hb0 := hb0.resolve_right (fun e => hc00 e.2)
              have hbb : b ≠ b0 := fun e => by subst e; rw [hφ] at hb0; cases hb0
              refine ⟨by rw [get_more, if_neg (by omega)], ?_⟩
              rw [fam_more, if_neg]
              intro e
              subst e
              rw [hf] at hfb
              cases hfb
              exact hbb rfl
          · cases ha
        all_goals (cases hv)
    all_goals (cases hv)
end Go.Den
/- A region whose order is open, the end: whatever order is drawn. -/
namespace Go.Den
open Go
variable {P : Program}

theorem sim_more_blocks {φ : Phi} {h : H} {w : World} (s : Sim φ h w) {l : List V} (hb : φ h.next = none ∨ ∃ x, φ h.next = some x ∧ Cells φ w x l ∧ Clear w x.1 ∧ ∀ c y, c ≠ h.next → φ c = some y → y.1 ≠ x.1) : Sim φ (h.alloc l) w := by
  refine ⟨fun b x l' hx hr => ?_, fun b1 b2 x1 x2 l1 l2 hlt h1 h2 hr1 hr2 he => ?_, s.wf.alloc l, s.bnd, fun b x l' f hx hg => ?_, s.gl⟩
  · rw [read_alloc s.wf] at hr
    by_cases hbn : b = h.next
    · rw [if_pos hbn] at hr
      cases hr
      rw [hbn] at hx
      rcases hb with hn | ⟨y, hy, hc, _, _⟩
      · rw [hn] at hx; cases hx
      · rw [hy] at hx; cases hx; exact hc
    · rw [if_neg hbn] at hr; exact s.at_ _ _ _ hx hr
  · rw [read_alloc s.wf] at hr1 hr2
    by_cases hn1 : b1 = h.next
    · exfalso
      rcases hb with hn | ⟨y, hy, _, _, hu⟩
      · rw [hn1, hn] at h1; cases h1
      · rw [hn1, hy] at h1; cases h1
        exact hu b2 x2 (by omega) h2 he.symm
    · by_cases hn2 : b2 = h.next
      · exfalso
        rcases hb with hn | ⟨y, hy, _, _, hu⟩
        · rw [hn2, hn] at h2; cases h2
        · rw [hn2, hy] at h2; cases h2
          exact hu b1 x1 (by omega) h1 he
      · rw [if_neg hn1] at hr1
        rw [if_neg hn2] at hr2
        have e : ∀ b, b ≠ h.next → (h.alloc l).famOf b = h.famOf b := fun b hb => by unfold H.famOf; rw [get_alloc, if_neg hb]
        rw [e _ hn1, e _ hn2]
        exact s.sep _ _ _ _ _ _ hlt h1 h2 hr1 hr2 he
  · rw [get_alloc] at hg
    by_cases hbn : b = h.next
    · rw [hbn] at hx
      rcases hb with hn | ⟨y, hy, _, hcl, _⟩
      · rw [hn] at hx; cases hx
      · rw [hy] at hx; cases hx; exact hcl
    · rw [if_neg hbn] at hg; exact s.frz _ _ _ _ hx hg
/-- a block that was there for the text's order alone comes to be -/
theorem sim_born {φ : Phi} {h : H} {w w' : World} (s : Sim φ h w) {b : Nat} (hn : φ b = none) {x : Nat × Nat × Nat} (hx : x.1 = w.heap.size) {o : Go.Obj} (hw : w'.heap = w.heap.push o)
    (hc : ∀ l, h.read b = some l → Cells (φ.with b x) w' x l) (hclr : Clear w' x.1) : Sim (φ.with b x) h w' := by
  have hle : φ.le (φ.with b x) := Phi.le_with hn
  refine ⟨fun c y l hy hr => ?_, fun b1 b2 x1 x2 l1 l2 hlt h1 h2 hr1 hr2 he => ?_, s.wf, fun c y hy => ?_, fun c y l f hy hg => ?_, s.gl.mono hle⟩
  · by_cases hcb : c = b
    · subst hcb; rw [Phi.with_at] at hy; cases hy; exact hc l hr
    · rw [Phi.with_ne _ _ hcb] at hy
      have h1 := s.at_ _ _ _ hy hr
      exact h1.mono hle (heap_push_old hw h1.lt)
  · by_cases e1 : b1 = b
    · exfalso
      subst e1
      rw [Phi.with_at] at h1; cases h1
      rw [Phi.with_ne _ _ (by omega)] at h2
      have := (s.at_ _ _ _ h2 hr2).lt
      omega
    · by_cases e2 : b2 = b
      · exfalso
        subst e2
        rw [Phi.with_at] at h2; cases h2
        rw [Phi.with_ne _ _ e1] at h1
        have := (s.at_ _ _ _ h1 hr1).lt
        omega
      · rw [Phi.with_ne _ _ e1] at h1
        rw [Phi.with_ne _ _ e2] at h2
        exact s.sep _ _ _ _ _ _ hlt h1 h2 hr1 hr2 he
  · have hs : w'.heap.size = w.heap.size + 1 := by rw [hw]; simp
    by_cases hcb : c = b
    · rw [hcb, Phi.with_at] at hy; cases hy; omega
    · rw [Phi.with_ne _ _ hcb] at hy; have := s.bnd _ _ hy; omega
  · by_cases hcb : c = b
    · rw [hcb, Phi.with_at] at hy; cases hy; exact hclr
    · rw [Phi.with_ne _ _ hcb] at hy; exact (s.frz _ _ _ _ hy hg).mono (heap_push_old hw (s.bnd _ _ hy))

structure Setup (P : Program) (call : CallFn) (lo nt k : Nat) (st : Bool) (ops : Array Oper) (E : Nat → Env) (Hh : Nat → H) (φ0 : Phi) (w0 : World) : Prop where
  hnm : NameOk P
  hcs : CallSim P call
  hcg : CallGood call
  step : ∀ j, j < k → ∃ o, ops[j]? = some o ∧ FStep P call lo (Hh 0).next nt st ops o (E j) (Hh j) (E (j + 1)) (Hh (j + 1))
  pairs : ∀ i j oi oj, i < j → j < k → ops[i]? = some oi → ops[j]? = some oj → ((befs [] ops.toList).getD j 0).testBit i = true ∨ apartOk ops oi oj = true
  store : ∀ j o, j < k → ops[j]? = some o → isStore o.op = true → st = true
  kle : k ≤ ops.size
  lo : lo ≤ (Hh 0).next
  wf : HWF (Hh 0)
  free : FreeIn φ0 (Hh 0).next (Hh k).next

/-- is the operation at j a heavy one that runs? -/
def HV (ops : Array Oper) (k : Nat) (E : Nat → Env) (j : Nat) : Prop := j < k ∧ ∃ o, ops[j]? = some o ∧ heavy o.op = true ∧ wantedV ops (E j) o = true

section
variable {call : CallFn} {lo nt k : Nat} {st : Bool} {ops : Array Oper} {E : Nat → Env} {Hh : Nat → H} {φ0 : Phi} {w0 : World}
theorem Setup.good (S : Setup P call lo nt k st ops E Hh φ0 w0) {j : Nat} (hj : j < k) (hold : (Hh 0).next ≤ (Hh j).next) : Good lo (Hh j) (Hh (j + 1)) := by
  obtain ⟨o, ho, hs⟩ := S.step j hj
  cases hs with
  | skip hw hp hh => rw [hh]; exact Good.refl _ _
  | light v r hw hv hl hk hp => exact keep_good (by have := S.lo; omega) hk
  | heavy v hw hv he ha hp =>
    have hb : lo ≤ barrier lo (Hh 0).next (Hh j) o.op ∧ barrier lo (Hh 0).next (Hh j) o.op ≤ (Hh j).next := by have := S.lo; unfold barrier; split <;> omega
    exact (aop_good S.hcg hb.2 ha).lower hb.1
theorem Setup.goodTo (S : Setup P call lo nt k st ops E Hh φ0 w0) : ∀ {i d : Nat}, i + d ≤ k → Good lo (Hh 0) (Hh i) → Good lo (Hh i) (Hh (i + d))
  | i, 0, _, _ => Good.refl _ _
  | i, d + 1, hle, g => by
    have g1 := S.goodTo (i := i) (d := d) (by omega) g
    exact g1.trans (S.good (by omega) (g.trans g1).next)
theorem Setup.from0 (S : Setup P call lo nt k st ops E Hh φ0 w0) {j : Nat} (hj : j ≤ k) : Good lo (Hh 0) (Hh j) := by
  have := S.goodTo (i := 0) (d := j) (by omega) (Good.refl _ _)
  rwa [Nat.zero_add] at this
theorem Setup.between (S : Setup P call lo nt k st ops E Hh φ0 w0) {i j : Nat} (hij : i ≤ j) (hj : j ≤ k) : Good lo (Hh i) (Hh j) := by
  have := S.goodTo (i := i) (d := j - i) (by omega) (S.from0 (by omega))
  rwa [show i + (j - i) = j from by omega] at this
theorem Setup.wfAt (S : Setup P call lo nt k st ops E Hh φ0 w0) {j : Nat} (hj : j ≤ k) : HWF (Hh j) := (S.from0 hj).wf S.wf
theorem Setup.rd (S : Setup P call lo nt k st ops E Hh φ0 w0) : ∀ {i d : Nat}, i + d ≤ k → ∀ b, b < (Hh i).next → rdOf st (Hh 0).next (Hh (i + d)) b = rdOf st (Hh 0).next (Hh i) b
  | i, 0, _, b, _ => rfl
  | i, d + 1, hle, b, hb => by
    have h1 := S.rd (i := i) (d := d) (by omega) b hb
    obtain ⟨o, ho, hs⟩ := S.step (i + d) (by omega)
    have h2 := fstep_rd S.hcg hs (S.wfAt (by omega)) S.lo (S.from0 (by omega)).next (S.store _ _ (by omega) ho) b (by have := (S.between (i := i) (j := i + d) (by omega) (by omega)).next; omega)
    exact h2.trans h1
/-- a step that is no heavy one makes nothing, or a block -/
theorem Setup.lightStep (S : Setup P call lo nt k st ops E Hh φ0 w0) {j : Nat} (hj : j < k) (hv : ¬ HV ops k E j) : Hh (j + 1) = Hh j ∨ ∃ l, Hh (j + 1) = (Hh j).alloc l := by
  obtain ⟨o, ho, hs⟩ := S.step j hj
  cases hs with
  | skip hw hp hh => exact .inl hh
  | light v r hw hv' hl hk hp =>
    unfold keep at hk
    split at hk
    · injection hk with hk; injection hk with _ h2; exact .inl h2.symm
    · rename_i l kk he
      have hk' : (kk.at (Hh j).next, (Hh j).alloc l) = (v, Hh (j + 1)) := by injection hk
      injection hk' with _ h2
      exact .inr ⟨l, h2.symm⟩
    · cases hk
  | heavy v hw hv' he ha hp => exact absurd ⟨hj, o, ho, hv', hw⟩ hv
/-- a slot that nothing writes between two places -/
theorem Setup.envSame (S : Setup P call lo nt k st ops E Hh φ0 w0) {t : Nat} : ∀ {p d : Nat}, p + d ≤ k → (∀ i o, p ≤ i → i < p + d → ops[i]? = some o → o.dst ≠ some t) → (E (p + d)).at t = (E p).at t
  | p, 0, _, _ => rfl
  | p, d + 1, hle, hno => by
    have h1 := S.envSame (t := t) (p := p) (d := d) (by omega) (fun i o h1 h2 h3 => hno i o h1 (by omega) h3)
    obtain ⟨o, ho, hs⟩ := S.step (p + d) (by omega)
    have hd := hno (p + d) o (by omega) (by omega) ho
    have key : ∀ v, put nt o.dst v (E (p + d)) = some (E (p + d + 1)) → (E (p + d + 1)).at t = (E (p + d)).at t := by
      intro v hp
      unfold put at hp
      split at hp
      · injection hp with hp; rw [hp]
      · rename_i t' ht'
        split at hp
        · injection hp with hp
          rw [← hp, Env.at_set, if_neg (fun e => hd (by rw [ht', e]))]
        · cases hp
    have : (E (p + d + 1)).at t = (E (p + d)).at t := by
      cases hs with
      | skip hw hp hh => exact key _ hp
      | light v r hw hv hl hk hp => exact key _ hp
      | heavy v hw hv he ha hp => exact key _ hp
    exact this.trans h1
theorem Setup.free' (S : Setup P call lo nt k st ops E Hh φ0 w0) {b : Nat} (h1 : (Hh 0).next ≤ b) {j : Nat} (hj : j ≤ k) (h2 : b < (Hh j).next) : φ0 b = none :=
  S.free b h1 (by have := (S.between hj (Nat.le_refl k)).next; omega)

structure Inv (S : Setup P call lo nt k st ops E Hh φ0 w0) (ds : List Deferred) (D : Nat → Prop) (a : Act) (w : World) (φ : Phi) (es : Env) (J : Nat) : Prop where
  closed : Closed ops D
  front : ∀ i, D i → i < k
  er : ER φ es a.tmps
  tsz : a.tmps.size = nt
  dfr : a.defers = ds
  env : ∀ t j, j ≤ k → (∀ i o, i < k → ops[i]? = some o → o.dst = some t → (D i ↔ i < j)) → es.at t = (E j).at t
  Jle : J ≤ k
  Jlt : ∀ j, j < J → HV ops k E j → D j
  Jat : J = k ∨ (HV ops k E J ∧ ¬ D J)
  Jgt : ∀ j, J < j → HV ops k E j → ¬ D j
  le : φ0.le φ
  dom : ∀ b, φ0 b = none → φ b ≠ none → ∃ i, D i ∧ (Hh i).next ≤ b ∧ b < (Hh (i + 1)).next
  tape : w.tape = w0.tape
  os : w.os = w0.os
  out : w.output = w0.output
  size : w0.heap.size ≤ w.heap.size
  keep : ∀ g, g < w0.heap.size → (∀ b x, lo ≤ b → own (Hh 0) b → φ0 b = some x → x.1 ≠ g) → w.heap[g]? = w0.heap[g]?
  mine : ∀ b x, lo ≤ b → own (Hh J) b → φ b = some x → w0.heap.size ≤ x.1 ∨ ∃ b0 x0, lo ≤ b0 ∧ own (Hh 0) b0 ∧ φ0 b0 = some x0 ∧ x0.1 = x.1
  fresh : ∀ b x, φ0 b = none → φ b = some x → w0.heap.size ≤ x.1 ∨ ∃ b0 x0, lo ≤ b0 ∧ own (Hh 0) b0 ∧ φ0 b0 = some x0 ∧ x0.1 = x.1
  sim : Sim φ (Hh J) w
  ahead : ∀ i l, J ≤ i → i < k → D i → Hh (i + 1) = (Hh i).alloc l → ∃ x, φ (Hh i).next = some x ∧ Cells φ w x l ∧ Clear w x.1 ∧ w0.heap.size ≤ x.1 ∧ ∀ c y, c ≠ (Hh i).next → φ c = some y → y.1 ≠ x.1
  behind : ∀ i l, i < J → ¬ D i → Hh (i + 1) = (Hh i).alloc l → (Hh J).get (Hh i).next = some (.cells l (some (Hh i).next)) ∧ (Hh J).fam (Hh i).next = some ((Hh i).next, (Hh i).next)

/-- an operation may run: what it waits for is done, itself is not -/
structure Ready (ops : Array Oper) (D : Nat → Prop) (i : Nat) (o : Oper) : Prop where
  here : ops[i]? = some o
  undone : ¬ D i
  waits : ∀ e ∈ o.after, Region.binds .any e = true → D e.on

section
variable (S : Setup P call lo nt k st ops E Hh φ0 w0) {ds : List Deferred} {D : Nat → Prop} {a : Act} {w : World} {φ : Phi} {es : Env} {J : Nat}
/-- the slots that a ready operation names hold what they hold in the text's order -/
theorem Inv.named (I : Inv S ds D a w φ es J) {i : Nat} {o : Oper} (hr : Ready ops D i o) (hik : i < k) : ∀ t ∈ names ops o, es.at t = (E i).at t := by
  intro t ht
  refine I.env t i (by omega) fun i' o' hi' ho' hd' => ?_
  rcases Nat.lt_trichotomy i' i with h1 | h1 | h1
  · refine ⟨fun _ => h1, fun _ => ?_⟩
    rcases S.pairs i' i o' o h1 hik ho' hr.here with hb | hb
    · exact done_of_bit I.closed hr.here hr.waits hb
    · exact absurd ht ((apartOk_spec hb).1 t hd')
  · subst h1
    exact ⟨fun h => absurd h hr.undone, fun h => absurd h (Nat.lt_irrefl _)⟩
  · refine ⟨fun h => ?_, fun h => by omega⟩
    exfalso
    rcases S.pairs i i' o o' h1 hi' hr.here ho' with hb | hb
    · exact hr.undone (done_of_bit I.closed ho' (I.closed.dn _ _ h ho') hb)
    · exact absurd ht ((apartOk_spec hb).2.1 t hd')
/-- the frame's env behind one operation more -/
theorem Inv.envNext (I : Inv S ds D a w φ es J) {i : Nat} {o : Oper} (hr : Ready ops D i o) (hik : i < k) {v : V} (hp : put nt o.dst v (E i) = some (E (i + 1))) :
    ∃ es', put nt o.dst v es = some es' ∧ ∀ t j, j ≤ k → (∀ i' o', i' < k → ops[i']? = some o' → o'.dst = some t → ((D i' ∨ i' = i) ↔ i' < j)) → es'.at t = (E j).at t := by
  have hsplit : ∀ t j, (∀ i' o', i' < k → ops[i']? = some o' → o'.dst = some t → ((D i' ∨ i' = i) ↔ i' < j)) → o.dst ≠ some t → ∀ i' o', i' < k → ops[i']? = some o' → o'.dst = some t → (D i' ↔ i' < j) := by
    intro t j hh hne i' o' hi' ho' hd'
    have := hh i' o' hi' ho' hd'
    have hii : i' ≠ i := by
      intro e
      subst e
      rw [hr.here] at ho'
      cases ho'
      exact hne hd'
    constructor
    · exact fun h => this.1 (.inl h)
    · intro h
      rcases this.2 h with h | h
      · exact h
      · exact absurd h hii
  unfold put at hp
  cases hd : o.dst with
  | none =>
    refine ⟨es, by unfold put; rfl, fun t j hj hh => I.env t j hj (hsplit t j hh (by rw [hd]; simp))⟩
  | some t0 =>
    rw [hd] at hp
    simp only at hp
    split at hp
    · rename_i hlt
      injection hp with hp
      refine ⟨es.set t0 v, by unfold put; simp [hlt], fun t j hj hh => ?_⟩
      rw [Env.at_set]
      by_cases ht : t = t0
      · subst ht
        rw [if_pos rfl]
        have hij : i < j := (hh i o hik hr.here hd).1 (.inr rfl)
        have h1 : (E (i + 1)).at t = v := by rw [← hp, Env.at_set, if_pos rfl]
        have h2 := S.envSame (t := t) (p := i + 1) (d := j - (i + 1)) (by omega) (fun i' o' g1 g2 ho' hd' => by
          have hi'k : i' < k := by omega
          rcases (hh i' o' hi'k ho' hd').2 (by omega) with hD | he
          · rcases S.pairs i i' o o' (by omega) hi'k hr.here ho' with hb | hb
            · exact hr.undone (done_of_bit I.closed ho' (I.closed.dn _ _ hD ho') hb)
            · refine (apartOk_spec hb).1 t hd ?_
              unfold names
              simp [hd']
          · omega)
        rw [show i + 1 + (j - (i + 1)) = j from by omega] at h2
        rw [h2, h1]
      · rw [if_neg ht]
        exact I.env t j hj (hsplit t j hh (by rw [hd]; simpa using Ne.symm ht))
    · cases hp
theorem Inv.closedNext (I : Inv S ds D a w φ es J) {i : Nat} {o : Oper} (hr : Ready ops D i o) : Closed ops (fun j => D j ∨ j = i) := by
  refine ⟨fun j hj => ?_, fun j oj hj hoj e he hb => ?_⟩
  · rcases hj with h | rfl
    · exact I.closed.lt _ h
    · exact (Array.getElem?_eq_some_iff.1 hr.here).1
  · rcases hj with h | rfl
    · exact .inl (I.closed.dn _ _ h hoj e he hb)
    · rw [hr.here] at hoj
      cases hoj
      exact .inl (hr.waits e he hb)
/-- what a light operation reads now it reads in the text's order -/
theorem Inv.reads (I : Inv S ds D a w φ es J) {i : Nat} (hik : i < k) : RdSim φ w (rdOf st (Hh 0).next (Hh i)) := by
  intro b x l hx hr
  have hbi : b < (Hh i).next := by
    have hr' : (Hh i).read b = some l := by
      unfold rdOf at hr
      split at hr
      · cases hr
      · exact hr
    rcases read_some hr' with hg | ⟨_, _, _, hg, _⟩ <;> exact (S.wfAt (by omega)).lt _ _ hg
  have hrd : ∀ j, j ≤ k → b < (Hh j).next → rdOf st (Hh 0).next (Hh j) b = some l := by
    intro j hj hbj
    rcases Nat.le_total i j with h1 | h1
    · have := S.rd (i := i) (d := j - i) (by omega) b hbi
      rw [show i + (j - i) = j from by omega] at this
      rw [this, hr]
    · have := S.rd (i := j) (d := i - j) (by omega) b hbj
      rw [show j + (i - j) = i from by omega] at this
      rw [← this, hr]
  have unrd : ∀ {h : H}, rdOf st (Hh 0).next h b = some l → h.read b = some l := by
    intro h h1
    unfold rdOf at h1
    split at h1
    · cases h1
    · exact h1
  rcases Nat.lt_or_ge b (Hh J).next with hbJ | hbJ
  · exact I.sim.at_ _ _ _ hx (unrd (hrd J I.Jle hbJ))
  · have h0 : φ0 b = none := S.free' (by have := (S.from0 I.Jle).next; omega) (by omega) hbi
    obtain ⟨i', hD, g1, g2⟩ := I.dom b h0 (by rw [hx]; simp)
    have hi'k := I.front _ hD
    have hJi : J ≤ i' := by
      rcases Nat.lt_or_ge i' J with h1 | h1
      · have := (S.between (i := i' + 1) (j := J) (by omega) I.Jle).next; omega
      · exact h1
    have hnv : ¬ HV ops k E i' := by
      intro hv
      rcases Nat.lt_or_ge J i' with h1 | h1
      · exact I.Jgt _ h1 hv hD
      · have : i' = J := by omega
        subst this
        rcases I.Jat with h2 | h2
        · omega
        · exact h2.2 hD
    rcases S.lightStep hi'k hnv with he | ⟨l', he⟩
    · rw [he] at g2; omega
    · have hbe : b = (Hh i').next := by rw [he] at g2; have : ((Hh i').alloc l').next = (Hh i').next + 1 := rfl; omega
      obtain ⟨y, hy, hc, _⟩ := I.ahead i' l' hJi hi'k hD he
      rw [← hbe, hx] at hy
      cases hy
      have h3 := unrd (hrd (i' + 1) (by omega) g2)
      rw [he, read_alloc (S.wfAt (by omega)), if_pos hbe] at h3
      cases h3
      exact hc
end
end
end Go.Den
/- A region whose order is open: one step in whatever order, and the whole. -/
namespace Go.Den
open Go
variable {P : Program}
section
variable {call : CallFn} {lo nt k : Nat} {st : Bool} {ops : Array Oper} {E : Nat → Env} {Hh : Nat → H} {φ0 : Phi} {w0 : World}
variable (S : Setup P call lo nt k st ops E Hh φ0 w0) {ds : List Deferred} {D : Nat → Prop} {a : Act} {w : World} {φ : Phi} {es : Env} {J : Nat}

theorem Inv.unborn (I : Inv S ds D a w φ es J) {i b : Nat} (hik : i < k) (hD : ¬ D i) (h1 : (Hh i).next ≤ b) (h2 : b < (Hh (i + 1)).next) : φ b = none := by
  cases hφ : φ b with
  | none => rfl
  | some x =>
    exfalso
    have h0 : φ0 b = none := S.free' (by have := (S.from0 (j := i) (by omega)).next; omega) (by omega) h2
    obtain ⟨i', hD', g1, g2⟩ := I.dom b h0 (by rw [hφ]; simp)
    have hi' := I.front _ hD'
    rcases Nat.lt_trichotomy i' i with h | h | h
    · have := (S.between (i := i' + 1) (j := i) (by omega) (by omega)).next; omega
    · subst h; exact hD hD'
    · have := (S.between (i := i + 1) (j := i') (by omega) (by omega)).next; omega

/-- an operation that tells a value and makes nothing -/
theorem Inv.quiet (I : Inv S ds D a w φ es J) {i : Nat} {o : Oper} (hr : Ready ops D i o) (hik : i < k) {v : V} {v' : Value} (hp : put nt o.dst v (E i) = some (E (i + 1))) (hnv : ¬ HV ops k E i) (hh : Hh (i + 1) = Hh i) (hv : VR φ v v') :
    ∃ es', Inv S ds (fun j => D j ∨ j = i) (a.put o.dst v') w φ es' J := by
  obtain ⟨es', hp', henv⟩ := I.envNext S hr hik hp
  obtain ⟨he1, he2⟩ := put_rel hp' I.er I.tsz hv
  refine ⟨es', ?_⟩
  exact {
    closed := I.closedNext S hr, front := fun j hj => hj.elim (I.front j) (fun e => e ▸ hik), er := he1, tsz := he2, dfr := (put_defers _ _ _).trans I.dfr, env := henv, Jle := I.Jle,
    Jlt := fun j h1 h2 => .inl (I.Jlt j h1 h2), Jat := I.Jat.imp id fun h => ⟨h.1, fun hj => hj.elim h.2 (fun e => hnv (e ▸ h.1))⟩, Jgt := fun j h1 h2 hj => hj.elim (I.Jgt j h1 h2) (fun e => hnv (e ▸ h2)),
    le := I.le, dom := fun b h1 h2 => let ⟨i', g1, g2⟩ := I.dom b h1 h2; ⟨i', .inl g1, g2⟩, tape := I.tape, os := I.os, out := I.out, size := I.size, keep := I.keep, mine := I.mine, fresh := I.fresh, sim := I.sim,
    ahead := fun i' l h1 h2 h3 h4 => h3.elim (fun h3 => I.ahead i' l h1 h2 h3 h4) (fun e => by
      subst e
      rw [hh] at h4
      have := congrArg H.next h4
      have h5 : ((Hh i').alloc l).next = (Hh i').next + 1 := rfl
      omega),
    behind := fun i' l h1 h2 h3 => I.behind i' l h1 (fun h => h2 (.inl h)) h3 }

/-- an operation that makes a block -/
theorem Inv.makes (I : Inv S ds D a w φ es J) {i : Nat} {o : Oper} (hr : Ready ops D i o) (hik : i < k) {v : V} {v' : Value} (hp : put nt o.dst v (E i) = some (E (i + 1))) (hnv : ¬ HV ops k E i) {l : List V} (hh : Hh (i + 1) = (Hh i).alloc l)
    {w' : World} {arr : Array Value} {t : TypeId} {lo0 hi0 : Nat} (hw : w'.heap = w.heap.push (.cells arr t (lo0, hi0))) (ht : w'.tape = w.tape) (hos : w'.os = w.os) (hu : w'.output = w.output)
    (hl : l.length ≤ arr.size) (hf : lo0 = hi0 ∨ arr.size ≤ lo0) (hrr : VRs φ l (arr.toList.take l.length)) (hv : VR (φ.with (Hh i).next (w.heap.size, 0, arr.size)) v v') :
    ∃ es', Inv S ds (fun j => D j ∨ j = i) (a.put o.dst v') w' (φ.with (Hh i).next (w.heap.size, 0, arr.size)) es' J := by
  have hnx : (Hh (i + 1)).next = (Hh i).next + 1 := by rw [hh]; rfl
  have hn : φ (Hh i).next = none := I.unborn S hik hr.undone (Nat.le_refl _) (by omega)
  have hle : φ.le (φ.with (Hh i).next (w.heap.size, 0, arr.size)) := Phi.le_with hn
  obtain ⟨es', hp', henv⟩ := I.envNext S hr hik hp
  obtain ⟨he1, he2⟩ := put_rel hp' (I.er.mono hle) I.tsz hv
  have hs : w'.heap.size = w.heap.size + 1 := by rw [hw]; simp
  have hcells : Cells (φ.with (Hh i).next (w.heap.size, 0, arr.size)) w' (w.heap.size, 0, arr.size) l := ⟨arr, t, lo0, hi0, by rw [hw]; simp, rfl, trivial, by simpa using hl, by simpa using hrr.mono hle⟩
  have hclr : Clear w' w.heap.size := Clear.of (arr := arr) (t := t) (lo := lo0) (hi := hi0) (by rw [hw]; simp) hf
  have h00 : φ0 (Hh i).next = none := S.free' (by have := (S.from0 (j := i) (by omega)).next; omega) (j := i + 1) (by omega) (by omega)
  have hiJ : i ≠ J := by
    intro e
    subst e
    rcases I.Jat with h | h
    · omega
    · exact hnv h.1
  refine ⟨es', ?_⟩
  exact {
    closed := I.closedNext S hr, front := fun j hj => hj.elim (I.front j) (fun e => e ▸ hik), er := he1, tsz := he2, dfr := (put_defers _ _ _).trans I.dfr, env := henv, Jle := I.Jle,
    Jlt := fun j h1 h2 => .inl (I.Jlt j h1 h2), Jat := I.Jat.imp id fun h => ⟨h.1, fun hj => hj.elim h.2 (fun e => hnv (e ▸ h.1))⟩, Jgt := fun j h1 h2 hj => hj.elim (I.Jgt j h1 h2) (fun e => hnv (e ▸ h2)),
    le := I.le.trans hle,
    dom := fun b h1 h2 => by
      by_cases hb : b = (Hh i).next
      · exact ⟨i, .inr rfl, by omega, by omega⟩
      · rw [Phi.with_ne _ _ hb] at h2
        obtain ⟨i', g1, g2⟩ := I.dom b h1 h2
        exact ⟨i', .inl g1, g2⟩
    tape := ht.trans I.tape, os := hos.trans I.os, out := hu.trans I.out, size := by have := I.size; omega
    keep := fun g hg hc => (heap_push_old hw (by have := I.size; omega)).trans (I.keep g hg hc)
    mine := fun b x h1 h2 h3 => by
      by_cases hb : b = (Hh i).next
      · rw [hb, Phi.with_at] at h3; cases h3; exact .inl I.size
      · rw [Phi.with_ne _ _ hb] at h3; exact I.mine b x h1 h2 h3
    fresh := fun b x h1 h2 => by
      by_cases hb : b = (Hh i).next
      · rw [hb, Phi.with_at] at h2; cases h2; exact .inl I.size
      · rw [Phi.with_ne _ _ hb] at h2; exact I.fresh b x h1 h2
    sim := by
      refine sim_born I.sim hn rfl hw (fun l' hr' => ?_) hclr
      rcases Nat.lt_or_ge i J with h1 | h1
      · obtain ⟨g1, g2⟩ := I.behind i l h1 hr.undone hh
        rw [read_fam g1 g2, if_pos (Nat.le_refl _)] at hr'
        cases hr'
        exact hcells
      · exfalso
        have hb : (Hh i).next < (Hh J).next := by rcases read_some hr' with hg | ⟨_, _, _, hg, _⟩ <;> exact (S.wfAt I.Jle).lt _ _ hg
        have := (S.between (i := J) (j := i) h1 (by omega)).next
        omega
    ahead := fun i' l' h1 h2 h3 h4 => by
      rcases h3 with h3 | h3
      · obtain ⟨x, g1, g2, gc, g3, g4⟩ := I.ahead i' l' h1 h2 h3 h4
        refine ⟨x, hle _ _ g1, g2.mono hle (heap_push_old hw g2.lt), gc.mono (heap_push_old hw g2.lt), g3, fun c y hc hy => ?_⟩
        by_cases hcb : c = (Hh i).next
        · rw [hcb, Phi.with_at] at hy
          cases hy
          have := g2.lt
          simp only
          omega
        · rw [Phi.with_ne _ _ hcb] at hy
          exact g4 c y hc hy
      · subst h3
        rw [hh] at h4
        have hll : l' = l := by
          have := congrArg (fun h => H.get h (Hh i').next) h4
          simp only [get_alloc, if_true] at this
          injection this with this
          injection this with this
          exact this.symm
        subst hll
        refine ⟨_, Phi.with_at _ _ _, hcells, hclr, I.size, fun c y hc hy => ?_⟩
        rw [Phi.with_ne _ _ hc] at hy
        have := I.sim.bnd _ _ hy
        simp only
        omega
    behind := fun i' l' h1 h2 h3 => I.behind i' l' h1 (fun h => h2 (.inl h)) h3 }

theorem nextHV (J : Nat) : ∀ d, J + 1 + d = k → ∃ J', J < J' ∧ J' ≤ k ∧ (∀ j, J < j → j < J' → ¬ HV ops k E j) ∧ (J' = k ∨ HV ops k E J')
  | 0, h => ⟨k, by omega, Nat.le_refl _, fun j h1 h2 => by omega, .inl rfl⟩
  | d + 1, h => by
    -- the first heavy one behind J, searched from the front
    have key : ∀ m J1, J < J1 → J1 ≤ k → k - J1 = m → (∀ j, J < j → j < J1 → ¬ HV ops k E j) → ∃ J', J < J' ∧ J' ≤ k ∧ (∀ j, J < j → j < J' → ¬ HV ops k E j) ∧ (J' = k ∨ HV ops k E J') := by
      intro m
      induction m with
      | zero => intro J1 h1 h2 h3 h4; exact ⟨J1, h1, h2, h4, .inl (by omega)⟩
      | succ m ih =>
        intro J1 h1 h2 h3 h4
        by_cases hv : HV ops k E J1
        · exact ⟨J1, h1, h2, h4, .inr hv⟩
        · refine ih (J1 + 1) (by omega) (by omega) (by omega) fun j g1 g2 => ?_
          by_cases hj : j = J1
          · rw [hj]; exact hv
          · exact h4 j g1 (by omega)
    exact key _ (J + 1) (by omega) (by omega) rfl fun j h1 h2 => by omega

/-- between two heavy operations what is there stays as it is -/
theorem Setup.lights (S : Setup P call lo nt k st ops E Hh φ0 w0) : ∀ {i d : Nat}, i + d ≤ k → (∀ j, i ≤ j → j < i + d → ¬ HV ops k E j) → ∀ b, b < (Hh i).next → (Hh (i + d)).get b = (Hh i).get b ∧ (Hh (i + d)).fam b = (Hh i).fam b
  | i, 0, _, _, b, _ => ⟨rfl, rfl⟩
  | i, d + 1, hle, hno, b, hb => by
    obtain ⟨g1, g2⟩ := S.lights (i := i) (d := d) (by omega) (fun j h1 h2 => hno j h1 (by omega)) b hb
    have hn := (S.between (i := i) (j := i + d) (by omega) (by omega)).next
    rcases S.lightStep (j := i + d) (by omega) (hno _ (by omega) (by omega)) with h | ⟨l, h⟩
    · rw [show i + (d + 1) = i + d + 1 from rfl, h]; exact ⟨g1, g2⟩
    · rw [show i + (d + 1) = i + d + 1 from rfl, h, get_alloc, fam_alloc, if_neg (by omega), if_neg (by omega)]; exact ⟨g1, g2⟩

/-- the heavy operation whose turn it is -/
theorem Inv.heavy (I : Inv S ds D a w φ es J) {o : Oper} (hr : Ready ops D J o) (hJk : J < k) {v : V} {v' : Value} (hp : put nt o.dst v (E J) = some (E (J + 1))) (hV : HV ops k E J)
    (hfar : ∀ b, b < (Hh J).next → φ b = none → (Hh J).fam b = some (b, b) → (Hh (J + 1)).get b = (Hh J).get b ∧ (Hh (J + 1)).fam b = (Hh J).fam b)
    {φ1 : Phi} {w1 : World} (x : Ext lo φ (Hh J) w φ1 (Hh (J + 1)) w1) (s1 : Sim φ1 (Hh (J + 1)) w1) (hv : VR φ1 v v') :
    ∃ es' J', Inv S ds (fun j => D j ∨ j = J) (a.put o.dst v') w1 φ1 es' J' := by
  obtain ⟨J', hJ1, hJ2, hno, hJ3⟩ := nextHV (ops := ops) (k := k) (E := E) J (k - (J + 1)) (by omega)
  obtain ⟨es', hp', henv⟩ := I.envNext S hr hJk hp
  obtain ⟨he1, he2⟩ := put_rel hp' (I.er.mono x.le) I.tsz hv
  have hnext : ∀ j, J + 1 ≤ j → j ≤ k → (Hh (J + 1)).next ≤ (Hh j).next := fun j h1 h2 => (S.between h1 h2).next
  have hD' : ∀ j, J < j → HV ops k E j → ¬ (D j ∨ j = J) := fun j h1 h2 hj => hj.elim (I.Jgt j h1 h2) (fun e => by omega)
  -- what was made ahead of its turn stands as it stood
  have hahead : ∀ i l, J < i → i < k → D i → Hh (i + 1) = (Hh i).alloc l → ∃ y, φ1 (Hh i).next = some y ∧ Cells φ1 w1 y l ∧ Clear w1 y.1 ∧ w0.heap.size ≤ y.1 ∧ ∀ c z, c ≠ (Hh i).next → φ1 c = some z → z.1 ≠ y.1 := by
    intro i l h1 h2 h3 h4
    obtain ⟨y, g1, g2, gc, g3, g4⟩ := I.ahead i l (by omega) h2 h3 h4
    have hlt := g2.lt
    have hapart : ∀ b0 x0, own (Hh J) b0 → φ b0 = some x0 → x0.1 ≠ y.1 := by
      intro b0 x0 hb0 hx0
      refine g4 b0 x0 (fun e => ?_) hx0
      obtain ⟨_, _, _, hg, _⟩ := hb0
      have := (S.wfAt I.Jle).lt _ _ hg
      have := hnext i (by omega) (by omega)
      have := (S.between (i := J) (j := J + 1) (by omega) (by omega)).next
      omega
    refine ⟨y, x.le _ _ g1, g2.mono x.le (x.keep _ hlt fun b0 x0 _ hb0 hx0 => hapart b0 x0 hb0 hx0), gc.mono (x.keep _ hlt fun b0 x0 _ hb0 hx0 => hapart b0 x0 hb0 hx0), g3, fun c z hc hz => ?_⟩
    cases hφc : φ c with
    | some z' =>
      have := x.le _ _ hφc
      rw [hz] at this
      cases this
      exact g4 c z hc hφc
    | none =>
      rcases x.fresh c z hφc hz with h | ⟨b0, x0, _, hb0, hx0, he⟩
      · omega
      · rw [← he]; exact hapart b0 x0 hb0 hx0
  have hunborn : ∀ i, J < i → i < k → ¬ D i → ∀ l, Hh (i + 1) = (Hh i).alloc l → φ1 (Hh i).next = none := by
    intro i h1 h2 h3 l h4
    have hnx : (Hh (i + 1)).next = (Hh i).next + 1 := by rw [h4]; rfl
    have h5 := I.unborn S h2 h3 (Nat.le_refl _) (by omega)
    cases hφ : φ1 (Hh i).next with
    | none => rfl
    | some z =>
      have := x.dom _ h5 (by rw [hφ]; simp)
      have := hnext i (by omega) (by omega)
      omega
  have hsim : ∀ d, J + 1 + d ≤ J' → Sim φ1 (Hh (J + 1 + d)) w1 := by
    intro d
    induction d with
    | zero => intro _; exact s1
    | succ d ih =>
      intro hd
      have s2 := ih (by omega)
      rcases S.lightStep (j := J + 1 + d) (by omega) (hno _ (by omega) (by omega)) with h | ⟨l, h⟩
      · rw [show J + 1 + (d + 1) = J + 1 + d + 1 from rfl, h]; exact s2
      · rw [show J + 1 + (d + 1) = J + 1 + d + 1 from rfl, h]
        refine sim_more_blocks s2 ?_
        by_cases hDd : D (J + 1 + d)
        · obtain ⟨y, g1, g2, gc, _, g4⟩ := hahead (J + 1 + d) l (by omega) (by omega) hDd h
          exact .inr ⟨y, g1, g2, gc, g4⟩
        · exact .inl (hunborn _ (by omega) (by omega) hDd l h)
  have hown : ∀ d, J + 1 + d ≤ J' → ∀ b, own (Hh (J + 1 + d)) b → own (Hh (J + 1)) b ∨ ∃ j l, J < j ∧ j < J' ∧ b = (Hh j).next ∧ Hh (j + 1) = (Hh j).alloc l := by
    intro d
    induction d with
    | zero => intro _ b hb; exact .inl hb
    | succ d ih =>
      intro hd b hb
      rcases S.lightStep (j := J + 1 + d) (by omega) (hno _ (by omega) (by omega)) with h | ⟨l, h⟩
      · rw [show J + 1 + (d + 1) = J + 1 + d + 1 from rfl, h] at hb; exact ih (by omega) b hb
      · rw [show J + 1 + (d + 1) = J + 1 + d + 1 from rfl, h] at hb
        rcases own_alloc (S.wfAt (by omega)) hb with h1 | h1
        · exact .inr ⟨J + 1 + d, l, by omega, by omega, h1, h⟩
        · exact ih (by omega) b h1
  have hmineJ : ∀ b y, lo ≤ b → own (Hh (J + 1)) b → φ1 b = some y → w0.heap.size ≤ y.1 ∨ ∃ b0 x0, lo ≤ b0 ∧ own (Hh 0) b0 ∧ φ0 b0 = some x0 ∧ x0.1 = y.1 := by
    intro b y h1 h2 h3
    rcases x.mine b y h1 h2 h3 with h | ⟨b0, x0, g1, g2, g3, g4⟩
    · left; have := I.size; omega
    · rcases I.mine b0 x0 g1 g2 g3 with h | ⟨b1, x1, k1, k2, k3, k4⟩
      · left; omega
      · exact .inr ⟨b1, x1, k1, k2, k3, k4.trans g4⟩
  have eJ : J + 1 + (J' - (J + 1)) = J' := by omega
  refine ⟨es', J', ?_⟩
  exact {
    closed := I.closedNext S hr, front := fun j hj => hj.elim (I.front j) (fun e => e ▸ hJk), er := he1, tsz := he2, dfr := (put_defers _ _ _).trans I.dfr, env := henv, Jle := hJ2,
    Jlt := fun j h1 h2 => by
      rcases Nat.lt_trichotomy j J with h | h | h
      · exact .inl (I.Jlt j h h2)
      · exact .inr h
      · exact absurd h2 (hno j h h1)
    Jat := hJ3.imp id fun h => ⟨h, hD' _ hJ1 h⟩
    Jgt := fun j h1 h2 => hD' j (by omega) h2
    le := I.le.trans x.le
    dom := fun b h1 h2 => by
      by_cases hφ : φ b = none
      · have := x.dom b hφ h2
        exact ⟨J, .inr rfl, this⟩
      · obtain ⟨i', g1, g2⟩ := I.dom b h1 hφ
        exact ⟨i', .inl g1, g2⟩
    tape := x.tape.trans I.tape, os := x.os.trans I.os, out := x.out.trans I.out, size := Nat.le_trans I.size x.size
    keep := fun g hg hc => (x.keep g (by have := I.size; omega) fun b y h1 h2 h3 => by
      rcases I.mine b y h1 h2 h3 with h | ⟨b0, x0, g1, g2, g3, g4⟩
      · omega
      · rw [← g4]; exact hc b0 x0 g1 g2 g3).trans (I.keep g hg hc)
    mine := fun b y h1 h2 h3 => by
      rw [← eJ] at h2
      rcases hown _ (by omega) b h2 with h | ⟨j, l, g1, g2, g3, g4⟩
      · exact hmineJ b y h1 h h3
      · by_cases hDj : D j
        · obtain ⟨z, k1, _, _, k3, _⟩ := hahead j l g1 (by omega) hDj g4
          rw [← g3, h3] at k1
          cases k1
          exact .inl k3
        · have := hunborn j g1 (by omega) hDj l g4
          rw [← g3, h3] at this
          cases this
    fresh := fun b y h1 h2 => by
      cases hφ : φ b with
      | some z =>
        have := x.le _ _ hφ
        rw [h2] at this
        cases this
        exact I.fresh b y h1 hφ
      | none =>
        rcases x.fresh b y hφ h2 with h | ⟨b0, x0, g1, g2, g3, g4⟩
        · left; have := I.size; omega
        · rcases I.mine b0 x0 g1 g2 g3 with h | ⟨b1, x1, k1, k2, k3, k4⟩
          · left; omega
          · exact .inr ⟨b1, x1, k1, k2, k3, k4.trans g4⟩
    sim := by have := hsim (J' - (J + 1)) (by omega); rwa [eJ] at this
    ahead := fun i l h1 h2 h3 h4 => h3.elim (fun h3 => hahead i l (by omega) h2 h3 h4) (fun e => by omega)
    behind := fun i l h1 h2 h3 => by
      have hDi : ¬ D i := fun h => h2 (.inl h)
      have hnx : (Hh (i + 1)).next = (Hh i).next + 1 := by rw [h3]; rfl
      have toJ : ∀ m, m ≤ J' → J + 1 ≤ m → (Hh i).next < (Hh m).next → (Hh m).get (Hh i).next = some (.cells l (some (Hh i).next)) ∧ (Hh m).fam (Hh i).next = some ((Hh i).next, (Hh i).next) →
          (Hh J').get (Hh i).next = some (.cells l (some (Hh i).next)) ∧ (Hh J').fam (Hh i).next = some ((Hh i).next, (Hh i).next) := by
        intro m hm1 hm2 hb hh
        have := S.lights (i := m) (d := J' - m) (by omega) (fun j g1 g2 => hno j (by omega) (by omega)) _ hb
        rw [show m + (J' - m) = J' from by omega] at this
        rw [this.1, this.2]
        exact hh
      rcases Nat.lt_trichotomy i J with h | h | h
      · obtain ⟨g1, g2⟩ := I.behind i l h hDi h3
        have hb : (Hh i).next < (Hh J).next := by have := (S.between (i := i + 1) (j := J) (by omega) I.Jle).next; omega
        obtain ⟨k1, k2⟩ := hfar _ hb (I.unborn S (by omega) hDi (Nat.le_refl _) (by omega)) g2
        refine toJ (J + 1) (by omega) (Nat.le_refl _) (by have := (S.between (i := J) (j := J + 1) (by omega) (by omega)).next; omega) ?_
        rw [k1, k2]
        exact ⟨g1, g2⟩
      · exact absurd (.inr h) h2
      · refine toJ (i + 1) (by omega) (by omega) (by omega) ?_
        rw [h3, get_alloc, fam_alloc, if_pos rfl, if_pos rfl]
        exact ⟨rfl, rfl⟩ }

/-- one step of a front, whichever may run -/
theorem Inv.step (I : Inv S ds D a w φ es J) {i : Nat} {o : Oper} (hr : Ready ops D i o) (hik : i < k) {Q : Exit → Act → World → Prop} {K : Act → World → Prop}
    (hK : ∀ a' w' φ' es' J', Inv S ds (fun j => D j ∨ j = i) a' w' φ' es' J' → K a' w') : wpOp P ops Q i K a w := by
  obtain ⟨o', ho', hs⟩ := S.step i hik
  rw [hr.here] at ho'
  cases ho'
  obtain ⟨hev, hwant⟩ := ev_of_names (I.named S hr hik)
  have hwanted : Region.wanted o (yielded ops a.tmps) = wantedV ops (E i) o := (wanted_rel I.er o).trans hwant
  unfold wpOp
  rw [hr.here]
  simp only [hwanted]
  cases hs with
  | skip hw hp hh =>
    rw [hw]
    simp only [Bool.false_eq_true, if_false]
    obtain ⟨es', I'⟩ := I.quiet S hr hik hp (fun hv => by obtain ⟨_, o2, ho2, _, hw2⟩ := hv; rw [hr.here] at ho2; cases ho2; rw [hw] at hw2; cases hw2) hh VR.undef
    exact hK _ _ _ _ _ I'
  | light v r hw hv hl hk hp =>
    rw [hw]
    simp only [if_true]
    left
    have hnv : ¬ HV ops k E i := fun h => by obtain ⟨_, o2, ho2, hv2, _⟩ := h; rw [hr.here] at ho2; cases ho2; rw [hv] at hv2; cases hv2
    rw [← lightOp_congr hev] at hl
    obtain ⟨v', w', h1, h2⟩ := lightOp_rel (w := w) hl I.er (I.reads S hik)
    unfold Oper.wp
    rw [h1, Oper.upon_value]
    cases h2 with
    | val hvr =>
      have hk2 : some (_, Hh i) = some (v, Hh (i + 1)) := hk
      injection hk2 with hk2
      injection hk2 with e1 e2
      subst e1
      obtain ⟨es', I'⟩ := I.quiet S hr hik hp hnv e2.symm hvr
      exact hK _ _ _ _ _ I'
    | new arr t lo0 hi0 hh ht ho hu hl' hf hrr hkr =>
      rename_i l kk
      have hk2 : some (kk.at (Hh i).next, (Hh i).alloc l) = some (v, Hh (i + 1)) := hk
      injection hk2 with hk2
      injection hk2 with e1 e2
      subst e1
      have hvv : VR (φ.with (Hh i).next (w.heap.size, 0, arr.size)) (kk.at (Hh i).next) v' := by
        cases hkr with
        | ptr => exact .ptr (o := 0) (Phi.with_at _ _ _)
        | sl hn hc h2 => exact .sl (.inl (Phi.with_at _ _ _)) (.inl rfl) hn hc (.inl (by simpa using h2))
      obtain ⟨es', I'⟩ := I.makes S hr hik hp hnv e2.symm hh ht ho hu hl' hf hrr hvv
      exact hK _ _ _ _ _ I'
  | heavy v hw hv he ha hp =>
    rw [hw]
    simp only [if_true]
    left
    have hV : HV ops k E i := ⟨hik, o, hr.here, hv, hw⟩
    have hiJ : i = J := by
      rcases Nat.lt_trichotomy i J with h | h | h
      · exact absurd (I.Jlt i h hV) hr.undone
      · exact h
      · exfalso
        rcases I.Jat with h1 | ⟨h1, h2⟩
        · have := hik; omega
        · obtain ⟨_, oJ, hoJ, hvJ, _⟩ := h1
          rcases S.pairs J i oJ o h hik hoJ hr.here with hb | hb
          · exact h2 (done_of_bit I.closed hr.here hr.waits hb)
          · exact (apartOk_spec hb).2.2 ⟨hvJ, hv⟩
    subst hiJ
    have ha' := ha
    rw [← aop_congr hev] at ha'
    have hold : (Hh 0).next ≤ (Hh i).next := (S.from0 (by omega)).next
    have hb : lo ≤ barrier lo (Hh 0).next (Hh i) o.op ∧ barrier lo (Hh 0).next (Hh i) o.op ≤ (Hh i).next := by have := S.lo; unfold barrier; split <;> omega
    have hfree : FreeIn φ (Hh i).next (Hh (i + 1)).next := fun b h1 h2 => I.unborn S hik hr.undone h1 h2
    refine aop_sim S.hnm S.hcs ha' I.er I.sim hfree hb.2 fun φ1 v' w1 x s1 hvr => ?_
    obtain ⟨es', J', I'⟩ := I.heavy S hr hik hp hV (fun b h1 h2 h3 => fstep_far S.hcg (FStep.heavy (st := st) v hw hv he ha hp) hev I.er h1 h2 h3) (x.lower hb.1 (S.wfAt (by omega))) s1 hvr
    exact hK _ _ _ _ _ I'
end
end Go.Den
/- A region whose order is open: the whole. -/
namespace Go.Den
open Go
variable {P : Program}

theorem edgesOk_spec : ∀ {l : List Oper} {j : Nat}, edgesOk j l = true → ∀ d o, l[d]? = some o → ∀ e ∈ o.after, Region.binds .any e = true → e.on < j + d
  | [], j, _, d, o, ho, _, _, _ => by simp at ho
  | x :: r, j, h, d, o, ho, e, he, hb => by
    unfold edgesOk at h
    rw [Bool.and_eq_true, List.all_eq_true] at h
    cases d with
    | zero =>
      simp at ho
      subst ho
      have := h.1 e (by simpa using he)
      rw [hb] at this
      simpa using this
    | succ d =>
      have := edgesOk_spec h.2 d o (by simpa using ho) e he hb
      omega
theorem anyStore_spec : ∀ {k : Nat} {l : List Oper} {j : Nat} {o : Oper}, j < k → l[j]? = some o → isStore o.op = true → anyStore k l = true
  | 0, _, _, _, h, _, _ => by omega
  | _ + 1, [], _, _, _, ho, _ => by simp at ho
  | k + 1, x :: r, j, o, hj, ho, hs => by
    unfold anyStore
    rw [Bool.or_eq_true]
    cases j with
    | zero => simp at ho; subst ho; exact .inl hs
    | succ j => exact .inr (anyStore_spec (j := j) (by omega) (by simpa using ho) hs)
theorem own_low {lo : Nat} {h h' : H} (g : Good lo h h') (wf : HWF h) {b : Nat} (hb : b < lo) (ho : own h' b) : own h b := by
  obtain ⟨l, f, low, h1, h2⟩ := ho
  rw [g.get b hb] at h1
  have := (wf.fam _ _ _ h1).1
  rw [g.fam f (by omega)] at h2
  exact ⟨l, f, low, h1, h2⟩
/-- the array of what is listed says what is done -/
structure Lst (ops : Array Oper) (listed : Array Bool) (D : Nat → Prop) : Prop where
  size : listed.size = ops.size
  says : ∀ i, i < ops.size → (listed.getD i true = true ↔ D i)
theorem Lst.false {ops : Array Oper} {listed : Array Bool} {D : Nat → Prop} (l : Lst ops listed D) {i : Nat} : listed.getD i false = true ↔ i < ops.size ∧ D i := by
  by_cases hi : i < ops.size
  · have := l.says i hi
    have hs : i < listed.size := by rw [l.size]; exact hi
    simp [hs] at this ⊢
    rw [this]
    exact ⟨fun h => ⟨hi, h⟩, fun h => h.2⟩
  · have hs : ¬ i < listed.size := by rw [l.size]; exact hi
    simp [hs, hi]
theorem Lst.set {ops : Array Oper} {listed : Array Bool} {D : Nat → Prop} (l : Lst ops listed D) (i : Nat) : Lst ops (listed.setIfInBounds i true) (fun j => D j ∨ j = i) := by
  refine ⟨by rw [Array.size_setIfInBounds, l.size], fun j hj => ?_⟩
  by_cases hij : i = j
  · subst hij
    have hs : i < listed.size := by rw [l.size]; exact hj
    simp [hs]
  · rw [getD_set_ne true hij, l.says j hj]
    exact ⟨.inl, fun h => h.elim id fun e => absurd e.symm hij⟩
theorem Lst.ready {ops : Array Oper} {listed : Array Bool} {D : Nat → Prop} (l : Lst ops listed D) (hc : Closed ops D) {i : Nat} : i ∈ Region.ready .any ops listed ↔ ∃ o, Ready ops D i o := by
  rw [mem_ready]
  constructor
  · rintro ⟨h1, o, ho, hw⟩
    have hi := (Array.getElem?_eq_some_iff.1 ho).1
    refine ⟨o, ho, fun hD => ?_, fun e he hb => (l.false.1 (hw e he hb)).2⟩
    rw [(l.says i hi).2 hD] at h1
    cases h1
  · rintro ⟨o, r⟩
    have hi := (Array.getElem?_eq_some_iff.1 r.here).1
    refine ⟨?_, o, r.here, fun e he hb => ?_⟩
    · cases hc : listed.getD i true with
      | false => rfl
      | true => exact absurd ((l.says i hi).1 hc) r.undone
    · have hD := r.waits e he hb
      exact l.false.2 ⟨hc.lt _ hD, hD⟩
def left (ops : Array Oper) (listed : Array Bool) : Nat := (List.range ops.size).countP fun i => !listed.getD i true
theorem countP_lt {p q : Nat → Bool} : ∀ {l : List Nat}, (∀ x ∈ l, q x = true → p x = true) → (∃ x ∈ l, p x = true ∧ q x = false) → l.countP q < l.countP p
  | [], _, ⟨x, hx, _⟩ => by simp at hx
  | y :: r, hi, ⟨x, hx, h1, h2⟩ => by
    have hle : r.countP q ≤ r.countP p := List.countP_mono_left fun x hx => hi x (by simp [hx])
    rw [List.countP_cons, List.countP_cons]
    rcases List.mem_cons.1 hx with rfl | hx
    · simp only [h1, h2, if_true]
      simp
      omega
    · have := countP_lt (l := r) (fun x hx => hi x (by simp [hx])) ⟨x, hx, h1, h2⟩
      have hy := hi y (by simp)
      cases hq : q y
      · simp; omega
      · simp [hy hq]; omega
theorem left_set {ops : Array Oper} {listed : Array Bool} {i : Nat} (hs : listed.size = ops.size) (hi : i < ops.size) (hu : listed.getD i true = false) : left ops (listed.setIfInBounds i true) < left ops listed := by
  unfold left
  refine countP_lt (fun x _ hq => ?_) ⟨i, by simpa using hi, by rw [hu]; rfl, ?_⟩
  · by_cases hx : i = x
    · subst hx
      have hs : i < listed.size := by omega
      simp [hs] at hq
    · rwa [getD_set_ne true hx] at hq
  · have hs : i < listed.size := by omega
    simp [hs]
theorem left_zero {ops : Array Oper} {listed : Array Bool} (h : left ops listed = 0) {i : Nat} (hi : i < ops.size) : listed.getD i true = true := by
  have := List.countP_eq_zero.1 h i (by simpa using hi)
  simpa using this
/-- the first that is not done -/
theorem firstUndone (D : Nat → Prop) : ∀ n, (∀ j, j < n → D j) ∨ ∃ m, m < n ∧ ¬ D m ∧ ∀ j, j < m → D j
  | 0 => .inl fun j hj => by omega
  | n + 1 => by
    rcases firstUndone D n with h | ⟨m, h1, h2, h3⟩
    · by_cases hn : D n
      · left
        intro j hj
        by_cases he : j = n
        · rw [he]; exact hn
        · exact h j (by omega)
      · exact .inr ⟨n, by omega, hn, h⟩
    · exact .inr ⟨m, by omega, h2, h3⟩
theorem someReady {ops : Array Oper} {D : Nat → Prop} (he : edgesOk 0 ops.toList = true) {n : Nat} (hn : n ≤ ops.size) (h : ¬ ∀ j, j < n → D j) : ∃ i o, Ready ops D i o := by
  rcases firstUndone D n with h' | ⟨m, h1, h2, h3⟩
  · exact absurd h' h
  · have hlt : m < ops.size := by omega
    refine ⟨m, ops[m], by simp [hlt], h2, fun e hm hb => h3 _ ?_⟩
    have := edgesOk_spec he m ops[m] (by simp [hlt]) e hm hb
    omega

section
variable {call : CallFn} {lo nt k : Nat} {ops : Array Oper} {Q : Exit → Act → World → Prop}
/-- the tail: each waits for all that stand ahead of it -/
theorem tail_sim (hnm : NameOk P) (hcs : CallSim P call) (hcn : CallNext call) (hedge : edgesOk 0 ops.toList = true) (htail : ∀ m, k ≤ m → m < ops.size → (befs [] ops.toList).getD m 0 = 2 ^ m - 1) :
    ∀ (r : List Oper) (m fuel : Nat) (listed : Array Bool) (D : Nat → Prop) {e e' : Env} {h h' : H}, ops.toList.drop m = r → k ≤ m → m ≤ ops.size → Lst ops listed D → Closed ops D → (∀ i, D i ↔ i < m) → left ops listed ≤ fuel →
    runOps P call lo nt ops r e h = some (e', h') → ∀ {φ : Phi} {w : World} {a : Act}, ER φ e a.tmps → a.tmps.size = nt → Sim φ h w → FreeIn φ h.next h'.next → lo ≤ h.next →
    (∀ φ' a' w', Ext lo φ h w φ' h' w' → Sim φ' h' w' → ER φ' e' a'.tmps → a'.tmps.size = nt → a'.defers = a.defers → Q .normal a' w') → wpAny P .any ops Q fuel listed a w
  | [], m, fuel, listed, D, e, e', h, h', hdr, hkm, hm, hl, hc, hD, hf, hr, φ, w, a, he, hsz, s, hfr, hlo, hQ => by
    have hme : m = ops.size := by
      have := congrArg List.length hdr
      simp at this
      omega
    have hnil : Region.ready .any ops listed = [] := by
      rw [List.eq_nil_iff_forall_not_mem]
      intro i hi
      obtain ⟨o, r⟩ := (hl.ready hc).1 hi
      have := (Array.getElem?_eq_some_iff.1 r.here).1
      exact r.undone ((hD i).2 (by omega))
    cases hr
    have hq := hQ φ a w (Ext.refl _ _ _ _) s he hsz rfl
    cases fuel with
    | zero => exact ⟨hnil, hq⟩
    | succ fuel => exact ⟨fun _ => hq, fun i hi => by rw [hnil] at hi; simp at hi⟩
  | o :: r, m, fuel, listed, D, e, e', h, h', hdr, hkm, hm, hl, hc, hD, hf, hr, φ, w, a, he, hsz, s, hfr, hlo, hQ => by
    have hlt : m < ops.size := by
      have := congrArg List.length hdr
      simp at this
      omega
    have ho : ops[m]? = some o := by
      have := congrArg (fun l => l[0]?) hdr
      simpa using this
    have hdr' : ops.toList.drop (m + 1) = r := by
      have := congrArg List.tail hdr
      simpa using this
    have hmr : Ready ops D m o := ⟨ho, fun h => by have := (hD m).1 h; omega, fun e hm hb => (hD _).2 (by
      have := edgesOk_spec hedge m o (by simpa using ho) e hm hb
      omega)⟩
    have hmem : m ∈ Region.ready .any ops listed := (hl.ready hc).2 ⟨o, hmr⟩
    have hun : listed.getD m true = false := (mem_ready.1 hmem).1
    have hleft := left_set hl.size hlt hun
    cases fuel with
    | zero => omega
    | succ fuel =>
      refine ⟨fun hnil => by rw [hnil] at hmem; simp at hmem, fun i hi => ?_⟩
      have him : i = m := by
        obtain ⟨oi, ri⟩ := (hl.ready hc).1 hi
        have hilt := (Array.getElem?_eq_some_iff.1 ri.here).1
        have him : m ≤ i := by
          rcases Nat.lt_or_ge i m with h1 | h1
          · exact absurd ((hD i).2 h1) ri.undone
          · exact h1
        rcases Nat.lt_or_ge m i with h1 | h1
        · exfalso
          have hb := htail i (by omega) hilt
          refine hmr.undone (done_of_bit hc ri.here ri.waits (i := m) ?_)
          rw [hb, Nat.testBit_two_pow_sub_one]
          simpa using h1
        · omega
      subst him
      have hD' : ∀ j, (D j ∨ j = i) ↔ j < i + 1 := fun j => by rw [hD]; omega
      have hc' : Closed ops (fun j => D j ∨ j = i) := by
        refine ⟨fun j hj => by have := (hD' j).1 hj; omega, fun j oj hj hoj e he hb => ?_⟩
        have h1 := (hD' j).1 hj
        have h2 := edgesOk_spec hedge j oj (by simpa using hoj) e he hb
        exact (hD' _).2 (by omega)
      have hwanted : Region.wanted o (yielded ops a.tmps) = wantedV ops e o := wanted_rel he o
      unfold wpOp
      rw [ho]
      simp only [hwanted]
      unfold runOps at hr
      split at hr
      · rename_i hw
        split at hr
        · rename_i v h1 ha
          split at hr
          · rename_i e1 hp
            rw [hw]
            simp only [if_true]
            left
            have hn2 := runOps_next hcn hr
            refine aop_sim hnm hcs ha he s (FreeIn.left hfr hn2) hlo fun φ1 v' w1 x1 s1 hv => ?_
            obtain ⟨he1, hsz1⟩ := put_rel hp (he.mono x1.le) hsz hv
            have := x1.next
            refine tail_sim hnm hcs hcn hedge htail r (i + 1) fuel _ _ hdr' (by omega) (by omega) (hl.set i) hc' hD' (by omega) hr he1 hsz1 s1 (FreeIn.right x1 hfr) (by omega) fun φ2 a2 w2 x2 s2 he2 hsz2 hd2 => ?_
            exact hQ φ2 a2 w2 (x1.trans x2) s2 he2 hsz2 (hd2.trans (put_defers _ _ _))
          · cases hr
        · cases hr
      · rename_i hw
        split at hr
        · rename_i e1 hp
          rw [if_neg hw]
          obtain ⟨he1, hsz1⟩ := put_rel hp he hsz VR.undef
          refine tail_sim hnm hcs hcn hedge htail r (i + 1) fuel _ _ hdr' (by omega) (by omega) (hl.set i) hc' hD' (by omega) hr he1 hsz1 s hfr hlo fun φ2 a2 w2 x2 s2 he2 hsz2 hd2 => ?_
          exact hQ φ2 a2 w2 x2 s2 he2 hsz2 (hd2.trans (put_defers _ _ _))
        · cases hr

variable {st : Bool} {E : Nat → Env} {Hh : Nat → H} {φ0 : Phi} {w0 : World}
theorem Inv.done (S : Setup P call lo nt k st ops E Hh φ0 w0) {ds : List Deferred} {D : Nat → Prop} {a : Act} {w : World} {φ : Phi} {es : Env} {J : Nat} (I : Inv S ds D a w φ es J) (hall : ∀ i, i < k → D i) :
    ER φ (E k) a.tmps ∧ Sim φ (Hh k) w ∧ Ext lo φ0 (Hh 0) w0 φ (Hh k) w := by
  have hJ : J = k := by
    rcases I.Jat with h | ⟨h1, h2⟩
    · exact h
    · exact absurd (hall _ h1.1) h2
  subst hJ
  have g := S.from0 (Nat.le_refl J)
  refine ⟨⟨I.er.gr, fun t => ?_⟩, I.sim, ?_⟩
  · rw [← I.env t J (Nat.le_refl _) fun i o hi _ _ => ⟨fun _ => hi, fun _ => hall i hi⟩]
    exact I.er.at_ t
  · exact {
      le := I.le
      dom := fun b h1 h2 => by
        obtain ⟨i, hD, g1, g2⟩ := I.dom b h1 h2
        have hi := I.front _ hD
        have k1 := (S.from0 (j := i) (by omega)).next
        have k2 := (S.between (i := i + 1) (j := J) (by omega) (Nat.le_refl _)).next
        omega
      next := g.next
      tape := I.tape, os := I.os, out := I.out, size := I.size, keep := I.keep, mine := I.mine
      low := fun b hb ho => own_low g S.wf hb ho
      fresh := I.fresh }

theorem front_run (S : Setup P call lo nt k st ops E Hh φ0 w0) (hcn : CallNext call) (hedge : edgesOk 0 ops.toList = true) (htail : ∀ m, k ≤ m → m < ops.size → (befs [] ops.toList).getD m 0 = 2 ^ m - 1)
    {e' : Env} {h' : H} (hr : runOps P call lo nt ops (ops.toList.drop k) (E k) (Hh k) = some (e', h')) (hfr : FreeIn φ0 (Hh 0).next h'.next) {ds : List Deferred}
    (hQ : ∀ φ' a' w', Ext lo φ0 (Hh 0) w0 φ' h' w' → Sim φ' h' w' → ER φ' e' a'.tmps → a'.tmps.size = nt → a'.defers = ds → Q .normal a' w') :
    ∀ (fuel : Nat) (listed : Array Bool) (D : Nat → Prop) (a : Act) (w : World) (φ : Phi) (es : Env) (J : Nat), Inv S ds D a w φ es J → Lst ops listed D → left ops listed ≤ fuel → wpAny P .any ops Q fuel listed a w := by
  intro fuel
  induction fuel with
  | zero =>
    intro listed D a w φ es J I hl hf
    have hall : ∀ i, i < k → D i := fun i hi => (hl.says i (by have := S.kle; omega)).1 (left_zero (Nat.le_zero.1 hf) (by have := S.kle; omega))
    obtain ⟨he, s, x⟩ := I.done S hall
    have hD : ∀ i, D i ↔ i < k := fun i => ⟨I.front i, hall i⟩
    have hn := x.next
    exact tail_sim S.hnm S.hcs hcn hedge htail _ k 0 listed D rfl (Nat.le_refl _) S.kle hl I.closed hD hf hr he I.tsz s (FreeIn.right x hfr) (by have := S.lo; omega) fun φ' a' w' x' s' he' hsz' hd' => hQ φ' a' w' (x.trans x') s' he' hsz' (hd'.trans I.dfr)
  | succ fuel ih =>
    intro listed D a w φ es J I hl hf
    by_cases hall : ∀ i, i < k → D i
    · obtain ⟨he, s, x⟩ := I.done S hall
      have hD : ∀ i, D i ↔ i < k := fun i => ⟨I.front i, hall i⟩
      have hn := x.next
      exact tail_sim S.hnm S.hcs hcn hedge htail _ k (fuel + 1) listed D rfl (Nat.le_refl _) S.kle hl I.closed hD hf hr he I.tsz s (FreeIn.right x hfr) (by have := S.lo; omega) fun φ' a' w' x' s' he' hsz' hd' => hQ φ' a' w' (x.trans x') s' he' hsz' (hd'.trans I.dfr)
    · obtain ⟨i0, o0, r0⟩ := someReady hedge S.kle hall
      refine ⟨fun hnil => by have := (hl.ready I.closed).2 ⟨o0, r0⟩; rw [hnil] at this; simp at this, fun i hi => ?_⟩
      obtain ⟨o, r⟩ := (hl.ready I.closed).1 hi
      have hilt := (Array.getElem?_eq_some_iff.1 r.here).1
      have hik : i < k := by
        rcases Nat.lt_or_ge i k with h | h
        · exact h
        · exfalso
          refine hall fun j hj => done_of_bit I.closed r.here r.waits ?_
          rw [htail i h hilt, Nat.testBit_two_pow_sub_one]
          simp
          omega
      refine I.step S r hik fun a' w' φ' es' J' I' => ?_
      exact ih _ _ a' w' φ' es' J' I' (hl.set i) (by have := left_set hl.size hilt (mem_ready.1 hi).1; omega)
end

theorem front_sim (hmix : P.follows .mixedOrders = true) (hnm : NameOk P) : FrontSim P := by
  intro call hcs hcn hcg lo nt ops e h e' h' hr φ w a he hsz s hfr hlo Q hQ id
  unfold runRegion at hr
  rw [if_pos rfl] at hr
  simp only at hr
  split at hr
  · rename_i hok
    rw [Bool.and_eq_true] at hok
    split at hr
    · rename_i ek hk hf
      obtain ⟨hfo, hedge⟩ := hok
      have hkle : tailAt 0 (befs [] ops.toList) ≤ ops.size := by have := frontOk_len hfo; simpa using this
      have hlen : (befs [] ops.toList).length = ops.size := by rw [befs_length]; simp
      have hf' := hf
      rw [show ops.toList = ops.toList.drop 0 from rfl] at hf'
      obtain ⟨E, Hh, hE0, hH0, hEk, hHk, hst⟩ := front_trace (i := 0) (ops := ops) (by simpa using hf) (by omega)
      have hn1 := runFront_next hcn hf
      have hn2 := runOps_next hcn hr
      subst hE0 hH0 hEk hHk
      have S : Setup P call lo nt (tailAt 0 (befs [] ops.toList)) (anyStore (tailAt 0 (befs [] ops.toList)) ops.toList) ops E Hh φ { w with drawn := w.drawn + 1 } := {
        hnm := hnm, hcs := hcs, hcg := hcg, kle := hkle, lo := hlo, wf := s.wf
        step := fun j hj => by have := hst j hj; rwa [Nat.zero_add] at this
        pairs := fun i j oi oj hij hjk hoi hoj => by
          have := (frontOk_spec hfo j oj hjk (by simpa using hoj)).2
          have := pairsOk_spec this i oi (by simpa using hoi) (by omega)
          simpa using this
        store := fun j o hj ho hs => anyStore_spec hj (by simpa using ho) hs
        free := fun b h1 h2 => hfr b h1 (by omega) }
      refine wp_region_any hmix ?_
      have s0 : Sim φ (Hh 0) { w with drawn := w.drawn + 1 } := ⟨s.at_, s.sep, s.wf, s.bnd, s.frz, s.gl⟩
      have hfirst : ∃ J, J ≤ tailAt 0 (befs [] ops.toList) ∧ (∀ j, j < J → ¬ HV ops (tailAt 0 (befs [] ops.toList)) E j) ∧ (J = tailAt 0 (befs [] ops.toList) ∨ HV ops (tailAt 0 (befs [] ops.toList)) E J) := by
        rcases firstUndone (fun j => ¬ HV ops (tailAt 0 (befs [] ops.toList)) E j) (tailAt 0 (befs [] ops.toList)) with h | ⟨m, h1, h2, h3⟩
        · exact ⟨_, Nat.le_refl _, h, .inl rfl⟩
        · exact ⟨m, by omega, h3, .inr (Classical.not_not.1 h2)⟩
      obtain ⟨J, hJ1, hJ2, hJ3⟩ := hfirst
      have hlight : ∀ d, d ≤ J → Sim φ (Hh d) { w with drawn := w.drawn + 1 } ∧ (∀ b, own (Hh d) b → φ b ≠ none → own (Hh 0) b) := by
        intro d
        induction d with
        | zero => intro _; exact ⟨s0, fun b h _ => h⟩
        | succ d ih =>
          intro hd
          obtain ⟨s1, o1⟩ := ih (by omega)
          rcases S.lightStep (j := d) (by omega) (hJ2 _ (by omega)) with hh | ⟨l, hh⟩
          · rw [hh]; exact ⟨s1, o1⟩
          · have hnx : (Hh (d + 1)).next = (Hh d).next + 1 := by rw [hh]; rfl
            have hno : φ (Hh d).next = none := S.free' (by have := (S.from0 (j := d) (by omega)).next; omega) (j := d + 1) (by omega) (by omega)
            rw [hh]
            refine ⟨sim_more_blocks s1 (.inl hno), fun b hb hne => ?_⟩
            rcases own_alloc (S.wfAt (by omega)) hb with h1 | h1
            · rw [h1] at hne; exact absurd hno hne
            · exact o1 b h1 hne
      have I : Inv S a.defers (fun _ => False) a { w with drawn := w.drawn + 1 } φ (E 0) J := {
        closed := ⟨fun i h => h.elim, fun i o h => h.elim⟩, front := fun i h => h.elim, er := he, tsz := hsz, dfr := rfl
        env := fun t j hj hh => by
          have := S.envSame (t := t) (p := 0) (d := j) (by omega) (fun i o _ h2 ho hd => by
            have := (hh i o (by omega) ho hd).2 (by omega)
            exact this)
          rw [Nat.zero_add] at this
          exact this.symm
        Jle := hJ1, Jlt := fun j h1 h2 => hJ2 j h1 h2, Jat := hJ3.imp (fun h => h) fun h => ⟨h, fun hf => hf⟩, Jgt := fun _ _ _ hf => hf
        le := Phi.le.refl _, dom := fun b h1 h2 => absurd h1 h2, tape := rfl, os := rfl, out := rfl, size := Nat.le_refl _, keep := fun _ _ _ => rfl
        mine := fun b x h1 h2 h3 => .inr ⟨b, x, h1, (hlight J (Nat.le_refl _)).2 b h2 (by rw [h3]; simp), h3, rfl⟩
        fresh := fun b x h1 h2 => by rw [h1] at h2; cases h2
        sim := (hlight J (Nat.le_refl _)).1
        ahead := fun _ _ _ _ h => h.elim
        behind := fun i l h1 _ h3 => by
          have hnx : (Hh (i + 1)).next = (Hh i).next + 1 := by rw [h3]; rfl
          have := S.lights (i := i + 1) (d := J - (i + 1)) (by omega) (fun j g1 g2 => hJ2 j (by omega)) (Hh i).next (by omega)
          rw [show i + 1 + (J - (i + 1)) = J from by omega] at this
          rw [this.1, this.2, h3, get_alloc, fam_alloc, if_pos rfl, if_pos rfl]
          exact ⟨rfl, rfl⟩ }
      refine front_run S hcn hedge ?_ hr hfr (ds := a.defers) (fun φ' a' w' x s' he' hsz' hd' => hQ φ' a' w' ⟨x.le, x.dom, x.next, x.tape, x.os, x.out, x.size, x.keep, x.mine, x.low, x.fresh⟩ s' he' hsz' hd') ops.size _ (fun _ => False) a _ φ (E 0) J I ?_ ?_
      · intro m hm hlt
        have h1 := (tailAt_spec (befs [] ops.toList) 0).2 m ((befs [] ops.toList).getD m 0) (by omega) (by
          rw [List.getD_eq_getElem?_getD]
          have : m < (befs [] ops.toList).length := by omega
          simp [this])
        rwa [Nat.zero_add] at h1
      · refine ⟨by simp, fun i hi => ?_⟩
        simp [hi]
      · unfold left
        exact Nat.le_trans List.countP_le_length (by simp)
    · cases hr
  · cases hr
end Go.Den
