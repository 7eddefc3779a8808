/- The machine's code, carried over to the model: blocks, tests, loops, calls. (Regions whose order is open: Front.) -/
import Derived.Test.YtghmbmblhdgabaaGood
import Derived.Tactics
import Derived.LoopN
set_option linter.all false
namespace Go.Den
open Go
variable {P : Program} {φ φ' : Phi} {w w' : World} {h h' : H}

def R.exit : R → Exit
  | .nx => .normal
  | .ex id => .exit id
  | .rt => .ret
/-- a loop ends behind at most n rounds -/
def wpn (P : Program) (n : Nat) (c : Code) (Q : Exit → Act → World → Prop) (a : Act) (w : World) : Prop :=
  match c with
  | .loop b => Code.rounds P b Q n a w
  | c => c.wp P Q a w
theorem wpn_wp {n : Nat} {c : Code} {Q : Exit → Act → World → Prop} {a : Act} {w : World} (h : wpn P n c Q a w) : c.wp P Q a w := by
  unfold wpn at h
  split at h
  · exact wp_loop_rounds n h
  · exact h
def RecSim (P : Program) (n : Nat) (rec : Rec) : Prop :=
  ∀ lo nt c e h r e' h', rec lo nt c e h = some (r, e', h') → ∀ {φ : Phi} {w : World} {a : Act}, ER φ e a.tmps → a.tmps.size = nt → a.defers = [] → Sim φ h w → FreeIn φ h.next h'.next → lo ≤ h.next →
    ∀ {Q : Exit → Act → World → Prop}, (∀ φ' a' w', Ext lo φ h w φ' h' w' → Sim φ' h' w' → ER φ' e' a'.tmps → a'.tmps.size = nt → a'.defers = [] → Q r.exit a' w') → wpn P n c Q a w
def RecNext (rec : Rec) : Prop := ∀ lo nt c e h r e' h', rec lo nt c e h = some (r, e', h') → h.next ≤ h'.next
/-- what is asked of regions whose order is open -/
def FrontSim (P : Program) : Prop :=
  ∀ (call : CallFn), CallSim P call → CallNext call → CallGood call → ∀ lo nt ops e h e' h', runRegion P call lo nt ops true e h = some (e', h') → ∀ {φ : Phi} {w : World} {a : Act}, ER φ e a.tmps → a.tmps.size = nt → Sim φ h w → FreeIn φ h.next h'.next → lo ≤ h.next →
    ∀ {Q : Exit → Act → World → Prop}, (∀ φ' a' w', Ext lo φ h w φ' h' w' → Sim φ' h' w' → ER φ' e' a'.tmps → a'.tmps.size = nt → a'.defers = a.defers → Q .normal a' w') → ∀ id, (Code.region id ops true).wp P Q a w

theorem frontOp_next {call : CallFn} (hc : CallNext call) {lo old : Nat} {st : Bool} {e : Env} {o : Op} {v : V} (ha : frontOp P call lo old st e h o = some (v, h')) : h.next ≤ h'.next := by
  unfold frontOp at ha
  split at ha
  · split at ha
    · exact aop_next hc ha
    · cases ha
  · exact keep_next ha
theorem runFront_next {call : CallFn} (hc : CallNext call) {lo old nt : Nat} {st : Bool} {ops : Array Oper} : ∀ {k : Nat} {l : List Oper} {e e' : Env} {h h' : H}, runFront P call lo old nt st ops k l e h = some (e', h') → h.next ≤ h'.next
  | 0, l, e, e', h, h', hr => by cases hr; exact Nat.le_refl _
  | k + 1, [], e, e', h, h', hr => by cases hr; exact Nat.le_refl _
  | k + 1, o :: r, e, e', h, h', hr => by
    unfold runFront at hr
    split at hr
    · split at hr
      · rename_i v h1 ha
        split at hr
        · exact Nat.le_trans (frontOp_next hc ha) (runFront_next hc hr)
        · cases hr
      · cases hr
    · split at hr
      · exact runFront_next hc hr
      · cases hr
theorem runRegion_next {call : CallFn} (hc : CallNext call) {lo nt : Nat} {ops : Array Oper} {draw : Bool} {e e' : Env} (hr : runRegion P call lo nt ops draw e h = some (e', h')) : h.next ≤ h'.next := by
  unfold runRegion at hr
  split at hr
  · simp only at hr
    split at hr
    · split at hr
      · rename_i e1 h1 hf
        exact Nat.le_trans (runFront_next hc hf) (runOps_next hc hr)
      · cases hr
    · cases hr
  · exact runOps_next hc hr

section
variable {C : Cfg}
def ShortNext (C : Cfg) : Prop := ∀ f g, C.S f = some g → ∀ as lo h v h', g as lo h = some (v, h') → h.next ≤ h'.next
def ShortSim (C : Cfg) : Prop := ∀ f g, C.S f = some g → ∀ as lo h v h', g as lo h = some (v, h') → (∃ fn, C.P.funcs[f]? = some fn ∧ fn.body.isSome = true) ∧
    (lo ≤ h.next → ∀ φ w as', Sim φ h w → FreeIn φ h.next h'.next → VRs φ as as' → Calls C.P f as'.toArray w (CallPost lo φ h w h' v))

theorem callStep_next (hS : ShortNext C) {rec : Rec} (hn : RecNext rec) : CallNext (callStep C rec) := by
  intro f as lo h v h' hc
  unfold callStep at hc
  split at hc
  · rename_i g hg; exact hS _ _ hg _ _ _ _ _ hc
  · split at hc
    · split at hc
      · split at hc
        · split at hc
          · rename_i hr
            rw [Option.map_eq_some_iff] at hc
            obtain ⟨v', _, he⟩ := hc
            cases he
            exact hn _ _ _ _ _ _ _ _ hr
          · rename_i hr
            rw [Option.map_eq_some_iff] at hc
            obtain ⟨v', _, he⟩ := hc
            cases he
            exact hn _ _ _ _ _ _ _ _ hr
          · cases hc
        · cases hc
      · cases hc
    · cases hc
theorem execStep_next (hS : ShortNext C) {rec : Rec} (hn : RecNext rec) : RecNext (execStep C rec) := by
  intro lo nt c e h r e' h' hr
  unfold execStep at hr
  split at hr
  · cases hr; exact Nat.le_refl _
  · cases hr; exact Nat.le_refl _
  · split at hr
    · rename_i hg; cases hr; exact runRegion_next (callStep_next hS hn) hg
    · cases hr
  · split at hr
    · rename_i h1; exact Nat.le_trans (hn _ _ _ _ _ _ _ _ h1) (hn _ _ _ _ _ _ _ _ hr)
    · exact hn _ _ _ _ _ _ _ _ hr
  · split at hr
    · exact hn _ _ _ _ _ _ _ _ hr
    · cases hr
  · split at hr
    · rename_i h1
      split at hr
      · cases hr; exact hn _ _ _ _ _ _ _ _ h1
      · cases hr; exact hn _ _ _ _ _ _ _ _ h1
    · exact hn _ _ _ _ _ _ _ _ hr
  · split at hr
    · rename_i h1; exact Nat.le_trans (hn _ _ _ _ _ _ _ _ h1) (hn _ _ _ _ _ _ _ _ hr)
    · exact hn _ _ _ _ _ _ _ _ hr
  · cases hr; exact Nat.le_refl _
  · cases hr; exact Nat.le_refl _
  · cases hr

theorem mkEnv_at : ∀ (as : List V) (i : Nat) (e : Env) (t : Nat), Env.at (mkEnv i as e) t = if i ≤ t ∧ t < i + as.length then as.getD (t - i) undef else e.at t
  | [], i, e, t => by rw [mkEnv, if_neg (by simp only [List.length_nil]; omega)]
  | v :: r, i, e, t => by
    rw [mkEnv, mkEnv_at r (i + 1)]
    by_cases h1 : i + 1 ≤ t ∧ t < i + 1 + r.length
    · rw [if_pos h1, if_pos (by simp; omega)]
      obtain ⟨k, hk⟩ : ∃ k, t - i = k + 1 := ⟨t - i - 1, by omega⟩
      rw [hk, show t - (i + 1) = k from by omega]
      simp [List.getD]
    · rw [if_neg h1, Env.at_set]
      by_cases h2 : t = i
      · subst h2; rw [if_pos rfl, if_pos (by simp)]; simp [List.getD]
      · rw [if_neg h2, if_neg (by simp; omega)]
theorem mkEnv_rel {as : List V} {as' : List Value} (hr : VRs φ as as') (k : Nat) : ER φ (mkEnv 0 as .nil) (as'.toArray ++ Array.replicate k Go.undef) := by
  intro t
  have hl := hr.length
  rw [mkEnv_at, Array.getD_eq_getD_getElem?]
  by_cases ht : t < as.length
  · rw [if_pos (by omega)]
    obtain ⟨v', h1, h2⟩ := hr.get t _ (List.getElem?_eq_getElem ht)
    rw [Array.getElem?_append_left (by simpa using (by omega : t < as'.length))]
    simp only [List.getElem?_toArray, h1, Option.getD_some, Nat.sub_zero, List.getD, List.getElem?_eq_getElem ht]
    exact h2
  · rw [if_neg (by omega), Env.at_nil, Array.getElem?_append_right (by simpa using (by omega : as'.length ≤ t))]
    have : (((Array.replicate k Go.undef)[t - as'.toArray.size]?).getD Go.undef) = Go.undef := by
      rw [Array.getElem?_replicate]
      split <;> rfl
    rw [this]
    exact VR.undef

def resSem (a : Array Value) : ResultVar → Sem Value
  | .tmp t => pure (a.getD t Go.undef)
  | .cell x t => do loadVar t (← asAddr (a.getD x Go.undef))
theorem results_eq (fn : Func) (a : Array Value) : results fn a = (do let vs ← fn.results.mapM (resSem a); pure (if h : vs.size = 1 then vs[0] else .tuple vs)) := rfl
theorem resV_rel {e : Env} {a : Array Value} (he : ER φ e a) (s : Sim φ h w) {r : ResultVar} {v : V} (hv : resV P e h r = some v) :
    ∃ v', (resSem a r).run P w = .ok v' w ∧ VR φ v v' := by
  cases r with
  | tmp t => simp only [resV] at hv; cases hv; exact ⟨_, rfl, he t⟩
  | cell x t =>
    simp only [resV] at hv
    obtain ⟨v', h1, h2⟩ := loadV_rel hv (w := w) (fun b y l hb hr => s.at_ b y l hb hr) (he x)
    refine ⟨v', ?_, h2⟩
    have hx := he x
    show (do loadVar t (← asAddr (a.getD x Go.undef)) : Sem Value).run P w = _
    generalize a.getD x Go.undef = x' at hx h1 ⊢
    unfold loadV at hv
    split at hv
    · rename_i b o hxo
      rw [hxo] at hx
      cases hx
      simpa [Instr.loadAt, Instr.sureAddr, asAddr] using h1
    · cases hv
theorem omap_res {e : Env} {a : Array Value} (he : ER φ e a) (s : Sim φ h w) : ∀ {l : List ResultVar} {vs : List V}, omap (resV P e h) l = some vs → ∃ vs', (l.mapM (resSem a)).run P w = .ok vs' w ∧ VRs φ vs vs'
  | [], vs, hv => by cases hv; exact ⟨[], rfl, .nil⟩
  | r :: l, vs, hv => by
    unfold omap at hv
    split at hv
    · rename_i y hy
      split at hv
      · rename_i ys hys
        cases hv
        obtain ⟨v', h1, h2⟩ := resV_rel he s hy
        obtain ⟨vs', h3, h4⟩ := omap_res he s hys
        refine ⟨v' :: vs', ?_, .cons h2 h4⟩
        rw [List.mapM_cons]
        simp only [Sem.run_bind, h1, Result.andThen_ok, h3, Sem.run_pure]
      · cases hv
    · cases hv
theorem resultsV_rel {fn : Func} {e : Env} {a : Array Value} (he : ER φ e a) (s : Sim φ h w) {v : V} (hv : resultsV P fn e h = some v) : ∃ v', (results fn a).run P w = .ok v' w ∧ VR φ v v' := by
  have hrun : ∀ vs', (fn.results.toList.mapM (resSem a)).run P w = .ok vs' w → (results fn a).run P w = .ok (if h : vs'.toArray.size = 1 then vs'.toArray[0] else .tuple vs'.toArray) w := by
    intro vs' h1
    rw [results_eq, Array.mapM_eq_mapM_toList]
    simp only [Sem.run_bind, Sem.run_map, h1, Result.andThen_ok, Sem.run_pure]
  unfold resultsV at hv
  split at hv
  · rename_i x hx
    cases hv
    obtain ⟨vs', h1, h2⟩ := omap_res he s hx
    cases h2 with | cons h2 hr => cases hr with
    | nil => exact ⟨_, hrun _ h1, h2⟩
  · rename_i vs hne hx
    cases hv
    obtain ⟨vs', h1, h2⟩ := omap_res he s hx
    have hl := h2.length
    refine ⟨.tuple ⟨vs'⟩, ?_, .tup h2⟩
    rw [hrun _ h1]
    have hs : vs'.toArray.size ≠ 1 := by
      intro h1
      have : vs.length = 1 := by rw [hl]; simpa using h1
      match vs, this with
      | [x], _ => exact hne x rfl
    rw [dif_neg hs]
  · cases hv

theorem callStep_sim (hSim : ShortSim C) {n : Nat} {rec : Rec} (hr : RecSim C.P n rec) : CallSim C.P (callStep C rec) := by
  intro f as lo h v h' hc
  unfold callStep at hc
  split at hc
  · rename_i g hg; exact hSim _ _ hg _ _ _ _ _ hc
  · split at hc
    · rename_i fn hfn
      split at hc
      · rename_i c hb
        split at hc
        · rename_i hle
          refine ⟨⟨fn, hfn, by rw [hb]; rfl⟩, fun hlo φ w as' s hfr has => ?_⟩
          have hal := has.length
          have hsz : (as'.toArray ++ Array.replicate (fn.ntmps - as'.toArray.size) Go.undef).size = fn.ntmps := by simp; omega
          have key : ∀ r e1 h1, rec lo fn.ntmps c (mkEnv 0 as .nil) h = some (r, e1, h1) → (r = .nx ∨ r = .rt) → (resultsV C.P fn e1 h1).map (fun v => (v, h1)) = some (v, h') → Calls C.P f as'.toArray w (CallPost lo φ h w h' v) := by
            intro r e1 h1 hrec hrr hres
            rw [Option.map_eq_some_iff] at hres
            obtain ⟨v1, hv1, he⟩ := hres
            cases he
            refine calls_of_wp hfn hb ?_
            refine wpn_wp (hr _ _ _ _ _ _ _ _ hrec (mkEnv_rel has _) hsz rfl s hfr hlo fun φ' a' w' x s' he' hsz' hd' => ?_)
            obtain ⟨v', k1, k2⟩ := resultsV_rel (w := w') he' s' hv1
            rcases hrr with rfl | rfl
            · exact ⟨hd', v', k1, v', φ', rfl, x, s', k2⟩
            · exact ⟨hd', v', k1, v', φ', rfl, x, s', k2⟩
          split at hc
          · rename_i e1 h1 hrec; exact key _ _ _ hrec (.inl rfl) hc
          · rename_i e1 h1 hrec; exact key _ _ _ hrec (.inr rfl) hc
          · cases hc
        · cases hc
      · cases hc
    · cases hc

theorem execStep_sim (hnm : NameOk C.P) (hF : FrontSim C.P) (hSim : ShortSim C) (hSn : ShortNext C) {n : Nat} {rec : Rec} (hr : RecSim C.P n rec) (hn : RecNext rec) (hSg : ShortGood C) (hg : RecGood rec) : RecSim C.P (n + 1) (execStep C rec) := by
  intro lo nt c e h r e' h' hx φ w a he hsz hd s hfr hlo Q hQ
  have hcs := callStep_sim hSim hr
  have hcn := callStep_next hSn hn
  unfold execStep at hx
  split at hx
  · cases hx; exact wp_skip (hQ φ a w (Ext.refl _ _ _ _) s he hsz hd)
  · cases hx; exact wp_label (hQ φ a w (Ext.refl _ _ _ _) s he hsz hd)
  · rename_i id ops draw
    split at hx
    · rename_i e1 h1 hgo
      cases hx
      cases draw with
      | true => exact hF _ hcs hcn (callStep_good hSg hg) _ _ _ _ _ _ _ hgo he hsz s hfr hlo (fun φ' a' w' x s' he' hsz' hd' => hQ φ' a' w' x s' he' hsz' (hd'.trans hd)) id
      | false =>
        unfold runRegion at hgo
        simp only [Bool.false_eq_true, if_false] at hgo
        exact wp_region_list (runOps_sim hnm hcs hcn hgo he hsz s hfr hlo fun φ' a' w' x s' he' hsz' hd' => hQ φ' a' w' x s' he' hsz' (hd'.trans hd))
    · cases hx
  · rename_i c1 c2
    refine wp_seq ?_
    split at hx
    · rename_i e1 h1 h1x
      refine wpn_wp (hr _ _ _ _ _ _ _ _ h1x he hsz hd s (hfr.left (hn _ _ _ _ _ _ _ _ hx)) hlo fun φ1 a1 w1 x1 s1 he1 hsz1 hd1 => ?_)
      refine wpn_wp (hr _ _ _ _ _ _ _ _ hx he1 hsz1 hd1 s1 (FreeIn.right x1 hfr) (by have := x1.next; omega) fun φ2 a2 w2 x2 s2 he2 hsz2 hd2 => ?_)
      exact hQ φ2 a2 w2 (x1.trans x2) s2 he2 hsz2 hd2
    · rename_i hne
      refine wpn_wp (hr _ _ _ _ _ _ _ _ hx he hsz hd s hfr hlo fun φ1 a1 w1 x1 s1 he1 hsz1 hd1 => ?_)
      have := hQ φ1 a1 w1 x1 s1 he1 hsz1 hd1
      cases r with
      | nx => exact absurd hx (hne _ _)
      | ex id => exact this
      | rt => exact this
  · rename_i x c1 c2
    split at hx
    · rename_i t hev
      have hcv := ev_rel he hev
      generalize hcond : a.eval x = cv at hcv
      cases hcv
      exact wp_cond hcond (wpn_wp (hr _ _ _ _ _ _ _ _ hx he hsz hd s hfr hlo hQ))
    · cases hx
  · rename_i id b
    refine wp_block ?_
    split at hx
    · rename_i id' e1 h1 h1x
      split at hx
      · rename_i hid
        cases hx
        refine wpn_wp (hr _ _ _ _ _ _ _ _ h1x he hsz hd s hfr hlo fun φ1 a1 w1 x1 s1 he1 hsz1 hd1 => ?_)
        simp only [R.exit, Exit.inBlock, hid, if_true]
        exact hQ φ1 a1 w1 x1 s1 he1 hsz1 hd1
      · rename_i hid
        cases hx
        refine wpn_wp (hr _ _ _ _ _ _ _ _ h1x he hsz hd s hfr hlo fun φ1 a1 w1 x1 s1 he1 hsz1 hd1 => ?_)
        simp only [R.exit, Exit.inBlock, hid, if_false]
        exact hQ φ1 a1 w1 x1 s1 he1 hsz1 hd1
    · rename_i hne
      refine wpn_wp (hr _ _ _ _ _ _ _ _ hx he hsz hd s hfr hlo fun φ1 a1 w1 x1 s1 he1 hsz1 hd1 => ?_)
      have := hQ φ1 a1 w1 x1 s1 he1 hsz1 hd1
      cases r with
      | nx => exact this
      | ex id' => exact absurd hx (hne _ _ _)
      | rt => exact this
  · rename_i b
    show Code.rounds C.P b Q (n + 1) a w
    rw [rounds_succ]
    split at hx
    · rename_i e1 h1 h1x
      refine wpn_wp (hr _ _ _ _ _ _ _ _ h1x he hsz hd s (hfr.left (hn _ _ _ _ _ _ _ _ hx)) hlo fun φ1 a1 w1 x1 s1 he1 hsz1 hd1 => ?_)
      exact hr _ _ _ _ _ _ _ _ hx he1 hsz1 hd1 s1 (FreeIn.right x1 hfr) (by have := x1.next; omega) fun φ2 a2 w2 x2 s2 he2 hsz2 hd2 => hQ φ2 a2 w2 (x1.trans x2) s2 he2 hsz2 hd2
    · rename_i hne
      refine wpn_wp (hr _ _ _ _ _ _ _ _ hx he hsz hd s hfr hlo fun φ1 a1 w1 x1 s1 he1 hsz1 hd1 => ?_)
      have := hQ φ1 a1 w1 x1 s1 he1 hsz1 hd1
      cases r with
      | nx => exact absurd hx (hne _ _)
      | ex id => exact this
      | rt => exact this
  · cases hx; exact wp_exit (hQ φ a w (Ext.refl _ _ _ _) s he hsz hd)
  · cases hx; exact wp_ret (hQ φ a w (Ext.refl _ _ _ _) s he hsz hd)
  · cases hx

theorem exec_sim (hnm : NameOk C.P) (hF : FrontSim C.P) (hSim : ShortSim C) (hSn : ShortNext C) (hSg : ShortGood C) : ∀ n, RecSim C.P n (exec C n) ∧ RecNext (exec C n)
  | 0 => ⟨fun _ _ _ _ _ _ _ _ hx => by (cases hx), fun _ _ _ _ _ _ _ _ hx => by cases hx⟩
  | n + 1 => by
    obtain ⟨h1, h2⟩ := exec_sim hnm hF hSim hSn hSg n
    exact ⟨by rw [exec_succ]; exact execStep_sim hnm hF hSim hSn h1 h2 hSg (exec_good hSg n), by rw [exec_succ]; exact execStep_next hSn h2⟩
end
end Go.Den
