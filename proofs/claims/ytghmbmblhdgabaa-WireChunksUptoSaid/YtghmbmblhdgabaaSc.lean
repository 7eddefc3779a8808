/- Code in short: guards by slot, fronts parted from tails, no places of the text; what it comes to. -/
import Derived.Test.YtghmbmblhdgabaaWp
set_option linter.all false
namespace Go.Den
open Go
variable {C : Cfg}

/-- an operation in short: where its value goes, what it does, the slot that lets it run -/
structure SI where
  d : Option Nat
  op : Op
  g : Option (Option Nat × Bool)
inductive S : Type where
  | skip
  | ops (l : List SI)
  | front (st : Bool) (l r : List SI)
  | seq (a b : S)
  | cond (x : Operand) (a b : S)
  | block (id : Nat) (b : S)
  | loop (b : S)
  | exit (id : Nat)
  | ret
def shortOp (nt : Nat) (ops : Array Oper) (o : Oper) : Option SI :=
  match o.dst with
  | none => some ⟨none, o.op, o.guard.map fun g => ((ops[g.1]?).bind (·.dst), g.2)⟩
  | some t => if t < nt then some ⟨some t, o.op, o.guard.map fun g => ((ops[g.1]?).bind (·.dst), g.2)⟩ else none
def short (nt : Nat) : Code → Option S
  | .skip => some .skip
  | .label _ => some .skip
  | .region _ ops false => (omap (shortOp nt ops) ops.toList).map .ops
  | .region _ ops true => if frontFine ops = true then match omap (shortOp nt ops) (ops.toList.take (frontAt ops)), omap (shortOp nt ops) (ops.toList.drop (frontAt ops)) with
    | some l, some r => some (.front (anyStore (frontAt ops) ops.toList) l r)
    | _, _ => none
    else none
  | .seq a b => match short nt a, short nt b with
    | some x, some y => some (.seq x y)
    | _, _ => none
  | .cond x a b => match short nt a, short nt b with
    | some y, some z => some (.cond x y z)
    | _, _ => none
  | .block id b => (short nt b).map (.block id)
  | .loop b => (short nt b).map .loop
  | .exit id => some (.exit id)
  | .ret => some .ret
  | _ => none
def tru (v : V) : Option Bool := match v with
  | .bool b => some b
  | _ => none
def lets (e : Env) : Option (Option Nat × Bool) → Bool
  | none => true
  | some (some t, want) => tru (e.at t) == some want
  | some (none, want) => (none : Option Bool) == some want
def putS (d : Option Nat) (v : V) (e : Env) : Env := match d with
  | some t => e.set t v
  | none => e
def SL (C : Cfg) (lo : Nat) : List SI → (Env → H → Prop) → Env → H → Prop
  | [], K, e, h => K e h
  | o :: r, K, e, h => (lets e o.g = true → OW C lo e h o.op fun v h' => SL C lo r K (putS o.d v e) h') ∧ (lets e o.g = false → SL C lo r K (putS o.d undef e) h)
def SF (C : Cfg) (lo old : Nat) (st : Bool) : List SI → (Env → H → Prop) → Env → H → Prop
  | [], K, e, h => K e h
  | o :: r, K, e, h => (lets e o.g = true → FOW C lo old st e h o.op fun v h' => SF C lo old st r K (putS o.d v e) h') ∧ (lets e o.g = false → SF C lo old st r K (putS o.d undef e) h)
def SW (C : Cfg) (lo : Nat) : S → RQ → Env → H → Prop
  | .skip, Q, e, h => Q .nx e h
  | .ops l, Q, e, h => SL C lo l (fun e h => Q .nx e h) e h
  | .front st l r, Q, e, h => SF C lo h.next st l (SL C lo r fun e h => Q .nx e h) e h
  | .seq a b, Q, e, h => SW C lo a (fun r e h => match r with | .nx => SW C lo b Q e h | r => Q r e h) e h
  | .cond x a b, Q, e, h => ∃ t, ev e x = some (.bool t) ∧ (t = true → SW C lo a Q e h) ∧ (t = false → SW C lo b Q e h)
  | .block id b, Q, e, h => SW C lo b (fun r e h => match r with | .ex id' => if id' = id then Q .nx e h else Q (.ex id') e h | r => Q r e h) e h
  | .loop b, Q, e, h => ∃ n, loopN (SW C lo b) Q n e h
  | .exit id, Q, e, h => Q (.ex id) e h
  | .ret, Q, e, h => Q .rt e h

theorem lets_eq {nt : Nat} {ops : Array Oper} {o : Oper} {s : SI} (hs : shortOp nt ops o = some s) (e : Env) : wantedV ops e o = lets e s.g ∧ s.op = o.op ∧ ∀ v, put nt o.dst v e = some (putS s.d v e) := by
  have hg : wantedV ops e o = lets e (o.guard.map fun g => ((ops[g.1]?).bind (·.dst), g.2)) := by
    unfold wantedV
    cases o.guard with
    | none => rfl
    | some g =>
      obtain ⟨j, want⟩ := g
      simp only [Option.map_some]
      unfold yieldedV
      cases hd : (ops[j]?).bind (·.dst) with
      | none => rfl
      | some t => rfl
  unfold shortOp at hs
  split at hs
  · rename_i hd
    cases hs
    exact ⟨hg, rfl, fun v => by unfold put; rw [hd]; rfl⟩
  · rename_i t hd
    split at hs
    · rename_i hlt
      cases hs
      exact ⟨hg, rfl, fun v => by unfold put; rw [hd]; simp only [if_pos hlt]; rfl⟩
    · cases hs
theorem SL_LW {lo nt : Nat} {ops : Array Oper} {K : Env → H → Prop} : ∀ {l : List Oper} {s : List SI}, omap (shortOp nt ops) l = some s → ∀ {e : Env} {h : H}, SL C lo s K e h → LW C lo nt ops l K e h
  | [], s, hs, e, h, hw => by cases hs; exact hw
  | o :: r, s, hs, e, h, hw => by
    unfold omap at hs
    split at hs
    · rename_i x hx
      split at hs
      · rename_i xs hxs
        cases hs
        obtain ⟨h1, h2, h3⟩ := lets_eq hx e
        unfold LW
        unfold SL at hw
        rw [h1]
        cases hl : lets e x.g with
        | true =>
          simp only
          rw [← h2]
          exact OW_mono (fun v h' hk => ⟨_, h3 v, SL_LW hxs hk⟩) (hw.1 hl)
        | false => exact ⟨_, h3 _, SL_LW hxs (hw.2 hl)⟩
      · cases hs
    · cases hs
theorem FOW_mono {lo old : Nat} {st : Bool} {e : Env} {h : H} {o : Op} {K K' : V → H → Prop} (hk : ∀ v h', K v h' → K' v h') (hw : FOW C lo old st e h o K) : FOW C lo old st e h o K' := by
  unfold FOW at hw ⊢
  split at hw
  · exact ⟨hw.1, OW_mono hk hw.2⟩
  · obtain ⟨v, h', h1, h2⟩ := hw; exact ⟨v, h', h1, hk _ _ h2⟩
theorem SF_FW {lo old nt : Nat} {st : Bool} {ops : Array Oper} {K : Env → H → Prop} : ∀ {k : Nat} {l : List Oper} {s : List SI}, omap (shortOp nt ops) (l.take k) = some s → ∀ {e : Env} {h : H}, SF C lo old st s K e h → FW C lo old nt st ops k l K e h
  | 0, l, s, hs, e, h, hw => by simp [omap] at hs; subst hs; exact hw
  | k + 1, [], s, hs, e, h, hw => by simp [omap] at hs; subst hs; exact hw
  | k + 1, o :: r, s, hs, e, h, hw => by
    rw [List.take_succ_cons] at hs
    unfold omap at hs
    split at hs
    · rename_i x hx
      split at hs
      · rename_i xs hxs
        cases hs
        obtain ⟨h1, h2, h3⟩ := lets_eq hx e
        unfold FW
        unfold SF at hw
        rw [h1]
        cases hl : lets e x.g with
        | true =>
          simp only
          rw [← h2]
          exact FOW_mono (fun v h' hk => ⟨_, h3 v, SF_FW hxs hk⟩) (hw.1 hl)
        | false => exact ⟨_, h3 _, SF_FW hxs (hw.2 hl)⟩
      · cases hs
    · cases hs
theorem loopN_map {b b' : RQ → Env → H → Prop} (hb : ∀ (Q : RQ) (e : Env) (h : H), b Q e h → b' Q e h) (hm : ∀ (Q Q' : RQ) (e : Env) (h : H), (∀ r e h, Q r e h → Q' r e h) → b' Q e h → b' Q' e h) {Q : RQ} : ∀ {n : Nat} {e : Env} {h : H}, loopN b Q n e h → loopN b' Q n e h
  | 0, _, _, hw => hw
  | n + 1, e, h, hw => hm _ _ e h (fun r e h hr => by
    cases r with
    | nx => exact loopN_map hb hm hr
    | ex id => exact hr
    | rt => exact hr) (hb _ _ _ hw)
theorem SW_W {lo nt : Nat} : ∀ (c : Code) {s : S}, short nt c = some s → ∀ {Q : RQ} {e : Env} {h : H}, SW C lo s Q e h → W C lo nt c Q e h
  | .skip, s, hs, Q, e, h, hw => by cases hs; exact hw
  | .label _, s, hs, Q, e, h, hw => by cases hs; exact hw
  | .exit _, s, hs, Q, e, h, hw => by cases hs; exact hw
  | .ret, s, hs, Q, e, h, hw => by cases hs; exact hw
  | .region _ ops false, s, hs, Q, e, h, hw => by
    unfold short at hs
    rw [Option.map_eq_some_iff] at hs
    obtain ⟨l, hl, rfl⟩ := hs
    exact SL_LW hl hw
  | .region _ ops true, s, hs, Q, e, h, hw => by
    unfold short at hs
    split at hs
    · rename_i hf
      split at hs
      · rename_i l r hl hr
        cases hs
        exact ⟨hf, FW_mono (fun e h hk => SL_LW hr hk) (SF_FW hl hw)⟩
      · cases hs
    · cases hs
  | .seq a b, s, hs, Q, e, h, hw => by
    unfold short at hs
    split at hs
    · rename_i x y hx hy
      cases hs
      refine W_mono a (fun r e h hr => ?_) (SW_W a hx hw)
      cases r with
      | nx => exact SW_W b hy hr
      | ex id => exact hr
      | rt => exact hr
    · cases hs
  | .cond x a b, s, hs, Q, e, h, hw => by
    unfold short at hs
    split at hs
    · rename_i y z hy hz
      cases hs
      obtain ⟨t, h1, h2, h3⟩ := hw
      exact ⟨t, h1, fun ht => SW_W a hy (h2 ht), fun ht => SW_W b hz (h3 ht)⟩
    · cases hs
  | .block id b, s, hs, Q, e, h, hw => by
    unfold short at hs
    rw [Option.map_eq_some_iff] at hs
    obtain ⟨x, hx, rfl⟩ := hs
    exact SW_W b hx hw
  | .loop b, s, hs, Q, e, h, hw => by
    unfold short at hs
    rw [Option.map_eq_some_iff] at hs
    obtain ⟨x, hx, rfl⟩ := hs
    obtain ⟨n, hw⟩ := hw
    exact ⟨n, loopN_map (b := SW C lo x) (b' := W C lo nt b) (fun Q e h hq => SW_W b hx hq) (fun Q Q' e h hq hw => W_mono b hq hw) hw⟩
  | .rangeFunc _ _ _ _, s, hs, _, _, _, _ => by cases hs
  | .scope _, s, hs, _, _, _, _ => by cases hs
  | .goto _, s, hs, _, _, _, _ => by cases hs
  | .refuse _, s, hs, _, _, _, _ => by cases hs

theorem SL_mono {lo : Nat} {K K' : Env → H → Prop} (hk : ∀ e h, K e h → K' e h) : ∀ {l : List SI} {e : Env} {h : H}, SL C lo l K e h → SL C lo l K' e h
  | [], e, h, hw => hk _ _ hw
  | o :: r, e, h, hw => ⟨fun hl => OW_mono (fun v h' hx => SL_mono hk hx) (hw.1 hl), fun hl => SL_mono hk (hw.2 hl)⟩
theorem SF_mono {lo old : Nat} {st : Bool} {K K' : Env → H → Prop} (hk : ∀ e h, K e h → K' e h) : ∀ {l : List SI} {e : Env} {h : H}, SF C lo old st l K e h → SF C lo old st l K' e h
  | [], e, h, hw => hk _ _ hw
  | o :: r, e, h, hw => ⟨fun hl => FOW_mono (fun v h' hx => SF_mono hk hx) (hw.1 hl), fun hl => SF_mono hk (hw.2 hl)⟩
theorem SW_mono {lo : Nat} : ∀ (s : S) {Q Q' : RQ} {e : Env} {h : H}, (∀ r e h, Q r e h → Q' r e h) → SW C lo s Q e h → SW C lo s Q' e h
  | .skip, Q, Q', e, h, hq, hw => hq _ _ _ hw
  | .exit _, Q, Q', e, h, hq, hw => hq _ _ _ hw
  | .ret, Q, Q', e, h, hq, hw => hq _ _ _ hw
  | .ops l, Q, Q', e, h, hq, hw => SL_mono (fun e h => hq _ _ _) hw
  | .front st l r, Q, Q', e, h, hq, hw => SF_mono (fun e h hx => SL_mono (fun e h => hq _ _ _) hx) hw
  | .seq a b, Q, Q', e, h, hq, hw => SW_mono a (fun r e h hr => by
    cases r with
    | nx => exact SW_mono b hq hr
    | ex id => exact hq _ _ _ hr
    | rt => exact hq _ _ _ hr) hw
  | .cond x a b, Q, Q', e, h, hq, ⟨t, h1, h2, h3⟩ => ⟨t, h1, fun ht => SW_mono a hq (h2 ht), fun ht => SW_mono b hq (h3 ht)⟩
  | .block id b, Q, Q', e, h, hq, hw => SW_mono b (fun r e h hr => by
    cases r with
    | nx => exact hq _ _ _ hr
    | rt => exact hq _ _ _ hr
    | ex id' =>
      simp only at hr ⊢
      split at hr
      · rename_i he; rw [if_pos he]; exact hq _ _ _ hr
      · rename_i he; rw [if_neg he]; exact hq _ _ _ hr) hw
  | .loop b, Q, Q', e, h, hq, ⟨n, hw⟩ => ⟨n, loopN_mono (body := SW C lo b) (fun _ _ _ _ hq hw => SW_mono b hq hw) hq hw⟩
/-- a loop: what holds at each round's start, and a number that falls -/
theorem SW_loop {lo : Nat} {b : S} {Q : RQ} (I : Nat → Env → H → Prop) (hI : ∀ m e h, I m e h → SW C lo b (fun r e' h' => match r with | .nx => ∃ m', m' < m ∧ I m' e' h' | r => Q r e' h') e h)
    (m : Nat) (e : Env) (h : H) (hi : I m e h) : SW C lo (.loop b) Q e h := by
  have key : ∀ (k m : Nat) (e : Env) (h : H), m < k → I m e h → loopN (SW C lo b) Q k e h := by
    intro k
    induction k with
    | zero => intro m e h hm; omega
    | succ k ih =>
      intro m e h hm hi
      refine SW_mono b (fun r e' h' hq => ?_) (hI m e h hi)
      cases r with
      | nx => obtain ⟨m', h1, h2⟩ := hq; exact ih m' e' h' (by omega) h2
      | ex id => exact hq
      | rt => exact hq
  exact ⟨m + 1, key (m + 1) m e h (by omega) hi⟩
def shortFn (fn : Func) : Option S := match fn.body with
  | some c => short fn.ntmps c
  | none => none
/-- a call, out of its body in short -/
theorem CW_short (hS : ShortLow C) {f : FuncId} {fn : Func} {s : S} {as : List V} {lo : Nat} {h : H} {K : V → H → Prop} (hs : C.S f = none) (hf : C.P.funcs[f]? = some fn) (hb : shortFn fn = some s) (hn : as.length ≤ fn.ntmps)
    (hw : SW C lo s (fun r e h => match r with | .ex _ => False | _ => ∃ v, resultsV C.P fn e h = some v ∧ K v h) (mkEnv 0 as .nil) h) : CW C f as lo h K := by
  unfold shortFn at hb
  split at hb
  · rename_i c hc
    exact CW_enter hS hs hf hc hn (SW_W c hb hw)
  · cases hb
end Go.Den
