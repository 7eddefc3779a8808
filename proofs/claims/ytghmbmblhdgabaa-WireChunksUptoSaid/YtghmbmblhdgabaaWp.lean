/- Reasoning about the machine without fuel: more fuel, or a lower barrier, changes no answer; what code comes to, said backwards from what is wanted. -/
import Derived.Test.YtghmbmblhdgabaaContract
set_option linter.all false
namespace Go.Den
open Go
variable {P : Program} {h h' : H}

/-! ### more fuel, a lower barrier -/
theorem owned_lower {lo lo' b : Nat} (hl : lo' ≤ lo) {x : List V × Nat × Nat} (ho : h.owned lo b = some x) : h.owned lo' b = some x := by
  obtain ⟨l, f, low⟩ := x
  obtain ⟨h1, h2, h3⟩ := owned_some ho
  have h4 := owned_fam ho
  unfold H.owned
  rw [h1]
  simp only [h2, if_true]
  rw [if_pos ⟨by omega, by omega⟩]
theorem storeV_lower {lo lo' : Nat} (hl : lo' ≤ lo) {t : TypeId} {x v : V} (hs : storeV P lo t x v h = some h') : storeV P lo' t x v h = some h' := by
  cases x <;> first | (cases hs; done) | skip
  rename_i b o
  unfold storeV at hs ⊢
  simp only at hs ⊢
  cases ho : h.owned lo b with
  | none => simp only [ho] at hs; cases hs
  | some y => simp only [owned_lower hl ho]; simp only [ho] at hs; exact hs
theorem markV_lower {lo lo' : Nat} (hl : lo' ≤ lo) {t : TypeId} {x v : V} (hs : markV P lo t x h = some (v, h')) : markV P lo' t x h = some (v, h') := by
  unfold markV at hs ⊢
  split at hs
  · rename_i e b o n c es hu
    cases ho : h.owned lo b with
    | none => simp only [ho] at hs; split at hs <;> first | (rename_i e2; cases e2; done) | cases hs
    | some y => simp only [owned_lower hl ho]; simp only [ho] at hs; exact hs
  · cases hs
theorem copyV_lower {lo lo' : Nat} (hl : lo' ≤ lo) {ts : List TypeId} {d s v : V} (hs : copyV P lo ts d s h = some (v, h')) : copyV P lo' ts d s h = some (v, h') := by
  unfold copyV at hs ⊢
  split at hs
  · split at hs
    · split at hs
      · split at hs
        · exact hs
        · rename_i m xs b o n c es' hel
          simp only at hs ⊢
          split at hs
          · cases hs
          · rename_i hne
            rw [if_neg hne]
            split at hs
            · rename_i h0; rw [if_pos h0]; exact hs
            · rename_i h0
              rw [if_neg h0]
              cases ho : h.owned lo b with
              | none => simp only [ho] at hs; cases hs
              | some y => simp only [owned_lower hl ho]; simp only [ho] at hs; exact hs
        · cases hs
      · cases hs
    · cases hs
  · cases hs
theorem appendV_lower {lo lo' : Nat} (hl : lo' ≤ lo) {ts : List TypeId} {s x v : V} (hs : appendV P lo ts s x h = some (v, h')) : appendV P lo' ts s x h = some (v, h') := by
  cases s with
  | sl b o n c es =>
    cases ho : h.owned lo b with
    | none =>
      unfold appendV at hs ⊢
      simp only [ho] at hs
      split at hs
      · split at hs
        · split at hs
          · split at hs
            · split at hs
              · cases hs
              · rename_i h7
                rw [if_neg h7]
                split at hs
                · cases hs
                · rename_i h8
                  simp only [if_neg h8]
                  split at hs
                  · rename_i h9; rw [if_pos h9]; exact hs
                  · rename_i h9
                    rw [if_neg h9]
                    split at hs
                    · rename_i h10
                      rw [if_pos h10]
                      split at hs
                      · rename_i h11; rw [if_pos h11]; exact hs
                      · cases hs
                    · cases hs
            · cases hs
          · cases hs
        · cases hs
      · cases hs
    | some y =>
      unfold appendV at hs ⊢
      simp only [ho] at hs
      simp only [owned_lower hl ho]
      exact hs
  | _ => unfold appendV at hs ⊢; exact hs

def CallLe (call call' : CallFn) : Prop := ∀ f as lo lo' h v h', lo' ≤ lo → call f as lo h = some (v, h') → call' f as lo' h = some (v, h')
def RecLe (rec rec' : Rec) : Prop := ∀ lo lo' nt c e h x, lo' ≤ lo → rec lo nt c e h = some x → rec' lo' nt c e h = some x
theorem aop_le {call call' : CallFn} (hc : CallLe call call') {lo lo' : Nat} (hl : lo' ≤ lo) {e : Env} {o : Op} {v : V} (ha : aop P call lo e h o = some (v, h')) : aop P call' lo' e h o = some (v, h') := by
  unfold aop at ha ⊢
  split at ha
  · split at ha
    · split at ha
      · rename_i h3; rw [storeV_lower hl h3]; exact ha
      · cases ha
    · cases ha
  · split at ha
    · rename_i h1
      rw [if_pos h1]
      split at ha
      · exact markV_lower hl ha
      · cases ha
    · rename_i h1; rw [if_neg h1]; exact ha
  · split at ha
    · exact hc _ _ _ _ _ _ _ hl ha
    · cases ha
  · split at ha
    · exact appendV_lower hl ha
    · cases ha
  · split at ha
    · exact copyV_lower hl ha
    · cases ha
  · exact ha
theorem runOps_le {call call' : CallFn} (hc : CallLe call call') {lo lo' nt : Nat} (hl : lo' ≤ lo) {ops : Array Oper} : ∀ {l : List Oper} {e : Env} {h : H} {x : Env × H}, runOps P call lo nt ops l e h = some x → runOps P call' lo' nt ops l e h = some x
  | [], e, h, x, hr => hr
  | o :: r, e, h, x, hr => by
    unfold runOps at hr ⊢
    split at hr
    · rename_i hw
      rw [if_pos hw]
      split at hr
      · rename_i v h1 ha
        rw [aop_le hc hl ha]
        simp only
        split at hr
        · exact runOps_le hc hl hr
        · cases hr
      · cases hr
    · rename_i hw
      rw [if_neg hw]
      split at hr
      · exact runOps_le hc hl hr
      · cases hr
theorem barrier_le {lo lo' old : Nat} (hl : lo' ≤ lo) (o : Op) : barrier lo' old h o ≤ barrier lo old h o := by
  unfold barrier
  split <;> omega
theorem frontOp_le {call call' : CallFn} (hc : CallLe call call') {lo lo' old : Nat} (hl : lo' ≤ lo) {st : Bool} {e : Env} {o : Op} {v : V} (ha : frontOp P call lo old st e h o = some (v, h')) : frontOp P call' lo' old st e h o = some (v, h') := by
  unfold frontOp at ha ⊢
  split at ha
  · rename_i h1
    rw [if_pos h1]
    split at ha
    · rename_i h2; rw [if_pos h2]; exact aop_le hc (barrier_le hl o) ha
    · cases ha
  · rename_i h1; rw [if_neg h1]; exact ha
theorem runFront_le {call call' : CallFn} (hc : CallLe call call') {lo lo' old nt : Nat} (hl : lo' ≤ lo) {st : Bool} {ops : Array Oper} : ∀ {k : Nat} {l : List Oper} {e : Env} {h : H} {x : Env × H}, runFront P call lo old nt st ops k l e h = some x → runFront P call' lo' old nt st ops k l e h = some x
  | 0, l, e, h, x, hr => hr
  | k + 1, [], e, h, x, hr => hr
  | k + 1, o :: r, e, h, x, hr => by
    unfold runFront at hr ⊢
    split at hr
    · rename_i hw
      rw [if_pos hw]
      split at hr
      · rename_i v h1 ha
        rw [frontOp_le hc hl ha]
        simp only
        split at hr
        · exact runFront_le hc hl hr
        · cases hr
      · cases hr
    · rename_i hw
      rw [if_neg hw]
      split at hr
      · exact runFront_le hc hl hr
      · cases hr
theorem runRegion_le {call call' : CallFn} (hc : CallLe call call') {lo lo' nt : Nat} (hl : lo' ≤ lo) {ops : Array Oper} {draw : Bool} {e : Env} {x : Env × H} (hr : runRegion P call lo nt ops draw e h = some x) : runRegion P call' lo' nt ops draw e h = some x := by
  unfold runRegion at hr ⊢
  split at hr
  · rename_i hd
    rw [if_pos hd]
    simp only at hr ⊢
    split at hr
    · rename_i hok
      rw [if_pos hok]
      split at hr
      · rename_i e1 h1 hf; rw [runFront_le hc hl hf]; exact runOps_le hc hl hr
      · cases hr
    · cases hr
  · rename_i hd; rw [if_neg hd]; exact runOps_le hc hl hr

def ShortLow (C : Cfg) : Prop := ∀ f g, C.S f = some g → ∀ as lo lo' h v h', lo' ≤ lo → g as lo h = some (v, h') → g as lo' h = some (v, h')
section
variable {C : Cfg}
theorem callStep_le (hS : ShortLow C) {rec rec' : Rec} (hr : RecLe rec rec') : CallLe (callStep C rec) (callStep C rec') := by
  intro f as lo lo' h v h' hl hc
  unfold callStep at hc ⊢
  split at hc
  · rename_i g hg; exact hS _ _ hg _ _ _ _ _ _ hl hc
  · split at hc
    · split at hc
      · split at hc
        · rename_i hlen
          rw [if_pos hlen]
          split at hc
          · rename_i hx; rw [hr _ _ _ _ _ _ _ hl hx]; exact hc
          · rename_i hx; rw [hr _ _ _ _ _ _ _ hl hx]; exact hc
          · cases hc
        · cases hc
      · cases hc
    · cases hc
theorem execStep_le (hS : ShortLow C) {rec rec' : Rec} (hr : RecLe rec rec') : RecLe (execStep C rec) (execStep C rec') := by
  intro lo lo' nt c e h x hl hx
  cases c <;> unfold execStep at hx ⊢ <;> simp only at hx ⊢ <;> first | exact hx | skip
  case region id ops draw =>
    split at hx
    · rename_i e1 h1 hg; rw [runRegion_le (callStep_le hS hr) hl hg]; exact hx
    · cases hx
  case seq a b =>
    split at hx
    · rename_i h1; rw [hr _ _ _ _ _ _ _ hl h1]; exact hr _ _ _ _ _ _ _ hl hx
    · rename_i hno
      cases hq : rec lo nt a e h with
      | none => rw [hq] at hx; cases hx
      | some y =>
        rw [hr _ _ _ _ _ _ _ hl hq]
        rw [hq] at hx
        cases hx
        obtain ⟨r, e1, h1⟩ := x
        cases r with
        | nx => exact absurd hq (hno _ _)
        | ex id => rfl
        | rt => rfl
  case cond x a b =>
    split at hx
    · rename_i h1; exact hr _ _ _ _ _ _ _ hl hx
    · cases hx
  case block id b =>
    split at hx
    · rename_i h1; rw [hr _ _ _ _ _ _ _ hl h1]; exact hx
    · rename_i hno
      cases hq : rec lo nt b e h with
      | none => rw [hq] at hx; cases hx
      | some y =>
        rw [hr _ _ _ _ _ _ _ hl hq]
        rw [hq] at hx
        cases hx
        obtain ⟨r, e1, h1⟩ := x
        cases r with
        | nx => rfl
        | ex id => exact absurd hq (hno _ _ _)
        | rt => rfl
  case loop b =>
    split at hx
    · rename_i h1; rw [hr _ _ _ _ _ _ _ hl h1]; exact hr _ _ _ _ _ _ _ hl hx
    · rename_i hno
      cases hq : rec lo nt b e h with
      | none => rw [hq] at hx; cases hx
      | some y =>
        rw [hr _ _ _ _ _ _ _ hl hq]
        rw [hq] at hx
        cases hx
        obtain ⟨r, e1, h1⟩ := x
        cases r with
        | nx => exact absurd hq (hno _ _)
        | ex id => rfl
        | rt => rfl
theorem exec_le (hS : ShortLow C) : ∀ {n m : Nat}, n ≤ m → RecLe (exec C n) (exec C m)
  | 0, m, _ => fun lo lo' nt c e h x _ hx => by cases hx
  | n + 1, 0, hm => by omega
  | n + 1, m + 1, hm => by
    rw [exec_succ, exec_succ]
    exact execStep_le hS (exec_le hS (by omega))
theorem call_le (hS : ShortLow C) {n m : Nat} (hm : n ≤ m) : CallLe (call C n) (call C m) := callStep_le hS (exec_le hS hm)

/-! ### what code comes to -/
/-- a call comes to an end, with K of what it tells and leaves -/
def CW (C : Cfg) (f : FuncId) (as : List V) (lo : Nat) (h : H) (K : V → H → Prop) : Prop := ∃ n v h', call C n f as lo h = some (v, h') ∧ K v h'
def noCall : CallFn := fun _ _ _ _ => none
/-- an operation -/
def OW (C : Cfg) (lo : Nat) (e : Env) (h : H) (o : Op) (K : V → H → Prop) : Prop :=
  match o with
  | .call { callee := .value f, args, .. } => ∃ as f' a b, evs e args.toList = some as ∧ ev e f = some (.fn (.func f') a b) ∧ CW C f' (a ++ as ++ b) lo h K
  | o => ∃ v h', aop C.P noCall lo e h o = some (v, h') ∧ K v h'
def PW (nt : Nat) (d : Option Nat) (v : V) (e : Env) (K : Env → Prop) : Prop := ∃ e', put nt d v e = some e' ∧ K e'
def LW (C : Cfg) (lo nt : Nat) (ops : Array Oper) : List Oper → (Env → H → Prop) → Env → H → Prop
  | [], K, e, h => K e h
  | o :: r, K, e, h => match wantedV ops e o with
    | true => OW C lo e h o.op fun v h' => PW nt o.dst v e fun e' => LW C lo nt ops r K e' h'
    | false => PW nt o.dst undef e fun e' => LW C lo nt ops r K e' h
/-- an operation of a front -/
def FOW (C : Cfg) (lo old : Nat) (st : Bool) (e : Env) (h : H) (o : Op) (K : V → H → Prop) : Prop :=
  match heavy o with
  | true => atEnd e h o = true ∧ OW C (barrier lo old h o) e h o K
  | false => ∃ v h', keep h (lightOp C.P (rdOf st old h) e o) = some (v, h') ∧ K v h'
def FW (C : Cfg) (lo old nt : Nat) (st : Bool) (ops : Array Oper) : Nat → List Oper → (Env → H → Prop) → Env → H → Prop
  | 0, _, K, e, h => K e h
  | _ + 1, [], K, e, h => K e h
  | k + 1, o :: r, K, e, h => match wantedV ops e o with
    | true => FOW C lo old st e h o.op fun v h' => PW nt o.dst v e fun e' => FW C lo old nt st ops k r K e' h'
    | false => PW nt o.dst undef e fun e' => FW C lo old nt st ops k r K e' h
def frontAt (ops : Array Oper) : Nat := tailAt 0 (befs [] ops.toList)
def frontFine (ops : Array Oper) : Bool := frontOk ops (befs [] ops.toList) 0 (frontAt ops) ops.toList && edgesOk 0 ops.toList
abbrev RQ := R → Env → H → Prop
def loopN (body : RQ → Env → H → Prop) (Q : RQ) : Nat → Env → H → Prop
  | 0, _, _ => False
  | n + 1, e, h => body (fun r e h => match r with | .nx => loopN body Q n e h | r => Q r e h) e h
def W (C : Cfg) (lo nt : Nat) : Code → RQ → Env → H → Prop
  | .skip, Q, e, h => Q .nx e h
  | .label _, Q, e, h => Q .nx e h
  | .region _ ops false, Q, e, h => LW C lo nt ops ops.toList (fun e h => Q .nx e h) e h
  | .region _ ops true, Q, e, h => frontFine ops = true ∧ FW C lo h.next nt (anyStore (frontAt ops) ops.toList) ops (frontAt ops) ops.toList (LW C lo nt ops (ops.toList.drop (frontAt ops)) fun e h => Q .nx e h) e h
  | .seq a b, Q, e, h => W C lo nt a (fun r e h => match r with | .nx => W C lo nt b Q e h | r => Q r e h) e h
  | .cond x a b, Q, e, h => ∃ t, ev e x = some (.bool t) ∧ (t = true → W C lo nt a Q e h) ∧ (t = false → W C lo nt b Q e h)
  | .block id b, Q, e, h => W C lo nt b (fun r e h => match r with | .ex id' => if id' = id then Q .nx e h else Q (.ex id') e h | r => Q r e h) e h
  | .loop b, Q, e, h => ∃ n, loopN (W C lo nt b) Q n e h
  | .exit id, Q, e, h => Q (.ex id) e h
  | .ret, Q, e, h => Q .rt e h
  | _, _, _, _ => False
def Ran (C : Cfg) (lo nt : Nat) (c : Code) (Q : RQ) (e : Env) (h : H) : Prop := ∃ n r e' h', exec C n lo nt c e h = some (r, e', h') ∧ Q r e' h'

theorem OW_run {lo : Nat} {e : Env} {o : Op} {K : V → H → Prop} (hw : OW C lo e h o K) : ∃ n v h', aop C.P (call C n) lo e h o = some (v, h') ∧ K v h' := by
  unfold OW at hw
  split at hw
  · obtain ⟨as, f', a, b, h1, h2, n, v, h', h3, h4⟩ := hw
    refine ⟨n, v, h', ?_, h4⟩
    unfold aop
    simp only [h1, h2, h3]
  · obtain ⟨v, h', h1, h2⟩ := hw
    exact ⟨0, v, h', aop_le (fun _ _ _ _ _ _ _ _ hc => by cases hc) (Nat.le_refl _) h1, h2⟩
theorem LW_run (hS : ShortLow C) {lo nt : Nat} {ops : Array Oper} {K : Env → H → Prop} : ∀ {l : List Oper} {e : Env} {h : H}, LW C lo nt ops l K e h → ∃ n e' h', runOps C.P (call C n) lo nt ops l e h = some (e', h') ∧ K e' h'
  | [], e, h, hw => ⟨0, e, h, rfl, hw⟩
  | o :: r, e, h, hw => by
    unfold LW at hw
    split at hw
    · rename_i hwant
      obtain ⟨n, v, h1, ha, e1, hp, hk⟩ := OW_run hw
      obtain ⟨m, e2, h2, hr, hk2⟩ := LW_run hS hk
      refine ⟨max n m, e2, h2, ?_, hk2⟩
      unfold runOps
      rw [if_pos hwant, aop_le (call_le hS (Nat.le_max_left n m)) (Nat.le_refl _) ha]
      simp only [hp]
      exact runOps_le (call_le hS (Nat.le_max_right n m)) (Nat.le_refl _) hr
    · rename_i hwant
      obtain ⟨e1, hp, hk⟩ := hw
      obtain ⟨m, e2, h2, hr, hk2⟩ := LW_run hS hk
      refine ⟨m, e2, h2, ?_, hk2⟩
      unfold runOps
      rw [if_neg (by rw [hwant]; simp)]
      simp only [hp]
      exact hr
theorem FW_run (hS : ShortLow C) {lo old nt : Nat} {st : Bool} {ops : Array Oper} {K : Env → H → Prop} : ∀ {k : Nat} {l : List Oper} {e : Env} {h : H}, FW C lo old nt st ops k l K e h → ∃ n e' h', runFront C.P (call C n) lo old nt st ops k l e h = some (e', h') ∧ K e' h'
  | 0, l, e, h, hw => ⟨0, e, h, rfl, hw⟩
  | k + 1, [], e, h, hw => ⟨0, e, h, rfl, hw⟩
  | k + 1, o :: r, e, h, hw => by
    unfold FW at hw
    split at hw
    · rename_i hwant
      obtain ⟨n, v, h1, ha, e1, hp, hk⟩ : ∃ n v h', frontOp C.P (call C n) lo old st e h o.op = some (v, h') ∧ PW nt o.dst v e fun e' => FW C lo old nt st ops k r K e' h' := by
        unfold FOW at hw
        split at hw
        · rename_i hv
          obtain ⟨hend, hw⟩ := hw
          obtain ⟨n, v, h1, ha, hk⟩ := OW_run hw
          exact ⟨n, v, h1, by unfold frontOp; rw [if_pos hv, if_pos hend]; exact ha, hk⟩
        · rename_i hv
          obtain ⟨v, h1, ha, hk⟩ := hw
          exact ⟨0, v, h1, by unfold frontOp; rw [if_neg (by rw [hv]; simp)]; exact ha, hk⟩
      obtain ⟨m, e2, h2, hr, hk2⟩ := FW_run hS hk
      refine ⟨max n m, e2, h2, ?_, hk2⟩
      unfold runFront
      rw [if_pos hwant, frontOp_le (call_le hS (Nat.le_max_left n m)) (Nat.le_refl _) ha]
      simp only [hp]
      exact runFront_le (call_le hS (Nat.le_max_right n m)) (Nat.le_refl _) hr
    · rename_i hwant
      obtain ⟨e1, hp, hk⟩ := hw
      obtain ⟨m, e2, h2, hr, hk2⟩ := FW_run hS hk
      refine ⟨m, e2, h2, ?_, hk2⟩
      unfold runFront
      rw [if_neg (by rw [hwant]; simp)]
      simp only [hp]
      exact hr
theorem ran_loop (hS : ShortLow C) {lo nt : Nat} {b : Code} {Q : RQ} (hb : ∀ {Q : RQ} {e : Env} {h : H}, W C lo nt b Q e h → Ran C lo nt b Q e h) : ∀ {n : Nat} {e : Env} {h : H}, loopN (W C lo nt b) Q n e h → Ran C lo nt (.loop b) Q e h
  | 0, _, _, hw => hw.elim
  | n + 1, e, h, hw => by
    obtain ⟨m, r, e1, h1, hx, hq⟩ := hb hw
    cases r with
    | nx =>
      obtain ⟨m2, r2, e2, h2, hx2, hq2⟩ := ran_loop hS hb hq
      refine ⟨max m m2 + 1, r2, e2, h2, ?_, hq2⟩
      rw [exec_succ]
      unfold execStep
      simp only [exec_le hS (Nat.le_max_left m m2) _ _ _ _ _ _ _ (Nat.le_refl _) hx]
      exact exec_le hS (Nat.le_max_right m m2) _ _ _ _ _ _ _ (Nat.le_refl _) hx2
    | ex id => exact ⟨m + 1, _, e1, h1, by rw [exec_succ]; unfold execStep; simp only [hx], hq⟩
    | rt => exact ⟨m + 1, _, e1, h1, by rw [exec_succ]; unfold execStep; simp only [hx], hq⟩
theorem W_run (hS : ShortLow C) {lo nt : Nat} : ∀ (c : Code) {Q : RQ} {e : Env} {h : H}, W C lo nt c Q e h → Ran C lo nt c Q e h
  | .skip, Q, e, h, hw => ⟨1, .nx, e, h, rfl, hw⟩
  | .label _, Q, e, h, hw => ⟨1, .nx, e, h, rfl, hw⟩
  | .exit id, Q, e, h, hw => ⟨1, .ex id, e, h, rfl, hw⟩
  | .ret, Q, e, h, hw => ⟨1, .rt, e, h, rfl, hw⟩
  | .region id ops false, Q, e, h, hw => by
    obtain ⟨n, e1, h1, hr, hk⟩ := LW_run hS hw
    refine ⟨n + 1, .nx, e1, h1, ?_, hk⟩
    rw [exec_succ]
    unfold execStep
    have : runRegion C.P (callStep C (exec C n)) lo nt ops false e h = some (e1, h1) := by unfold runRegion; rw [if_neg (by simp)]; exact hr
    simp only [this]
  | .region id ops true, Q, e, h, hw => by
    obtain ⟨hfine, hw⟩ := hw
    obtain ⟨n, e1, h1, hr, hk⟩ := FW_run hS hw
    obtain ⟨m, e2, h2, hr2, hk2⟩ := LW_run hS hk
    refine ⟨max n m + 1, .nx, e2, h2, ?_, hk2⟩
    rw [exec_succ]
    unfold execStep
    have : runRegion C.P (callStep C (exec C (max n m))) lo nt ops true e h = some (e2, h2) := by
      unfold runRegion
      rw [if_pos rfl]
      simp only
      have hfine' := hfine
      unfold frontFine frontAt at hfine'
      rw [if_pos hfine']
      have := runFront_le (call_le hS (Nat.le_max_left n m)) (Nat.le_refl lo) hr
      unfold frontAt call at this
      rw [this]
      exact runOps_le (call_le hS (Nat.le_max_right n m)) (Nat.le_refl lo) hr2
    simp only [this]
  | .seq a b, Q, e, h, hw => by
    obtain ⟨n, r, e1, h1, hx, hq⟩ := W_run hS a hw
    cases r with
    | nx =>
      obtain ⟨m, r2, e2, h2, hx2, hq2⟩ := W_run hS b hq
      refine ⟨max n m + 1, r2, e2, h2, ?_, hq2⟩
      rw [exec_succ]
      unfold execStep
      simp only [exec_le hS (Nat.le_max_left n m) _ _ _ _ _ _ _ (Nat.le_refl _) hx]
      exact exec_le hS (Nat.le_max_right n m) _ _ _ _ _ _ _ (Nat.le_refl _) hx2
    | ex id => exact ⟨n + 1, _, e1, h1, by rw [exec_succ]; unfold execStep; simp only [hx], hq⟩
    | rt => exact ⟨n + 1, _, e1, h1, by rw [exec_succ]; unfold execStep; simp only [hx], hq⟩
  | .cond x a b, Q, e, h, hw => by
    obtain ⟨t, hev, ht, hf⟩ := hw
    cases t with
    | true =>
      obtain ⟨n, r, e1, h1, hx, hq⟩ := W_run hS a (ht rfl)
      exact ⟨n + 1, r, e1, h1, by rw [exec_succ]; unfold execStep; simp only [hev]; exact hx, hq⟩
    | false =>
      obtain ⟨n, r, e1, h1, hx, hq⟩ := W_run hS b (hf rfl)
      exact ⟨n + 1, r, e1, h1, by rw [exec_succ]; unfold execStep; simp only [hev]; exact hx, hq⟩
  | .block id b, Q, e, h, hw => by
    obtain ⟨n, r, e1, h1, hx, hq⟩ := W_run hS b hw
    cases r with
    | nx => exact ⟨n + 1, _, e1, h1, by rw [exec_succ]; unfold execStep; simp only [hx], hq⟩
    | rt => exact ⟨n + 1, _, e1, h1, by rw [exec_succ]; unfold execStep; simp only [hx], hq⟩
    | ex id' =>
      simp only at hq
      split at hq
      · rename_i he; exact ⟨n + 1, .nx, e1, h1, by rw [exec_succ]; unfold execStep; simp only [hx, if_pos he], hq⟩
      · rename_i he; exact ⟨n + 1, .ex id', e1, h1, by rw [exec_succ]; unfold execStep; simp only [hx, if_neg he], hq⟩
  | .loop b, Q, e, h, ⟨n, hw⟩ => ran_loop hS (fun hb => W_run hS b hb) hw
  | .rangeFunc _ _ _ _, _, _, _, hw => hw.elim
  | .scope _, _, _, _, hw => hw.elim
  | .goto _, _, _, _, hw => hw.elim
  | .refuse _, _, _, _, hw => hw.elim

/-- a call, out of its body -/
theorem CW_enter (hS : ShortLow C) {f : FuncId} {fn : Func} {c : Code} {as : List V} {lo : Nat} {K : V → H → Prop} (hs : C.S f = none) (hf : C.P.funcs[f]? = some fn) (hb : fn.body = some c) (hn : as.length ≤ fn.ntmps)
    (hw : W C lo fn.ntmps c (fun r e h => match r with | .ex _ => False | _ => ∃ v, resultsV C.P fn e h = some v ∧ K v h) (mkEnv 0 as .nil) h) : CW C f as lo h K := by
  obtain ⟨n, r, e1, h1, hx, hq⟩ := W_run hS c hw
  cases r with
  | ex id => exact hq.elim
  | nx =>
    obtain ⟨v, hv, hk⟩ := hq
    exact ⟨n, v, h1, by unfold call callStep; simp only [hs, hf, hb, if_pos hn, hx, hv, Option.map_some], hk⟩
  | rt =>
    obtain ⟨v, hv, hk⟩ := hq
    exact ⟨n, v, h1, by unfold call callStep; simp only [hs, hf, hb, if_pos hn, hx, hv, Option.map_some], hk⟩
theorem CW.mono {f : FuncId} {as : List V} {lo : Nat} {K K' : V → H → Prop} (hw : CW C f as lo h K) (hk : ∀ v h', K v h' → K' v h') : CW C f as lo h K' := by
  obtain ⟨n, v, h', h1, h2⟩ := hw
  exact ⟨n, v, h', h1, hk _ _ h2⟩
/-- a call that needs nothing that is there leaves all that is there as it is -/
theorem CW.pure (hS : ShortLow C) (hg : ShortGood C) {f : FuncId} {as : List V} {lo : Nat} {K : V → H → Prop} (hlo : lo ≤ h.next) (hw : CW C f as h.next h K) : CW C f as lo h fun v h' => K v h' ∧ Good h.next h h' := by
  obtain ⟨n, v, h', h1, h2⟩ := hw
  refine ⟨n, v, h', call_le hS (Nat.le_refl n) _ _ _ _ _ _ _ hlo h1, h2, ?_⟩
  exact callStep_good hg (exec_good hg n) _ _ _ _ _ _ h1 (Nat.le_refl _)
theorem OW_mono {lo : Nat} {e : Env} {o : Op} {K K' : V → H → Prop} (hk : ∀ v h', K v h' → K' v h') (hw : OW C lo e h o K) : OW C lo e h o K' := by
  unfold OW at hw ⊢
  split at hw
  · obtain ⟨as, f', a, b, h1, h2, h3⟩ := hw
    exact ⟨as, f', a, b, h1, h2, h3.mono hk⟩
  · obtain ⟨v, h', h1, h2⟩ := hw
    exact ⟨v, h', h1, hk _ _ h2⟩
theorem LW_mono {lo nt : Nat} {ops : Array Oper} {K K' : Env → H → Prop} (hk : ∀ e h, K e h → K' e h) : ∀ {l : List Oper} {e : Env} {h : H}, LW C lo nt ops l K e h → LW C lo nt ops l K' e h
  | [], e, h, hw => hk _ _ hw
  | o :: r, e, h, hw => by
    unfold LW at hw ⊢
    split at hw
    · exact OW_mono (fun v h' ⟨e', h1, h2⟩ => ⟨e', h1, LW_mono hk h2⟩) hw
    · obtain ⟨e', h1, h2⟩ := hw
      exact ⟨e', h1, LW_mono hk h2⟩
theorem FW_mono {lo old nt : Nat} {st : Bool} {ops : Array Oper} {K K' : Env → H → Prop} (hk : ∀ e h, K e h → K' e h) : ∀ {k : Nat} {l : List Oper} {e : Env} {h : H}, FW C lo old nt st ops k l K e h → FW C lo old nt st ops k l K' e h
  | 0, l, e, h, hw => hk _ _ hw
  | k + 1, [], e, h, hw => hk _ _ hw
  | k + 1, o :: r, e, h, hw => by
    unfold FW at hw ⊢
    split at hw
    · unfold FOW at hw ⊢
      split at hw
      · exact ⟨hw.1, OW_mono (fun v h' ⟨e', h1, h2⟩ => ⟨e', h1, FW_mono hk h2⟩) hw.2⟩
      · obtain ⟨v, h', h1, e', h2, h3⟩ := hw
        exact ⟨v, h', h1, e', h2, FW_mono hk h3⟩
    · obtain ⟨e', h1, h2⟩ := hw
      exact ⟨e', h1, FW_mono hk h2⟩
theorem loopN_mono {body : RQ → Env → H → Prop} (hb : ∀ (Q Q' : RQ) (e : Env) (h : H), (∀ r e h, Q r e h → Q' r e h) → body Q e h → body Q' e h) {Q Q' : RQ} (hq : ∀ r e h, Q r e h → Q' r e h) : ∀ {n : Nat} {e : Env} {h : H}, loopN body Q n e h → loopN body Q' n e h
  | 0, _, _, hw => hw
  | n + 1, e, h, hw => hb _ _ e h (fun r e h hr => by
    cases r with
    | nx => exact loopN_mono hb hq hr
    | ex id => exact hq _ _ _ hr
    | rt => exact hq _ _ _ hr) hw
theorem W_mono {lo nt : Nat} : ∀ (c : Code) {Q Q' : RQ} {e : Env} {h : H}, (∀ r e h, Q r e h → Q' r e h) → W C lo nt c Q e h → W C lo nt c Q' e h
  | .skip, Q, Q', e, h, hq, hw => hq _ _ _ hw
  | .label _, Q, Q', e, h, hq, hw => hq _ _ _ hw
  | .exit _, Q, Q', e, h, hq, hw => hq _ _ _ hw
  | .ret, Q, Q', e, h, hq, hw => hq _ _ _ hw
  | .region _ ops false, Q, Q', e, h, hq, hw => LW_mono (fun e h => hq _ _ _) hw
  | .region _ ops true, Q, Q', e, h, hq, hw => ⟨hw.1, FW_mono (fun e h hx => LW_mono (fun e h => hq _ _ _) hx) hw.2⟩
  | .seq a b, Q, Q', e, h, hq, hw => W_mono a (fun r e h hr => match r, hr with
    | .nx, hr => W_mono b hq hr
    | .ex _, hr => hq _ _ _ hr
    | .rt, hr => hq _ _ _ hr) hw
  | .cond x a b, Q, Q', e, h, hq, ⟨t, h1, h2, h3⟩ => ⟨t, h1, fun ht => W_mono a hq (h2 ht), fun ht => W_mono b hq (h3 ht)⟩
  | .block id b, Q, Q', e, h, hq, hw => W_mono b (fun r e h hr => by
    cases r with
    | nx => exact hq _ _ _ hr
    | rt => exact hq _ _ _ hr
    | ex id' =>
      simp only at hr ⊢
      split at hr
      · rename_i he; rw [if_pos he]; exact hq _ _ _ hr
      · rename_i he; rw [if_neg he]; exact hq _ _ _ hr) hw
  | .loop b, Q, Q', e, h, hq, ⟨n, hw⟩ => ⟨n, loopN_mono (body := W C lo nt b) (fun _ _ _ _ hq hw => W_mono b hq hw) hq hw⟩
  | .rangeFunc _ _ _ _, _, _, _, _, _, hw => hw.elim
  | .scope _, _, _, _, _, _, hw => hw.elim
  | .goto _, _, _, _, _, _, hw => hw.elim
  | .refuse _, _, _, _, _, _, hw => hw.elim
/-- a loop: what holds at each round's start, and a number that falls -/
theorem W_loop {lo nt : Nat} {b : Code} {Q : RQ} (I : Nat → Env → H → Prop) (hI : ∀ m e h, I m e h → W C lo nt b (fun r e' h' => match r with | .nx => ∃ m', m' < m ∧ I m' e' h' | r => Q r e' h') e h)
    (m : Nat) (e : Env) (h : H) (hi : I m e h) : W C lo nt (.loop b) Q e h := by
  have key : ∀ (k m : Nat) (e : Env) (h : H), m < k → I m e h → loopN (W C lo nt b) Q k e h := by
    intro k
    induction k with
    | zero => intro m e h hm; omega
    | succ k ih =>
      intro m e h hm hi
      refine W_mono b (fun r e' h' hq => ?_) (hI m e h hi)
      cases r with
      | nx => obtain ⟨m', h1, h2⟩ := hq; exact ih m' e' h' (by omega) h2
      | ex id => exact hq
      | rt => exact hq
  exact ⟨m + 1, key (m + 1) m e h (by omega) hi⟩
end
end Go.Den
