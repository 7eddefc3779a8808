/- Reasoning about the machine without fuel: more fuel, or a lower barrier, changes no answer; what code comes to, said backwards from what is wanted. -/
import Derived.Test.YtghmbmblhdgabaaDoorDenE
set_option linter.all false
namespace Go.Den
open Go
variable {P : Program} {h h' : H}

/-! ### more fuel, a lower barrier -/
theorem owned_lower {lo lo' b : Nat} (hl : lo' ≤ lo) {x : List V × Nat × Nat} (ho : h.owned lo b = some x) : h.owned lo' b = some x := by
  obtain ⟨l, f, low⟩ := x
  obtain ⟨h1, h2, h3⟩ := owned_some ho
  have h4 := owned_fam ho
  unfold H.owned
  rw [h1]
  simp only [h2, if_true]
  rw [if_pos ⟨by omega, by omega⟩]
theorem storeV_lower {lo lo' : Nat} (hl : lo' ≤ lo) {t : TypeId} {x v : V} (hs : storeV P lo t x v h = some h') : storeV P lo' t x v h = some h' := by
  cases x <;> first | (cases hs; done) | skip
  rename_i b o
  unfold storeV at hs ⊢
  simp only at hs ⊢
  cases ho : h.owned lo b with
  | none => simp only [ho] at hs; cases hs
  | some y => simp only [owned_lower hl ho]; simp only [ho] at hs; exact hs
theorem markV_lower {lo lo' : Nat} (hl : lo' ≤ lo) {t : TypeId} {x v : V} (hs : markV P lo t x h = some (v, h')) : markV P lo' t x h = some (v, h') := by
  unfold markV at hs ⊢
  split at hs
  · rename_i e b o n c es hu
    cases ho : h.owned lo b with
    | none => simp only [ho] at hs; split at hs <;> first | (rename_i e2; cases e2; done) | cases hs
    | some y => simp only [owned_lower hl ho]; simp only [ho] at hs; exact hs
  · cases hs
theorem copyV_lower {lo lo' : Nat} (hl : lo' ≤ lo) {ts : List TypeId} {d s v : V} (hs : copyV P lo ts d s h = some (v, h')) : copyV P lo' ts d s h = some (v, h') := by
  unfold copyV at hs ⊢
  split at hs
  · split at hs
    · split at hs
      · split at hs
        · exact hs
        · rename_i m xs b o n c es' hel
          simp only at hs ⊢
          split at hs
          · cases hs
          · rename_i hne
            rw [if_neg hne]
            split at hs
            · rename_i h0; rw [if_pos h0]; exact hs
            · rename_i h0
              rw [if_neg h0]
              cases ho : h.owned lo b with
              | none => simp only [ho] at hs; cases hs
              | some y => simp only [owned_lower hl ho]; simp only [ho] at hs; exact hs
        · cases hs
      · cases hs
    · cases hs
  · cases hs
theorem appendV_lower {lo lo' : Nat} (hl : lo' ≤ lo) {ts : List TypeId} {s x v : V} (hs : appendV P lo ts s x h = some (v, h')) : appendV P lo' ts s x h = some (v, h') := by
  cases s with
  | sl b o n c es =>
    cases ho : h.owned lo b with
    | none =>
      unfold appendV at hs ⊢
      simp only [ho] at hs
      split at hs
      · split at hs
        · split at hs
          · split at hs
            · split at hs
              · cases hs
              · rename_i h7
                rw [if_neg h7]
                split at hs
                · cases hs
                · rename_i h8
                  simp only [if_neg h8]
                  split at hs
                  · rename_i h9; rw [if_pos h9]; exact hs
                  · rename_i h9
                    rw [if_neg h9]
                    split at hs
                    · rename_i h10
                      rw [if_pos h10]
                      split at hs
                      · rename_i h11; rw [if_pos h11]; exact hs
                      · cases hs
                    · cases hs
            · cases hs
          · cases hs
        · cases hs
      · cases hs
    | some y =>
      unfold appendV at hs ⊢
      simp only [ho] at hs
      simp only [owned_lower hl ho]
      exact hs
  | _ => unfold appendV at hs ⊢; exact hs

def CallLe (call call' : CallFn) : Prop := ∀ f as lo lo' h v h', lo' ≤ lo → call f as lo h = some (v, h') → call' f as lo' h = some (v, h')
def RecLe (rec rec' : Rec) : Prop := ∀ lo lo' nt c e h x, lo' ≤ lo → rec lo nt c e h = some x → rec' lo' nt c e h = some x
theorem aop_le {call call' : CallFn} (hc : CallLe call call') {lo lo' : Nat} (hl : lo' ≤ lo) {e : Env} {o : Op} {v : V} (ha : aop P call lo e h o = some (v, h')) : aop P call' lo' e h o = some (v, h') := by
  unfold aop at ha ⊢
  split at ha
  · split at ha
    · split at ha
      · rename_i h3; rw [storeV_lower hl h3]; exact ha
      · cases ha
    · cases ha
  · split at ha
    · rename_i h1
      rw [if_pos h1]
      split at ha
      · exact markV_lower hl ha
      · cases ha
    · rename_i h1; rw [if_neg h1]; exact ha
  · split at ha
    · exact hc _ _ _ _ _ _ _ hl ha
    · cases ha
  · split at ha
    · exact appendV_lower hl ha
    · cases ha
  · split at ha
    · exact copyV_lower hl ha
    · cases ha
  · exact ha
theorem runOps_le {call call' : CallFn} (hc : CallLe call call') {lo lo' nt : Nat} (hl : lo' ≤ lo) {ops : Array Oper} : ∀ {l : List Oper} {e : Env} {h : H} {x : Env × H}, runOps P call lo nt ops l e h = some x → runOps P call' lo' nt ops l e h = some x
  | [], e, h, x, hr => hr
  | o :: r, e, h, x, hr => by
    unfold runOps at hr ⊢
    split at hr
    · rename_i hw
      rw [if_pos hw]
      split at hr
      · rename_i v h1 ha
        rw [aop_le hc hl ha]
        simp only
        split at hr
        · exact runOps_le hc hl hr
        · cases hr
      · cases hr
    · rename_i hw
      rw [if_neg hw]
      split at hr
      · exact runOps_le hc hl hr
      · cases hr
theorem barrier_le {lo lo' old : Nat} (hl : lo' ≤ lo) (o : Op) : barrier lo' old h o ≤ barrier lo old h o := by
  unfold barrier
  split <;> omega
theorem frontOp_le {call call' : CallFn} (hc : CallLe call call') {lo lo' old : Nat} (hl : lo' ≤ lo) {st : Bool} {e : Env} {o : Op} {v : V} (ha : frontOp P call lo old st e h o = some (v, h')) : frontOp P call' lo' old st e h o = some (v, h') := by
  unfold frontOp at ha ⊢
  split at ha
  · rename_i h1
    rw [if_pos h1]
    split at ha
    · rename_i h2; rw [if_pos h2]; exact aop_le hc (barrier_le hl o) ha
    · cases ha
  · rename_i h1; rw [if_neg h1]; exact ha
theorem runFront_le {call call' : CallFn} (hc : CallLe call call') {lo lo' old nt : Nat} (hl : lo' ≤ lo) {st : Bool} {ops : Array Oper} : ∀ {k : Nat} {l : List Oper} {e : Env} {h : H} {x : Env × H}, runFront P call lo old nt st ops k l e h = some x → runFront P call' lo' old nt st ops k l e h = some x
  | 0, l, e, h, x, hr => hr
  | k + 1, [], e, h, x, hr => hr
  | k + 1, o :: r, e, h, x, hr => by
    unfold runFront at hr ⊢
    split at hr
    · rename_i hw
      rw [if_pos hw]
      split at hr
      · rename_i v h1 ha
        rw [frontOp_le hc hl ha]
        simp only
        split at hr
        · exact runFront_le hc hl hr
        · cases hr
      · cases hr
    · rename_i hw
      rw [if_neg hw]
      split at hr
      · exact runFront_le hc hl hr
      · cases hr
theorem runRegion_le {call call' : CallFn} (hc : CallLe call call') {lo lo' nt : Nat} (hl : lo' ≤ lo) {ops : Array Oper} {draw : Bool} {e : Env} {x : Env × H} (hr : runRegion P call lo nt ops draw e h = some x) : runRegion P call' lo' nt ops draw e h = some x := by
  unfold runRegion at hr ⊢
  split at hr
  · rename_i hd
    rw [if_pos hd]
    simp only at hr ⊢
    split at hr
    · rename_i hok
      rw [if_pos hok]
      split at hr
      · rename_i e1 h1 hf; rw [runFront_le hc hl hf]; exact runOps_le hc hl hr
      · cases hr
    · cases hr
  · rename_i hd; rw [if_neg hd]; exact runOps_le hc hl hr

def ShortLow (C : Cfg) : Prop := ∀ f g, C.S f = some g → ∀ as lo lo' h v h', lo' ≤ lo → g as lo h = some (v, h') → g as lo' h = some (v, h')
section
variable {C : Cfg}
theorem callStep_le (hS : ShortLow C) {rec rec' : Rec} (hr : RecLe rec rec') : CallLe (callStep C rec) (callStep C rec') := by
  intro f as lo lo' h v h' hl hc
  unfold callStep at hc ⊢
  split at hc
  · rename_i g hg; exact hS _ _ hg _ _ _ _ _ _ hl hc
  · split at hc
    · split at hc
      · split at hc
        · rename_i hlen
          rw [if_pos hlen]
          split at hc
          · rename_i hx; rw [hr _ _ _ _ _ _ _ hl hx]; exact hc
          · rename_i hx; rw [hr _ _ _ _ _ _ _ hl hx]; exact hc
          · cases hc
        · cases hc
      · cases hc
    · cases hc
theorem execStep_le (hS : ShortLow C) {rec rec' : Rec} (hr : RecLe rec rec') : RecLe (execStep C rec) (execStep C rec') := by
  intro lo lo' nt c e h x hl hx
  cases c <;> unfold execStep at hx ⊢ <;> simp only at hx ⊢ <;> first | exact hx | skip
  case region id ops draw =>
    split at hx
    · rename_i e1 h1 hg; rw [runRegion_le (callStep_le hS hr) hl hg]; exact hx
    · cases hx
  case seq a b =>
    split at hx
    · rename_i h1; rw [hr _ _ _ _ _ _ _ hl h1]; exact hr _ _ _ _ _ _ _ hl hx
    · rename_i hno
      cases hq : rec lo nt a e h with
      | none => rw [hq] at hx; cases hx
      | some y =>
        rw [hr _ _ _ _ _ _ _ hl hq]
        rw [hq] at hx
        cases hx
        obtain ⟨r, e1, h1⟩ := x
        cases r with
        | nx => exact absurd hq (hno _ _)
        | ex id => rfl
        | rt => rfl
  case cond x a b =>
    split at hx
    · rename_i h1; exact hr _ _ _ _ _ _ _ hl hx
    · cases hx
  case block id b =>
    split at hx
    · rename_i h1; rw [hr _ _ _ _ _ _ _ hl h1]; exact hx
    · rename_i hno
      cases hq : rec lo nt b e h with
      | none => rw [hq] at hx; cases hx
      | some y =>
        rw [hr _ _ _ _ _ _ _ hl hq]
        rw [hq] at hx
        cases hx
        obtain ⟨r, e1, h1⟩ := x
        cases r with
        | nx => rfl
        | ex id => exact absurd hq (hno _ _ _)
        | rt => rfl
  case loop b =>
    split at hx
    · rename_i h1; rw [hr _ _ _ _ _ _ _ hl h1]; exact hr _ _ _ _ _ _ _ hl hx
    · rename_i hno
      cases hq : rec lo nt b e h with
      | none => rw [hq] at hx; cases hx
      | some y =>
        rw [hr _ _ _ _ _ _ _ hl hq]
        rw [hq] at hx
        cases hx
        obtain ⟨r, e1, h1⟩ := x
        cases r with
        | nx => exact absurd hq (hno _ _)
        | ex id => rfl
        | rt => rfl
theorem exec_le (hS : ShortLow C) : ∀ {n m : Nat}, n ≤ m → RecLe (exec C n) (exec C m)
  | 0, m, _ => fun lo lo' nt c e h x _ hx => by cases hx
  | n + 1, 0, hm => by omega
  | n + 1, m + 1, hm => by
    rw [exec_succ, exec_succ]
    exact execStep_le hS (exec_le hS (by omega))
theorem call_le (hS : ShortLow C) {n m : Nat} (hm : n ≤ m) : CallLe (call C n) (call C m) := callStep_le hS (exec_le hS hm)

/-! ### what code comes to -/
/-- a call comes to an end, with K of what it tells and leaves -/
def CW (C : Cfg) (f : FuncId) (as : List V) (lo : Nat) (h : H) (K : V → H → Prop) : Prop := ∃ n v h', call C n f as lo h = some (v, h') ∧ K v h'
def noCall : CallFn := fun _ _ _ _ => none
/-- an operation -/
def OW (C : Cfg) (lo : Nat) (e : Env) (h : H) (o : Op) (K : V → H → Prop) : Prop :=
  match o with
  | .call { callee := .value f, args, .. } => ∃ as f' a b, evs e args.toList = some as ∧ ev e f = some (.fn (.func f') a b) ∧ CW C f' (a ++ as ++ b) lo h K
  | o => ∃ v h', aop C.P noCall lo e h o = some (v, h') ∧ K v h'
def PW (nt : Nat) (d : Option Nat) (v : V) (e : Env) (K : Env → Prop) : Prop := ∃ e', put nt d v e = some e' ∧ K e'
def LW (C : Cfg) (lo nt : Nat) (ops : Array Oper) : List Oper → (Env → H → Prop) → Env → H → Prop
  | [], K, e, h => K e h
  | o :: r, K, e, h => match wantedV ops e o with
    | true => OW C lo e h o.op fun v h' => PW nt o.dst v e fun e' => LW C lo nt ops r K e' h'
    | false => PW nt o.dst undef e fun e' => LW C lo nt ops r K e' h
/-- an operation of a front -/
def FOW (C : Cfg) (lo old : Nat) (st : Bool) (e : Env) (h : H) (o : Op) (K : V → H → Prop) : Prop :=
  match heavy o with
  | true => atEnd e h o = true ∧ OW C (barrier lo old h o) e h o K
  | false => ∃ v h', keep h (lightOp C.P (rdOf st old h) e o) = some (v, h') ∧ K v h'
def FW (C : Cfg) (lo old nt : Nat) (st : Bool) (ops : Array Oper) : Nat → List Oper → (Env → H → Prop) → Env → H → Prop
  | 0, _, K, e, h => K e h
  | _ + 1, [], K, e, h => K e h
  | k + 1, o :: r, K, e, h => match wantedV ops e o with
    | true => FOW C lo old st e h o.op fun v h' => PW nt o.dst v e fun e' => FW C lo old nt st ops k r K e' h'
    | false => PW nt o.dst undef e fun e' => FW C lo old nt st ops k r K e' h
def frontAt (ops : Array Oper) : Nat := tailAt 0 (befs [] ops.toList)
def frontFine (ops : Array Oper) : Bool := frontOk ops (befs [] ops.toList) 0 (frontAt ops) ops.toList && edgesOk 0 ops.toList
abbrev RQ := R → Env → H → Prop
def loopN (body : RQ → Env → H → Prop) (Q : RQ) : Nat → Env → H → Prop
  | 0, _, _ => False
  | n + 1, e, h => body (fun r e h => match r with | .nx => loopN body Q n e h | r => Q r e h) e h
def W (C : Cfg) (lo nt : Nat) : Code → RQ → Env → H → Prop
  | .skip, Q, e, h => Q .nx e h
  | .label _, Q, e, h => Q .nx e h
  | .region _ ops false, Q, e, h => LW C lo nt ops ops.toList (fun e h => Q .nx e h) e h
  | .region _ ops true, Q, e, h => frontFine ops = true ∧ FW C lo h.next nt (anyStore (frontAt ops) ops.toList) ops (frontAt ops) ops.toList (LW C lo nt ops (ops.toList.drop (frontAt ops)) fun e h => Q .nx e h) e h
  | .seq a b, Q, e, h => W C lo nt a (fun r e h => match r with | .nx => W C lo nt b Q e h | r => Q r e h) e h
  | .cond x a b, Q, e, h => ∃ t, ev e x = some (.bool t) ∧ (t = true → W C lo nt a Q e h) ∧ (t = false → W C lo nt b Q e h)
  | .block id b, Q, e, h => W C lo nt b (fun r e h => match r with | .ex id' => if id' = id then Q .nx e h else Q (.ex id') e h | r => Q r e h) e h
  | .loop b, Q, e, h => ∃ n, loopN (W C lo nt b) Q n e h
  | .exit id, Q, e, h => Q (.ex id) e h
  | .ret, Q, e, h => Q .rt e h
  | _, _, _, _ => False
def Ran (C : Cfg) (lo nt : Nat) (c : Code) (Q : RQ) (e : Env) (h : H) : Prop := ∃ n r e' h', exec C n lo nt c e h = some (r, e', h') ∧ Q r e' h'

theorem OW_run {lo : Nat} {e : Env} {o : Op} {K : V → H → Prop} (hw : OW C lo e h o K) : ∃ n v h', aop C.P (call C n) lo e h o = some (v, h') ∧ K v h' := by
  unfold OW at hw
  split at hw
  · obtain ⟨as, f', a, b, h1, h2, n, v, h', h3, h4⟩ := hw
    refine ⟨n, v, h', ?_, h4⟩
    unfold aop
    simp only [h1, h2, h3]
  · obtain ⟨v, h', h1, h2⟩ := hw
    exact ⟨0, v, h', aop_le (fun _ _ _ _ _ _ _ _ hc => by cases hc) (Nat.le_refl _) h1, h2⟩
theorem LW_run (hS : ShortLow C) {lo nt : Nat} {ops : Array Oper} {K : Env → H → Prop} : ∀ {l : List Oper} {e : Env} {h : H}, LW C lo nt ops l K e h → ∃ n e' h', runOps C.P (call C n) lo nt ops l e h = some (e', h') ∧ K e' h'
  | [], e, h, hw => ⟨0, e, h, rfl, hw⟩
  | o :: r, e, h, hw => by
    unfold LW at hw
    split at hw
    · rename_i hwant
      obtain ⟨n, v, h1, ha, e1, hp, hk⟩ := OW_run hw
      obtain ⟨m, e2, h2, hr, hk2⟩ := LW_run hS hk
      refine ⟨max n m, e2, h2, ?_, hk2⟩
      unfold runOps
      rw [if_pos hwant, aop_le (call_le hS (Nat.le_max_left n m)) (Nat.le_refl _) ha]
      simp only [hp]
      exact runOps_le (call_le hS (Nat.le_max_right n m)) (Nat.le_refl _) hr
    · rename_i hwant
      obtain ⟨e1, hp, hk⟩ := hw
      obtain ⟨m, e2, h2, hr, hk2⟩ := LW_run hS hk
      refine ⟨m, e2, h2, ?_, hk2⟩
      unfold runOps
      rw [if_neg (by rw [hwant]; simp)]
      simp only [hp]
      exact hr
theorem FW_run (hS : ShortLow C) {lo old nt : Nat} {st : Bool} {ops : Array Oper} {K : Env → H → Prop} : ∀ {k : Nat} {l : List Oper} {e : Env} {h : H}, FW C lo old nt st ops k l K e h → ∃ n e' h', runFront C.P (call C n) lo old nt st ops k l e h = some (e', h') ∧ K e' h'
  | 0, l, e, h, hw => ⟨0, e, h, rfl, hw⟩
  | k + 1, [], e, h, hw => ⟨0, e, h, rfl, hw⟩
  | k + 1, o :: r, e, h, hw => by
    unfold FW at hw
    split at hw
    · rename_i hwant
      obtain ⟨n, v, h1, ha, e1, hp, hk⟩ : ∃ n v h', frontOp C.P (call C n) lo old st e h o.op = some (v, h') ∧ PW nt o.dst v e fun e' => FW C lo old nt st ops k r K e' h' := by
        unfold FOW at hw
        split at hw
        · rename_i hv
          obtain ⟨hend, hw⟩ := hw
          obtain ⟨n, v, h1, ha, hk⟩ := OW_run hw
          exact ⟨n, v, h1, by unfold frontOp; rw [if_pos hv, if_pos hend]; exact ha, hk⟩
        · rename_i hv
          obtain ⟨v, h1, ha, hk⟩ := hw
          exact ⟨0, v, h1, by unfold frontOp; rw [if_neg (by rw [hv]; simp)]; exact ha, hk⟩
      obtain ⟨m, e2, h2, hr, hk2⟩ := FW_run hS hk
      refine ⟨max n m, e2, h2, ?_, hk2⟩
      unfold runFront
      rw [if_pos hwant, frontOp_le (call_le hS (Nat.le_max_left n m)) (Nat.le_refl _) ha]
      simp only [hp]
      exact runFront_le (call_le hS (Nat.le_max_right n m)) (Nat.le_refl _) hr
    · rename_i hwant
      obtain ⟨e1, hp, hk⟩ := hw
      obtain ⟨m, e2, h2, hr, hk2⟩ := FW_run hS hk
      refine ⟨m, e2, h2, ?_, hk2⟩
      unfold runFront
      rw [if_neg (by rw [hwant]; simp)]
      simp only [hp]
      exact hr
theorem ran_loop (hS : ShortLow C) {lo nt : Nat} {b : Code} {Q : RQ} (hb : ∀ {Q : RQ} {e : Env} {h : H}, W C lo nt b Q e h → Ran C lo nt b Q e h) : ∀ {n : Nat} {e : Env} {h : H}, loopN (W C lo nt b) Q n e h → Ran C lo nt (.loop b) Q e h
  | 0, _, _, hw => hw.elim
  | n + 1, e, h, hw => by
    obtain ⟨m, r, e1, h1, hx, hq⟩ := hb hw
    cases r with
    | nx =>
      obtain ⟨m2, r2, e2, h2, hx2, hq2⟩ := ran_loop hS hb hq
      refine ⟨max m m2 + 1, r2, e2, h2, ?_, hq2⟩
      rw [exec_succ]
      unfold execStep
      simp only [exec_le hS (Nat.le_max_left m m2) _ _ _ _ _ _ _ (Nat.le_refl _) hx]
      exact exec_le hS (Nat.le_max_right m m2) _ _ _ _ _ _ _ (Nat.le_refl _) hx2
    | ex id => exact ⟨m + 1, _, e1, h1, by rw [exec_succ]; unfold execStep; simp only [hx], hq⟩
    | rt => exact ⟨m + 1, _, e1, h1, by rw [exec_succ]; unfold execStep; simp only [hx], hq⟩
theorem W_run (hS : ShortLow C) {lo nt : Nat} : ∀ (c : Code) {Q : RQ} {e : Env} {h : H}, W C lo nt c Q e h → Ran C lo nt c Q e h
  | .skip, Q, e, h, hw => ⟨1, .nx, e, h, rfl, hw⟩
  | .label _, Q, e, h, hw => ⟨1, .nx, e, h, rfl, hw⟩
  | .exit id, Q, e, h, hw => ⟨1, .ex id, e, h, rfl, hw⟩
  | .ret, Q, e, h, hw => ⟨1, .rt, e, h, rfl, hw⟩
  | .region id ops false, Q, e, h, hw => by
    obtain ⟨n, e1, h1, hr, hk⟩ := LW_run hS hw
    refine ⟨n + 1, .nx, e1, h1, ?_, hk⟩
    rw [exec_succ]
    unfold execStep
    have : runRegion C.P (callStep C (exec C n)) lo nt ops false e h = some (e1, h1) := by unfold runRegion; rw [if_neg (by simp)]; exact hr
    simp only [this]
  | .region id ops true, Q, e, h, hw => by
    obtain ⟨hfine, hw⟩ := hw
    obtain ⟨n, e1, h1, hr, hk⟩ := FW_run hS hw
    obtain ⟨m, e2, h2, hr2, hk2⟩ := LW_run hS hk
    refine ⟨max n m + 1, .nx, e2, h2, ?_, hk2⟩
    rw [exec_succ]
    unfold execStep
    have : runRegion C.P (callStep C (exec C (max n m))) lo nt ops true e h = some (e2, h2) := by
      unfold runRegion
      rw [if_pos rfl]
      simp only
      have hfine' := hfine
      unfold frontFine frontAt at hfine'
      rw [if_pos hfine']
      have := runFront_le (call_le hS (Nat.le_max_left n m)) (Nat.le_refl lo) hr
      unfold frontAt call at this
      rw [this]
      exact runOps_le (call_le hS (Nat.le_max_right n m)) (Nat.le_refl lo) hr2
    simp only [this]
  | .seq a b, Q, e, h, hw => by
    obtain ⟨n, r, e1, h1, hx, hq⟩ := W_run hS a hw
    cases r with
    | nx =>
      obtain ⟨m, r2, e2, h2, hx2, hq2⟩ := W_run hS b hq
      refine ⟨max n m + 1, r2, e2, h2, ?_, hq2⟩
      rw [exec_succ]
      unfold execStep
      simp only [exec_le hS (Nat.le_max_left n m) _ _ _ _ _ _ _ (Nat.le_refl _) hx]
      exact exec_le hS (Nat.le_max_right n m) _ _ _ _ _ _ _ (Nat.le_refl _) hx2
    | ex id => exact ⟨n + 1, _, e1, h1, by rw [exec_succ]; unfold execStep; simp only [hx], hq⟩
    | rt => exact ⟨n + 1, _, e1, h1, by rw [exec_succ]; unfold execStep; simp only [hx], hq⟩
  | .cond x a b, Q, e, h, hw => by
    obtain ⟨t, hev, ht, hf⟩ := hw
    cases t with
    | true =>
      obtain ⟨n, r, e1, h1, hx, hq⟩ := W_run hS a (ht rfl)
      exact ⟨n + 1, r, e1, h1, by rw [exec_succ]; unfold execStep; simp only [hev]; exact hx, hq⟩
    | false =>
      obtain ⟨n, r, e1, h1, hx, hq⟩ := W_run hS b (hf rfl)
      exact ⟨n + 1, r, e1, h1, by rw [exec_succ]; unfold execStep; simp only [hev]; exact hx, hq⟩
  | .block id b, Q, e, h, hw => by
    obtain ⟨n, r, e1, h1, hx, hq⟩ := W_run hS b hw
    cases r with
    | nx => exact ⟨n + 1, _, e1, h1, by rw [exec_succ]; unfold execStep; simp only [hx], hq⟩
    | rt => exact ⟨n + 1, _, e1, h1, by rw [exec_succ]; unfold execStep; simp only [hx], hq⟩
    | ex id' =>
      simp only at hq
      split at hq
      · rename_i he; exact ⟨n + 1, .nx, e1, h1, by rw [exec_succ]; unfold execStep; simp only [hx, if_pos he], hq⟩
      · rename_i he; exact ⟨n + 1, .ex id', e1, h1, by rw [exec_succ]; unfold execStep; simp only [hx, if_neg he], hq⟩
  | .loop b, Q, e, h, ⟨n, hw⟩ => ran_loop hS (fun hb => W_run hS b hb) hw
  | .rangeFunc _ _ _ _, _, _, _, hw => hw.elim
  | .scope _, _, _, _, hw => hw.elim
  | .goto _, _, _, _, hw => hw.elim
  | .refuse _, _, _, _, hw => hw.elim

/-- a call, out of its body -/
theorem CW_enter (hS : ShortLow C) {f : FuncId} {fn : Func} {c : Code} {as : List V} {lo : Nat} {K : V → H → Prop} (hs : C.S f = none) (hf : C.P.funcs[f]? = some fn) (hb : fn.body = some c) (hn : as.length ≤ fn.ntmps)
    (hw : W C lo fn.ntmps c (fun r e h => match r with | .ex _ => False | _ => ∃ v, resultsV C.P fn e h = some v ∧ K v h) (mkEnv 0 as .nil) h) : CW C f as lo h K := by
  obtain ⟨n, r, e1, h1, hx, hq⟩ := W_run hS c hw
  cases r with
  | ex id => exact hq.elim
  | nx =>
    obtain ⟨v, hv, hk⟩ := hq
    exact ⟨n, v, h1, by unfold call callStep; simp only [hs, hf, hb, if_pos hn, hx, hv, Option.map_some], hk⟩
  | rt =>
    obtain ⟨v, hv, hk⟩ := hq
    exact ⟨n, v, h1, by unfold call callStep; simp only [hs, hf, hb, if_pos hn, hx, hv, Option.map_some], hk⟩
theorem CW.mono {f : FuncId} {as : List V} {lo : Nat} {K K' : V → H → Prop} (hw : CW C f as lo h K) (hk : ∀ v h', K v h' → K' v h') : CW C f as lo h K' := by
  obtain ⟨n, v, h', h1, h2⟩ := hw
  exact ⟨n, v, h', h1, hk _ _ h2⟩
/-- a call that needs nothing that is there leaves all that is there as it is -/
theorem CW.pure (hS : ShortLow C) (hg : ShortGood C) {f : FuncId} {as : List V} {lo : Nat} {K : V → H → Prop} (hlo : lo ≤ h.next) (hw : CW C f as h.next h K) : CW C f as lo h fun v h' => K v h' ∧ Good h.next h h' := by
  obtain ⟨n, v, h', h1, h2⟩ := hw
  refine ⟨n, v, h', call_le hS (Nat.le_refl n) _ _ _ _ _ _ _ hlo h1, h2, ?_⟩
  exact callStep_good hg (exec_good hg n) _ _ _ _ _ _ h1 (Nat.le_refl _)
theorem OW_mono {lo : Nat} {e : Env} {o : Op} {K K' : V → H → Prop} (hk : ∀ v h', K v h' → K' v h') (hw : OW C lo e h o K) : OW C lo e h o K' := by
  unfold OW at hw ⊢
  split at hw
  · obtain ⟨as, f', a, b, h1, h2, h3⟩ := hw
    exact ⟨as, f', a, b, h1, h2, h3.mono hk⟩
  · obtain ⟨v, h', h1, h2⟩ := hw
    exact ⟨v, h', h1, hk _ _ h2⟩
theorem LW_mono {lo nt : Nat} {ops : Array Oper} {K K' : Env → H → Prop} (hk : ∀ e h, K e h → K' e h) : ∀ {l : List Oper} {e : Env} {h : H}, LW C lo nt ops l K e h → LW C lo nt ops l K' e h
  | [], e, h, hw => hk _ _ hw
  | o :: r, e, h, hw => by
    unfold LW at hw ⊢
    split at hw
    · exact OW_mono (fun v h' ⟨e', h1, h2⟩ => ⟨e', h1, LW_mono hk h2⟩) hw
    · obtain ⟨e', h1, h2⟩ := hw
      exact ⟨e', h1, LW_mono hk h2⟩
theorem FW_mono {lo old nt : Nat} {st : Bool} {ops : Array Oper} {K K' : Env → H → Prop} (hk : ∀ e h, K e h → K' e h) : ∀ {k : Nat} {l : List Oper} {e : Env} {h : H}, FW C lo old nt st ops k l K e h → FW C lo old nt st ops k l K' e h
  | 0, l, e, h, hw => hk _ _ hw
  | k + 1, [], e, h, hw => hk _ _ hw
  | k + 1, o :: r, e, h, hw => by
    unfold FW at hw ⊢
    split at hw
    · unfold FOW at hw ⊢
      split at hw
      · exact ⟨hw.1, OW_mono (fun v h' ⟨e', h1, h2⟩ => ⟨e', h1, FW_mono hk h2⟩) hw.2⟩
      · obtain ⟨v, h', h1, e', h2, h3⟩ := hw
        exact ⟨v, h', h1, e', h2, FW_mono hk h3⟩
    · obtain ⟨e', h1, h2⟩ := hw
      exact ⟨e', h1, FW_mono hk h2⟩
theorem loopN_mono {body : RQ → Env → H → Prop} (hb : ∀ (Q Q' : RQ) (e : Env) (h : H), (∀ r e h, Q r e h → Q' r e h) → body Q e h → body Q' e h) {Q Q' : RQ} (hq : ∀ r e h, Q r e h → Q' r e h) : ∀ {n : Nat} {e : Env} {h : H}, loopN body Q n e h → loopN body Q' n e h
  | 0, _, _, hw => hw
  | n + 1, e, h, hw => hb _ _ e h (fun r e h hr => by
    cases r with
    | nx => exact loopN_mono hb hq hr
    | ex id => exact hq _ _ _ hr
    | rt => exact hq _ _ _ hr) hw
theorem W_mono {lo nt : Nat} : ∀ (c : Code) {Q Q' : RQ} {e : Env} {h : H}, (∀ r e h, Q r e h → Q' r e h) → W C lo nt c Q e h → W C lo nt c Q' e h
  | .skip, Q, Q', e, h, hq, hw => hq _ _ _ hw
  | .label _, Q, Q', e, h, hq, hw => hq _ _ _ hw
  | .exit _, Q, Q', e, h, hq, hw => hq _ _ _ hw
  | .ret, Q, Q', e, h, hq, hw => hq _ _ _ hw
  | .region _ ops false, Q, Q', e, h, hq, hw => LW_mono (fun e h => hq _ _ _) hw
  | .region _ ops true, Q, Q', e, h, hq, hw => ⟨hw.1, FW_mono (fun e h hx => LW_mono (fun e h => hq _ _ _) hx) hw.2⟩
  | .seq a b, Q, Q', e, h, hq, hw => W_mono a (fun r e h hr => match r, hr with
    | .nx, hr => W_mono b hq hr
    | .ex _, hr => hq _ _ _ hr
    | .rt, hr => hq _ _ _ hr) hw
  | .cond x a b, Q, Q', e, h, hq, ⟨t, h1, h2, h3⟩ => ⟨t, h1, fun ht => W_mono a hq (h2 ht), fun ht => W_mono b hq (h3 ht)⟩
  | .block id b, Q, Q', e, h, hq, hw => W_mono b (fun r e h hr => by
    cases r with
    | nx => exact hq _ _ _ hr
    | rt => exact hq _ _ _ hr
    | ex id' =>
      simp only at hr ⊢
      split at hr
      · rename_i he; rw [if_pos he]; exact hq _ _ _ hr
      · rename_i he; rw [if_neg he]; exact hq _ _ _ hr) hw
  | .loop b, Q, Q', e, h, hq, ⟨n, hw⟩ => ⟨n, loopN_mono (body := W C lo nt b) (fun _ _ _ _ hq hw => W_mono b hq hw) hq hw⟩
  | .rangeFunc _ _ _ _, _, _, _, _, _, hw => hw.elim
  | .scope _, _, _, _, _, _, hw => hw.elim
  | .goto _, _, _, _, _, _, hw => hw.elim
  | .refuse _, _, _, _, _, _, hw => hw.elim
/-- a loop: what holds at each round's start, and a number that falls -/
theorem W_loop {lo nt : Nat} {b : Code} {Q : RQ} (I : Nat → Env → H → Prop) (hI : ∀ m e h, I m e h → W C lo nt b (fun r e' h' => match r with | .nx => ∃ m', m' < m ∧ I m' e' h' | r => Q r e' h') e h)
    (m : Nat) (e : Env) (h : H) (hi : I m e h) : W C lo nt (.loop b) Q e h := by
  have key : ∀ (k m : Nat) (e : Env) (h : H), m < k → I m e h → loopN (W C lo nt b) Q k e h := by
    intro k
    induction k with
    | zero => intro m e h hm; omega
    | succ k ih =>
      intro m e h hm hi
      refine W_mono b (fun r e' h' hq => ?_) (hI m e h hi)
      cases r with
      | nx => obtain ⟨m', h1, h2⟩ := hq; exact ih m' e' h' (by omega) h2
      | ex id => exact hq
      | rt => exact hq
  exact ⟨m + 1, key (m + 1) m e h (by omega) hi⟩
end
end Go.Den
/- Code in short: guards by slot, fronts parted from tails, no places of the text; what it comes to. -/
namespace Go.Den
open Go
variable {C : Cfg}

/-- an operation in short: where its value goes, what it does, the slot that lets it run -/
structure SI where
  d : Option Nat
  op : Op
  g : Option (Option Nat × Bool)
inductive S : Type where
  | skip
  | ops (l : List SI)
  | front (st : Bool) (l r : List SI)
  | seq (a b : S)
  | cond (x : Operand) (a b : S)
  | block (id : Nat) (b : S)
  | loop (b : S)
  | exit (id : Nat)
  | ret
def shortOp (nt : Nat) (ops : Array Oper) (o : Oper) : Option SI :=
  match o.dst with
  | none => some ⟨none, o.op, o.guard.map fun g => ((ops[g.1]?).bind (·.dst), g.2)⟩
  | some t => if t < nt then some ⟨some t, o.op, o.guard.map fun g => ((ops[g.1]?).bind (·.dst), g.2)⟩ else none
def short (nt : Nat) : Code → Option S
  | .skip => some .skip
  | .label _ => some .skip
  | .region _ ops false => (omap (shortOp nt ops) ops.toList).map .ops
  | .region _ ops true => if frontFine ops = true then match omap (shortOp nt ops) (ops.toList.take (frontAt ops)), omap (shortOp nt ops) (ops.toList.drop (frontAt ops)) with
    | some l, some r => some (.front (anyStore (frontAt ops) ops.toList) l r)
    | _, _ => none
    else none
  | .seq a b => match short nt a, short nt b with
    | some x, some y => some (.seq x y)
    | _, _ => none
  | .cond x a b => match short nt a, short nt b with
    | some y, some z => some (.cond x y z)
    | _, _ => none
  | .block id b => (short nt b).map (.block id)
  | .loop b => (short nt b).map .loop
  | .exit id => some (.exit id)
  | .ret => some .ret
  | _ => none
def tru (v : V) : Option Bool := match v with
  | .bool b => some b
  | _ => none
def lets (e : Env) : Option (Option Nat × Bool) → Bool
  | none => true
  | some (some t, want) => tru (e.at t) == some want
  | some (none, want) => (none : Option Bool) == some want
def putS (d : Option Nat) (v : V) (e : Env) : Env := match d with
  | some t => e.set t v
  | none => e
def SL (C : Cfg) (lo : Nat) : List SI → (Env → H → Prop) → Env → H → Prop
  | [], K, e, h => K e h
  | o :: r, K, e, h => (lets e o.g = true → OW C lo e h o.op fun v h' => SL C lo r K (putS o.d v e) h') ∧ (lets e o.g = false → SL C lo r K (putS o.d undef e) h)
def SF (C : Cfg) (lo old : Nat) (st : Bool) : List SI → (Env → H → Prop) → Env → H → Prop
  | [], K, e, h => K e h
  | o :: r, K, e, h => (lets e o.g = true → FOW C lo old st e h o.op fun v h' => SF C lo old st r K (putS o.d v e) h') ∧ (lets e o.g = false → SF C lo old st r K (putS o.d undef e) h)
def SW (C : Cfg) (lo : Nat) : S → RQ → Env → H → Prop
  | .skip, Q, e, h => Q .nx e h
  | .ops l, Q, e, h => SL C lo l (fun e h => Q .nx e h) e h
  | .front st l r, Q, e, h => SF C lo h.next st l (SL C lo r fun e h => Q .nx e h) e h
  | .seq a b, Q, e, h => SW C lo a (fun r e h => match r with | .nx => SW C lo b Q e h | r => Q r e h) e h
  | .cond x a b, Q, e, h => ∃ t, ev e x = some (.bool t) ∧ (t = true → SW C lo a Q e h) ∧ (t = false → SW C lo b Q e h)
  | .block id b, Q, e, h => SW C lo b (fun r e h => match r with | .ex id' => if id' = id then Q .nx e h else Q (.ex id') e h | r => Q r e h) e h
  | .loop b, Q, e, h => ∃ n, loopN (SW C lo b) Q n e h
  | .exit id, Q, e, h => Q (.ex id) e h
  | .ret, Q, e, h => Q .rt e h

theorem lets_eq {nt : Nat} {ops : Array Oper} {o : Oper} {s : SI} (hs : shortOp nt ops o = some s) (e : Env) : wantedV ops e o = lets e s.g ∧ s.op = o.op ∧ ∀ v, put nt o.dst v e = some (putS s.d v e) := by
  have hg : wantedV ops e o = lets e (o.guard.map fun g => ((ops[g.1]?).bind (·.dst), g.2)) := by
    unfold wantedV
    cases o.guard with
    | none => rfl
    | some g =>
      obtain ⟨j, want⟩ := g
      simp only [Option.map_some]
      unfold yieldedV
      cases hd : (ops[j]?).bind (·.dst) with
      | none => rfl
      | some t => rfl
  unfold shortOp at hs
  split at hs
  · rename_i hd
    cases hs
    exact ⟨hg, rfl, fun v => by unfold put; rw [hd]; rfl⟩
  · rename_i t hd
    split at hs
    · rename_i hlt
      cases hs
      exact ⟨hg, rfl, fun v => by unfold put; rw [hd]; simp only [if_pos hlt]; rfl⟩
    · cases hs
theorem SL_LW {lo nt : Nat} {ops : Array Oper} {K : Env → H → Prop} : ∀ {l : List Oper} {s : List SI}, omap (shortOp nt ops) l = some s → ∀ {e : Env} {h : H}, SL C lo s K e h → LW C lo nt ops l K e h
  | [], s, hs, e, h, hw => by cases hs; exact hw
  | o :: r, s, hs, e, h, hw => by
    unfold omap at hs
    split at hs
    · rename_i x hx
      split at hs
      · rename_i xs hxs
        cases hs
        obtain ⟨h1, h2, h3⟩ := lets_eq hx e
        unfold LW
        unfold SL at hw
        rw [h1]
        cases hl : lets e x.g with
        | true =>
          simp only
          rw [← h2]
          exact OW_mono (fun v h' hk => ⟨_, h3 v, SL_LW hxs hk⟩) (hw.1 hl)
        | false => exact ⟨_, h3 _, SL_LW hxs (hw.2 hl)⟩
      · cases hs
    · cases hs
theorem FOW_mono {lo old : Nat} {st : Bool} {e : Env} {h : H} {o : Op} {K K' : V → H → Prop} (hk : ∀ v h', K v h' → K' v h') (hw : FOW C lo old st e h o K) : FOW C lo old st e h o K' := by
  unfold FOW at hw ⊢
  split at hw
  · exact ⟨hw.1, OW_mono hk hw.2⟩
  · obtain ⟨v, h', h1, h2⟩ := hw; exact ⟨v, h', h1, hk _ _ h2⟩
theorem SF_FW {lo old nt : Nat} {st : Bool} {ops : Array Oper} {K : Env → H → Prop} : ∀ {k : Nat} {l : List Oper} {s : List SI}, omap (shortOp nt ops) (l.take k) = some s → ∀ {e : Env} {h : H}, SF C lo old st s K e h → FW C lo old nt st ops k l K e h
  | 0, l, s, hs, e, h, hw => by simp [omap] at hs; subst hs; exact hw
  | k + 1, [], s, hs, e, h, hw => by simp [omap] at hs; subst hs; exact hw
  | k + 1, o :: r, s, hs, e, h, hw => by
    rw [List.take_succ_cons] at hs
    unfold omap at hs
    split at hs
    · rename_i x hx
      split at hs
      · rename_i xs hxs
        cases hs
        obtain ⟨h1, h2, h3⟩ := lets_eq hx e
        unfold FW
        unfold SF at hw
        rw [h1]
        cases hl : lets e x.g with
        | true =>
          simp only
          rw [← h2]
          exact FOW_mono (fun v h' hk => ⟨_, h3 v, SF_FW hxs hk⟩) (hw.1 hl)
        | false => exact ⟨_, h3 _, SF_FW hxs (hw.2 hl)⟩
      · cases hs
    · cases hs
theorem loopN_map {b b' : RQ → Env → H → Prop} (hb : ∀ (Q : RQ) (e : Env) (h : H), b Q e h → b' Q e h) (hm : ∀ (Q Q' : RQ) (e : Env) (h : H), (∀ r e h, Q r e h → Q' r e h) → b' Q e h → b' Q' e h) {Q : RQ} : ∀ {n : Nat} {e : Env} {h : H}, loopN b Q n e h → loopN b' Q n e h
  | 0, _, _, hw => hw
  | n + 1, e, h, hw => hm _ _ e h (fun r e h hr => by
    cases r with
    | nx => exact loopN_map hb hm hr
    | ex id => exact hr
    | rt => exact hr) (hb _ _ _ hw)
theorem SW_W {lo nt : Nat} : ∀ (c : Code) {s : S}, short nt c = some s → ∀ {Q : RQ} {e : Env} {h : H}, SW C lo s Q e h → W C lo nt c Q e h
  | .skip, s, hs, Q, e, h, hw => by cases hs; exact hw
  | .label _, s, hs, Q, e, h, hw => by cases hs; exact hw
  | .exit _, s, hs, Q, e, h, hw => by cases hs; exact hw
  | .ret, s, hs, Q, e, h, hw => by cases hs; exact hw
  | .region _ ops false, s, hs, Q, e, h, hw => by
    unfold short at hs
    rw [Option.map_eq_some_iff] at hs
    obtain ⟨l, hl, rfl⟩ := hs
    exact SL_LW hl hw
  | .region _ ops true, s, hs, Q, e, h, hw => by
    unfold short at hs
    split at hs
    · rename_i hf
      split at hs
      · rename_i l r hl hr
        cases hs
        exact ⟨hf, FW_mono (fun e h hk => SL_LW hr hk) (SF_FW hl hw)⟩
      · cases hs
    · cases hs
  | .seq a b, s, hs, Q, e, h, hw => by
    unfold short at hs
    split at hs
    · rename_i x y hx hy
      cases hs
      refine W_mono a (fun r e h hr => ?_) (SW_W a hx hw)
      cases r with
      | nx => exact SW_W b hy hr
      | ex id => exact hr
      | rt => exact hr
    · cases hs
  | .cond x a b, s, hs, Q, e, h, hw => by
    unfold short at hs
    split at hs
    · rename_i y z hy hz
      cases hs
      obtain ⟨t, h1, h2, h3⟩ := hw
      exact ⟨t, h1, fun ht => SW_W a hy (h2 ht), fun ht => SW_W b hz (h3 ht)⟩
    · cases hs
  | .block id b, s, hs, Q, e, h, hw => by
    unfold short at hs
    rw [Option.map_eq_some_iff] at hs
    obtain ⟨x, hx, rfl⟩ := hs
    exact SW_W b hx hw
  | .loop b, s, hs, Q, e, h, hw => by
    unfold short at hs
    rw [Option.map_eq_some_iff] at hs
    obtain ⟨x, hx, rfl⟩ := hs
    obtain ⟨n, hw⟩ := hw
    exact ⟨n, loopN_map (b := SW C lo x) (b' := W C lo nt b) (fun Q e h hq => SW_W b hx hq) (fun Q Q' e h hq hw => W_mono b hq hw) hw⟩
  | .rangeFunc _ _ _ _, s, hs, _, _, _, _ => by cases hs
  | .scope _, s, hs, _, _, _, _ => by cases hs
  | .goto _, s, hs, _, _, _, _ => by cases hs
  | .refuse _, s, hs, _, _, _, _ => by cases hs

theorem SL_mono {lo : Nat} {K K' : Env → H → Prop} (hk : ∀ e h, K e h → K' e h) : ∀ {l : List SI} {e : Env} {h : H}, SL C lo l K e h → SL C lo l K' e h
  | [], e, h, hw => hk _ _ hw
  | o :: r, e, h, hw => ⟨fun hl => OW_mono (fun v h' hx => SL_mono hk hx) (hw.1 hl), fun hl => SL_mono hk (hw.2 hl)⟩
theorem SF_mono {lo old : Nat} {st : Bool} {K K' : Env → H → Prop} (hk : ∀ e h, K e h → K' e h) : ∀ {l : List SI} {e : Env} {h : H}, SF C lo old st l K e h → SF C lo old st l K' e h
  | [], e, h, hw => hk _ _ hw
  | o :: r, e, h, hw => ⟨fun hl => FOW_mono (fun v h' hx => SF_mono hk hx) (hw.1 hl), fun hl => SF_mono hk (hw.2 hl)⟩
theorem SW_mono {lo : Nat} : ∀ (s : S) {Q Q' : RQ} {e : Env} {h : H}, (∀ r e h, Q r e h → Q' r e h) → SW C lo s Q e h → SW C lo s Q' e h
  | .skip, Q, Q', e, h, hq, hw => hq _ _ _ hw
  | .exit _, Q, Q', e, h, hq, hw => hq _ _ _ hw
  | .ret, Q, Q', e, h, hq, hw => hq _ _ _ hw
  | .ops l, Q, Q', e, h, hq, hw => SL_mono (fun e h => hq _ _ _) hw
  | .front st l r, Q, Q', e, h, hq, hw => SF_mono (fun e h hx => SL_mono (fun e h => hq _ _ _) hx) hw
  | .seq a b, Q, Q', e, h, hq, hw => SW_mono a (fun r e h hr => by
    cases r with
    | nx => exact SW_mono b hq hr
    | ex id => exact hq _ _ _ hr
    | rt => exact hq _ _ _ hr) hw
  | .cond x a b, Q, Q', e, h, hq, ⟨t, h1, h2, h3⟩ => ⟨t, h1, fun ht => SW_mono a hq (h2 ht), fun ht => SW_mono b hq (h3 ht)⟩
  | .block id b, Q, Q', e, h, hq, hw => SW_mono b (fun r e h hr => by
    cases r with
    | nx => exact hq _ _ _ hr
    | rt => exact hq _ _ _ hr
    | ex id' =>
      simp only at hr ⊢
      split at hr
      · rename_i he; rw [if_pos he]; exact hq _ _ _ hr
      · rename_i he; rw [if_neg he]; exact hq _ _ _ hr) hw
  | .loop b, Q, Q', e, h, hq, ⟨n, hw⟩ => ⟨n, loopN_mono (body := SW C lo b) (fun _ _ _ _ hq hw => SW_mono b hq hw) hq hw⟩
/-- a loop: what holds at each round's start, and a number that falls -/
theorem SW_loop {lo : Nat} {b : S} {Q : RQ} (I : Nat → Env → H → Prop) (hI : ∀ m e h, I m e h → SW C lo b (fun r e' h' => match r with | .nx => ∃ m', m' < m ∧ I m' e' h' | r => Q r e' h') e h)
    (m : Nat) (e : Env) (h : H) (hi : I m e h) : SW C lo (.loop b) Q e h := by
  have key : ∀ (k m : Nat) (e : Env) (h : H), m < k → I m e h → loopN (SW C lo b) Q k e h := by
    intro k
    induction k with
    | zero => intro m e h hm; omega
    | succ k ih =>
      intro m e h hm hi
      refine SW_mono b (fun r e' h' hq => ?_) (hI m e h hi)
      cases r with
      | nx => obtain ⟨m', h1, h2⟩ := hq; exact ih m' e' h' (by omega) h2
      | ex id => exact hq
      | rt => exact hq
  exact ⟨m + 1, key (m + 1) m e h (by omega) hi⟩
def shortFn (fn : Func) : Option S := match fn.body with
  | some c => short fn.ntmps c
  | none => none
/-- a call, out of its body in short -/
theorem CW_short (hS : ShortLow C) {f : FuncId} {fn : Func} {s : S} {as : List V} {lo : Nat} {h : H} {K : V → H → Prop} (hs : C.S f = none) (hf : C.P.funcs[f]? = some fn) (hb : shortFn fn = some s) (hn : as.length ≤ fn.ntmps)
    (hw : SW C lo s (fun r e h => match r with | .ex _ => False | _ => ∃ v, resultsV C.P fn e h = some v ∧ K v h) (mkEnv 0 as .nil) h) : CW C f as lo h K := by
  unfold shortFn at hb
  split at hb
  · rename_i c hc
    exact CW_enter hS hs hf hc hn (SW_W c hb hw)
  · cases hb
end Go.Den
/- The rules by which code in short is stepped through. -/
namespace Go.Den
open Go
variable {C : Cfg} {P : Program} {lo old : Nat} {e : Env} {h : H} {st : Bool}

theorem SL_nil {K : Env → H → Prop} : SL C lo [] K e h = K e h := rfl
theorem SF_nil {K : Env → H → Prop} : SF C lo old st [] K e h = K e h := rfl
theorem SL_go {d : Option Nat} {op : Op} {r : List SI} {K : Env → H → Prop} : SL C lo (⟨d, op, none⟩ :: r) K e h = OW C lo e h op fun v h' => SL C lo r K (putS d v e) h' := by
  apply propext; rw [SL]; simp [lets]
theorem SF_go {d : Option Nat} {op : Op} {r : List SI} {K : Env → H → Prop} : SF C lo old st (⟨d, op, none⟩ :: r) K e h = FOW C lo old st e h op fun v h' => SF C lo old st r K (putS d v e) h' := by
  apply propext; rw [SF]; simp [lets]
theorem SL_if {d : Option Nat} {op : Op} {t : Nat} {want : Bool} {r : List SI} {K : Env → H → Prop} : SL C lo (⟨d, op, some (some t, want)⟩ :: r) K e h =
    ((tru (e.at t) = some want → OW C lo e h op fun v h' => SL C lo r K (putS d v e) h') ∧ (tru (e.at t) ≠ some want → SL C lo r K (putS d undef e) h)) := by
  apply propext; rw [SL]; simp [lets]
theorem SF_if {d : Option Nat} {op : Op} {t : Nat} {want : Bool} {r : List SI} {K : Env → H → Prop} : SF C lo old st (⟨d, op, some (some t, want)⟩ :: r) K e h =
    ((tru (e.at t) = some want → FOW C lo old st e h op fun v h' => SF C lo old st r K (putS d v e) h') ∧ (tru (e.at t) ≠ some want → SF C lo old st r K (putS d undef e) h)) := by
  apply propext; rw [SF]; simp [lets]
theorem putS_some {t : Nat} {v : V} : putS (some t) v e = T.set e t v := rfl
theorem putS_none {v : V} : putS none v e = e := rfl
theorem tru_bool (b : Bool) : tru (.bool b) = some b := rfl
theorem rdOf_false : rdOf false old h = h.read := by funext b; simp [rdOf]

def bindP {A : Type} (o : Option A) (K : A → Prop) : Prop := ∃ v, o = some v ∧ K v
def bind2 {A B : Type} (o : Option (A × B)) (K : A → B → Prop) : Prop := ∃ a b, o = some (a, b) ∧ K a b
theorem bindP_some {A : Type} (a : A) (K : A → Prop) : bindP (some a) K = K a := by unfold bindP; simp
theorem bind2_some {A B : Type} (a : A) (b : B) (K : A → B → Prop) : bind2 (some (a, b)) K = K a b := by
  unfold bind2
  exact propext ⟨fun ⟨_, _, e, k⟩ => by (cases e; exact k), fun k => ⟨a, b, rfl, k⟩⟩
def boolP (v : V) (K : Bool → Prop) : Prop := ∃ t, v = .bool t ∧ K t
def tupP (v : V) (K : List V → Prop) : Prop := ∃ l, v = .tup l ∧ K l
theorem boolP_mk (t : Bool) (K : Bool → Prop) : boolP (.bool t) K = K t := by unfold boolP; simp
theorem tupP_mk (l : List V) (K : List V → Prop) : tupP (.tup l) K = K l := by unfold tupP; simp
/-! ### operations that only tell a value or make a block -/
def KL (h : H) (K : V → H → Prop) : LR → Prop
  | .val v => K v h
  | .new l k => K (k.at h.next) (h.alloc l)
theorem KL_val {v : V} {K : V → H → Prop} : KL h K (.val v) = K v h := rfl
theorem KL_new {l : List V} {k : NK} {K : V → H → Prop} : KL h K (.new l k) = K (k.at h.next) (h.alloc l) := rfl
def LO (P : Program) (rd : Rd) (e : Env) (h : H) (o : Op) (K : V → H → Prop) : Prop := ∃ r, lightOp P rd e o = some r ∧ KL h K r
theorem LO_keep {rd : Rd} {o : Op} {K : V → H → Prop} : (∃ v h', keep h (lightOp P rd e o) = some (v, h') ∧ K v h') = LO P rd e h o K := by
  apply propext
  unfold LO
  cases lightOp P rd e o with
  | none => exact ⟨fun ⟨v, h', he, _⟩ => (by cases he), fun ⟨r, he, _⟩ => (by cases he)⟩
  | some r => cases r with
    | val v => exact ⟨fun ⟨v, h', he, hk⟩ => by (cases he; exact ⟨_, rfl, hk⟩), fun ⟨r, he, hk⟩ => by (cases he; exact ⟨_, _, rfl, hk⟩)⟩
    | new l k => exact ⟨fun ⟨v, h', he, hk⟩ => by (cases he; exact ⟨_, rfl, hk⟩), fun ⟨r, he, hk⟩ => by (cases he; exact ⟨_, _, rfl, hk⟩)⟩
theorem ex_val {K : V → H → Prop} {v : Option V} : (∃ r, val v = some r ∧ KL h K r) ↔ ∃ w, v = some w ∧ K w h := by
  cases v with
  | none => exact ⟨fun ⟨r, he, _⟩ => (by cases he), fun ⟨r, he, _⟩ => (by cases he)⟩
  | some v => exact ⟨fun ⟨r, he, hk⟩ => by (cases he; exact ⟨_, rfl, hk⟩), fun ⟨r, he, hk⟩ => by (cases he; exact ⟨_, rfl, hk⟩)⟩
theorem ex_keep {K : V → H → Prop} {x : Option (V × H)} : (∃ v h', x = some (v, h') ∧ K v h') ↔ ∃ v h', x = some (v, h') ∧ K v h' := Iff.rfl
section
variable {K : V → H → Prop} {rd : Rd} {x y z : Operand} {t u : TypeId} {f : Nat}
theorem OW_move : OW C lo e h (.move x) K = LO C.P h.read e h (.move x) K := LO_keep
theorem OW_assign : OW C lo e h (.assign x) K = LO C.P h.read e h (.assign x) K := LO_keep
theorem OW_pick : OW C lo e h (.pick x y z) K = LO C.P h.read e h (.pick x y z) K := LO_keep
theorem OW_alloc : OW C lo e h (.alloc t) K = LO C.P h.read e h (.alloc t) K := LO_keep
theorem OW_box : OW C lo e h (.box t x) K = LO C.P h.read e h (.box t x) K := LO_keep
theorem OW_build {ps : Array (Nat × Operand)} : OW C lo e h (.build t ps) K = LO C.P h.read e h (.build t ps) K := LO_keep
theorem OW_buildSlice {n : Nat} {ps : Array (Nat × Operand)} : OW C lo e h (.buildSlice t n ps) K = LO C.P h.read e h (.buildSlice t n ps) K := LO_keep
theorem OW_load : OW C lo e h (.load t x) K = LO C.P h.read e h (.load t x) K := LO_keep
theorem OW_nilCheck : OW C lo e h (.nilCheck x) K = LO C.P h.read e h (.nilCheck x) K := LO_keep
theorem OW_binOp {op : BinOp} : OW C lo e h (.binOp op t x y u) K = LO C.P h.read e h (.binOp op t x y u) K := LO_keep
theorem OW_unOp {op : UnOp} : OW C lo e h (.unOp op t x) K = LO C.P h.read e h (.unOp op t x) K := LO_keep
theorem OW_makeSlice : OW C lo e h (.makeSlice t x y) K = LO C.P h.read e h (.makeSlice t x y) K := LO_keep
theorem OW_slice {l m k : Option Operand} : OW C lo e h (.slice t x l m k) K = LO C.P h.read e h (.slice t x l m k) K := LO_keep
theorem OW_fieldAddr : OW C lo e h (.fieldAddr t x f) K = LO C.P h.read e h (.fieldAddr t x f) K := LO_keep
theorem OW_field : OW C lo e h (.field t x f) K = LO C.P h.read e h (.field t x f) K := LO_keep
theorem OW_indexAddr : OW C lo e h (.indexAddr t x y) K = LO C.P h.read e h (.indexAddr t x y) K := LO_keep
theorem OW_index : OW C lo e h (.index t x y) K = LO C.P h.read e h (.index t x y) K := LO_keep
theorem OW_extract : OW C lo e h (.extract x f) K = LO C.P h.read e h (.extract x f) K := LO_keep
theorem OW_len {as : Array Operand} {ts : Array TypeId} : OW C lo e h (.call { callee := .builtin .len, args := as, argTypes := ts }) K = LO C.P h.read e h (.call { callee := .builtin .len, args := as, argTypes := ts }) K := LO_keep
theorem OW_max {as : Array Operand} {ts : Array TypeId} : OW C lo e h (.call { callee := .builtin .max, args := as, argTypes := ts }) K = LO C.P h.read e h (.call { callee := .builtin .max, args := as, argTypes := ts }) K := LO_keep
theorem OW_min {as : Array Operand} {ts : Array TypeId} : OW C lo e h (.call { callee := .builtin .min, args := as, argTypes := ts }) K = LO C.P h.read e h (.call { callee := .builtin .min, args := as, argTypes := ts }) K := LO_keep
theorem OW_conv (hne : t ≠ u) : OW C lo e h (.convert t u x) K = LO C.P h.read e h (.convert t u x) K := by
  unfold OW
  simp only [aop]
  simp only [hne, false_and, if_false]
  exact LO_keep
theorem OW_mark' (hs : isSlice C.P t = true) : OW C lo e h (.convert t t x) K = ∃ x' v h1, ev e x = some x' ∧ markV C.P lo t x' h = some (v, h1) ∧ K v h1 := by
  apply propext
  unfold OW
  simp only [aop]
  simp only [hs, and_self, if_true]
  cases ev e x <;> simp
theorem OW_store' : OW C lo e h (.store t x y) K = ∃ a v h1, ev e x = some a ∧ ev e y = some v ∧ storeV C.P lo t a v h = some h1 ∧ K undef h1 := by
  apply propext
  unfold OW
  simp only [aop]
  constructor
  · rintro ⟨w, h', ha, hk⟩
    split at ha
    · rename_i a v e1 e2
      split at ha
      · rename_i h2 e3; cases ha; exact ⟨a, v, _, e1, e2, e3, hk⟩
      · cases ha
    · cases ha
  · rintro ⟨a, v, h1, e1, e2, e3, hk⟩
    exact ⟨undef, h1, by simp only [e1, e2, e3], hk⟩
theorem OW_append' {as : Array Operand} {ts : Array TypeId} : OW C lo e h (.call { callee := .builtin .append, args := as, argTypes := ts }) K = ∃ s x v h1, evs e as.toList = some [s, x] ∧ appendV C.P lo ts.toList s x h = some (v, h1) ∧ K v h1 := by
  apply propext
  unfold OW
  simp only [aop]
  constructor
  · rintro ⟨v, h1, ha, hk⟩
    split at ha
    · rename_i s x hx; exact ⟨s, x, v, h1, hx, ha, hk⟩
    · cases ha
  · rintro ⟨s, x, v, h1, hx, ha, hk⟩
    exact ⟨v, h1, by simp only [hx]; exact ha, hk⟩
theorem OW_copy' {as : Array Operand} {ts : Array TypeId} : OW C lo e h (.call { callee := .builtin .copy, args := as, argTypes := ts }) K = ∃ s x v h1, evs e as.toList = some [s, x] ∧ copyV C.P lo ts.toList s x h = some (v, h1) ∧ K v h1 := by
  apply propext
  unfold OW
  simp only [aop]
  constructor
  · rintro ⟨v, h1, ha, hk⟩
    split at ha
    · rename_i s x hx; exact ⟨s, x, v, h1, hx, ha, hk⟩
    · cases ha
  · rintro ⟨s, x, v, h1, hx, ha, hk⟩
    exact ⟨v, h1, by simp only [hx]; exact ha, hk⟩
theorem OW_call {f : FuncId} {as : Array Operand} {ts : Array TypeId} : OW C lo e h (.call { callee := .value (.func f), args := as, argTypes := ts }) K = bindP (evs e as.toList) fun vs => CW C f vs lo h K := by
  apply propext
  unfold OW
  constructor
  · rintro ⟨vs, f', a, b, h1, h2, h3⟩
    cases h2
    exact ⟨vs, h1, by simpa using h3⟩
  · rintro ⟨vs, h1, h3⟩
    exact ⟨vs, f, [], [], h1, rfl, by simpa using h3⟩
theorem FOW_move : FOW C lo old st e h (.move x) K = LO C.P (rdOf st old h) e h (.move x) K := LO_keep
theorem FOW_assign : FOW C lo old st e h (.assign x) K = LO C.P (rdOf st old h) e h (.assign x) K := LO_keep
theorem FOW_pick : FOW C lo old st e h (.pick x y z) K = LO C.P (rdOf st old h) e h (.pick x y z) K := LO_keep
theorem FOW_alloc : FOW C lo old st e h (.alloc t) K = LO C.P (rdOf st old h) e h (.alloc t) K := LO_keep
theorem FOW_box : FOW C lo old st e h (.box t x) K = LO C.P (rdOf st old h) e h (.box t x) K := LO_keep
theorem FOW_build {ps : Array (Nat × Operand)} : FOW C lo old st e h (.build t ps) K = LO C.P (rdOf st old h) e h (.build t ps) K := LO_keep
theorem FOW_buildSlice {n : Nat} {ps : Array (Nat × Operand)} : FOW C lo old st e h (.buildSlice t n ps) K = LO C.P (rdOf st old h) e h (.buildSlice t n ps) K := LO_keep
theorem FOW_load : FOW C lo old st e h (.load t x) K = LO C.P (rdOf st old h) e h (.load t x) K := LO_keep
theorem FOW_nilCheck : FOW C lo old st e h (.nilCheck x) K = LO C.P (rdOf st old h) e h (.nilCheck x) K := LO_keep
theorem FOW_binOp {op : BinOp} : FOW C lo old st e h (.binOp op t x y u) K = LO C.P (rdOf st old h) e h (.binOp op t x y u) K := LO_keep
theorem FOW_unOp {op : UnOp} : FOW C lo old st e h (.unOp op t x) K = LO C.P (rdOf st old h) e h (.unOp op t x) K := LO_keep
theorem FOW_makeSlice : FOW C lo old st e h (.makeSlice t x y) K = LO C.P (rdOf st old h) e h (.makeSlice t x y) K := LO_keep
theorem FOW_slice {l m k : Option Operand} : FOW C lo old st e h (.slice t x l m k) K = LO C.P (rdOf st old h) e h (.slice t x l m k) K := LO_keep
theorem FOW_fieldAddr : FOW C lo old st e h (.fieldAddr t x f) K = LO C.P (rdOf st old h) e h (.fieldAddr t x f) K := LO_keep
theorem FOW_field : FOW C lo old st e h (.field t x f) K = LO C.P (rdOf st old h) e h (.field t x f) K := LO_keep
theorem FOW_indexAddr : FOW C lo old st e h (.indexAddr t x y) K = LO C.P (rdOf st old h) e h (.indexAddr t x y) K := LO_keep
theorem FOW_index : FOW C lo old st e h (.index t x y) K = LO C.P (rdOf st old h) e h (.index t x y) K := LO_keep
theorem FOW_extract : FOW C lo old st e h (.extract x f) K = LO C.P (rdOf st old h) e h (.extract x f) K := LO_keep
theorem FOW_len {as : Array Operand} {ts : Array TypeId} : FOW C lo old st e h (.call { callee := .builtin .len, args := as, argTypes := ts }) K = LO C.P (rdOf st old h) e h (.call { callee := .builtin .len, args := as, argTypes := ts }) K := LO_keep
theorem FOW_conv (hne : t ≠ u) : FOW C lo old st e h (.convert t u x) K = LO C.P (rdOf st old h) e h (.convert t u x) K := by
  unfold FOW
  have : heavy (.convert t u x) = false := by simp [heavy, hne]
  rw [this]
  exact LO_keep
theorem FOW_call {f : FuncId} {as : Array Operand} {ts : Array TypeId} : FOW C lo old st e h (.call { callee := .value (.func f), args := as, argTypes := ts }) K = bindP (evs e as.toList) fun vs => CW C f vs h.next h K := by
  apply propext
  unfold FOW
  simp [heavy, atEnd, OW_call, barrier]
theorem FOW_append' {as : Array Operand} {ts : Array TypeId} : FOW C lo old st e h (.call { callee := .builtin .append, args := as, argTypes := ts }) K =
    (atEnd e h (.call { callee := .builtin .append, args := as, argTypes := ts }) = true ∧ ∃ s x v h1, evs e as.toList = some [s, x] ∧ appendV C.P lo ts.toList s x h = some (v, h1) ∧ K v h1) := by
  apply propext
  unfold FOW
  simp [heavy, OW_append', barrier]
theorem FOW_store' : FOW C lo old st e h (.store t x y) K = ∃ a v h1, ev e x = some a ∧ ev e y = some v ∧ storeV C.P (max lo old) t a v h = some h1 ∧ K undef h1 := by
  apply propext
  unfold FOW
  simp [heavy, atEnd, OW_store', barrier]

def ncV : V → Option V
  | .ptr b o => some (.ptr b o)
  | .fn (.func f) a b => some (.fn (.func f) a b)
  | _ => none
theorem ncV_ptr (b o : Nat) : ncV (.ptr b o) = some (.ptr b o) := rfl
theorem LO_val {o : Op} {v : Option V} (hl : lightOp P rd e o = val v) : LO P rd e h o K = bindP (v) fun w => K w h := by
  apply propext
  unfold LO
  rw [hl]
  exact ex_val
theorem LO_move : LO P rd e h (.move x) K = bindP (ev e x) fun v => K v h := LO_val rfl
theorem LO_assign : LO P rd e h (.assign x) K = bindP (ev e x) fun v => K v h := LO_val rfl
theorem LO_pick' : LO P rd e h (.pick x y z) K = ∃ t a b, ev e x = some (.bool t) ∧ ev e y = some a ∧ ev e z = some b ∧ K (if t then a else b) h := by
  apply propext
  unfold LO
  simp only [lightOp]
  constructor
  · rintro ⟨r, hr, hk⟩
    split at hr
    · rename_i t a b h1 h2 h3; cases hr; exact ⟨t, a, b, h1, h2, h3, hk⟩
    · cases hr
  · rintro ⟨t, a, b, h1, h2, h3, hk⟩
    exact ⟨.val (if t then a else b), by simp only [h1, h2, h3], hk⟩
theorem LO_alloc : LO P rd e h (.alloc t) K = bindP (zero? P t) fun z => K (.ptr h.next 0) (h.alloc z.cells) := by
  apply propext
  unfold LO
  simp only [lightOp]
  cases zero? P t <;> simp [KL, NK.at, bindP]
theorem LO_box : LO P rd e h (.box t x) K = bindP (ev e x) fun v => K (.ptr h.next 0) (h.alloc v.cells) := by
  apply propext
  unfold LO
  simp only [lightOp]
  cases ev e x <;> simp [KL, NK.at, bindP]
theorem LO_build' {ps : Array (Nat × Operand)} : LO P rd e h (.build t ps) K = ∃ l v, evParts e ps.toList = some l ∧ buildV P t l = some v ∧ K v h := by
  apply propext
  unfold LO
  simp only [lightOp]
  cases evParts e ps.toList with
  | none => simp
  | some l => simp [ex_val]
theorem LO_buildSlice' {n : Nat} {ps : Array (Nat × Operand)} : LO P rd e h (.buildSlice t n ps) K = ∃ l r, evParts e ps.toList = some l ∧ buildSliceV P t n l = some r ∧ KL h K r := by
  apply propext
  unfold LO
  simp only [lightOp]
  cases evParts e ps.toList <;> simp
theorem LO_load' : LO P rd e h (.load t x) K = ∃ a v, ev e x = some a ∧ loadV P t a rd = some v ∧ K v h := by
  apply propext
  unfold LO
  simp only [lightOp]
  cases ev e x with
  | none => simp
  | some a => simp [ex_val]
theorem LO_nilCheck' : LO P rd e h (.nilCheck x) K = ∃ a v, ev e x = some a ∧ ncV a = some v ∧ K v h := by
  apply propext
  unfold LO
  simp only [lightOp]
  cases hx : ev e x with
  | none => simp
  | some a =>
    constructor
    · rintro ⟨r, hr, hk⟩
      split at hr
      · rename_i hh; cases hh; cases hr; exact ⟨_, _, rfl, rfl, hk⟩
      · rename_i hh; cases hh; cases hr; exact ⟨_, _, rfl, rfl, hk⟩
      · cases hr
    · rintro ⟨a', v, ha, hn, hk⟩
      cases ha
      unfold ncV at hn
      split at hn
      · cases hn; exact ⟨_, rfl, hk⟩
      · cases hn; exact ⟨_, rfl, hk⟩
      · cases hn
theorem LO_binOp' {op : BinOp} : LO P rd e h (.binOp op t x y u) K = ∃ a b v, ev e x = some a ∧ ev e y = some b ∧ binV P op t a b = some v ∧ K v h := by
  apply propext
  unfold LO
  simp only [lightOp]
  cases ev e x with
  | none => simp
  | some a => cases ev e y with
    | none => simp
    | some b => simp [ex_val]
theorem LO_unOp' {op : UnOp} : LO P rd e h (.unOp op t x) K = ∃ a v, ev e x = some a ∧ unV op a = some v ∧ K v h := by
  apply propext
  unfold LO
  simp only [lightOp]
  cases ev e x with
  | none => simp
  | some a => simp [ex_val]
theorem LO_conv' : LO P rd e h (.convert t u x) K = ∃ a r, ev e x = some a ∧ convV P rd t u a = some r ∧ KL h K r := by
  apply propext
  unfold LO
  simp only [lightOp]
  cases ev e x <;> simp
theorem LO_makeSlice' : LO P rd e h (.makeSlice t x y) K = ∃ a b r, ev e x = some a ∧ ev e y = some b ∧ makeSliceV P t a b = some r ∧ KL h K r := by
  apply propext
  unfold LO
  simp only [lightOp]
  cases ev e x with
  | none => simp
  | some a => cases ev e y <;> simp
theorem LO_slice' {l m k : Option Operand} : LO P rd e h (.slice t x l m k) K = ∃ a l' m' k' v, ev e x = some a ∧ evo e l = some l' ∧ evo e m = some m' ∧ evo e k = some k' ∧ sliceV P rd t a l' m' k' = some v ∧ K v h := by
  apply propext
  unfold LO
  simp only [lightOp]
  constructor
  · rintro ⟨r, hr, hk⟩
    split at hr
    · rename_i a l' m' k' h1 h2 h3 h4
      cases hs : sliceV P rd t a l' m' k' with
      | none => rw [hs] at hr; cases hr
      | some v => rw [hs] at hr; cases hr; exact ⟨a, l', m', k', v, h1, h2, h3, h4, hs, hk⟩
    · cases hr
  · rintro ⟨a, l', m', k', v, h1, h2, h3, h4, hs, hk⟩
    exact ⟨.val v, by simp only [h1, h2, h3, h4, hs, val], hk⟩
theorem LO_fieldAddr' : LO P rd e h (.fieldAddr t x f) K = ∃ a v, ev e x = some a ∧ fieldAddrV P t a f = some v ∧ K v h := by
  apply propext
  unfold LO
  simp only [lightOp]
  cases ev e x with
  | none => simp
  | some a => simp [ex_val]
theorem LO_field' : LO P rd e h (.field t x f) K = ∃ a v, ev e x = some a ∧ fieldV P t a f = some v ∧ K v h := by
  apply propext
  unfold LO
  simp only [lightOp]
  cases ev e x with
  | none => simp
  | some a => simp [ex_val]
theorem LO_indexAddr' : LO P rd e h (.indexAddr t x y) K = ∃ a b v, ev e x = some a ∧ ev e y = some b ∧ addrV P t a b = some v ∧ K v h := by
  apply propext
  unfold LO
  simp only [lightOp]
  cases ev e x with
  | none => simp
  | some a => cases ev e y with
    | none => simp
    | some b => simp [ex_val]
theorem LO_index' : LO P rd e h (.index t x y) K = ∃ a b v, ev e x = some a ∧ ev e y = some b ∧ indexV P t a b = some v ∧ K v h := by
  apply propext
  unfold LO
  simp only [lightOp]
  cases ev e x with
  | none => simp
  | some a => cases ev e y with
    | none => simp
    | some b => simp [ex_val]
theorem LO_extract' : LO P rd e h (.extract x f) K = ∃ vs v, ev e x = some (.tup vs) ∧ vs[f]? = some v ∧ K v h := by
  apply propext
  unfold LO
  simp only [lightOp]
  constructor
  · rintro ⟨r, hr, hk⟩
    split at hr
    · rename_i vs h1
      cases hv : vs[f]? with
      | none => rw [hv] at hr; cases hr
      | some v => rw [hv] at hr; cases hr; exact ⟨vs, v, h1, hv, hk⟩
    · cases hr
  · rintro ⟨vs, v, h1, hv, hk⟩
    exact ⟨.val v, by simp only [h1, hv, val], hk⟩
theorem LO_len' {as : Array Operand} {ts : Array TypeId} : LO P rd e h (.call { callee := .builtin .len, args := as, argTypes := ts }) K = ∃ a v, evs e as.toList = some [a] ∧ lenV P ts.toList a = some v ∧ K v h := by
  apply propext
  unfold LO
  simp only [lightOp]
  constructor
  · rintro ⟨r, hr, hk⟩
    split at hr
    · rename_i a h1
      cases hv : lenV P ts.toList a with
      | none => rw [hv] at hr; cases hr
      | some v => rw [hv] at hr; cases hr; exact ⟨a, v, h1, hv, hk⟩
    · cases hr
  · rintro ⟨a, v, h1, hv, hk⟩
    exact ⟨.val v, by simp only [h1, hv, val], hk⟩
theorem LO_min' {as : Array Operand} {ts : Array TypeId} : LO P rd e h (.call { callee := .builtin .min, args := as, argTypes := ts }) K = ∃ k k' a b, evs e as.toList = some [.int k a, .int k' b] ∧ K (.int k (if b < a then b else a)) h := by
  apply propext
  unfold LO
  simp only [lightOp]
  constructor
  · rintro ⟨r, hr, hk⟩
    split at hr
    · rename_i k a k' b h1; cases hr; exact ⟨k, k', a, b, h1, hk⟩
    · cases hr
  · rintro ⟨k, k', a, b, h1, hk⟩
    exact ⟨.val _, by simp only [h1], hk⟩
theorem LO_max' {as : Array Operand} {ts : Array TypeId} : LO P rd e h (.call { callee := .builtin .max, args := as, argTypes := ts }) K = ∃ k k' a b, evs e as.toList = some [.int k a, .int k' b] ∧ K (.int k (if b > a then b else a)) h := by
  apply propext
  unfold LO
  simp only [lightOp]
  constructor
  · rintro ⟨r, hr, hk⟩
    split at hr
    · rename_i k a k' b h1; cases hr; exact ⟨k, k', a, b, h1, hk⟩
    · cases hr
  · rintro ⟨k, k', a, b, h1, hk⟩
    exact ⟨.val _, by simp only [h1], hk⟩
theorem OW_mark (hs : isSlice C.P t = true) : OW C lo e h (.convert t t x) K = bindP (ev e x) fun x' => bind2 (markV C.P lo t x' h) fun v h1 => K v h1 := by
  rw [OW_mark' hs]
  exact propext ⟨fun ⟨x', v, h1, q0, q1, q2⟩ => ⟨x', q0, v, h1, q1, q2⟩, fun ⟨x', q0, v, h1, q1, q2⟩ => ⟨x', v, h1, q0, q1, q2⟩⟩
theorem OW_store : OW C lo e h (.store t x y) K = bindP (ev e x) fun a => bindP (ev e y) fun v => bindP (storeV C.P lo t a v h) fun h1 => K undef h1 := by
  rw [OW_store']
  exact propext ⟨fun ⟨a, v, h1, q0, q1, q2, q3⟩ => ⟨a, q0, v, q1, h1, q2, q3⟩, fun ⟨a, q0, v, q1, h1, q2, q3⟩ => ⟨a, v, h1, q0, q1, q2, q3⟩⟩
theorem FOW_store : FOW C lo old st e h (.store t x y) K = bindP (ev e x) fun a => bindP (ev e y) fun v => bindP (storeV C.P (max lo old) t a v h) fun h1 => K undef h1 := by
  rw [FOW_store']
  exact propext ⟨fun ⟨a, v, h1, q0, q1, q2, q3⟩ => ⟨a, q0, v, q1, h1, q2, q3⟩, fun ⟨a, q0, v, q1, h1, q2, q3⟩ => ⟨a, v, h1, q0, q1, q2, q3⟩⟩
theorem LO_pick : LO P rd e h (.pick x y z) K = bindP (ev e x) fun c => boolP c fun t => bindP (ev e y) fun a => bindP (ev e z) fun b => K (if t then a else b) h := by
  rw [LO_pick']
  exact propext ⟨fun ⟨t, a, b, q0, q1, q2, q3⟩ => ⟨_, q0, t, rfl, a, q1, b, q2, q3⟩, fun ⟨_, q0, t, e0, a, q1, b, q2, q3⟩ => ⟨t, a, b, e0 ▸ q0, q1, q2, q3⟩⟩
theorem LO_build {ps : Array (Nat × Operand)} : LO P rd e h (.build t ps) K = bindP (evParts e ps.toList) fun l => bindP (buildV P t l) fun v => K v h := by
  rw [LO_build']
  exact propext ⟨fun ⟨l, v, q0, q1, q2⟩ => ⟨l, q0, v, q1, q2⟩, fun ⟨l, q0, v, q1, q2⟩ => ⟨l, v, q0, q1, q2⟩⟩
theorem LO_buildSlice {n : Nat} {ps : Array (Nat × Operand)} : LO P rd e h (.buildSlice t n ps) K = bindP (evParts e ps.toList) fun l => bindP (buildSliceV P t n l) fun r => KL h K r := by
  rw [LO_buildSlice']
  exact propext ⟨fun ⟨l, v, q0, q1, q2⟩ => ⟨l, q0, v, q1, q2⟩, fun ⟨l, q0, v, q1, q2⟩ => ⟨l, v, q0, q1, q2⟩⟩
theorem LO_load : LO P rd e h (.load t x) K = bindP (ev e x) fun a => bindP (loadV P t a rd) fun v => K v h := by
  rw [LO_load']
  exact propext ⟨fun ⟨a, v, q0, q1, q2⟩ => ⟨a, q0, v, q1, q2⟩, fun ⟨a, q0, v, q1, q2⟩ => ⟨a, v, q0, q1, q2⟩⟩
theorem LO_nilCheck : LO P rd e h (.nilCheck x) K = bindP (ev e x) fun a => bindP (ncV a) fun v => K v h := by
  rw [LO_nilCheck']
  exact propext ⟨fun ⟨a, v, q0, q1, q2⟩ => ⟨a, q0, v, q1, q2⟩, fun ⟨a, q0, v, q1, q2⟩ => ⟨a, v, q0, q1, q2⟩⟩
theorem LO_binOp {op : BinOp} : LO P rd e h (.binOp op t x y u) K = bindP (ev e x) fun a => bindP (ev e y) fun b => bindP (binV P op t a b) fun v => K v h := by
  rw [LO_binOp']
  exact propext ⟨fun ⟨a, b, v, q0, q1, q2, q3⟩ => ⟨a, q0, b, q1, v, q2, q3⟩, fun ⟨a, q0, b, q1, v, q2, q3⟩ => ⟨a, b, v, q0, q1, q2, q3⟩⟩
theorem LO_unOp {op : UnOp} : LO P rd e h (.unOp op t x) K = bindP (ev e x) fun a => bindP (unV op a) fun v => K v h := by
  rw [LO_unOp']
  exact propext ⟨fun ⟨a, v, q0, q1, q2⟩ => ⟨a, q0, v, q1, q2⟩, fun ⟨a, q0, v, q1, q2⟩ => ⟨a, v, q0, q1, q2⟩⟩
theorem LO_conv : LO P rd e h (.convert t u x) K = bindP (ev e x) fun a => bindP (convV P rd t u a) fun r => KL h K r := by
  rw [LO_conv']
  exact propext ⟨fun ⟨a, r, q0, q1, q2⟩ => ⟨a, q0, r, q1, q2⟩, fun ⟨a, q0, r, q1, q2⟩ => ⟨a, r, q0, q1, q2⟩⟩
theorem LO_makeSlice : LO P rd e h (.makeSlice t x y) K = bindP (ev e x) fun a => bindP (ev e y) fun b => bindP (makeSliceV P t a b) fun r => KL h K r := by
  rw [LO_makeSlice']
  exact propext ⟨fun ⟨a, b, r, q0, q1, q2, q3⟩ => ⟨a, q0, b, q1, r, q2, q3⟩, fun ⟨a, q0, b, q1, r, q2, q3⟩ => ⟨a, b, r, q0, q1, q2, q3⟩⟩
theorem LO_slice {l m k : Option Operand} : LO P rd e h (.slice t x l m k) K = bindP (ev e x) fun a => bindP (evo e l) fun l' => bindP (evo e m) fun m' => bindP (evo e k) fun k' => bindP (sliceV P rd t a l' m' k') fun v => K v h := by
  rw [LO_slice']
  exact propext ⟨fun ⟨a, l', m', k', v, q0, q1, q2, q3, q4, q5⟩ => ⟨a, q0, l', q1, m', q2, k', q3, v, q4, q5⟩, fun ⟨a, q0, l', q1, m', q2, k', q3, v, q4, q5⟩ => ⟨a, l', m', k', v, q0, q1, q2, q3, q4, q5⟩⟩
theorem LO_fieldAddr : LO P rd e h (.fieldAddr t x f) K = bindP (ev e x) fun a => bindP (fieldAddrV P t a f) fun v => K v h := by
  rw [LO_fieldAddr']
  exact propext ⟨fun ⟨a, v, q0, q1, q2⟩ => ⟨a, q0, v, q1, q2⟩, fun ⟨a, q0, v, q1, q2⟩ => ⟨a, v, q0, q1, q2⟩⟩
theorem LO_field : LO P rd e h (.field t x f) K = bindP (ev e x) fun a => bindP (fieldV P t a f) fun v => K v h := by
  rw [LO_field']
  exact propext ⟨fun ⟨a, v, q0, q1, q2⟩ => ⟨a, q0, v, q1, q2⟩, fun ⟨a, q0, v, q1, q2⟩ => ⟨a, v, q0, q1, q2⟩⟩
theorem LO_indexAddr : LO P rd e h (.indexAddr t x y) K = bindP (ev e x) fun a => bindP (ev e y) fun b => bindP (addrV P t a b) fun v => K v h := by
  rw [LO_indexAddr']
  exact propext ⟨fun ⟨a, b, v, q0, q1, q2, q3⟩ => ⟨a, q0, b, q1, v, q2, q3⟩, fun ⟨a, q0, b, q1, v, q2, q3⟩ => ⟨a, b, v, q0, q1, q2, q3⟩⟩
theorem LO_index : LO P rd e h (.index t x y) K = bindP (ev e x) fun a => bindP (ev e y) fun b => bindP (indexV P t a b) fun v => K v h := by
  rw [LO_index']
  exact propext ⟨fun ⟨a, b, v, q0, q1, q2, q3⟩ => ⟨a, q0, b, q1, v, q2, q3⟩, fun ⟨a, q0, b, q1, v, q2, q3⟩ => ⟨a, b, v, q0, q1, q2, q3⟩⟩
theorem LO_extract : LO P rd e h (.extract x f) K = bindP (ev e x) fun c => tupP c fun vs => bindP vs[f]? fun v => K v h := by
  rw [LO_extract']
  exact propext ⟨fun ⟨vs, v, q0, q1, q2⟩ => ⟨_, q0, vs, rfl, v, q1, q2⟩, fun ⟨_, q0, vs, e0, v, q1, q2⟩ => ⟨vs, v, e0 ▸ q0, q1, q2⟩⟩
def one (l : List V) (K : V → Prop) : Prop := match l with
  | [a] => K a
  | _ => False
def two (l : List V) (K : V → V → Prop) : Prop := match l with
  | [a, b] => K a b
  | _ => False
theorem one_mk {a : V} {K : V → Prop} : one [a] K = K a := rfl
theorem two_mk {a b : V} {K : V → V → Prop} : two [a, b] K = K a b := rfl
theorem one_iff {o : Option (List V)} {K : V → Prop} : (∃ a, o = some [a] ∧ K a) ↔ ∃ l, o = some l ∧ one l K := by
  constructor
  · rintro ⟨a, h1, h2⟩; exact ⟨_, h1, h2⟩
  · rintro ⟨l, h1, h2⟩
    unfold one at h2
    split at h2
    · exact ⟨_, h1, h2⟩
    · exact h2.elim
theorem two_iff {o : Option (List V)} {K : V → V → Prop} : (∃ a b, o = some [a, b] ∧ K a b) ↔ ∃ l, o = some l ∧ two l K := by
  constructor
  · rintro ⟨a, b, h1, h2⟩; exact ⟨_, h1, h2⟩
  · rintro ⟨l, h1, h2⟩
    unfold two at h2
    split at h2
    · exact ⟨_, _, h1, h2⟩
    · exact h2.elim
theorem OW_append {as : Array Operand} {ts : Array TypeId} : OW C lo e h (.call { callee := .builtin .append, args := as, argTypes := ts }) K = bindP (evs e as.toList) fun l => two l fun s x => bind2 (appendV C.P lo ts.toList s x h) fun v h1 => K v h1 := by
  rw [OW_append']
  refine Eq.trans ?_ (propext two_iff)
  exact propext ⟨fun ⟨s, x, v, h1, q0, q1, q2⟩ => ⟨s, x, q0, v, h1, q1, q2⟩, fun ⟨s, x, q0, v, h1, q1, q2⟩ => ⟨s, x, v, h1, q0, q1, q2⟩⟩
theorem OW_copy {as : Array Operand} {ts : Array TypeId} : OW C lo e h (.call { callee := .builtin .copy, args := as, argTypes := ts }) K = bindP (evs e as.toList) fun l => two l fun s x => bind2 (copyV C.P lo ts.toList s x h) fun v h1 => K v h1 := by
  rw [OW_copy']
  refine Eq.trans ?_ (propext two_iff)
  exact propext ⟨fun ⟨s, x, v, h1, q0, q1, q2⟩ => ⟨s, x, q0, v, h1, q1, q2⟩, fun ⟨s, x, q0, v, h1, q1, q2⟩ => ⟨s, x, v, h1, q0, q1, q2⟩⟩
theorem FOW_append {as : Array Operand} {ts : Array TypeId} : FOW C lo old st e h (.call { callee := .builtin .append, args := as, argTypes := ts }) K =
    (atEnd e h (.call { callee := .builtin .append, args := as, argTypes := ts }) = true ∧ ∃ l, evs e as.toList = some l ∧ two l fun s x => ∃ v h1, appendV C.P lo ts.toList s x h = some (v, h1) ∧ K v h1) := by
  rw [FOW_append', ← two_iff]
  exact propext ⟨fun ⟨h0, s, x, v, h1, q0, q1, q2⟩ => ⟨h0, s, x, q0, v, h1, q1, q2⟩, fun ⟨h0, s, x, q0, v, h1, q1, q2⟩ => ⟨h0, s, x, v, h1, q0, q1, q2⟩⟩
theorem LO_len {as : Array Operand} {ts : Array TypeId} : LO P rd e h (.call { callee := .builtin .len, args := as, argTypes := ts }) K = bindP (evs e as.toList) fun l => one l fun a => bindP (lenV P ts.toList a) fun v => K v h := by
  rw [LO_len']
  refine Eq.trans ?_ (propext one_iff)
  exact propext ⟨fun ⟨a, v, q0, q1, q2⟩ => ⟨a, q0, v, q1, q2⟩, fun ⟨a, q0, v, q1, q2⟩ => ⟨a, v, q0, q1, q2⟩⟩
theorem LO_min {as : Array Operand} {ts : Array TypeId} : LO P rd e h (.call { callee := .builtin .min, args := as, argTypes := ts }) K = ∃ l, evs e as.toList = some l ∧ two l fun x y => ∃ k a, x = .int k a ∧ ∃ k' b, y = .int k' b ∧ K (.int k (if b < a then b else a)) h := by
  rw [LO_min', ← two_iff]
  apply propext
  constructor
  · rintro ⟨k, k', a, b, q0, q1⟩; exact ⟨_, _, q0, k, a, rfl, k', b, rfl, q1⟩
  · rintro ⟨_, _, q0, k, a, rfl, k', b, rfl, q1⟩; exact ⟨k, k', a, b, q0, q1⟩
theorem LO_max {as : Array Operand} {ts : Array TypeId} : LO P rd e h (.call { callee := .builtin .max, args := as, argTypes := ts }) K = ∃ l, evs e as.toList = some l ∧ two l fun x y => ∃ k a, x = .int k a ∧ ∃ k' b, y = .int k' b ∧ K (.int k (if b > a then b else a)) h := by
  rw [LO_max', ← two_iff]
  apply propext
  constructor
  · rintro ⟨k, k', a, b, q0, q1⟩; exact ⟨_, _, q0, k, a, rfl, k', b, rfl, q1⟩
  · rintro ⟨_, _, q0, k, a, rfl, k', b, rfl, q1⟩; exact ⟨k, k', a, b, q0, q1⟩
end
theorem ev_tmp (t : Nat) : ev e (.tmp t) = some (e.at t) := rfl
theorem ev_func (f : FuncId) : ev e (.func f) = some (.fn (.func f) [] []) := rfl
theorem ev_const (v : Value) : ev e (.const v) = ofValue v := rfl
theorem ofValue_bool (b : Bool) : ofValue (.bool b) = some (.bool b) := rfl
theorem ofValue_int (k : IntKind) (n : Int) : ofValue (.int k n) = some (.int k n) := rfl
theorem ofValue_string (s : ByteArray) : ofValue (.string s) = some (.str s.data.toList) := rfl
theorem ofValue_nilp : ofValue (.pointer none) = some .nilp := rfl
theorem ofValue_nils : ofValue (.slice none 0 0) = some .nils := rfl
theorem evs_nil : evs e [] = some [] := rfl
theorem evs_cons (x : Operand) (r : List Operand) {v : V} {vs : List V} (h1 : ev e x = some v) (h2 : evs e r = some vs) : evs e (x :: r) = some (v :: vs) := by
  unfold evs at h2 ⊢
  unfold omap
  rw [h1, h2]
theorem evs1 {x : Operand} : evs e [x] = (ev e x).map fun v => [v] := by
  unfold evs omap omap
  cases ev e x <;> rfl
theorem evs2 {x y : Operand} : evs e [x, y] = (ev e x).bind fun v => (ev e y).map fun w => [v, w] := by
  unfold evs omap omap omap
  cases ev e x <;> cases ev e y <;> rfl
theorem evs3 {x y z : Operand} : evs e [x, y, z] = (ev e x).bind fun v => (ev e y).bind fun w => (ev e z).map fun u => [v, w, u] := by
  unfold evs omap omap omap omap
  cases ev e x <;> cases ev e y <;> cases ev e z <;> rfl
theorem evo_none : evo e none = some none := rfl
theorem evo_some {x : Operand} : evo e (some x) = (ev e x).map some := by unfold evo; simp only; cases ev e x <;> rfl
theorem evParts_nil : evParts e [] = some [] := rfl
theorem evParts_cons {i : Nat} {x : Operand} {r : List (Nat × Operand)} : evParts e ((i, x) :: r) = (ev e x).bind fun v => (evParts e r).map fun vs => (i, v) :: vs := by
  unfold evParts
  rw [omap]
  unfold evPart
  cases hx : ev e x with
  | none => simp
  | some v =>
    simp only [Option.bind_some]
    split <;> simp_all
/-! ### code -/
def kSeq (K : Env → H → Prop) (Q : RQ) : RQ := fun r e h => match r with
  | .nx => K e h
  | r => Q r e h
def kBlk (id : Nat) (Q : RQ) : RQ := fun r e h => match r with
  | .ex id' => if id' = id then Q .nx e h else Q (.ex id') e h
  | r => Q r e h
/-- what a body is to come to -/
def kFn (P : Program) (fn : Func) (K : V → H → Prop) : RQ := fun r e h => match r with
  | .ex _ => False
  | _ => ∃ v, resultsV P fn e h = some v ∧ K v h
section
variable {K : Env → H → Prop} {Q : RQ} {a b : S}
theorem kSeq_nx : kSeq K Q .nx e h = K e h := rfl
theorem kSeq_ex (id : Nat) : kSeq K Q (.ex id) e h = Q (.ex id) e h := rfl
theorem kSeq_rt : kSeq K Q .rt e h = Q .rt e h := rfl
theorem kBlk_nx (id : Nat) : kBlk id Q .nx e h = Q .nx e h := rfl
theorem kBlk_rt (id : Nat) : kBlk id Q .rt e h = Q .rt e h := rfl
theorem kBlk_ex (id id' : Nat) : kBlk id Q (.ex id') e h = if id' = id then Q .nx e h else Q (.ex id') e h := rfl
theorem kFn_nx {fn : Func} {K : V → H → Prop} : kFn P fn K .nx e h = bindP (resultsV P fn e h) fun v => K v h := rfl
theorem kFn_rt {fn : Func} {K : V → H → Prop} : kFn P fn K .rt e h = bindP (resultsV P fn e h) fun v => K v h := rfl
theorem SW_skip : SW C lo .skip Q e h = Q .nx e h := rfl
theorem SW_ops {l : List SI} : SW C lo (.ops l) Q e h = SL C lo l (fun e h => Q .nx e h) e h := rfl
theorem SW_front {l r : List SI} : SW C lo (.front st l r) Q e h = SF C lo h.next st l (SL C lo r fun e h => Q .nx e h) e h := rfl
theorem SW_seq : SW C lo (.seq a b) Q e h = SW C lo a (kSeq (SW C lo b Q) Q) e h := rfl
theorem SW_cond {x : Operand} : SW C lo (.cond x a b) Q e h = bindP (ev e x) fun c => boolP c fun t => (t = true → SW C lo a Q e h) ∧ (t = false → SW C lo b Q e h) :=
  propext ⟨fun ⟨t, q0, q1, q2⟩ => ⟨_, q0, t, rfl, q1, q2⟩, fun ⟨_, q0, t, e0, q1, q2⟩ => ⟨t, e0 ▸ q0, q1, q2⟩⟩
theorem SW_block {id : Nat} : SW C lo (.block id b) Q e h = SW C lo b (kBlk id Q) e h := rfl
theorem SW_exit {id : Nat} : SW C lo (.exit id) Q e h = Q (.ex id) e h := rfl
theorem SW_ret : SW C lo .ret Q e h = Q .rt e h := rfl
theorem SW_rounds {b : S} (I : Nat → Env → H → Prop) (hI : ∀ m e h, I m e h → SW C lo b (kSeq (fun e' h' => ∃ m', m' < m ∧ I m' e' h') Q) e h) (m : Nat) (hi : I m e h) : SW C lo (.loop b) Q e h :=
  SW_loop I hI m e h hi
end
theorem CW_run (hS : ShortLow C) {f : FuncId} {fn : Func} {s : S} {as : List V} {K : V → H → Prop} (hs : C.S f = none) (hf : C.P.funcs[f]? = some fn) (hb : shortFn fn = some s) (hn : as.length ≤ fn.ntmps)
    (hw : SW C lo s (kFn C.P fn K) (mkEnv 0 as .nil) h) : CW C f as lo h K := CW_short hS hs hf hb hn hw
theorem binV_add (t : Nat) (k : IntKind) (a b : Int) : binV P .add t (.int k a) (.int k b) = some (.int k (k.wrap (a + b))) := by simp [binV, intOp]
theorem binV_sub (t : Nat) (k : IntKind) (a b : Int) : binV P .sub t (.int k a) (.int k b) = some (.int k (k.wrap (a - b))) := by simp [binV, intOp]
theorem binV_mul (t : Nat) (k : IntKind) (a b : Int) : binV P .mul t (.int k a) (.int k b) = some (.int k (k.wrap (a * b))) := by simp [binV, intOp]
theorem binV_eql (t : Nat) (k : IntKind) (a b : Int) : binV P .eql t (.int k a) (.int k b) = some (.bool (a == b)) := by simp [binV, intOp]
theorem binV_neq (t : Nat) (k : IntKind) (a b : Int) : binV P .neq t (.int k a) (.int k b) = some (.bool (a != b)) := by simp [binV, intOp]
theorem binV_lss (t : Nat) (k : IntKind) (a b : Int) : binV P .lss t (.int k a) (.int k b) = some (.bool (decide (a < b))) := by simp [binV, intOp]
theorem binV_leq (t : Nat) (k : IntKind) (a b : Int) : binV P .leq t (.int k a) (.int k b) = some (.bool (decide (a ≤ b))) := by simp [binV, intOp]
theorem binV_gtr (t : Nat) (k : IntKind) (a b : Int) : binV P .gtr t (.int k a) (.int k b) = some (.bool (decide (a > b))) := by simp [binV, intOp]
theorem binV_geq (t : Nat) (k : IntKind) (a b : Int) : binV P .geq t (.int k a) (.int k b) = some (.bool (decide (a ≥ b))) := by simp [binV, intOp]
theorem unV_not (b : Bool) : unV .not (.bool b) = some (.bool (!b)) := rfl
theorem V.bool_inj (a b : Bool) : (V.bool a = V.bool b) = (a = b) := by simp
end Go.Den
/- What slices hold, said without blocks. -/
namespace Go.Den
open Go
variable {P : Program} {h h' : H} {lo : Nat}

/-- what a slice type is: its elements, their cells -/
structure SlT (P : Program) (t e es : Nat) : Prop where
  u : P.underlying t = some (.slice e)
  s : size? P e = some es
/-- a type of one cell -/
structure Sc (P : Program) (e : Nat) : Prop where
  a : agg? P e = some false
  s : size? P e = some 1
/-- the slice v has n elements of es cells each, the cells being cs -/
def Sl (rd : Rd) (es : Nat) (v : V) (n : Nat) (cs : List V) : Prop :=
  (v = .nils ∧ n = 0 ∧ cs = []) ∨ ∃ b o c l, v = .sl b o n c es ∧ rd b = some l ∧ o + n * es ≤ l.length ∧ cs = (l.drop o).take (n * es)
def byteV (b : UInt8) : V := .int .u8 (b.toNat : Int)
def Bytes (rd : Rd) (v : V) (bs : List UInt8) : Prop := Sl rd 1 v bs.length (bs.map byteV)
/-- what could be read still reads the same -/
def Keeps (h h' : H) : Prop := ∀ b l, h.read b = some l → h'.read b = some l
theorem Keeps.refl (h : H) : Keeps h h := fun _ _ hr => hr
theorem Keeps.trans {h1 h2 h3 : H} (a : Keeps h1 h2) (b : Keeps h2 h3) : Keeps h1 h3 := fun c l hr => b c l (a c l hr)
theorem Good.keeps (g : Good h.next h h') (wf : HWF h) : Keeps h h' := by
  intro b l hr
  have hlt : b < h.next := by rcases read_some hr with hg | ⟨_, _, _, hg, _⟩ <;> exact wf.lt _ _ hg
  rw [read_eq_of wf (g.get b hlt) (fun f hf => g.fam f (by omega))]
  exact hr
theorem Sl.keep {es n : Nat} {v : V} {cs : List V} (k : Keeps h h') (hs : Sl h.read es v n cs) : Sl h'.read es v n cs := by
  rcases hs with h1 | ⟨b, o, c, l, h1, h2, h3, h4⟩
  · exact .inl h1
  · exact .inr ⟨b, o, c, l, h1, k _ _ h2, h3, h4⟩
theorem Sl.len {rd : Rd} {es n : Nat} {v : V} {cs : List V} (hs : Sl rd es v n cs) : cs.length = n * es := by
  rcases hs with ⟨_, rfl, rfl⟩ | ⟨b, o, c, l, h1, h2, h3, rfl⟩
  · simp
  · simp; omega
theorem Sl.lenV {rd : Rd} {t e es n : Nat} {v : V} {cs : List V} (T : SlT P t e es) (hs : Sl rd es v n cs) : lenV P [t] v = some (.int .i64 (n : Int)) := by
  rcases hs with ⟨rfl, rfl, rfl⟩ | ⟨b, o, c, l, rfl, h2, h3, rfl⟩ <;> simp [Den.lenV, T.u]
theorem Sl.elems {rd : Rd} {es n : Nat} {v : V} {cs : List V} (hs : Sl rd es v n cs) : elems rd es v = some (n, cs) := by
  rcases hs with ⟨rfl, rfl, rfl⟩ | ⟨b, o, c, l, rfl, h2, h3, rfl⟩
  · rfl
  · simp [Den.elems, h2, h3]
theorem Sl.addr {rd : Rd} {t e es n : Nat} {v : V} {cs : List V} (T : SlT P t e es) (hs : Sl rd es v n cs) {k : IntKind} {i : Nat} (hi : i < n) :
    ∃ b o l, addrV P t v (.int k (i : Int)) = some (.ptr b (o + i * es)) ∧ rd b = some l ∧ o + n * es ≤ l.length ∧ cs = (l.drop o).take (n * es) := by
  rcases hs with ⟨rfl, rfl, rfl⟩ | ⟨b, o, c, l, rfl, h2, h3, rfl⟩
  · omega
  · refine ⟨b, o, l, ?_, h2, h3, rfl⟩
    unfold addrV
    simp only [T.u]
    rw [if_pos (by omega), if_pos T.s]
    simp
theorem loadV_one {rd : Rd} {e b o : Nat} {l : List V} {v : V} (S : Sc P e) (hr : rd b = some l) (hv : l[o]? = some v) : loadV P e (.ptr b o) rd = some v := by
  unfold loadV partV
  simp only [hr, S.a, S.s, hv]
theorem Sl.at {rd : Rd} {t e n : Nat} {v : V} {cs : List V} (T : SlT P t e 1) (S : Sc P e) (hs : Sl rd 1 v n cs) {k : IntKind} {i : Nat} {x : V} (hx : cs[i]? = some x) :
    ∃ p, addrV P t v (.int k (i : Int)) = some p ∧ loadV P e p rd = some x := by
  have hi : i < n := by have := (List.getElem?_eq_some_iff.1 hx).1; have := hs.len; omega
  obtain ⟨b, o, l, h1, h2, h3, h4⟩ := hs.addr T hi (k := k)
  refine ⟨_, h1, loadV_one S h2 ?_⟩
  subst h4
  rw [List.getElem?_take, if_pos (by omega), List.getElem?_drop] at hx
  rw [← hx]
  simp
theorem Bytes.len {rd : Rd} {t e : Nat} {v : V} {bs : List UInt8} (T : SlT P t e 1) (hb : Bytes rd v bs) : Den.lenV P [t] v = some (.int .i64 (bs.length : Int)) := Sl.lenV T hb
theorem Bytes.at {rd : Rd} {t e : Nat} {v : V} {bs : List UInt8} (T : SlT P t e 1) (S : Sc P e) (hb : Bytes rd v bs) {k : IntKind} {i : Nat} (hi : i < bs.length) :
    ∃ p, addrV P t v (.int k (i : Int)) = some p ∧ loadV P e p rd = some (byteV bs[i]) := Sl.at T S hb (by simp [List.getElem?_eq_getElem hi])
theorem Bytes.keep {v : V} {bs : List UInt8} (k : Keeps h h') (hb : Bytes h.read v bs) : Bytes h'.read v bs := Sl.keep k hb
end Go.Den
/- Slices that grow: what append leaves, what stays. -/
namespace Go.Den
open Go
variable {P : Program} {h h' : H} {lo : Nat}

theorem owned_alloc_new {l : List V} (hlo : lo ≤ h.next) : (h.alloc l).owned lo h.next = some (l, h.next, h.next) := by
  unfold H.owned
  rw [get_alloc, if_pos rfl]
  simp only [fam_alloc, if_pos rfl]
  simp [hlo]
theorem owned_more_new {f low : Nat} {l : List V} (hlo : lo ≤ h.next) (hf : lo ≤ f) : (h.more f low l).owned lo h.next = some (l, f, low) := by
  unfold H.owned
  rw [get_more, if_pos rfl]
  simp only [fam_more, if_pos rfl]
  simp [hlo, hf]
theorem owned_put_same {b f low : Nat} {l l' : List V} (ho : h.owned lo b = some (l, f, low)) : (h.put b f l').owned lo b = some (l', f, b) := by
  obtain ⟨h1, h2, h3⟩ := owned_some ho
  have h4 := owned_fam ho
  unfold H.owned
  rw [get_put, if_pos rfl]
  simp only [fam_put, if_pos rfl]
  simp [h3, h4]
theorem keeps_alloc (wf : HWF h) (l : List V) : Keeps h (h.alloc l) := by
  intro b x hr
  have hlt : b < h.next := by rcases read_some hr with hg | ⟨_, _, _, hg, _⟩ <;> exact wf.lt _ _ hg
  rw [read_alloc wf, if_neg (by omega)]
  exact hr
/-- an append at the end leaves all that could be read -/
theorem keeps_more (wf : HWF h) {b f low : Nat} {l l' : List V} (ho : h.owned lo b = some (l, f, low)) : Keeps h (h.more f low l') := by
  obtain ⟨hg0, hf0, _⟩ := owned_some ho
  intro c x hr
  have hlt : c < h.next := by rcases read_some hr with hg | ⟨_, _, _, hg, _⟩ <;> exact wf.lt _ _ hg
  rcases read_some hr with hg | ⟨f2, o, lw, hg, hf2, hle⟩
  · exact read_ro (by rw [get_more, if_neg (by omega)]; exact hg)
  · by_cases e : f2 = f
    · subst e
      rw [hf0] at hf2
      cases hf2
      rw [read_fam (by rw [get_more, if_neg (by omega)]; exact hg) (by rw [fam_more, if_pos rfl]), if_pos hle]
    · rw [read_fam (by rw [get_more, if_neg (by omega)]; exact hg) (by rw [fam_more, if_neg e]; exact hf2), if_pos hle]
/-- all but the families F is as it was -/
structure Fr (F : Nat → Prop) (h h' : H) : Prop where
  next : h.next ≤ h'.next
  wf : HWF h → HWF h'
  get : ∀ b, b < h.next → (∀ g, h.famOf b = some g → ¬ F g) → h'.get b = h.get b
  fam : ∀ g, g < h.next → ¬ F g → h'.fam g = h.fam g
theorem Fr.refl (F : Nat → Prop) (h : H) : Fr F h h := ⟨Nat.le_refl _, id, fun _ _ _ => rfl, fun _ _ _ => rfl⟩
theorem Fr.trans {F : Nat → Prop} {h1 h2 h3 : H} (a : Fr F h1 h2) (b : Fr F h2 h3) : Fr F h1 h3 :=
  ⟨Nat.le_trans a.next b.next, fun w => b.wf (a.wf w), fun c hc hg => by
    have e := a.get c hc hg
    rw [← e]
    refine b.get c (by have := a.next; omega) fun g hg2 => hg g ?_
    unfold H.famOf at hg2 ⊢
    rwa [e] at hg2, fun g hg hF => (b.fam g (by have := a.next; omega) hF).trans (a.fam g hg hF)⟩
theorem Fr.mono {F F' : Nat → Prop} (a : Fr F h h') (hs : ∀ g, F g → F' g) : Fr F' h h' :=
  ⟨a.next, a.wf, fun b hb hg => a.get b hb fun g hg2 hF => hg g hg2 (hs g hF), fun g hg hF => a.fam g hg fun h2 => hF (hs g h2)⟩
theorem Good.fr (g : Good h.next h h') (F : Nat → Prop) : Fr F h h' := ⟨g.next, g.wf, fun b hb _ => g.get b hb, fun f hf _ => g.fam f hf⟩
/-- a slice that may grow: its own family F, its cells are all of its block -/
def Buf (h : H) (lo es : Nat) (v : V) (n : Nat) (cs : List V) (F : Option Nat) : Prop :=
  (v = .nils ∧ n = 0 ∧ cs = [] ∧ F = none) ∨ ∃ b c f low, v = .sl b 0 n c es ∧ h.owned lo b = some (cs, f, low) ∧ cs.length = n * es ∧ F = some f

theorem fr_alloc (F : Nat → Prop) (l : List V) : Fr F h (h.alloc l) :=
  ⟨Nat.le_succ _, fun w => w.alloc l, fun b hb _ => by rw [get_alloc, if_neg (by omega)], fun g hg _ => by rw [fam_alloc, if_neg (by omega)]⟩
theorem fr_more {b f low low' : Nat} {l l' : List V} (ho : h.owned lo b = some (l, f, low)) (hlow : low' = low ∨ low' = h.next) : Fr (· = f) h (h.more f low' l') := by
  obtain ⟨hg, hf, _⟩ := owned_some ho
  exact ⟨Nat.le_succ _, fun w => w.more hg hf hlow l', fun c hc _ => by rw [get_more, if_neg (by omega)], fun g hg hF => by rw [fam_more, if_neg hF]⟩
theorem fr_put {b f low : Nat} {l l' : List V} (ho : h.owned lo b = some (l, f, low)) : Fr (· = f) h (h.put b f l') := by
  obtain ⟨hg, hf, _⟩ := owned_some ho
  refine ⟨Nat.le_refl _, fun w => w.put hg hf l', fun c hc hn => ?_, fun g hg hF => by rw [fam_put, if_neg hF]⟩
  rw [get_put, if_neg]
  intro e
  subst e
  exact hn f (famOf_of hg) rfl
/-- what is of other families reads as it did -/
theorem Fr.read {F : Nat → Prop} (a : Fr F h h') (wf : HWF h) {b : Nat} {l : List V} (hr : h.read b = some l) (hn : ∀ g, h.famOf b = some g → ¬ F g) : h'.read b = some l := by
  rcases read_some hr with hg | ⟨f, o, lw, hg, hf, hle⟩
  · have hlt := wf.lt _ _ hg
    exact read_ro (by rw [a.get b hlt hn]; exact hg)
  · have hlt := wf.lt _ _ hg
    have hfb := (wf.fam _ _ _ hg).1
    rw [read_fam (by rw [a.get b hlt hn]; exact hg) (by rw [a.fam f (by omega) (hn f (famOf_of hg))]; exact hf), if_pos hle]
theorem Fr.owned {F : Nat → Prop} (a : Fr F h h') (wf : HWF h) {b f low : Nat} {l : List V} (ho : h.owned lo b = some (l, f, low)) (hn : ¬ F f) : h'.owned lo b = some (l, f, low) := by
  obtain ⟨hg, hf, hlo⟩ := owned_some ho
  have hlf := owned_fam ho
  have hlt := wf.lt _ _ hg
  have hfb := (wf.fam _ _ _ hg).1
  unfold H.owned
  rw [a.get b hlt (fun g hg2 => by rw [famOf_of hg] at hg2; cases hg2; exact hn), hg]
  simp only [a.fam f (by omega) hn, hf, if_true]
  rw [if_pos ⟨hlo, hlf⟩]
theorem Buf.sl {es n : Nat} {v : V} {cs : List V} {F : Option Nat} (wf : HWF h) (hb : Buf h lo es v n cs F) : Sl h.read es v n cs := by
  rcases hb with ⟨h1, h2, h3, _⟩ | ⟨b, c, f, low, h1, h2, h3, _⟩
  · exact .inl ⟨h1, h2, h3⟩
  · exact .inr ⟨b, 0, c, cs, h1, owned_read wf h2, by omega, by simp [h3.symm]⟩
theorem Buf.fr {es n : Nat} {v : V} {cs : List V} {F : Option Nat} {G : Nat → Prop} (a : Fr G h h') (wf : HWF h) (hb : Buf h lo es v n cs F) (hn : ∀ g, F = some g → ¬ G g) : Buf h' lo es v n cs F := by
  rcases hb with h1 | ⟨b, c, f, low, h1, h2, h3, h4⟩
  · exact .inl h1
  · exact .inr ⟨b, c, f, low, h1, a.owned wf h2 (hn f h4), h3, h4⟩
theorem Buf.nil (es : Nat) : Buf h lo es .nils 0 [] none := .inl ⟨rfl, rfl, rfl, rfl⟩
theorem Buf.new {es n : Nat} {c : Option Nat} {cs : List V} (hlo : lo ≤ h.next) (hl : cs.length = n * es) : Buf (h.alloc cs) lo es (.sl h.next 0 n c es) n cs (some h.next) :=
  .inr ⟨h.next, c, h.next, h.next, rfl, owned_alloc_new hlo, hl, rfl⟩
/-- what an append wants to know of the types -/
structure ApT (P : Program) (t u e es by_ : Nat) : Prop where
  t : P.underlying t = some (.slice e)
  u : (∃ e', P.underlying u = some (.slice e')) ∨ P.underlying u = some .string
  i : ∃ i z, P.info? e = some i ∧ i.size = es ∧ i.bytes = by_ ∧ i.zero = some z ∧ z.cells.size = es
def apTail (lo size by_ m : Nat) (xs : List V) (s : V) (h : H) : Option (V × H) :=
  match s with
  | .nils => if m = 0 then some (.nils, h) else if m * by_ ≤ 140737488355328 ∧ m ≤ 9223372036854775807 then some (.sl h.next 0 m (capUp none m) size, h.alloc xs) else none
  | .sl b o n c es =>
    if es ≠ size then none else
    if m = 0 then some (s, h) else
    if (n + m) * by_ ≤ 140737488355328 ∧ n + m ≤ 9223372036854775807 then
      if forced c (n + m) = true then
        match h.read b with
        | some cs => if o + n * es ≤ cs.length then some (.sl h.next 0 (n + m) (capUp none (n + m)) es, h.alloc ((cs.drop o).take (n * es) ++ xs)) else none
        | none => none
      else
        match h.owned lo b with
        | some (cs, f, low) => if o + n * es ≤ cs.length then
            some (.sl h.next 0 (n + m) (capUp c (n + m)) es, h.more f (if o + n * es = cs.length then low else h.next) ((cs.drop o).take (n * es) ++ xs)) else none
        | none => none
    else none
  | _ => none
theorem append_tail {t u e es by_ m : Nat} {x : V} {xs : List V} (T : ApT P t u e es by_) (hx : elems h.read es x = some (m, xs)) (hsc : xs.all scal = true) (s : V) : appendV P lo [t, u] s x h = apTail lo es by_ m xs s h := by
  obtain ⟨i, z, hi, hsz, hby, hz, hzs⟩ := T.i
  subst hsz
  subst hby
  have hcond : ¬ (z.cells.size ≠ i.size ∨ xs.all scal = false) := by simp [hzs, hsc]
  rcases T.u with ⟨e', hu⟩ | hu
  · unfold appendV
    simp only [T.t, hu, hi, hx, hz]
    rw [if_neg hcond]
    rfl
  · unfold appendV
    simp only [T.t, hu, hi, hx, hz]
    rw [if_neg hcond]
    rfl
/-- behind an append -/
theorem append_buf {t u e es by_ n m : Nat} {s x : V} {cs xs : List V} {F : Option Nat} (T : ApT P t u e es by_) (wf : HWF h) (hlo : lo ≤ h.next) (hb : Buf h lo es s n cs F) (hx : elems h.read es x = some (m, xs)) (hxl : xs.length = m * es) (hsc : xs.all scal = true)
    (hroom : (n + m) * by_ ≤ 140737488355328) (hroom2 : n + m ≤ 9223372036854775807) :
    ∃ v h' F', appendV P lo [t, u] s x h = some (v, h') ∧ Buf h' lo es v (n + m) (cs ++ xs) F' ∧ Keeps h h' ∧ Fr (fun g => F = some g) h h' ∧ (∀ g, F' = some g → F = some g ∨ h.next ≤ g) ∧ (v = .nils → n + m = 0) ∧ (∀ b, b < h.next → h'.get b = h.get b) := by
  simp only [append_tail T hx hsc]
  rcases hb with ⟨rfl, rfl, rfl, rfl⟩ | ⟨b, c, f, low, rfl, ho, hl, rfl⟩
  · by_cases hm : m = 0
    · subst hm
      have hx0 : xs = [] := List.eq_nil_of_length_eq_zero (by omega)
      subst hx0
      refine ⟨.nils, h, none, ?_, .inl ⟨rfl, rfl, rfl, rfl⟩, Keeps.refl h, Fr.refl _ h, fun g hg => (by cases hg), fun _ => rfl, fun _ _ => rfl⟩
      simp [apTail]
    · refine ⟨.sl h.next 0 m (capUp none m) es, h.alloc xs, some h.next, ?_, ?_, keeps_alloc wf xs, fr_alloc _ xs, fun g hg => (by cases hg; exact .inr (Nat.le_refl _)), fun hv => (by cases hv), fun b hb => by rw [get_alloc, if_neg (by omega)]⟩
      · rw [Nat.zero_add] at hroom hroom2
        simp [apTail, hm, hroom, hroom2]
      · have := Buf.new (es := es) (n := m) (c := capUp none m) (cs := xs) hlo hxl
        simpa using this
  · by_cases hm : m = 0
    · subst hm
      have hx0 : xs = [] := List.eq_nil_of_length_eq_zero (by omega)
      subst hx0
      refine ⟨.sl b 0 n c es, h, some f, ?_, .inr ⟨b, c, f, low, rfl, by simpa using ho, by simpa using hl, rfl⟩, Keeps.refl h, Fr.refl _ h, fun g hg => .inl hg, fun hv => (by cases hv), fun _ _ => rfl⟩
      simp [apTail]
    · have hrd := owned_read wf ho
      have hlf := owned_fam ho
      by_cases hf : forced c (n + m) = true
      · refine ⟨.sl h.next 0 (n + m) (capUp none (n + m)) es, h.alloc (cs ++ xs), some h.next, ?_, Buf.new hlo (by simp [hl, hxl, Nat.add_mul]), keeps_alloc wf _, fr_alloc _ _, fun g hg => (by cases hg; exact .inr (Nat.le_refl _)), fun hv => (by cases hv), fun b hb => by rw [get_alloc, if_neg (by omega)]⟩
        simp [apTail, hm, hroom, hroom2, hf, hrd, hl]
        rw [← hl, List.take_length]
      · refine ⟨.sl h.next 0 (n + m) (capUp c (n + m)) es, h.more f low (cs ++ xs), some f, ?_, .inr ⟨h.next, capUp c (n + m), f, low, rfl, owned_more_new hlo hlf, by simp [hl, hxl, Nat.add_mul], rfl⟩, keeps_more wf ho, (fr_more ho (.inl rfl)).mono fun g hg => by rw [hg], fun g hg => .inl hg, fun hv => (by cases hv), fun b hb => by rw [get_more, if_neg (by omega)]⟩
        simp [apTail, hm, hroom, hroom2, hf, ho, hl]
        rw [← hl, List.take_length]
theorem Buf.lower {lo' es n : Nat} {v : V} {cs : List V} {F : Option Nat} (hl : lo' ≤ lo) (hb : Buf h lo es v n cs F) : Buf h lo' es v n cs F := by
  rcases hb with h1 | ⟨b, c, f, low, h1, h2, h3, h4⟩
  · exact .inl h1
  · exact .inr ⟨b, c, f, low, h1, owned_lower hl h2, h3, h4⟩
/-- a slice type of which literals are built -/
structure BsT (P : Program) (t e es : Nat) : Prop where
  t : P.underlying t = some (.slice e)
  i : ∃ i z, P.info? e = some i ∧ i.size = es ∧ i.zero.bind ofValue = some z ∧ z.cells.length = es
  small : es ≤ 1000
theorem buildSlice_one {t e es : Nat} (B : BsT P t e es) {v : V} (hv : v.cells.length = es) : buildSliceV P t 1 [(0, v)] = some (.new v.cells (.sl 1 (some 1) es)) := by
  obtain ⟨i, z, hi, hs, hz, hzl⟩ := B.i
  have := B.small
  subst hs
  unfold buildSliceV
  simp only [B.t, hi, hz]
  rw [if_pos (by omega)]
  simp [fillV, fill1, reps, hv, hzl]
theorem NK_at {n : Nat} {c : Option Nat} {es b : Nat} : NK.at (.sl n c es) b = .sl b 0 n c es := rfl
theorem NK_ptr {b : Nat} : NK.at .ptr b = .ptr b 0 := rfl
theorem elems_new {l : List V} (wf : HWF h) {n es : Nat} {c : Option Nat} (hl : l.length = n * es) : elems (h.alloc l).read es (.sl h.next 0 n c es) = some (n, l) := by
  simp [elems, read_alloc wf, hl]
  rw [← hl, List.take_length]
end Go.Den
