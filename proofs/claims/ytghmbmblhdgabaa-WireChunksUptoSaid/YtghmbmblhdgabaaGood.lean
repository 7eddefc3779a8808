/- What stays below a barrier, whatever the machine does. -/
import Derived.Test.YtghmbmblhdgabaaOps
set_option linter.all false
namespace Go.Den
open Go
variable {P : Program} {h h' h'' : H}

structure Good (lo : Nat) (h h' : H) : Prop where
  next : h.next ≤ h'.next
  wf : HWF h → HWF h'
  get : ∀ b, b < lo → h'.get b = h.get b
  fam : ∀ f, f < lo → h'.fam f = h.fam f
theorem Good.refl (lo : Nat) (h : H) : Good lo h h := ⟨Nat.le_refl _, id, fun _ _ => rfl, fun _ _ => rfl⟩
theorem Good.trans {lo : Nat} (a : Good lo h h') (b : Good lo h' h'') : Good lo h h'' :=
  ⟨Nat.le_trans a.next b.next, fun w => b.wf (a.wf w), fun c hc => (b.get c hc).trans (a.get c hc), fun c hc => (b.fam c hc).trans (a.fam c hc)⟩
theorem Good.lower {lo lo' : Nat} (hl : lo ≤ lo') (a : Good lo' h h') : Good lo h h' :=
  ⟨a.next, a.wf, fun c hc => a.get c (by omega), fun c hc => a.fam c (by omega)⟩
def CallGood (call : CallFn) : Prop := ∀ f as lo h v h', call f as lo h = some (v, h') → lo ≤ h.next → Good lo h h'

theorem good_alloc {lo : Nat} (hlo : lo ≤ h.next) (l : List V) : Good lo h (h.alloc l) :=
  ⟨Nat.le_succ _, fun w => w.alloc l, fun c hc => by rw [get_alloc, if_neg (by omega)], fun c hc => by rw [fam_alloc, if_neg (by omega)]⟩
theorem good_put {lo b f low : Nat} {l : List V} (ho : h.owned lo b = some (l, f, low)) (l' : List V) : Good lo h (h.put b f l') := by
  obtain ⟨hg, hf, hlo⟩ := owned_some ho
  have hlf := owned_fam ho
  exact ⟨Nat.le_refl _, fun w => w.put hg hf l', fun c hc => by rw [get_put, if_neg (by omega)], fun c hc => by rw [fam_put, if_neg (by omega)]⟩
theorem good_more {lo b f low low' : Nat} {l : List V} (hlo : lo ≤ h.next) (ho : h.owned lo b = some (l, f, low)) (hlow : low' = low ∨ low' = h.next) (l' : List V) : Good lo h (h.more f low' l') := by
  obtain ⟨hg, hf, _⟩ := owned_some ho
  have hlf := owned_fam ho
  exact ⟨Nat.le_succ _, fun w => w.more hg hf hlow l', fun c hc => by rw [get_more, if_neg (by omega)], fun c hc => by rw [fam_more, if_neg (by omega)]⟩
theorem keep_good {lo : Nat} (hlo : lo ≤ h.next) {r : Option LR} {v : V} (hk : keep h r = some (v, h')) : Good lo h h' := by
  unfold keep at hk
  split at hk
  · cases hk; exact Good.refl _ _
  · cases hk; exact good_alloc hlo _
  · cases hk
theorem storeV_good {lo : Nat} {t : TypeId} {x v : V} (hs : storeV P lo t x v h = some h') : Good lo h h' := by
  unfold storeV at hs
  split at hs
  · split at hs
    · rename_i ho
      split at hs
      · split at hs
        · cases hs; exact good_put ho _
        · cases hs
      · cases hs
    · cases hs
  · cases hs
theorem appendV_good {lo : Nat} (hlo : lo ≤ h.next) {ts : List TypeId} {s x v : V} (ha : appendV P lo ts s x h = some (v, h')) : Good lo h h' := by
  unfold appendV at ha
  repeat' (split at ha)
  all_goals first
    | (cases ha; done)
    | (cases ha; first
        | exact Good.refl _ _
        | exact good_alloc hlo _
        | exact good_more hlo ‹_› (by first | exact .inl rfl | exact .inr rfl) _
        | exact good_more hlo ‹_› (by split <;> simp) _)
theorem copyV_good {lo : Nat} {ts : List TypeId} {d x v : V} (hc : copyV P lo ts d x h = some (v, h')) : Good lo h h' := by
  unfold copyV at hc
  repeat' (first | split at hc | simp only at hc)
  all_goals first
    | (cases hc; done)
    | (cases hc; first | exact Good.refl _ _ | exact good_put ‹_› _)
theorem markV_good {lo : Nat} {t : TypeId} {x v : V} (hm : markV P lo t x h = some (v, h')) : Good lo h h' := by
  unfold markV at hm
  repeat' (split at hm)
  all_goals first
    | (cases hm; done)
    | (cases hm; exact Good.refl _ _)
theorem aop_good {call : CallFn} (hc : CallGood call) {lo : Nat} (hlo : lo ≤ h.next) {e : Env} {o : Op} {v : V} (ha : aop P call lo e h o = some (v, h')) : Good lo h h' := by
  unfold aop at ha
  split at ha
  · split at ha
    · split at ha
      · rename_i hs; cases ha; exact storeV_good hs
      · cases ha
    · cases ha
  · split at ha
    · split at ha
      · exact markV_good ha
      · cases ha
    · exact keep_good hlo ha
  · split at ha
    · exact hc _ _ _ _ _ _ ha hlo
    · cases ha
  · split at ha
    · exact appendV_good hlo ha
    · cases ha
  · split at ha
    · exact copyV_good ha
    · cases ha
  · exact keep_good hlo ha
theorem runOps_good {call : CallFn} (hc : CallGood call) {lo nt : Nat} {ops : Array Oper} : ∀ {l : List Oper} {e e' : Env} {h h' : H}, lo ≤ h.next → runOps P call lo nt ops l e h = some (e', h') → Good lo h h'
  | [], e, e', h, h', _, hr => by cases hr; exact Good.refl _ _
  | o :: r, e, e', h, h', hlo, hr => by
    unfold runOps at hr
    split at hr
    · split at hr
      · rename_i v h1 ha
        split at hr
        · have g := aop_good hc hlo ha
          exact g.trans (runOps_good hc (by have := g.next; omega) hr)
        · cases hr
      · cases hr
    · split at hr
      · exact runOps_good hc hlo hr
      · cases hr
theorem frontOp_good {call : CallFn} (hc : CallGood call) {lo old : Nat} (hlo : lo ≤ old) (hold : old ≤ h.next) {st : Bool} {e : Env} {o : Op} {v : V} (ha : frontOp P call lo old st e h o = some (v, h')) : Good lo h h' := by
  unfold frontOp at ha
  split at ha
  · split at ha
    · have hb : lo ≤ barrier lo old h o ∧ barrier lo old h o ≤ h.next := by unfold barrier; split <;> omega
      exact (aop_good hc hb.2 ha).lower hb.1
    · cases ha
  · exact keep_good (by omega) ha
theorem runFront_good {call : CallFn} (hc : CallGood call) {lo old nt : Nat} (hlo : lo ≤ old) {st : Bool} {ops : Array Oper} : ∀ {k : Nat} {l : List Oper} {e e' : Env} {h h' : H}, old ≤ h.next → runFront P call lo old nt st ops k l e h = some (e', h') → Good lo h h'
  | 0, l, e, e', h, h', _, hr => by cases hr; exact Good.refl _ _
  | k + 1, [], e, e', h, h', _, hr => by cases hr; exact Good.refl _ _
  | k + 1, o :: r, e, e', h, h', hold, hr => by
    unfold runFront at hr
    split at hr
    · split at hr
      · rename_i v h1 ha
        split at hr
        · have g := frontOp_good hc hlo hold ha
          exact g.trans (runFront_good hc hlo (by have := g.next; omega) hr)
        · cases hr
      · cases hr
    · split at hr
      · exact runFront_good hc hlo hold hr
      · cases hr
theorem runRegion_good {call : CallFn} (hc : CallGood call) {lo nt : Nat} (hlo : lo ≤ h.next) {ops : Array Oper} {draw : Bool} {e e' : Env} (hr : runRegion P call lo nt ops draw e h = some (e', h')) : Good lo h h' := by
  unfold runRegion at hr
  split at hr
  · simp only at hr
    split at hr
    · split at hr
      · rename_i e1 h1 hf
        have g := runFront_good hc hlo (Nat.le_refl _) hf
        exact g.trans (runOps_good hc (by have := g.next; omega) hr)
      · cases hr
    · cases hr
  · exact runOps_good hc hlo hr
def RecGood (rec : Rec) : Prop := ∀ lo nt c e h r e' h', rec lo nt c e h = some (r, e', h') → lo ≤ h.next → Good lo h h'
section
variable {C : Cfg}
def ShortGood (C : Cfg) : Prop := ∀ f g, C.S f = some g → ∀ as lo h v h', g as lo h = some (v, h') → lo ≤ h.next → Good lo h h'
theorem callStep_good (hS : ShortGood C) {rec : Rec} (hn : RecGood rec) : CallGood (callStep C rec) := by
  intro f as lo h v h' hc hlo
  unfold callStep at hc
  split at hc
  · rename_i g hg; exact hS _ _ hg _ _ _ _ _ hc hlo
  · split at hc
    · split at hc
      · split at hc
        · split at hc
          · rename_i hr
            rw [Option.map_eq_some_iff] at hc
            obtain ⟨v', _, he⟩ := hc
            cases he
            exact hn _ _ _ _ _ _ _ _ hr hlo
          · rename_i hr
            rw [Option.map_eq_some_iff] at hc
            obtain ⟨v', _, he⟩ := hc
            cases he
            exact hn _ _ _ _ _ _ _ _ hr hlo
          · cases hc
        · cases hc
      · cases hc
    · cases hc
theorem execStep_good (hS : ShortGood C) {rec : Rec} (hn : RecGood rec) : RecGood (execStep C rec) := by
  intro lo nt c e h r e' h' hr hlo
  unfold execStep at hr
  split at hr
  · cases hr; exact Good.refl _ _
  · cases hr; exact Good.refl _ _
  · split at hr
    · rename_i hg; cases hr; exact runRegion_good (callStep_good hS hn) hlo hg
    · cases hr
  · split at hr
    · rename_i h1
      have g := hn _ _ _ _ _ _ _ _ h1 hlo
      exact g.trans (hn _ _ _ _ _ _ _ _ hr (by have := g.next; omega))
    · exact hn _ _ _ _ _ _ _ _ hr hlo
  · split at hr
    · exact hn _ _ _ _ _ _ _ _ hr hlo
    · cases hr
  · split at hr
    · rename_i h1
      split at hr
      · cases hr; exact hn _ _ _ _ _ _ _ _ h1 hlo
      · cases hr; exact hn _ _ _ _ _ _ _ _ h1 hlo
    · exact hn _ _ _ _ _ _ _ _ hr hlo
  · split at hr
    · rename_i h1
      have g := hn _ _ _ _ _ _ _ _ h1 hlo
      exact g.trans (hn _ _ _ _ _ _ _ _ hr (by have := g.next; omega))
    · exact hn _ _ _ _ _ _ _ _ hr hlo
  · cases hr; exact Good.refl _ _
  · cases hr; exact Good.refl _ _
  · cases hr
theorem exec_good (hS : ShortGood C) : ∀ n, RecGood (exec C n)
  | 0 => fun _ _ _ _ _ _ _ _ hx => by cases hx
  | n + 1 => by rw [exec_succ]; exact execStep_good hS (exec_good hS n)
theorem call_good (hS : ShortGood C) (n : Nat) : CallGood (call C n) := callStep_good hS (exec_good hS n)
end
end Go.Den
