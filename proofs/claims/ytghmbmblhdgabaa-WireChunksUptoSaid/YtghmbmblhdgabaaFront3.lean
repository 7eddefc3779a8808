/- A region whose order is open, the end: whatever order is drawn. -/
import Derived.Test.YtghmbmblhdgabaaFront2
set_option linter.all false
namespace Go.Den
open Go
variable {P : Program}

theorem sim_more_blocks {φ : Phi} {h : H} {w : World} (s : Sim φ h w) {l : List V} (hb : φ h.next = none ∨ ∃ x, φ h.next = some x ∧ Cells φ w x l ∧ Clear w x.1 ∧ ∀ c y, c ≠ h.next → φ c = some y → y.1 ≠ x.1) : Sim φ (h.alloc l) w := by
  refine ⟨fun b x l' hx hr => ?_, fun b1 b2 x1 x2 l1 l2 hlt h1 h2 hr1 hr2 he => ?_, s.wf.alloc l, s.bnd, fun b x l' f hx hg => ?_⟩
  · rw [read_alloc s.wf] at hr
    by_cases hbn : b = h.next
    · rw [if_pos hbn] at hr
      cases hr
      rw [hbn] at hx
      rcases hb with hn | ⟨y, hy, hc, _, _⟩
      · rw [hn] at hx; cases hx
      · rw [hy] at hx; cases hx; exact hc
    · rw [if_neg hbn] at hr; exact s.at_ _ _ _ hx hr
  · rw [read_alloc s.wf] at hr1 hr2
    by_cases hn1 : b1 = h.next
    · exfalso
      rcases hb with hn | ⟨y, hy, _, _, hu⟩
      · rw [hn1, hn] at h1; cases h1
      · rw [hn1, hy] at h1; cases h1
        exact hu b2 x2 (by omega) h2 he.symm
    · by_cases hn2 : b2 = h.next
      · exfalso
        rcases hb with hn | ⟨y, hy, _, _, hu⟩
        · rw [hn2, hn] at h2; cases h2
        · rw [hn2, hy] at h2; cases h2
          exact hu b1 x1 (by omega) h1 he
      · rw [if_neg hn1] at hr1
        rw [if_neg hn2] at hr2
        have e : ∀ b, b ≠ h.next → (h.alloc l).famOf b = h.famOf b := fun b hb => by unfold H.famOf; rw [get_alloc, if_neg hb]
        rw [e _ hn1, e _ hn2]
        exact s.sep _ _ _ _ _ _ hlt h1 h2 hr1 hr2 he
  · rw [get_alloc] at hg
    by_cases hbn : b = h.next
    · rw [hbn] at hx
      rcases hb with hn | ⟨y, hy, _, hcl, _⟩
      · rw [hn] at hx; cases hx
      · rw [hy] at hx; cases hx; exact hcl
    · rw [if_neg hbn] at hg; exact s.frz _ _ _ _ hx hg
/-- a block that was there for the text's order alone comes to be -/
theorem sim_born {φ : Phi} {h : H} {w w' : World} (s : Sim φ h w) {b : Nat} (hn : φ b = none) {x : Nat × Nat × Nat} (hx : x.1 = w.heap.size) {o : Go.Obj} (hw : w'.heap = w.heap.push o)
    (hc : ∀ l, h.read b = some l → Cells (φ.with b x) w' x l) (hclr : Clear w' x.1) : Sim (φ.with b x) h w' := by
  have hle : φ.le (φ.with b x) := Phi.le_with hn
  refine ⟨fun c y l hy hr => ?_, fun b1 b2 x1 x2 l1 l2 hlt h1 h2 hr1 hr2 he => ?_, s.wf, fun c y hy => ?_, fun c y l f hy hg => ?_⟩
  · by_cases hcb : c = b
    · subst hcb; rw [Phi.with_at] at hy; cases hy; exact hc l hr
    · rw [Phi.with_ne _ _ hcb] at hy
      have h1 := s.at_ _ _ _ hy hr
      exact h1.mono hle (heap_push_old hw h1.lt)
  · by_cases e1 : b1 = b
    · exfalso
      subst e1
      rw [Phi.with_at] at h1; cases h1
      rw [Phi.with_ne _ _ (by omega)] at h2
      have := (s.at_ _ _ _ h2 hr2).lt
      omega
    · by_cases e2 : b2 = b
      · exfalso
        subst e2
        rw [Phi.with_at] at h2; cases h2
        rw [Phi.with_ne _ _ e1] at h1
        have := (s.at_ _ _ _ h1 hr1).lt
        omega
      · rw [Phi.with_ne _ _ e1] at h1
        rw [Phi.with_ne _ _ e2] at h2
        exact s.sep _ _ _ _ _ _ hlt h1 h2 hr1 hr2 he
  · have hs : w'.heap.size = w.heap.size + 1 := by rw [hw]; simp
    by_cases hcb : c = b
    · rw [hcb, Phi.with_at] at hy; cases hy; omega
    · rw [Phi.with_ne _ _ hcb] at hy; have := s.bnd _ _ hy; omega
  · by_cases hcb : c = b
    · rw [hcb, Phi.with_at] at hy; cases hy; exact hclr
    · rw [Phi.with_ne _ _ hcb] at hy; exact (s.frz _ _ _ _ hy hg).mono (heap_push_old hw (s.bnd _ _ hy))

structure Setup (P : Program) (call : CallFn) (lo nt k : Nat) (st : Bool) (ops : Array Oper) (E : Nat → Env) (Hh : Nat → H) (φ0 : Phi) (w0 : World) : Prop where
  hnm : NameOk P
  hcs : CallSim P call
  hcg : CallGood call
  step : ∀ j, j < k → ∃ o, ops[j]? = some o ∧ FStep P call lo (Hh 0).next nt st ops o (E j) (Hh j) (E (j + 1)) (Hh (j + 1))
  pairs : ∀ i j oi oj, i < j → j < k → ops[i]? = some oi → ops[j]? = some oj → ((befs [] ops.toList).getD j 0).testBit i = true ∨ apartOk ops oi oj = true
  store : ∀ j o, j < k → ops[j]? = some o → isStore o.op = true → st = true
  kle : k ≤ ops.size
  lo : lo ≤ (Hh 0).next
  wf : HWF (Hh 0)
  free : FreeIn φ0 (Hh 0).next (Hh k).next

/-- is the operation at j a heavy one that runs? -/
def HV (ops : Array Oper) (k : Nat) (E : Nat → Env) (j : Nat) : Prop := j < k ∧ ∃ o, ops[j]? = some o ∧ heavy o.op = true ∧ wantedV ops (E j) o = true

section
variable {call : CallFn} {lo nt k : Nat} {st : Bool} {ops : Array Oper} {E : Nat → Env} {Hh : Nat → H} {φ0 : Phi} {w0 : World}
theorem Setup.good (S : Setup P call lo nt k st ops E Hh φ0 w0) {j : Nat} (hj : j < k) (hold : (Hh 0).next ≤ (Hh j).next) : Good lo (Hh j) (Hh (j + 1)) := by
  obtain ⟨o, ho, hs⟩ := S.step j hj
  cases hs with
  | skip hw hp hh => rw [hh]; exact Good.refl _ _
  | light v r hw hv hl hk hp => exact keep_good (by have := S.lo; omega) hk
  | heavy v hw hv he ha hp =>
    have hb : lo ≤ barrier lo (Hh 0).next (Hh j) o.op ∧ barrier lo (Hh 0).next (Hh j) o.op ≤ (Hh j).next := by have := S.lo; unfold barrier; split <;> omega
    exact (aop_good S.hcg hb.2 ha).lower hb.1
theorem Setup.goodTo (S : Setup P call lo nt k st ops E Hh φ0 w0) : ∀ {i d : Nat}, i + d ≤ k → Good lo (Hh 0) (Hh i) → Good lo (Hh i) (Hh (i + d))
  | i, 0, _, _ => Good.refl _ _
  | i, d + 1, hle, g => by
    have g1 := S.goodTo (i := i) (d := d) (by omega) g
    exact g1.trans (S.good (by omega) (g.trans g1).next)
theorem Setup.from0 (S : Setup P call lo nt k st ops E Hh φ0 w0) {j : Nat} (hj : j ≤ k) : Good lo (Hh 0) (Hh j) := by
  have := S.goodTo (i := 0) (d := j) (by omega) (Good.refl _ _)
  rwa [Nat.zero_add] at this
theorem Setup.between (S : Setup P call lo nt k st ops E Hh φ0 w0) {i j : Nat} (hij : i ≤ j) (hj : j ≤ k) : Good lo (Hh i) (Hh j) := by
  have := S.goodTo (i := i) (d := j - i) (by omega) (S.from0 (by omega))
  rwa [show i + (j - i) = j from by omega] at this
theorem Setup.wfAt (S : Setup P call lo nt k st ops E Hh φ0 w0) {j : Nat} (hj : j ≤ k) : HWF (Hh j) := (S.from0 hj).wf S.wf
theorem Setup.rd (S : Setup P call lo nt k st ops E Hh φ0 w0) : ∀ {i d : Nat}, i + d ≤ k → ∀ b, b < (Hh i).next → rdOf st (Hh 0).next (Hh (i + d)) b = rdOf st (Hh 0).next (Hh i) b
  | i, 0, _, b, _ => rfl
  | i, d + 1, hle, b, hb => by
    have h1 := S.rd (i := i) (d := d) (by omega) b hb
    obtain ⟨o, ho, hs⟩ := S.step (i + d) (by omega)
    have h2 := fstep_rd S.hcg hs (S.wfAt (by omega)) S.lo (S.from0 (by omega)).next (S.store _ _ (by omega) ho) b (by have := (S.between (i := i) (j := i + d) (by omega) (by omega)).next; omega)
    exact h2.trans h1
/-- a step that is no heavy one makes nothing, or a block -/
theorem Setup.lightStep (S : Setup P call lo nt k st ops E Hh φ0 w0) {j : Nat} (hj : j < k) (hv : ¬ HV ops k E j) : Hh (j + 1) = Hh j ∨ ∃ l, Hh (j + 1) = (Hh j).alloc l := by
  obtain ⟨o, ho, hs⟩ := S.step j hj
  cases hs with
  | skip hw hp hh => exact .inl hh
  | light v r hw hv' hl hk hp =>
    unfold keep at hk
    split at hk
    · injection hk with hk; injection hk with _ h2; exact .inl h2.symm
    · rename_i l kk he
      have hk' : (kk.at (Hh j).next, (Hh j).alloc l) = (v, Hh (j + 1)) := by injection hk
      injection hk' with _ h2
      exact .inr ⟨l, h2.symm⟩
    · cases hk
  | heavy v hw hv' he ha hp => exact absurd ⟨hj, o, ho, hv', hw⟩ hv
/-- a slot that nothing writes between two places -/
theorem Setup.envSame (S : Setup P call lo nt k st ops E Hh φ0 w0) {t : Nat} : ∀ {p d : Nat}, p + d ≤ k → (∀ i o, p ≤ i → i < p + d → ops[i]? = some o → o.dst ≠ some t) → (E (p + d)).at t = (E p).at t
  | p, 0, _, _ => rfl
  | p, d + 1, hle, hno => by
    have h1 := S.envSame (t := t) (p := p) (d := d) (by omega) (fun i o h1 h2 h3 => hno i o h1 (by omega) h3)
    obtain ⟨o, ho, hs⟩ := S.step (p + d) (by omega)
    have hd := hno (p + d) o (by omega) (by omega) ho
    have key : ∀ v, put nt o.dst v (E (p + d)) = some (E (p + d + 1)) → (E (p + d + 1)).at t = (E (p + d)).at t := by
      intro v hp
      unfold put at hp
      split at hp
      · injection hp with hp; rw [hp]
      · rename_i t' ht'
        split at hp
        · injection hp with hp
          rw [← hp, Env.at_set, if_neg (fun e => hd (by rw [ht', e]))]
        · cases hp
    have : (E (p + d + 1)).at t = (E (p + d)).at t := by
      cases hs with
      | skip hw hp hh => exact key _ hp
      | light v r hw hv hl hk hp => exact key _ hp
      | heavy v hw hv he ha hp => exact key _ hp
    exact this.trans h1
theorem Setup.free' (S : Setup P call lo nt k st ops E Hh φ0 w0) {b : Nat} (h1 : (Hh 0).next ≤ b) {j : Nat} (hj : j ≤ k) (h2 : b < (Hh j).next) : φ0 b = none :=
  S.free b h1 (by have := (S.between hj (Nat.le_refl k)).next; omega)

structure Inv (S : Setup P call lo nt k st ops E Hh φ0 w0) (ds : List Deferred) (D : Nat → Prop) (a : Act) (w : World) (φ : Phi) (es : Env) (J : Nat) : Prop where
  closed : Closed ops D
  front : ∀ i, D i → i < k
  er : ER φ es a.tmps
  tsz : a.tmps.size = nt
  dfr : a.defers = ds
  env : ∀ t j, j ≤ k → (∀ i o, i < k → ops[i]? = some o → o.dst = some t → (D i ↔ i < j)) → es.at t = (E j).at t
  Jle : J ≤ k
  Jlt : ∀ j, j < J → HV ops k E j → D j
  Jat : J = k ∨ (HV ops k E J ∧ ¬ D J)
  Jgt : ∀ j, J < j → HV ops k E j → ¬ D j
  le : φ0.le φ
  dom : ∀ b, φ0 b = none → φ b ≠ none → ∃ i, D i ∧ (Hh i).next ≤ b ∧ b < (Hh (i + 1)).next
  tape : w.tape = w0.tape
  os : w.os = w0.os
  out : w.output = w0.output
  size : w0.heap.size ≤ w.heap.size
  keep : ∀ g, g < w0.heap.size → (∀ b x, lo ≤ b → own (Hh 0) b → φ0 b = some x → x.1 ≠ g) → w.heap[g]? = w0.heap[g]?
  mine : ∀ b x, lo ≤ b → own (Hh J) b → φ b = some x → w0.heap.size ≤ x.1 ∨ ∃ b0 x0, lo ≤ b0 ∧ own (Hh 0) b0 ∧ φ0 b0 = some x0 ∧ x0.1 = x.1
  fresh : ∀ b x, φ0 b = none → φ b = some x → w0.heap.size ≤ x.1 ∨ ∃ b0 x0, lo ≤ b0 ∧ own (Hh 0) b0 ∧ φ0 b0 = some x0 ∧ x0.1 = x.1
  sim : Sim φ (Hh J) w
  ahead : ∀ i l, J ≤ i → i < k → D i → Hh (i + 1) = (Hh i).alloc l → ∃ x, φ (Hh i).next = some x ∧ Cells φ w x l ∧ Clear w x.1 ∧ w0.heap.size ≤ x.1 ∧ ∀ c y, c ≠ (Hh i).next → φ c = some y → y.1 ≠ x.1
  behind : ∀ i l, i < J → ¬ D i → Hh (i + 1) = (Hh i).alloc l → (Hh J).get (Hh i).next = some (.cells l (some (Hh i).next)) ∧ (Hh J).fam (Hh i).next = some ((Hh i).next, (Hh i).next)

/-- an operation may run: what it waits for is done, itself is not -/
structure Ready (ops : Array Oper) (D : Nat → Prop) (i : Nat) (o : Oper) : Prop where
  here : ops[i]? = some o
  undone : ¬ D i
  waits : ∀ e ∈ o.after, Region.binds .any e = true → D e.on

section
variable (S : Setup P call lo nt k st ops E Hh φ0 w0) {ds : List Deferred} {D : Nat → Prop} {a : Act} {w : World} {φ : Phi} {es : Env} {J : Nat}
/-- the slots that a ready operation names hold what they hold in the text's order -/
theorem Inv.named (I : Inv S ds D a w φ es J) {i : Nat} {o : Oper} (hr : Ready ops D i o) (hik : i < k) : ∀ t ∈ names ops o, es.at t = (E i).at t := by
  intro t ht
  refine I.env t i (by omega) fun i' o' hi' ho' hd' => ?_
  rcases Nat.lt_trichotomy i' i with h1 | h1 | h1
  · refine ⟨fun _ => h1, fun _ => ?_⟩
    rcases S.pairs i' i o' o h1 hik ho' hr.here with hb | hb
    · exact done_of_bit I.closed hr.here hr.waits hb
    · exact absurd ht ((apartOk_spec hb).1 t hd')
  · subst h1
    exact ⟨fun h => absurd h hr.undone, fun h => absurd h (Nat.lt_irrefl _)⟩
  · refine ⟨fun h => ?_, fun h => by omega⟩
    exfalso
    rcases S.pairs i i' o o' h1 hi' hr.here ho' with hb | hb
    · exact hr.undone (done_of_bit I.closed ho' (I.closed.dn _ _ h ho') hb)
    · exact absurd ht ((apartOk_spec hb).2.1 t hd')
/-- the frame's env behind one operation more -/
theorem Inv.envNext (I : Inv S ds D a w φ es J) {i : Nat} {o : Oper} (hr : Ready ops D i o) (hik : i < k) {v : V} (hp : put nt o.dst v (E i) = some (E (i + 1))) :
    ∃ es', put nt o.dst v es = some es' ∧ ∀ t j, j ≤ k → (∀ i' o', i' < k → ops[i']? = some o' → o'.dst = some t → ((D i' ∨ i' = i) ↔ i' < j)) → es'.at t = (E j).at t := by
  have hsplit : ∀ t j, (∀ i' o', i' < k → ops[i']? = some o' → o'.dst = some t → ((D i' ∨ i' = i) ↔ i' < j)) → o.dst ≠ some t → ∀ i' o', i' < k → ops[i']? = some o' → o'.dst = some t → (D i' ↔ i' < j) := by
    intro t j hh hne i' o' hi' ho' hd'
    have := hh i' o' hi' ho' hd'
    have hii : i' ≠ i := by
      intro e
      subst e
      rw [hr.here] at ho'
      cases ho'
      exact hne hd'
    constructor
    · exact fun h => this.1 (.inl h)
    · intro h
      rcases this.2 h with h | h
      · exact h
      · exact absurd h hii
  unfold put at hp
  cases hd : o.dst with
  | none =>
    refine ⟨es, by unfold put; rfl, fun t j hj hh => I.env t j hj (hsplit t j hh (by rw [hd]; simp))⟩
  | some t0 =>
    rw [hd] at hp
    simp only at hp
    split at hp
    · rename_i hlt
      injection hp with hp
      refine ⟨es.set t0 v, by unfold put; simp [hlt], fun t j hj hh => ?_⟩
      rw [Env.at_set]
      by_cases ht : t = t0
      · subst ht
        rw [if_pos rfl]
        have hij : i < j := (hh i o hik hr.here hd).1 (.inr rfl)
        have h1 : (E (i + 1)).at t = v := by rw [← hp, Env.at_set, if_pos rfl]
        have h2 := S.envSame (t := t) (p := i + 1) (d := j - (i + 1)) (by omega) (fun i' o' g1 g2 ho' hd' => by
          have hi'k : i' < k := by omega
          rcases (hh i' o' hi'k ho' hd').2 (by omega) with hD | he
          · rcases S.pairs i i' o o' (by omega) hi'k hr.here ho' with hb | hb
            · exact hr.undone (done_of_bit I.closed ho' (I.closed.dn _ _ hD ho') hb)
            · refine (apartOk_spec hb).1 t hd ?_
              unfold names
              simp [hd']
          · omega)
        rw [show i + 1 + (j - (i + 1)) = j from by omega] at h2
        rw [h2, h1]
      · rw [if_neg ht]
        exact I.env t j hj (hsplit t j hh (by rw [hd]; simpa using Ne.symm ht))
    · cases hp
theorem Inv.closedNext (I : Inv S ds D a w φ es J) {i : Nat} {o : Oper} (hr : Ready ops D i o) : Closed ops (fun j => D j ∨ j = i) := by
  refine ⟨fun j hj => ?_, fun j oj hj hoj e he hb => ?_⟩
  · rcases hj with h | rfl
    · exact I.closed.lt _ h
    · exact (Array.getElem?_eq_some_iff.1 hr.here).1
  · rcases hj with h | rfl
    · exact .inl (I.closed.dn _ _ h hoj e he hb)
    · rw [hr.here] at hoj
      cases hoj
      exact .inl (hr.waits e he hb)
/-- what a light operation reads now it reads in the text's order -/
theorem Inv.reads (I : Inv S ds D a w φ es J) {i : Nat} (hik : i < k) : RdSim φ w (rdOf st (Hh 0).next (Hh i)) := by
  intro b x l hx hr
  have hbi : b < (Hh i).next := by
    have hr' : (Hh i).read b = some l := by
      unfold rdOf at hr
      split at hr
      · cases hr
      · exact hr
    rcases read_some hr' with hg | ⟨_, _, _, hg, _⟩ <;> exact (S.wfAt (by omega)).lt _ _ hg
  have hrd : ∀ j, j ≤ k → b < (Hh j).next → rdOf st (Hh 0).next (Hh j) b = some l := by
    intro j hj hbj
    rcases Nat.le_total i j with h1 | h1
    · have := S.rd (i := i) (d := j - i) (by omega) b hbi
      rw [show i + (j - i) = j from by omega] at this
      rw [this, hr]
    · have := S.rd (i := j) (d := i - j) (by omega) b hbj
      rw [show j + (i - j) = i from by omega] at this
      rw [← this, hr]
  have unrd : ∀ {h : H}, rdOf st (Hh 0).next h b = some l → h.read b = some l := by
    intro h h1
    unfold rdOf at h1
    split at h1
    · cases h1
    · exact h1
  rcases Nat.lt_or_ge b (Hh J).next with hbJ | hbJ
  · exact I.sim.at_ _ _ _ hx (unrd (hrd J I.Jle hbJ))
  · have h0 : φ0 b = none := S.free' (by have := (S.from0 I.Jle).next; omega) (by omega) hbi
    obtain ⟨i', hD, g1, g2⟩ := I.dom b h0 (by rw [hx]; simp)
    have hi'k := I.front _ hD
    have hJi : J ≤ i' := by
      rcases Nat.lt_or_ge i' J with h1 | h1
      · have := (S.between (i := i' + 1) (j := J) (by omega) I.Jle).next; omega
      · exact h1
    have hnv : ¬ HV ops k E i' := by
      intro hv
      rcases Nat.lt_or_ge J i' with h1 | h1
      · exact I.Jgt _ h1 hv hD
      · have : i' = J := by omega
        subst this
        rcases I.Jat with h2 | h2
        · omega
        · exact h2.2 hD
    rcases S.lightStep hi'k hnv with he | ⟨l', he⟩
    · rw [he] at g2; omega
    · have hbe : b = (Hh i').next := by rw [he] at g2; have : ((Hh i').alloc l').next = (Hh i').next + 1 := rfl; omega
      obtain ⟨y, hy, hc, _⟩ := I.ahead i' l' hJi hi'k hD he
      rw [← hbe, hx] at hy
      cases hy
      have h3 := unrd (hrd (i' + 1) (by omega) g2)
      rw [he, read_alloc (S.wfAt (by omega)), if_pos hbe] at h3
      cases h3
      exact hc
end
end
end Go.Den
