/- A region whose order is open: one step in whatever order, and the whole. -/
import Derived.Test.YtghmbmblhdgabaaFront3
set_option linter.all false
namespace Go.Den
open Go
variable {P : Program}
section
variable {call : CallFn} {lo nt k : Nat} {st : Bool} {ops : Array Oper} {E : Nat → Env} {Hh : Nat → H} {φ0 : Phi} {w0 : World}
variable (S : Setup P call lo nt k st ops E Hh φ0 w0) {ds : List Deferred} {D : Nat → Prop} {a : Act} {w : World} {φ : Phi} {es : Env} {J : Nat}

theorem Inv.unborn (I : Inv S ds D a w φ es J) {i b : Nat} (hik : i < k) (hD : ¬ D i) (h1 : (Hh i).next ≤ b) (h2 : b < (Hh (i + 1)).next) : φ b = none := by
  cases hφ : φ b with
  | none => rfl
  | some x =>
    exfalso
    have h0 : φ0 b = none := S.free' (by have := (S.from0 (j := i) (by omega)).next; omega) (by omega) h2
    obtain ⟨i', hD', g1, g2⟩ := I.dom b h0 (by rw [hφ]; simp)
    have hi' := I.front _ hD'
    rcases Nat.lt_trichotomy i' i with h | h | h
    · have := (S.between (i := i' + 1) (j := i) (by omega) (by omega)).next; omega
    · subst h; exact hD hD'
    · have := (S.between (i := i + 1) (j := i') (by omega) (by omega)).next; omega

/-- an operation that tells a value and makes nothing -/
theorem Inv.quiet (I : Inv S ds D a w φ es J) {i : Nat} {o : Oper} (hr : Ready ops D i o) (hik : i < k) {v : V} {v' : Value} (hp : put nt o.dst v (E i) = some (E (i + 1))) (hnv : ¬ HV ops k E i) (hh : Hh (i + 1) = Hh i) (hv : VR φ v v') :
    ∃ es', Inv S ds (fun j => D j ∨ j = i) (a.put o.dst v') w φ es' J := by
  obtain ⟨es', hp', henv⟩ := I.envNext S hr hik hp
  obtain ⟨he1, he2⟩ := put_rel hp' I.er I.tsz hv
  refine ⟨es', ?_⟩
  exact {
    closed := I.closedNext S hr, front := fun j hj => hj.elim (I.front j) (fun e => e ▸ hik), er := he1, tsz := he2, dfr := (put_defers _ _ _).trans I.dfr, env := henv, Jle := I.Jle,
    Jlt := fun j h1 h2 => .inl (I.Jlt j h1 h2), Jat := I.Jat.imp id fun h => ⟨h.1, fun hj => hj.elim h.2 (fun e => hnv (e ▸ h.1))⟩, Jgt := fun j h1 h2 hj => hj.elim (I.Jgt j h1 h2) (fun e => hnv (e ▸ h2)),
    le := I.le, dom := fun b h1 h2 => let ⟨i', g1, g2⟩ := I.dom b h1 h2; ⟨i', .inl g1, g2⟩, tape := I.tape, os := I.os, out := I.out, size := I.size, keep := I.keep, mine := I.mine, fresh := I.fresh, sim := I.sim,
    ahead := fun i' l h1 h2 h3 h4 => h3.elim (fun h3 => I.ahead i' l h1 h2 h3 h4) (fun e => by
      subst e
      rw [hh] at h4
      have := congrArg H.next h4
      have h5 : ((Hh i').alloc l).next = (Hh i').next + 1 := rfl
      omega),
    behind := fun i' l h1 h2 h3 => I.behind i' l h1 (fun h => h2 (.inl h)) h3 }

/-- an operation that makes a block -/
theorem Inv.makes (I : Inv S ds D a w φ es J) {i : Nat} {o : Oper} (hr : Ready ops D i o) (hik : i < k) {v : V} {v' : Value} (hp : put nt o.dst v (E i) = some (E (i + 1))) (hnv : ¬ HV ops k E i) {l : List V} (hh : Hh (i + 1) = (Hh i).alloc l)
    {w' : World} {arr : Array Value} {t : TypeId} {lo0 hi0 : Nat} (hw : w'.heap = w.heap.push (.cells arr t (lo0, hi0))) (ht : w'.tape = w.tape) (hos : w'.os = w.os) (hu : w'.output = w.output)
    (hl : l.length ≤ arr.size) (hf : lo0 = hi0 ∨ arr.size ≤ lo0) (hrr : VRs φ l (arr.toList.take l.length)) (hv : VR (φ.with (Hh i).next (w.heap.size, 0, arr.size)) v v') :
    ∃ es', Inv S ds (fun j => D j ∨ j = i) (a.put o.dst v') w' (φ.with (Hh i).next (w.heap.size, 0, arr.size)) es' J := by
  have hnx : (Hh (i + 1)).next = (Hh i).next + 1 := by rw [hh]; rfl
  have hn : φ (Hh i).next = none := I.unborn S hik hr.undone (Nat.le_refl _) (by omega)
  have hle : φ.le (φ.with (Hh i).next (w.heap.size, 0, arr.size)) := Phi.le_with hn
  obtain ⟨es', hp', henv⟩ := I.envNext S hr hik hp
  obtain ⟨he1, he2⟩ := put_rel hp' (I.er.mono hle) I.tsz hv
  have hs : w'.heap.size = w.heap.size + 1 := by rw [hw]; simp
  have hcells : Cells (φ.with (Hh i).next (w.heap.size, 0, arr.size)) w' (w.heap.size, 0, arr.size) l := ⟨arr, t, lo0, hi0, by rw [hw]; simp, rfl, trivial, by simpa using hl, by simpa using hrr.mono hle⟩
  have hclr : Clear w' w.heap.size := Clear.of (arr := arr) (t := t) (lo := lo0) (hi := hi0) (by rw [hw]; simp) hf
  have h00 : φ0 (Hh i).next = none := S.free' (by have := (S.from0 (j := i) (by omega)).next; omega) (j := i + 1) (by omega) (by omega)
  have hiJ : i ≠ J := by
    intro e
    subst e
    rcases I.Jat with h | h
    · omega
    · exact hnv h.1
  refine ⟨es', ?_⟩
  exact {
    closed := I.closedNext S hr, front := fun j hj => hj.elim (I.front j) (fun e => e ▸ hik), er := he1, tsz := he2, dfr := (put_defers _ _ _).trans I.dfr, env := henv, Jle := I.Jle,
    Jlt := fun j h1 h2 => .inl (I.Jlt j h1 h2), Jat := I.Jat.imp id fun h => ⟨h.1, fun hj => hj.elim h.2 (fun e => hnv (e ▸ h.1))⟩, Jgt := fun j h1 h2 hj => hj.elim (I.Jgt j h1 h2) (fun e => hnv (e ▸ h2)),
    le := I.le.trans hle,
    dom := fun b h1 h2 => by
      by_cases hb : b = (Hh i).next
      · exact ⟨i, .inr rfl, by omega, by omega⟩
      · rw [Phi.with_ne _ _ hb] at h2
        obtain ⟨i', g1, g2⟩ := I.dom b h1 h2
        exact ⟨i', .inl g1, g2⟩
    tape := ht.trans I.tape, os := hos.trans I.os, out := hu.trans I.out, size := by have := I.size; omega
    keep := fun g hg hc => (heap_push_old hw (by have := I.size; omega)).trans (I.keep g hg hc)
    mine := fun b x h1 h2 h3 => by
      by_cases hb : b = (Hh i).next
      · rw [hb, Phi.with_at] at h3; cases h3; exact .inl I.size
      · rw [Phi.with_ne _ _ hb] at h3; exact I.mine b x h1 h2 h3
    fresh := fun b x h1 h2 => by
      by_cases hb : b = (Hh i).next
      · rw [hb, Phi.with_at] at h2; cases h2; exact .inl I.size
      · rw [Phi.with_ne _ _ hb] at h2; exact I.fresh b x h1 h2
    sim := by
      refine sim_born I.sim hn rfl hw (fun l' hr' => ?_) hclr
      rcases Nat.lt_or_ge i J with h1 | h1
      · obtain ⟨g1, g2⟩ := I.behind i l h1 hr.undone hh
        rw [read_fam g1 g2, if_pos (Nat.le_refl _)] at hr'
        cases hr'
        exact hcells
      · exfalso
        have hb : (Hh i).next < (Hh J).next := by rcases read_some hr' with hg | ⟨_, _, _, hg, _⟩ <;> exact (S.wfAt I.Jle).lt _ _ hg
        have := (S.between (i := J) (j := i) h1 (by omega)).next
        omega
    ahead := fun i' l' h1 h2 h3 h4 => by
      rcases h3 with h3 | h3
      · obtain ⟨x, g1, g2, gc, g3, g4⟩ := I.ahead i' l' h1 h2 h3 h4
        refine ⟨x, hle _ _ g1, g2.mono hle (heap_push_old hw g2.lt), gc.mono (heap_push_old hw g2.lt), g3, fun c y hc hy => ?_⟩
        by_cases hcb : c = (Hh i).next
        · rw [hcb, Phi.with_at] at hy
          cases hy
          have := g2.lt
          simp only
          omega
        · rw [Phi.with_ne _ _ hcb] at hy
          exact g4 c y hc hy
      · subst h3
        rw [hh] at h4
        have hll : l' = l := by
          have := congrArg (fun h => H.get h (Hh i').next) h4
          simp only [get_alloc, if_true] at this
          injection this with this
          injection this with this
          exact this.symm
        subst hll
        refine ⟨_, Phi.with_at _ _ _, hcells, hclr, I.size, fun c y hc hy => ?_⟩
        rw [Phi.with_ne _ _ hc] at hy
        have := I.sim.bnd _ _ hy
        simp only
        omega
    behind := fun i' l' h1 h2 h3 => I.behind i' l' h1 (fun h => h2 (.inl h)) h3 }

theorem nextHV (J : Nat) : ∀ d, J + 1 + d = k → ∃ J', J < J' ∧ J' ≤ k ∧ (∀ j, J < j → j < J' → ¬ HV ops k E j) ∧ (J' = k ∨ HV ops k E J')
  | 0, h => ⟨k, by omega, Nat.le_refl _, fun j h1 h2 => by omega, .inl rfl⟩
  | d + 1, h => by
    -- the first heavy one behind J, searched from the front
    have key : ∀ m J1, J < J1 → J1 ≤ k → k - J1 = m → (∀ j, J < j → j < J1 → ¬ HV ops k E j) → ∃ J', J < J' ∧ J' ≤ k ∧ (∀ j, J < j → j < J' → ¬ HV ops k E j) ∧ (J' = k ∨ HV ops k E J') := by
      intro m
      induction m with
      | zero => intro J1 h1 h2 h3 h4; exact ⟨J1, h1, h2, h4, .inl (by omega)⟩
      | succ m ih =>
        intro J1 h1 h2 h3 h4
        by_cases hv : HV ops k E J1
        · exact ⟨J1, h1, h2, h4, .inr hv⟩
        · refine ih (J1 + 1) (by omega) (by omega) (by omega) fun j g1 g2 => ?_
          by_cases hj : j = J1
          · rw [hj]; exact hv
          · exact h4 j g1 (by omega)
    exact key _ (J + 1) (by omega) (by omega) rfl fun j h1 h2 => by omega

/-- between two heavy operations what is there stays as it is -/
theorem Setup.lights (S : Setup P call lo nt k st ops E Hh φ0 w0) : ∀ {i d : Nat}, i + d ≤ k → (∀ j, i ≤ j → j < i + d → ¬ HV ops k E j) → ∀ b, b < (Hh i).next → (Hh (i + d)).get b = (Hh i).get b ∧ (Hh (i + d)).fam b = (Hh i).fam b
  | i, 0, _, _, b, _ => ⟨rfl, rfl⟩
  | i, d + 1, hle, hno, b, hb => by
    obtain ⟨g1, g2⟩ := S.lights (i := i) (d := d) (by omega) (fun j h1 h2 => hno j h1 (by omega)) b hb
    have hn := (S.between (i := i) (j := i + d) (by omega) (by omega)).next
    rcases S.lightStep (j := i + d) (by omega) (hno _ (by omega) (by omega)) with h | ⟨l, h⟩
    · rw [show i + (d + 1) = i + d + 1 from rfl, h]; exact ⟨g1, g2⟩
    · rw [show i + (d + 1) = i + d + 1 from rfl, h, get_alloc, fam_alloc, if_neg (by omega), if_neg (by omega)]; exact ⟨g1, g2⟩

/-- the heavy operation whose turn it is -/
theorem Inv.heavy (I : Inv S ds D a w φ es J) {o : Oper} (hr : Ready ops D J o) (hJk : J < k) {v : V} {v' : Value} (hp : put nt o.dst v (E J) = some (E (J + 1))) (hV : HV ops k E J)
    (hfar : ∀ b, b < (Hh J).next → φ b = none → (Hh J).fam b = some (b, b) → (Hh (J + 1)).get b = (Hh J).get b ∧ (Hh (J + 1)).fam b = (Hh J).fam b)
    {φ1 : Phi} {w1 : World} (x : Ext lo φ (Hh J) w φ1 (Hh (J + 1)) w1) (s1 : Sim φ1 (Hh (J + 1)) w1) (hv : VR φ1 v v') :
    ∃ es' J', Inv S ds (fun j => D j ∨ j = J) (a.put o.dst v') w1 φ1 es' J' := by
  obtain ⟨J', hJ1, hJ2, hno, hJ3⟩ := nextHV (ops := ops) (k := k) (E := E) J (k - (J + 1)) (by omega)
  obtain ⟨es', hp', henv⟩ := I.envNext S hr hJk hp
  obtain ⟨he1, he2⟩ := put_rel hp' (I.er.mono x.le) I.tsz hv
  have hnext : ∀ j, J + 1 ≤ j → j ≤ k → (Hh (J + 1)).next ≤ (Hh j).next := fun j h1 h2 => (S.between h1 h2).next
  have hD' : ∀ j, J < j → HV ops k E j → ¬ (D j ∨ j = J) := fun j h1 h2 hj => hj.elim (I.Jgt j h1 h2) (fun e => by omega)
  -- what was made ahead of its turn stands as it stood
  have hahead : ∀ i l, J < i → i < k → D i → Hh (i + 1) = (Hh i).alloc l → ∃ y, φ1 (Hh i).next = some y ∧ Cells φ1 w1 y l ∧ Clear w1 y.1 ∧ w0.heap.size ≤ y.1 ∧ ∀ c z, c ≠ (Hh i).next → φ1 c = some z → z.1 ≠ y.1 := by
    intro i l h1 h2 h3 h4
    obtain ⟨y, g1, g2, gc, g3, g4⟩ := I.ahead i l (by omega) h2 h3 h4
    have hlt := g2.lt
    have hapart : ∀ b0 x0, own (Hh J) b0 → φ b0 = some x0 → x0.1 ≠ y.1 := by
      intro b0 x0 hb0 hx0
      refine g4 b0 x0 (fun e => ?_) hx0
      obtain ⟨_, _, _, hg, _⟩ := hb0
      have := (S.wfAt I.Jle).lt _ _ hg
      have := hnext i (by omega) (by omega)
      have := (S.between (i := J) (j := J + 1) (by omega) (by omega)).next
      omega
    refine ⟨y, x.le _ _ g1, g2.mono x.le (x.keep _ hlt fun b0 x0 _ hb0 hx0 => hapart b0 x0 hb0 hx0), gc.mono (x.keep _ hlt fun b0 x0 _ hb0 hx0 => hapart b0 x0 hb0 hx0), g3, fun c z hc hz => ?_⟩
    cases hφc : φ c with
    | some z' =>
      have := x.le _ _ hφc
      rw [hz] at this
      cases this
      exact g4 c z hc hφc
    | none =>
      rcases x.fresh c z hφc hz with h | ⟨b0, x0, _, hb0, hx0, he⟩
      · omega
      · rw [← he]; exact hapart b0 x0 hb0 hx0
  have hunborn : ∀ i, J < i → i < k → ¬ D i → ∀ l, Hh (i + 1) = (Hh i).alloc l → φ1 (Hh i).next = none := by
    intro i h1 h2 h3 l h4
    have hnx : (Hh (i + 1)).next = (Hh i).next + 1 := by rw [h4]; rfl
    have h5 := I.unborn S h2 h3 (Nat.le_refl _) (by omega)
    cases hφ : φ1 (Hh i).next with
    | none => rfl
    | some z =>
      have := x.dom _ h5 (by rw [hφ]; simp)
      have := hnext i (by omega) (by omega)
      omega
  have hsim : ∀ d, J + 1 + d ≤ J' → Sim φ1 (Hh (J + 1 + d)) w1 := by
    intro d
    induction d with
    | zero => intro _; exact s1
    | succ d ih =>
      intro hd
      have s2 := ih (by omega)
      rcases S.lightStep (j := J + 1 + d) (by omega) (hno _ (by omega) (by omega)) with h | ⟨l, h⟩
      · rw [show J + 1 + (d + 1) = J + 1 + d + 1 from rfl, h]; exact s2
      · rw [show J + 1 + (d + 1) = J + 1 + d + 1 from rfl, h]
        refine sim_more_blocks s2 ?_
        by_cases hDd : D (J + 1 + d)
        · obtain ⟨y, g1, g2, gc, _, g4⟩ := hahead (J + 1 + d) l (by omega) (by omega) hDd h
          exact .inr ⟨y, g1, g2, gc, g4⟩
        · exact .inl (hunborn _ (by omega) (by omega) hDd l h)
  have hown : ∀ d, J + 1 + d ≤ J' → ∀ b, own (Hh (J + 1 + d)) b → own (Hh (J + 1)) b ∨ ∃ j l, J < j ∧ j < J' ∧ b = (Hh j).next ∧ Hh (j + 1) = (Hh j).alloc l := by
    intro d
    induction d with
    | zero => intro _ b hb; exact .inl hb
    | succ d ih =>
      intro hd b hb
      rcases S.lightStep (j := J + 1 + d) (by omega) (hno _ (by omega) (by omega)) with h | ⟨l, h⟩
      · rw [show J + 1 + (d + 1) = J + 1 + d + 1 from rfl, h] at hb; exact ih (by omega) b hb
      · rw [show J + 1 + (d + 1) = J + 1 + d + 1 from rfl, h] at hb
        rcases own_alloc (S.wfAt (by omega)) hb with h1 | h1
        · exact .inr ⟨J + 1 + d, l, by omega, by omega, h1, h⟩
        · exact ih (by omega) b h1
  have hmineJ : ∀ b y, lo ≤ b → own (Hh (J + 1)) b → φ1 b = some y → w0.heap.size ≤ y.1 ∨ ∃ b0 x0, lo ≤ b0 ∧ own (Hh 0) b0 ∧ φ0 b0 = some x0 ∧ x0.1 = y.1 := by
    intro b y h1 h2 h3
    rcases x.mine b y h1 h2 h3 with h | ⟨b0, x0, g1, g2, g3, g4⟩
    · left; have := I.size; omega
    · rcases I.mine b0 x0 g1 g2 g3 with h | ⟨b1, x1, k1, k2, k3, k4⟩
      · left; omega
      · exact .inr ⟨b1, x1, k1, k2, k3, k4.trans g4⟩
  have eJ : J + 1 + (J' - (J + 1)) = J' := by omega
  refine ⟨es', J', ?_⟩
  exact {
    closed := I.closedNext S hr, front := fun j hj => hj.elim (I.front j) (fun e => e ▸ hJk), er := he1, tsz := he2, dfr := (put_defers _ _ _).trans I.dfr, env := henv, Jle := hJ2,
    Jlt := fun j h1 h2 => by
      rcases Nat.lt_trichotomy j J with h | h | h
      · exact .inl (I.Jlt j h h2)
      · exact .inr h
      · exact absurd h2 (hno j h h1)
    Jat := hJ3.imp id fun h => ⟨h, hD' _ hJ1 h⟩
    Jgt := fun j h1 h2 => hD' j (by omega) h2
    le := I.le.trans x.le
    dom := fun b h1 h2 => by
      by_cases hφ : φ b = none
      · have := x.dom b hφ h2
        exact ⟨J, .inr rfl, this⟩
      · obtain ⟨i', g1, g2⟩ := I.dom b h1 hφ
        exact ⟨i', .inl g1, g2⟩
    tape := x.tape.trans I.tape, os := x.os.trans I.os, out := x.out.trans I.out, size := Nat.le_trans I.size x.size
    keep := fun g hg hc => (x.keep g (by have := I.size; omega) fun b y h1 h2 h3 => by
      rcases I.mine b y h1 h2 h3 with h | ⟨b0, x0, g1, g2, g3, g4⟩
      · omega
      · rw [← g4]; exact hc b0 x0 g1 g2 g3).trans (I.keep g hg hc)
    mine := fun b y h1 h2 h3 => by
      rw [← eJ] at h2
      rcases hown _ (by omega) b h2 with h | ⟨j, l, g1, g2, g3, g4⟩
      · exact hmineJ b y h1 h h3
      · by_cases hDj : D j
        · obtain ⟨z, k1, _, _, k3, _⟩ := hahead j l g1 (by omega) hDj g4
          rw [← g3, h3] at k1
          cases k1
          exact .inl k3
        · have := hunborn j g1 (by omega) hDj l g4
          rw [← g3, h3] at this
          cases this
    fresh := fun b y h1 h2 => by
      cases hφ : φ b with
      | some z =>
        have := x.le _ _ hφ
        rw [h2] at this
        cases this
        exact I.fresh b y h1 hφ
      | none =>
        rcases x.fresh b y hφ h2 with h | ⟨b0, x0, g1, g2, g3, g4⟩
        · left; have := I.size; omega
        · rcases I.mine b0 x0 g1 g2 g3 with h | ⟨b1, x1, k1, k2, k3, k4⟩
          · left; omega
          · exact .inr ⟨b1, x1, k1, k2, k3, k4.trans g4⟩
    sim := by have := hsim (J' - (J + 1)) (by omega); rwa [eJ] at this
    ahead := fun i l h1 h2 h3 h4 => h3.elim (fun h3 => hahead i l (by omega) h2 h3 h4) (fun e => by omega)
    behind := fun i l h1 h2 h3 => by
      have hDi : ¬ D i := fun h => h2 (.inl h)
      have hnx : (Hh (i + 1)).next = (Hh i).next + 1 := by rw [h3]; rfl
      have toJ : ∀ m, m ≤ J' → J + 1 ≤ m → (Hh i).next < (Hh m).next → (Hh m).get (Hh i).next = some (.cells l (some (Hh i).next)) ∧ (Hh m).fam (Hh i).next = some ((Hh i).next, (Hh i).next) →
          (Hh J').get (Hh i).next = some (.cells l (some (Hh i).next)) ∧ (Hh J').fam (Hh i).next = some ((Hh i).next, (Hh i).next) := by
        intro m hm1 hm2 hb hh
        have := S.lights (i := m) (d := J' - m) (by omega) (fun j g1 g2 => hno j (by omega) (by omega)) _ hb
        rw [show m + (J' - m) = J' from by omega] at this
        rw [this.1, this.2]
        exact hh
      rcases Nat.lt_trichotomy i J with h | h | h
      · obtain ⟨g1, g2⟩ := I.behind i l h hDi h3
        have hb : (Hh i).next < (Hh J).next := by have := (S.between (i := i + 1) (j := J) (by omega) I.Jle).next; omega
        obtain ⟨k1, k2⟩ := hfar _ hb (I.unborn S (by omega) hDi (Nat.le_refl _) (by omega)) g2
        refine toJ (J + 1) (by omega) (Nat.le_refl _) (by have := (S.between (i := J) (j := J + 1) (by omega) (by omega)).next; omega) ?_
        rw [k1, k2]
        exact ⟨g1, g2⟩
      · exact absurd (.inr h) h2
      · refine toJ (i + 1) (by omega) (by omega) (by omega) ?_
        rw [h3, get_alloc, fam_alloc, if_pos rfl, if_pos rfl]
        exact ⟨rfl, rfl⟩ }

/-- one step of a front, whichever may run -/
theorem Inv.step (I : Inv S ds D a w φ es J) {i : Nat} {o : Oper} (hr : Ready ops D i o) (hik : i < k) {Q : Exit → Act → World → Prop} {K : Act → World → Prop}
    (hK : ∀ a' w' φ' es' J', Inv S ds (fun j => D j ∨ j = i) a' w' φ' es' J' → K a' w') : wpOp P ops Q i K a w := by
  obtain ⟨o', ho', hs⟩ := S.step i hik
  rw [hr.here] at ho'
  cases ho'
  obtain ⟨hev, hwant⟩ := ev_of_names (I.named S hr hik)
  have hwanted : Region.wanted o (yielded ops a.tmps) = wantedV ops (E i) o := (wanted_rel I.er o).trans hwant
  unfold wpOp
  rw [hr.here]
  simp only [hwanted]
  cases hs with
  | skip hw hp hh =>
    rw [hw]
    simp only [Bool.false_eq_true, if_false]
    obtain ⟨es', I'⟩ := I.quiet S hr hik hp (fun hv => by obtain ⟨_, o2, ho2, _, hw2⟩ := hv; rw [hr.here] at ho2; cases ho2; rw [hw] at hw2; cases hw2) hh VR.undef
    exact hK _ _ _ _ _ I'
  | light v r hw hv hl hk hp =>
    rw [hw]
    simp only [if_true]
    left
    have hnv : ¬ HV ops k E i := fun h => by obtain ⟨_, o2, ho2, hv2, _⟩ := h; rw [hr.here] at ho2; cases ho2; rw [hv] at hv2; cases hv2
    rw [← lightOp_congr hev] at hl
    obtain ⟨v', w', h1, h2⟩ := lightOp_rel (w := w) hl I.er (I.reads S hik)
    unfold Oper.wp
    rw [h1, Oper.upon_value]
    cases h2 with
    | val hvr =>
      have hk2 : some (_, Hh i) = some (v, Hh (i + 1)) := hk
      injection hk2 with hk2
      injection hk2 with e1 e2
      subst e1
      obtain ⟨es', I'⟩ := I.quiet S hr hik hp hnv e2.symm hvr
      exact hK _ _ _ _ _ I'
    | new arr t lo0 hi0 hh ht ho hu hl' hf hrr hkr =>
      rename_i l kk
      have hk2 : some (kk.at (Hh i).next, (Hh i).alloc l) = some (v, Hh (i + 1)) := hk
      injection hk2 with hk2
      injection hk2 with e1 e2
      subst e1
      have hvv : VR (φ.with (Hh i).next (w.heap.size, 0, arr.size)) (kk.at (Hh i).next) v' := by
        cases hkr with
        | ptr => exact .ptr (o := 0) (Phi.with_at _ _ _)
        | sl hn hc h2 => exact .sl (.inl (Phi.with_at _ _ _)) (.inl rfl) hn hc (.inl (by simpa using h2))
      obtain ⟨es', I'⟩ := I.makes S hr hik hp hnv e2.symm hh ht ho hu hl' hf hrr hvv
      exact hK _ _ _ _ _ I'
  | heavy v hw hv he ha hp =>
    rw [hw]
    simp only [if_true]
    left
    have hV : HV ops k E i := ⟨hik, o, hr.here, hv, hw⟩
    have hiJ : i = J := by
      rcases Nat.lt_trichotomy i J with h | h | h
      · exact absurd (I.Jlt i h hV) hr.undone
      · exact h
      · exfalso
        rcases I.Jat with h1 | ⟨h1, h2⟩
        · have := hik; omega
        · obtain ⟨_, oJ, hoJ, hvJ, _⟩ := h1
          rcases S.pairs J i oJ o h hik hoJ hr.here with hb | hb
          · exact h2 (done_of_bit I.closed hr.here hr.waits hb)
          · exact (apartOk_spec hb).2.2 ⟨hvJ, hv⟩
    subst hiJ
    have ha' := ha
    rw [← aop_congr hev] at ha'
    have hold : (Hh 0).next ≤ (Hh i).next := (S.from0 (by omega)).next
    have hb : lo ≤ barrier lo (Hh 0).next (Hh i) o.op ∧ barrier lo (Hh 0).next (Hh i) o.op ≤ (Hh i).next := by have := S.lo; unfold barrier; split <;> omega
    have hfree : FreeIn φ (Hh i).next (Hh (i + 1)).next := fun b h1 h2 => I.unborn S hik hr.undone h1 h2
    refine aop_sim S.hnm S.hcs ha' I.er I.sim hfree hb.2 fun φ1 v' w1 x s1 hvr => ?_
    obtain ⟨es', J', I'⟩ := I.heavy S hr hik hp hV (fun b h1 h2 h3 => fstep_far S.hcg (FStep.heavy (st := st) v hw hv he ha hp) hev I.er h1 h2 h3) (x.lower hb.1 (S.wfAt (by omega))) s1 hvr
    exact hK _ _ _ _ _ I'
end
end Go.Den
