/- A region whose order is open: the whole. -/
import Derived.Test.YtghmbmblhdgabaaFront4
import Derived.Orders
set_option linter.all false
namespace Go.Den
open Go
variable {P : Program}

theorem edgesOk_spec : ∀ {l : List Oper} {j : Nat}, edgesOk j l = true → ∀ d o, l[d]? = some o → ∀ e ∈ o.after, Region.binds .any e = true → e.on < j + d
  | [], j, _, d, o, ho, _, _, _ => by simp at ho
  | x :: r, j, h, d, o, ho, e, he, hb => by
    unfold edgesOk at h
    rw [Bool.and_eq_true, List.all_eq_true] at h
    cases d with
    | zero =>
      simp at ho
      subst ho
      have := h.1 e (by simpa using he)
      rw [hb] at this
      simpa using this
    | succ d =>
      have := edgesOk_spec h.2 d o (by simpa using ho) e he hb
      omega
theorem anyStore_spec : ∀ {k : Nat} {l : List Oper} {j : Nat} {o : Oper}, j < k → l[j]? = some o → isStore o.op = true → anyStore k l = true
  | 0, _, _, _, h, _, _ => by omega
  | _ + 1, [], _, _, _, ho, _ => by simp at ho
  | k + 1, x :: r, j, o, hj, ho, hs => by
    unfold anyStore
    rw [Bool.or_eq_true]
    cases j with
    | zero => simp at ho; subst ho; exact .inl hs
    | succ j => exact .inr (anyStore_spec (j := j) (by omega) (by simpa using ho) hs)
theorem own_low {lo : Nat} {h h' : H} (g : Good lo h h') (wf : HWF h) {b : Nat} (hb : b < lo) (ho : own h' b) : own h b := by
  obtain ⟨l, f, low, h1, h2⟩ := ho
  rw [g.get b hb] at h1
  have := (wf.fam _ _ _ h1).1
  rw [g.fam f (by omega)] at h2
  exact ⟨l, f, low, h1, h2⟩
/-- the array of what is listed says what is done -/
structure Lst (ops : Array Oper) (listed : Array Bool) (D : Nat → Prop) : Prop where
  size : listed.size = ops.size
  says : ∀ i, i < ops.size → (listed.getD i true = true ↔ D i)
theorem Lst.false {ops : Array Oper} {listed : Array Bool} {D : Nat → Prop} (l : Lst ops listed D) {i : Nat} : listed.getD i false = true ↔ i < ops.size ∧ D i := by
  by_cases hi : i < ops.size
  · have := l.says i hi
    have hs : i < listed.size := by rw [l.size]; exact hi
    simp [hs] at this ⊢
    rw [this]
    exact ⟨fun h => ⟨hi, h⟩, fun h => h.2⟩
  · have hs : ¬ i < listed.size := by rw [l.size]; exact hi
    simp [hs, hi]
theorem Lst.set {ops : Array Oper} {listed : Array Bool} {D : Nat → Prop} (l : Lst ops listed D) (i : Nat) : Lst ops (listed.setIfInBounds i true) (fun j => D j ∨ j = i) := by
  refine ⟨by rw [Array.size_setIfInBounds, l.size], fun j hj => ?_⟩
  by_cases hij : i = j
  · subst hij
    have hs : i < listed.size := by rw [l.size]; exact hj
    simp [hs]
  · rw [getD_set_ne true hij, l.says j hj]
    exact ⟨.inl, fun h => h.elim id fun e => absurd e.symm hij⟩
theorem Lst.ready {ops : Array Oper} {listed : Array Bool} {D : Nat → Prop} (l : Lst ops listed D) (hc : Closed ops D) {i : Nat} : i ∈ Region.ready .any ops listed ↔ ∃ o, Ready ops D i o := by
  rw [mem_ready]
  constructor
  · rintro ⟨h1, o, ho, hw⟩
    have hi := (Array.getElem?_eq_some_iff.1 ho).1
    refine ⟨o, ho, fun hD => ?_, fun e he hb => (l.false.1 (hw e he hb)).2⟩
    rw [(l.says i hi).2 hD] at h1
    cases h1
  · rintro ⟨o, r⟩
    have hi := (Array.getElem?_eq_some_iff.1 r.here).1
    refine ⟨?_, o, r.here, fun e he hb => ?_⟩
    · cases hc : listed.getD i true with
      | false => rfl
      | true => exact absurd ((l.says i hi).1 hc) r.undone
    · have hD := r.waits e he hb
      exact l.false.2 ⟨hc.lt _ hD, hD⟩
def left (ops : Array Oper) (listed : Array Bool) : Nat := (List.range ops.size).countP fun i => !listed.getD i true
theorem countP_lt {p q : Nat → Bool} : ∀ {l : List Nat}, (∀ x ∈ l, q x = true → p x = true) → (∃ x ∈ l, p x = true ∧ q x = false) → l.countP q < l.countP p
  | [], _, ⟨x, hx, _⟩ => by simp at hx
  | y :: r, hi, ⟨x, hx, h1, h2⟩ => by
    have hle : r.countP q ≤ r.countP p := List.countP_mono_left fun x hx => hi x (by simp [hx])
    rw [List.countP_cons, List.countP_cons]
    rcases List.mem_cons.1 hx with rfl | hx
    · simp only [h1, h2, if_true]
      simp
      omega
    · have := countP_lt (l := r) (fun x hx => hi x (by simp [hx])) ⟨x, hx, h1, h2⟩
      have hy := hi y (by simp)
      cases hq : q y
      · simp; omega
      · simp [hy hq]; omega
theorem left_set {ops : Array Oper} {listed : Array Bool} {i : Nat} (hs : listed.size = ops.size) (hi : i < ops.size) (hu : listed.getD i true = false) : left ops (listed.setIfInBounds i true) < left ops listed := by
  unfold left
  refine countP_lt (fun x _ hq => ?_) ⟨i, by simpa using hi, by rw [hu]; rfl, ?_⟩
  · by_cases hx : i = x
    · subst hx
      have hs : i < listed.size := by omega
      simp [hs] at hq
    · rwa [getD_set_ne true hx] at hq
  · have hs : i < listed.size := by omega
    simp [hs]
theorem left_zero {ops : Array Oper} {listed : Array Bool} (h : left ops listed = 0) {i : Nat} (hi : i < ops.size) : listed.getD i true = true := by
  have := List.countP_eq_zero.1 h i (by simpa using hi)
  simpa using this
/-- the first that is not done -/
theorem firstUndone (D : Nat → Prop) : ∀ n, (∀ j, j < n → D j) ∨ ∃ m, m < n ∧ ¬ D m ∧ ∀ j, j < m → D j
  | 0 => .inl fun j hj => by omega
  | n + 1 => by
    rcases firstUndone D n with h | ⟨m, h1, h2, h3⟩
    · by_cases hn : D n
      · left
        intro j hj
        by_cases he : j = n
        · rw [he]; exact hn
        · exact h j (by omega)
      · exact .inr ⟨n, by omega, hn, h⟩
    · exact .inr ⟨m, by omega, h2, h3⟩
theorem someReady {ops : Array Oper} {D : Nat → Prop} (he : edgesOk 0 ops.toList = true) {n : Nat} (hn : n ≤ ops.size) (h : ¬ ∀ j, j < n → D j) : ∃ i o, Ready ops D i o := by
  rcases firstUndone D n with h' | ⟨m, h1, h2, h3⟩
  · exact absurd h' h
  · have hlt : m < ops.size := by omega
    refine ⟨m, ops[m], by simp [hlt], h2, fun e hm hb => h3 _ ?_⟩
    have := edgesOk_spec he m ops[m] (by simp [hlt]) e hm hb
    omega

section
variable {call : CallFn} {lo nt k : Nat} {ops : Array Oper} {Q : Exit → Act → World → Prop}
/-- the tail: each waits for all that stand ahead of it -/
theorem tail_sim (hnm : NameOk P) (hcs : CallSim P call) (hcn : CallNext call) (hedge : edgesOk 0 ops.toList = true) (htail : ∀ m, k ≤ m → m < ops.size → (befs [] ops.toList).getD m 0 = 2 ^ m - 1) :
    ∀ (r : List Oper) (m fuel : Nat) (listed : Array Bool) (D : Nat → Prop) {e e' : Env} {h h' : H}, ops.toList.drop m = r → k ≤ m → m ≤ ops.size → Lst ops listed D → Closed ops D → (∀ i, D i ↔ i < m) → left ops listed ≤ fuel →
    runOps P call lo nt ops r e h = some (e', h') → ∀ {φ : Phi} {w : World} {a : Act}, ER φ e a.tmps → a.tmps.size = nt → Sim φ h w → FreeIn φ h.next h'.next → lo ≤ h.next →
    (∀ φ' a' w', Ext lo φ h w φ' h' w' → Sim φ' h' w' → ER φ' e' a'.tmps → a'.tmps.size = nt → a'.defers = a.defers → Q .normal a' w') → wpAny P .any ops Q fuel listed a w
  | [], m, fuel, listed, D, e, e', h, h', hdr, hkm, hm, hl, hc, hD, hf, hr, φ, w, a, he, hsz, s, hfr, hlo, hQ => by
    have hme : m = ops.size := by
      have := congrArg List.length hdr
      simp at this
      omega
    have hnil : Region.ready .any ops listed = [] := by
      rw [List.eq_nil_iff_forall_not_mem]
      intro i hi
      obtain ⟨o, r⟩ := (hl.ready hc).1 hi
      have := (Array.getElem?_eq_some_iff.1 r.here).1
      exact r.undone ((hD i).2 (by omega))
    cases hr
    have hq := hQ φ a w (Ext.refl _ _ _ _) s he hsz rfl
    cases fuel with
    | zero => exact ⟨hnil, hq⟩
    | succ fuel => exact ⟨fun _ => hq, fun i hi => by rw [hnil] at hi; simp at hi⟩
  | o :: r, m, fuel, listed, D, e, e', h, h', hdr, hkm, hm, hl, hc, hD, hf, hr, φ, w, a, he, hsz, s, hfr, hlo, hQ => by
    have hlt : m < ops.size := by
      have := congrArg List.length hdr
      simp at this
      omega
    have ho : ops[m]? = some o := by
      have := congrArg (fun l => l[0]?) hdr
      simpa using this
    have hdr' : ops.toList.drop (m + 1) = r := by
      have := congrArg List.tail hdr
      simpa using this
    have hmr : Ready ops D m o := ⟨ho, fun h => by have := (hD m).1 h; omega, fun e hm hb => (hD _).2 (by
      have := edgesOk_spec hedge m o (by simpa using ho) e hm hb
      omega)⟩
    have hmem : m ∈ Region.ready .any ops listed := (hl.ready hc).2 ⟨o, hmr⟩
    have hun : listed.getD m true = false := (mem_ready.1 hmem).1
    have hleft := left_set hl.size hlt hun
    cases fuel with
    | zero => omega
    | succ fuel =>
      refine ⟨fun hnil => by rw [hnil] at hmem; simp at hmem, fun i hi => ?_⟩
      have him : i = m := by
        obtain ⟨oi, ri⟩ := (hl.ready hc).1 hi
        have hilt := (Array.getElem?_eq_some_iff.1 ri.here).1
        have him : m ≤ i := by
          rcases Nat.lt_or_ge i m with h1 | h1
          · exact absurd ((hD i).2 h1) ri.undone
          · exact h1
        rcases Nat.lt_or_ge m i with h1 | h1
        · exfalso
          have hb := htail i (by omega) hilt
          refine hmr.undone (done_of_bit hc ri.here ri.waits (i := m) ?_)
          rw [hb, Nat.testBit_two_pow_sub_one]
          simpa using h1
        · omega
      subst him
      have hD' : ∀ j, (D j ∨ j = i) ↔ j < i + 1 := fun j => by rw [hD]; omega
      have hc' : Closed ops (fun j => D j ∨ j = i) := by
        refine ⟨fun j hj => by have := (hD' j).1 hj; omega, fun j oj hj hoj e he hb => ?_⟩
        have h1 := (hD' j).1 hj
        have h2 := edgesOk_spec hedge j oj (by simpa using hoj) e he hb
        exact (hD' _).2 (by omega)
      have hwanted : Region.wanted o (yielded ops a.tmps) = wantedV ops e o := wanted_rel he o
      unfold wpOp
      rw [ho]
      simp only [hwanted]
      unfold runOps at hr
      split at hr
      · rename_i hw
        split at hr
        · rename_i v h1 ha
          split at hr
          · rename_i e1 hp
            rw [hw]
            simp only [if_true]
            left
            have hn2 := runOps_next hcn hr
            refine aop_sim hnm hcs ha he s (FreeIn.left hfr hn2) hlo fun φ1 v' w1 x1 s1 hv => ?_
            obtain ⟨he1, hsz1⟩ := put_rel hp (he.mono x1.le) hsz hv
            have := x1.next
            refine tail_sim hnm hcs hcn hedge htail r (i + 1) fuel _ _ hdr' (by omega) (by omega) (hl.set i) hc' hD' (by omega) hr he1 hsz1 s1 (FreeIn.right x1 hfr) (by omega) fun φ2 a2 w2 x2 s2 he2 hsz2 hd2 => ?_
            exact hQ φ2 a2 w2 (x1.trans x2) s2 he2 hsz2 (hd2.trans (put_defers _ _ _))
          · cases hr
        · cases hr
      · rename_i hw
        split at hr
        · rename_i e1 hp
          rw [if_neg hw]
          obtain ⟨he1, hsz1⟩ := put_rel hp he hsz VR.undef
          refine tail_sim hnm hcs hcn hedge htail r (i + 1) fuel _ _ hdr' (by omega) (by omega) (hl.set i) hc' hD' (by omega) hr he1 hsz1 s hfr hlo fun φ2 a2 w2 x2 s2 he2 hsz2 hd2 => ?_
          exact hQ φ2 a2 w2 x2 s2 he2 hsz2 (hd2.trans (put_defers _ _ _))
        · cases hr

variable {st : Bool} {E : Nat → Env} {Hh : Nat → H} {φ0 : Phi} {w0 : World}
theorem Inv.done (S : Setup P call lo nt k st ops E Hh φ0 w0) {ds : List Deferred} {D : Nat → Prop} {a : Act} {w : World} {φ : Phi} {es : Env} {J : Nat} (I : Inv S ds D a w φ es J) (hall : ∀ i, i < k → D i) :
    ER φ (E k) a.tmps ∧ Sim φ (Hh k) w ∧ Ext lo φ0 (Hh 0) w0 φ (Hh k) w := by
  have hJ : J = k := by
    rcases I.Jat with h | ⟨h1, h2⟩
    · exact h
    · exact absurd (hall _ h1.1) h2
  subst hJ
  have g := S.from0 (Nat.le_refl J)
  refine ⟨fun t => ?_, I.sim, ?_⟩
  · rw [← I.env t J (Nat.le_refl _) fun i o hi _ _ => ⟨fun _ => hi, fun _ => hall i hi⟩]
    exact I.er t
  · exact {
      le := I.le
      dom := fun b h1 h2 => by
        obtain ⟨i, hD, g1, g2⟩ := I.dom b h1 h2
        have hi := I.front _ hD
        have k1 := (S.from0 (j := i) (by omega)).next
        have k2 := (S.between (i := i + 1) (j := J) (by omega) (Nat.le_refl _)).next
        omega
      next := g.next
      tape := I.tape, os := I.os, out := I.out, size := I.size, keep := I.keep, mine := I.mine
      low := fun b hb ho => own_low g S.wf hb ho
      fresh := I.fresh }

theorem front_run (S : Setup P call lo nt k st ops E Hh φ0 w0) (hcn : CallNext call) (hedge : edgesOk 0 ops.toList = true) (htail : ∀ m, k ≤ m → m < ops.size → (befs [] ops.toList).getD m 0 = 2 ^ m - 1)
    {e' : Env} {h' : H} (hr : runOps P call lo nt ops (ops.toList.drop k) (E k) (Hh k) = some (e', h')) (hfr : FreeIn φ0 (Hh 0).next h'.next) {ds : List Deferred}
    (hQ : ∀ φ' a' w', Ext lo φ0 (Hh 0) w0 φ' h' w' → Sim φ' h' w' → ER φ' e' a'.tmps → a'.tmps.size = nt → a'.defers = ds → Q .normal a' w') :
    ∀ (fuel : Nat) (listed : Array Bool) (D : Nat → Prop) (a : Act) (w : World) (φ : Phi) (es : Env) (J : Nat), Inv S ds D a w φ es J → Lst ops listed D → left ops listed ≤ fuel → wpAny P .any ops Q fuel listed a w := by
  intro fuel
  induction fuel with
  | zero =>
    intro listed D a w φ es J I hl hf
    have hall : ∀ i, i < k → D i := fun i hi => (hl.says i (by have := S.kle; omega)).1 (left_zero (Nat.le_zero.1 hf) (by have := S.kle; omega))
    obtain ⟨he, s, x⟩ := I.done S hall
    have hD : ∀ i, D i ↔ i < k := fun i => ⟨I.front i, hall i⟩
    have hn := x.next
    exact tail_sim S.hnm S.hcs hcn hedge htail _ k 0 listed D rfl (Nat.le_refl _) S.kle hl I.closed hD hf hr he I.tsz s (FreeIn.right x hfr) (by have := S.lo; omega) fun φ' a' w' x' s' he' hsz' hd' => hQ φ' a' w' (x.trans x') s' he' hsz' (hd'.trans I.dfr)
  | succ fuel ih =>
    intro listed D a w φ es J I hl hf
    by_cases hall : ∀ i, i < k → D i
    · obtain ⟨he, s, x⟩ := I.done S hall
      have hD : ∀ i, D i ↔ i < k := fun i => ⟨I.front i, hall i⟩
      have hn := x.next
      exact tail_sim S.hnm S.hcs hcn hedge htail _ k (fuel + 1) listed D rfl (Nat.le_refl _) S.kle hl I.closed hD hf hr he I.tsz s (FreeIn.right x hfr) (by have := S.lo; omega) fun φ' a' w' x' s' he' hsz' hd' => hQ φ' a' w' (x.trans x') s' he' hsz' (hd'.trans I.dfr)
    · obtain ⟨i0, o0, r0⟩ := someReady hedge S.kle hall
      refine ⟨fun hnil => by have := (hl.ready I.closed).2 ⟨o0, r0⟩; rw [hnil] at this; simp at this, fun i hi => ?_⟩
      obtain ⟨o, r⟩ := (hl.ready I.closed).1 hi
      have hilt := (Array.getElem?_eq_some_iff.1 r.here).1
      have hik : i < k := by
        rcases Nat.lt_or_ge i k with h | h
        · exact h
        · exfalso
          refine hall fun j hj => done_of_bit I.closed r.here r.waits ?_
          rw [htail i h hilt, Nat.testBit_two_pow_sub_one]
          simp
          omega
      refine I.step S r hik fun a' w' φ' es' J' I' => ?_
      exact ih _ _ a' w' φ' es' J' I' (hl.set i) (by have := left_set hl.size hilt (mem_ready.1 hi).1; omega)
end

theorem front_sim (hmix : P.follows .mixedOrders = true) (hnm : NameOk P) : FrontSim P := by
  intro call hcs hcn hcg lo nt ops e h e' h' hr φ w a he hsz s hfr hlo Q hQ id
  unfold runRegion at hr
  rw [if_pos rfl] at hr
  simp only at hr
  split at hr
  · rename_i hok
    rw [Bool.and_eq_true] at hok
    split at hr
    · rename_i ek hk hf
      obtain ⟨hfo, hedge⟩ := hok
      have hkle : tailAt 0 (befs [] ops.toList) ≤ ops.size := by have := frontOk_len hfo; simpa using this
      have hlen : (befs [] ops.toList).length = ops.size := by rw [befs_length]; simp
      have hf' := hf
      rw [show ops.toList = ops.toList.drop 0 from rfl] at hf'
      obtain ⟨E, Hh, hE0, hH0, hEk, hHk, hst⟩ := front_trace (i := 0) (ops := ops) (by simpa using hf) (by omega)
      have hn1 := runFront_next hcn hf
      have hn2 := runOps_next hcn hr
      subst hE0 hH0 hEk hHk
      have S : Setup P call lo nt (tailAt 0 (befs [] ops.toList)) (anyStore (tailAt 0 (befs [] ops.toList)) ops.toList) ops E Hh φ { w with drawn := w.drawn + 1 } := {
        hnm := hnm, hcs := hcs, hcg := hcg, kle := hkle, lo := hlo, wf := s.wf
        step := fun j hj => by have := hst j hj; rwa [Nat.zero_add] at this
        pairs := fun i j oi oj hij hjk hoi hoj => by
          have := (frontOk_spec hfo j oj hjk (by simpa using hoj)).2
          have := pairsOk_spec this i oi (by simpa using hoi) (by omega)
          simpa using this
        store := fun j o hj ho hs => anyStore_spec hj (by simpa using ho) hs
        free := fun b h1 h2 => hfr b h1 (by omega) }
      refine wp_region_any hmix ?_
      have s0 : Sim φ (Hh 0) { w with drawn := w.drawn + 1 } := ⟨s.at_, s.sep, s.wf, s.bnd, s.frz⟩
      have hfirst : ∃ J, J ≤ tailAt 0 (befs [] ops.toList) ∧ (∀ j, j < J → ¬ HV ops (tailAt 0 (befs [] ops.toList)) E j) ∧ (J = tailAt 0 (befs [] ops.toList) ∨ HV ops (tailAt 0 (befs [] ops.toList)) E J) := by
        rcases firstUndone (fun j => ¬ HV ops (tailAt 0 (befs [] ops.toList)) E j) (tailAt 0 (befs [] ops.toList)) with h | ⟨m, h1, h2, h3⟩
        · exact ⟨_, Nat.le_refl _, h, .inl rfl⟩
        · exact ⟨m, by omega, h3, .inr (Classical.not_not.1 h2)⟩
      obtain ⟨J, hJ1, hJ2, hJ3⟩ := hfirst
      have hlight : ∀ d, d ≤ J → Sim φ (Hh d) { w with drawn := w.drawn + 1 } ∧ (∀ b, own (Hh d) b → φ b ≠ none → own (Hh 0) b) := by
        intro d
        induction d with
        | zero => intro _; exact ⟨s0, fun b h _ => h⟩
        | succ d ih =>
          intro hd
          obtain ⟨s1, o1⟩ := ih (by omega)
          rcases S.lightStep (j := d) (by omega) (hJ2 _ (by omega)) with hh | ⟨l, hh⟩
          · rw [hh]; exact ⟨s1, o1⟩
          · have hnx : (Hh (d + 1)).next = (Hh d).next + 1 := by rw [hh]; rfl
            have hno : φ (Hh d).next = none := S.free' (by have := (S.from0 (j := d) (by omega)).next; omega) (j := d + 1) (by omega) (by omega)
            rw [hh]
            refine ⟨sim_more_blocks s1 (.inl hno), fun b hb hne => ?_⟩
            rcases own_alloc (S.wfAt (by omega)) hb with h1 | h1
            · rw [h1] at hne; exact absurd hno hne
            · exact o1 b h1 hne
      have I : Inv S a.defers (fun _ => False) a { w with drawn := w.drawn + 1 } φ (E 0) J := {
        closed := ⟨fun i h => h.elim, fun i o h => h.elim⟩, front := fun i h => h.elim, er := he, tsz := hsz, dfr := rfl
        env := fun t j hj hh => by
          have := S.envSame (t := t) (p := 0) (d := j) (by omega) (fun i o _ h2 ho hd => by
            have := (hh i o (by omega) ho hd).2 (by omega)
            exact this)
          rw [Nat.zero_add] at this
          exact this.symm
        Jle := hJ1, Jlt := fun j h1 h2 => hJ2 j h1 h2, Jat := hJ3.imp (fun h => h) fun h => ⟨h, fun hf => hf⟩, Jgt := fun _ _ _ hf => hf
        le := Phi.le.refl _, dom := fun b h1 h2 => absurd h1 h2, tape := rfl, os := rfl, out := rfl, size := Nat.le_refl _, keep := fun _ _ _ => rfl
        mine := fun b x h1 h2 h3 => .inr ⟨b, x, h1, (hlight J (Nat.le_refl _)).2 b h2 (by rw [h3]; simp), h3, rfl⟩
        fresh := fun b x h1 h2 => by rw [h1] at h2; cases h2
        sim := (hlight J (Nat.le_refl _)).1
        ahead := fun _ _ _ _ h => h.elim
        behind := fun i l h1 _ h3 => by
          have hnx : (Hh (i + 1)).next = (Hh i).next + 1 := by rw [h3]; rfl
          have := S.lights (i := i + 1) (d := J - (i + 1)) (by omega) (fun j g1 g2 => hJ2 j (by omega)) (Hh i).next (by omega)
          rw [show i + 1 + (J - (i + 1)) = J from by omega] at this
          rw [this.1, this.2, h3, get_alloc, fam_alloc, if_pos rfl, if_pos rfl]
          exact ⟨rfl, rfl⟩ }
      refine front_run S hcn hedge ?_ hr hfr (ds := a.defers) (fun φ' a' w' x s' he' hsz' hd' => hQ φ' a' w' ⟨x.le, x.dom, x.next, x.tape, x.os, x.out, x.size, x.keep, x.mine, x.low, x.fresh⟩ s' he' hsz' hd') ops.size _ (fun _ => False) a _ φ (E 0) J I ?_ ?_
      · intro m hm hlt
        have h1 := (tailAt_spec (befs [] ops.toList) 0).2 m ((befs [] ops.toList).getD m 0) (by omega) (by
          rw [List.getD_eq_getElem?_getD]
          have : m < (befs [] ops.toList).length := by omega
          simp [this])
        rwa [Nat.zero_add] at h1
      · refine ⟨by simp, fun i hi => ?_⟩
        simp [hi]
      · unfold left
        exact Nat.le_trans List.countP_le_length (by simp)
    · cases hr
  · cases hr
end Go.Den
