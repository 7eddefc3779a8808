/- What a caller hands in, as the machine's values: blocks that are read alone. -/
import Derived.Test.YtghmbmblhdgabaaDoorDenD
import GoSem.ClaimChange
import Derived.ChangeBears
import Derived.DataReads
import Derived.Below
import Derived.Carry
import Derived.ChangeBook
set_option linter.all false
namespace Go.Den
open Go
variable {P : Program} {φ φ' : Phi} {w : World} {h h' : H}

/-! ### lists -/
theorem part_flatten {α : Type} : ∀ (vss : List (List α)) (j : Nat) (vs : List α), vss[j]? = some vs → (vss.flatten.drop ((vss.take j).map List.length).sum).take vs.length = vs
  | [], j, vs, h => by simp at h
  | x :: r, 0, vs, h => by
    simp at h
    subst h
    simp
  | x :: r, j + 1, vs, h => by
    simp only [List.getElem?_cons_succ] at h
    have := part_flatten r j vs h
    simp only [List.flatten_cons, List.take_succ_cons, List.map_cons, List.sum_cons]
    rw [List.drop_append]
    rw [show x.length + ((r.take j).map List.length).sum - x.length = ((r.take j).map List.length).sum from by omega]
    rw [List.drop_of_length_le (by omega), List.nil_append]
    exact this
theorem flatten_pieces {α : Type} (l : List α) (es : Nat) : ∀ c, ((List.range c).map fun i => (l.drop (i * es)).take es).flatten = l.take (c * es)
  | 0 => by simp
  | c + 1 => by
    rw [List.range_succ, List.map_append, List.flatten_append, flatten_pieces l es c]
    simp only [List.map_cons, List.map_nil, List.flatten_cons, List.flatten_nil, List.append_nil]
    rw [Nat.add_mul, Nat.one_mul, List.take_add]
theorem flatten_fields {α β : Type} (l : List α) (size off : β → Nat) : ∀ (fs : List β) (base : Nat), (∀ (j : Nat) f, fs[j]? = some f → off f = base + ((fs.take j).map size).sum) →
    (fs.map fun f => (l.drop (off f)).take (size f)).flatten = (l.drop base).take (fs.map size).sum
  | [], base, _ => by simp
  | f :: r, base, h => by
    have h0 := h 0 f (by simp)
    simp at h0
    have ih := flatten_fields l size off r (base + size f) (fun j g hg => by
      have := h (j + 1) g (by simpa using hg)
      simp only [List.take_succ_cons, List.map_cons, List.sum_cons] at this
      omega)
    simp only [List.map_cons, List.flatten_cons, List.sum_cons, ih, h0]
    rw [List.take_add, List.drop_drop]

theorem part_even {α : Type} {es : Nat} : ∀ {vss : List (List α)} {i : Nat} {vs : List α}, (∀ x ∈ vss, x.length = es) → vss[i]? = some vs → (vss.flatten.drop (i * es)).take es = vs
  | [], i, vs, _, h => by simp at h
  | x :: r, 0, vs, hl, h => by
    simp at h
    subst h
    have := hl x (by simp)
    simp [← this]
  | x :: r, i + 1, vs, hl, h => by
    have hx := hl x (by simp)
    have := part_even (vss := r) (fun y hy => hl y (by simp [hy])) (i := i) (by simpa using h)
    rw [List.flatten_cons, List.drop_append, Nat.add_mul, Nat.one_mul, hx, List.drop_of_length_le (by omega), List.nil_append, Nat.add_sub_cancel]
    exact this
theorem sum_take_le : ∀ (l : List Nat) (j x : Nat), l[j]? = some x → (l.take j).sum + x ≤ l.sum
  | [], j, x, h => by simp at h
  | y :: r, 0, x, h => by simp at h; subst h; simp
  | y :: r, j + 1, x, h => by
    have := sum_take_le r j x (by simpa using h)
    simp only [List.take_succ_cons, List.sum_cons]
    omega

/-! ### memory that only grows by blocks that are read alone -/
def H.ro (h : H) (l : List V) : H := { m := h.m.set h.next (.cells l none), f := h.f, next := h.next + 1 }
theorem get_ro (h : H) (l : List V) (b : Nat) : (h.ro l).get b = if b = h.next then some (.cells l none) else h.get b := by
  unfold H.ro H.get; exact T.get_set _ _ _ _
theorem fam_ro (h : H) (l : List V) (f : Nat) : (h.ro l).fam f = h.fam f := rfl
structure Grow (h h' : H) : Prop where
  next : h.next ≤ h'.next
  get : ∀ b, b < h.next → h'.get b = h.get b
  fam : ∀ f, h'.fam f = h.fam f
theorem Grow.refl (h : H) : Grow h h := ⟨Nat.le_refl _, fun _ _ => rfl, fun _ => rfl⟩
theorem Grow.trans {h1 h2 h3 : H} (a : Grow h1 h2) (b : Grow h2 h3) : Grow h1 h3 :=
  ⟨Nat.le_trans a.next b.next, fun c hc => (b.get c (by have := a.next; omega)).trans (a.get c hc), fun f => (b.fam f).trans (a.fam f)⟩
theorem Grow.ro (h : H) (l : List V) : Grow h (h.ro l) := ⟨Nat.le_succ _, fun b hb => by rw [get_ro, if_neg (by omega)], fun _ => rfl⟩
theorem Grow.read (g : Grow h h') (wf : HWF h) {b : Nat} {l : List V} (hr : h.read b = some l) : h'.read b = some l := by
  have hlt : b < h.next := by rcases read_some hr with hg | ⟨_, _, _, hg, _⟩ <;> exact wf.lt _ _ hg
  unfold H.read at hr ⊢
  rw [g.get b hlt]
  simp only [g.fam]
  exact hr
def AllRo (h : H) : Prop := ∀ b l f, h.get b ≠ some (.cells l (some f))
theorem AllRo.fam (a : AllRo h) (b : Nat) : h.famOf b = none := by
  unfold H.famOf
  split
  · rename_i l f hg
    cases f with
    | none => rfl
    | some f => exact absurd hg (a b l f)
  · rfl
theorem AllRo.ro (a : AllRo h) (l : List V) : AllRo (h.ro l) := fun b l' f hg => by
  rw [get_ro] at hg
  split at hg
  · cases hg
  · exact a b l' f hg
def FreeFrom (φ : Phi) (h : H) : Prop := ∀ k, h.next ≤ k → φ k = none
theorem HWF.ro (wf : HWF h) (a : AllRo h) (l : List V) : HWF (h.ro l) := by
  refine ⟨fun b o hg => ?_, fun b l' f hg => absurd hg (a.ro l b l' f)⟩
  rw [get_ro] at hg
  show b < h.next + 1
  split at hg
  · omega
  · have := wf.lt _ _ hg; omega
theorem read_ro_new (h : H) (l : List V) : (h.ro l).read h.next = some l := by unfold H.read; rw [get_ro, if_pos rfl]
theorem read_ro_old {l l' : List V} {b : Nat} (hb : b ≠ h.next) (hr : (h.ro l).read b = some l') : h.read b = some l' := by
  unfold H.read at hr ⊢
  rw [get_ro, if_neg hb] at hr
  exact hr
/-- a block of the caller's -/
theorem sim_ro (s : Sim φ h w) (ff : FreeFrom φ h) (a : AllRo h) {x : Nat × Nat × Nat} {l : List V} (hc : Cells φ w x l) : Sim (φ.with h.next x) (h.ro l) w := by
  have hle : φ.le (φ.with h.next x) := Phi.le_with (ff _ (Nat.le_refl _))
  refine ⟨fun b y l' hy hr => ?_, fun b1 b2 x1 x2 l1 l2 hlt h1 h2 hr1 hr2 he => .inl ⟨(a.ro l).fam _, (a.ro l).fam _⟩, s.wf.ro a l, fun b y hy => ?_, fun b y l' f hy hg => absurd hg (a.ro l b l' f), s.gl.mono hle⟩
  · by_cases hb : b = h.next
    · subst hb
      rw [read_ro_new] at hr
      cases hr
      rw [Phi.with_at] at hy
      cases hy
      exact hc.mono hle rfl
    · rw [Phi.with_ne _ _ hb] at hy
      exact (s.at_ _ _ _ hy (read_ro_old hb hr)).mono hle rfl
  · by_cases hb : b = h.next
    · subst hb; rw [Phi.with_at] at hy; cases hy; exact hc.lt
    · rw [Phi.with_ne _ _ hb] at hy; exact s.bnd _ _ hy
/-- a block that stands for nothing -/
theorem sim_ro0 (s : Sim φ h w) (ff : FreeFrom φ h) (a : AllRo h) (l : List V) : Sim φ (h.ro l) w := by
  refine ⟨fun b y l' hy hr => ?_, fun b1 b2 x1 x2 l1 l2 hlt h1 h2 hr1 hr2 he => .inl ⟨(a.ro l).fam _, (a.ro l).fam _⟩, s.wf.ro a l, s.bnd, fun b y l' f hy hg => absurd hg (a.ro l b l' f), s.gl⟩
  have hb : b ≠ h.next := fun e => by subst e; rw [ff _ (Nat.le_refl _)] at hy; cases hy
  exact s.at_ _ _ _ hy (read_ro_old hb hr)

/-! ### values of a type -/
def OkV (P : Program) (rd : Rd) (M : Nat) : Nat → TypeId → List V → Prop
  | 0, _, _ => False
  | n + 1, t, vs => match P.underlying t with
    | some .bool => ∃ b, vs = [.bool b]
    | some (.int k) => ∃ x, vs = [.int k x] ∧ (Lit.int k x).wf = true
    | some .string => ∃ s, vs = [.str s] ∧ s.length ≤ M
    | some (.slice e) => vs = [.nils] ∨ ∃ b m c l, vs = [.sl b 0 m (some c) (P.cellsOf e)] ∧ m ≤ c ∧ c ≤ M ∧ rd b = some l ∧ l.length = c * P.cellsOf e ∧
        ∀ i, i < c → OkV P rd M n e ((l.drop (i * P.cellsOf e)).take (P.cellsOf e))
    | some (.struct fs) => vs.length = P.cellsOf t ∧ ∀ f ∈ fs.toList, OkV P rd M n f.type ((vs.drop f.offset).take (P.cellsOf f.type))
    | some (.array m e) => vs.length = P.cellsOf t ∧ ∀ i, i < m → OkV P rd M n e ((vs.drop (i * P.cellsOf e)).take (P.cellsOf e))
    | _ => False
def plainT (P : Program) : Nat → TypeId → Bool
  | 0, _ => false
  | n + 1, t => match P.underlying t with
    | some .bool => true
    | some (.int _) => true
    | some .string => true
    | some (.slice e) => decide (0 < P.cellsOf e) && plainT P n e
    | some (.struct fs) => fs.toList.all fun f => plainT P n f.type
    | some (.array _ e) => plainT P n e
    | _ => false
theorem OkV.mono {rd rd' : Rd} {M : Nat} (hr : ∀ b l, rd b = some l → rd' b = some l) : ∀ {n : Nat} {t : TypeId} {vs : List V}, OkV P rd M n t vs → OkV P rd' M n t vs
  | 0, _, _, h => h
  | n + 1, t, vs, h => by
    unfold OkV at h ⊢
    split at h
    · exact h
    · exact h
    · exact h
    · rename_i e _
      rcases h with h | ⟨b, m, c, l, h1, h2, h3, h4, h5, h6⟩
      · exact .inl h
      · exact .inr ⟨b, m, c, l, h1, h2, h3, hr _ _ h4, h5, fun i hi => OkV.mono hr (h6 i hi)⟩
    · exact ⟨h.1, fun f hf => OkV.mono hr (h.2 f hf)⟩
    · exact ⟨h.1, fun i hi => OkV.mono hr (h.2 i hi)⟩
    · exact h
mutual
def small (M : Nat) {A : Type} : DataW A → Prop
  | .lit (.string bs) => bs.length ≤ M
  | .slice e s => e.length + s.length ≤ M ∧ smalls M e ∧ smalls M s
  | .agg ps => smalls M ps
  | _ => True
def smalls (M : Nat) {A : Type} : List (DataW A) → Prop
  | [] => True
  | d :: r => small M d ∧ smalls M r
end
theorem smalls_get {M : Nat} {A : Type} : ∀ {l : List (DataW A)}, smalls M l → ∀ {i : Nat} {d : DataW A}, l[i]? = some d → small M d
  | [], _, i, d, h => by simp at h
  | x :: r, hs, 0, d, h => by simp at h; subst h; exact hs.1
  | x :: r, hs, i + 1, d, h => smalls_get hs.2 (i := i) (by simpa using h)

def Lays (P : Program) (M : Nat) (w : World) (n : Nat) (t : TypeId) (cs : List Value) : Prop :=
  ∀ h φ, Sim φ h w → FreeFrom φ h → AllRo h → ∃ φ' h' vs, Grow h h' ∧ AllRo h' ∧ φ.le φ' ∧ Sim φ' h' w ∧ FreeFrom φ' h' ∧ VRs φ' vs cs ∧ OkV P h'.read M n t vs
theorem lays_list {M n : Nat} : ∀ (L : List (TypeId × List Value)), (∀ p ∈ L, Lays P M w n p.1 p.2) → ∀ h φ, Sim φ h w → FreeFrom φ h → AllRo h →
    ∃ (φ' : Phi) (h' : H) (vss : List (List V)), Grow h h' ∧ AllRo h' ∧ φ.le φ' ∧ Sim φ' h' w ∧ FreeFrom φ' h' ∧ VRs φ' vss.flatten (L.map (·.2)).flatten ∧ vss.length = L.length ∧
      vss.map List.length = L.map (·.2.length) ∧ ∀ (i : Nat) t cs, L[i]? = some (t, cs) → ∃ vs, vss[i]? = some vs ∧ OkV P h'.read M n t vs
  | [], _, h, φ, s, ff, a => ⟨φ, h, [], Grow.refl h, a, Phi.le.refl φ, s, ff, .nil, rfl, rfl, fun i t cs hi => by simp at hi⟩
  | (t0, cs0) :: r, hL, h, φ, s, ff, a => by
    obtain ⟨φ1, h1, vs, g1, a1, le1, s1, ff1, r1, o1⟩ := hL (t0, cs0) (by simp) h φ s ff a
    obtain ⟨φ2, h2, vss, g2, a2, le2, s2, ff2, r2, l2, m2, o2⟩ := lays_list r (fun p hp => hL p (by simp [hp])) h1 φ1 s1 ff1 a1
    refine ⟨φ2, h2, vs :: vss, g1.trans g2, a2, le1.trans le2, s2, ff2, ?_, by simp [l2], ?_, fun i t cs hi => ?_⟩
    · simp only [List.flatten_cons, List.map_cons]
      exact (r1.mono le2).append r2
    · simp only [List.map_cons, m2, r1.length]
    · cases i with
      | zero =>
        simp at hi
        obtain ⟨rfl, rfl⟩ := hi
        exact ⟨vs, by simp, o1.mono fun b l hr => g2.read s1.wf hr⟩
      | succ i => simpa using o2 i t cs (by simpa using hi)
theorem cells_spec {a : Addr} {n : Nat} {cs : List Value} (hc : w.cells? 0 a n = some cs) : cs.length = n ∧ ∀ j, j < n → w.cell? (a.add j) = cs[j]? := by
  unfold World.cells? at hc
  rw [if_pos (Nat.zero_le _)] at hc
  refine ⟨by simpa using mapM_some_length hc, fun j hj => mapM_some_get hc j j (by simp [hj])⟩
theorem lays_one {M : Nat} {n : Nat} {t : TypeId} {v : V} {v' : Value} (hv : ∀ φ, VR φ v v') (ho : ∀ rd, OkV P rd M n t [v]) : Lays P M w n t [v'] :=
  fun h φ s ff a => ⟨φ, h, [v], Grow.refl h, a, Phi.le.refl φ, s, ff, .cons (hv φ) .nil, ho _⟩

theorem cell_some {a : Addr} {v : Value} (hc : w.cell? a = some v) : ∃ arr t lo hi, w.heap[a.block]? = some (.cells arr t (lo, hi)) ∧ a.spot = none ∧ arr[a.off]? = some v := by
  unfold World.cell? at hc
  split at hc
  · rename_i arr t fr hh
    split at hc
    · cases hc
    · rename_i hs
      exact ⟨arr, t, fr.1, fr.2, hh, by simpa using hs, hc⟩
  · cases hc
/-- cells of one size, one behind the other -/
theorem lays_row {M n es c : Nat} {t : TypeId} {l : List Value} (hl : l.length = c * es) (hp : ∀ i, i < c → Lays P M w n t ((l.drop (i * es)).take es)) :
    ∀ h φ, Sim φ h w → FreeFrom φ h → AllRo h → ∃ φ' h' vs, Grow h h' ∧ AllRo h' ∧ φ.le φ' ∧ Sim φ' h' w ∧ FreeFrom φ' h' ∧ VRs φ' vs l ∧ ∀ i, i < c → OkV P h'.read M n t ((vs.drop (i * es)).take es) := by
  intro h φ s ff a
  obtain ⟨φ1, h1, vss, g1, a1, le1, s1, ff1, r1, l1, m1, o1⟩ := lays_list ((List.range c).map fun i => (t, (l.drop (i * es)).take es)) (fun p hp' => by
    obtain ⟨i, hi, rfl⟩ := List.mem_map.1 hp'
    exact hp i (by simpa using hi)) h φ s ff a
  have hlens : ∀ x ∈ vss, x.length = es := by
    intro x hx
    have hm : x.length ∈ vss.map List.length := List.mem_map.2 ⟨x, hx, rfl⟩
    rw [m1] at hm
    simp only [List.map_map, List.mem_map, List.mem_range, Function.comp] at hm
    obtain ⟨i, hi, he⟩ := hm
    have h1 : (i + 1) * es ≤ c * es := Nat.mul_le_mul_right _ (by omega)
    rw [Nat.add_mul, Nat.one_mul] at h1
    rw [← he]
    simp
    omega
  refine ⟨φ1, h1, vss.flatten, g1, a1, le1, s1, ff1, ?_, fun i hi => ?_⟩
  · have e : (((List.range c).map fun i => (t, (l.drop (i * es)).take es)).map (·.2)).flatten = l := by
      rw [List.map_map]
      have := flatten_pieces l es c
      rw [show ((fun x : TypeId × List Value => x.2) ∘ fun i => (t, (l.drop (i * es)).take es)) = fun i => (l.drop (i * es)).take es from rfl, this]
      exact List.take_of_length_le (by omega)
    rwa [e] at r1
  · obtain ⟨vs, hvs, ho⟩ := o1 i t ((l.drop (i * es)).take es) (by simp [hi])
    rw [part_even hlens hvs]
    exact ho

theorem lays {T : TypeId → Prop} (K : Kids P T) {M : Nat} {A : Type} {enc : TypeId × Value → A} : ∀ (N n : Nat) (t : TypeId) (cs : List Value) (d : DataW A) (ps : List MemPlace),
    DataW.trod enc P w 0 (fun _ => true) true n t cs = some (d, ps) → plainT P N t = true → small M d → T t → Lays P M w N t cs := by
  intro N
  induction N with
  | zero => intro n t cs d ps _ hp; cases hp
  | succ N ih =>
    intro n t cs d ps ht hp hs hT
    cases n with
    | zero => unfold DataW.trod at ht; cases ht
    | succ n =>
    unfold DataW.trod at ht
    unfold plainT at hp
    cases hu : P.underlying t with
    | none => rw [hu] at hp; cases hp
    | some D =>
    rw [hu] at hp ht
    cases D <;> try (cases hp; done)
    case bool =>
      split at ht <;> first | (cases ht; done) | skip
      all_goals first | (rename_i e1; cases e1; done) | skip
      rename_i b e1
      exact lays_one (fun φ => .bool _) (fun rd => by unfold OkV; rw [hu]; exact ⟨_, rfl⟩)
    case int k =>
      split at ht <;> first | (cases ht; done) | skip
      all_goals first | (rename_i e1; cases e1; done) | skip
      rename_i k1 k2 x e1
      cases e1
      split at ht
      · rename_i hk
        obtain ⟨rfl, hw⟩ := hk
        exact lays_one (fun φ => .int _ _) (fun rd => by unfold OkV; rw [hu]; exact ⟨_, rfl, hw⟩)
      · cases ht
    case string =>
      split at ht <;> first | (cases ht; done) | skip
      all_goals first | (rename_i e1; cases e1; done) | skip
      rename_i x e1
      split at ht
      · cases ht
        obtain ⟨⟨x⟩⟩ := x
        exact lays_one (fun φ => .str _) (fun rd => by unfold OkV; rw [hu]; exact ⟨_, rfl, by simpa [small] using hs⟩)
      · cases ht
    case slice e =>
      rw [Bool.and_eq_true, decide_eq_true_eq] at hp
      obtain ⟨hes, hp⟩ := hp
      split at ht <;> first | (cases ht; done) | skip
      all_goals first | (rename_i e1; cases e1; done) | skip
      · exact lays_one (fun φ => .nils) (fun rd => by unfold OkV; rw [hu]; exact .inl rfl)
      rename_i e' a len cap e1
      cases e1
      split at ht
      · rename_i hc
        simp only [if_true] at ht
        rw [Option.bind_eq_some_iff] at ht
        obtain ⟨elems, he, ht⟩ := ht
        rw [Option.map_eq_some_iff] at ht
        obtain ⟨rest, hr, heq⟩ := ht
        cases heq
        have hs' : (elems.map (·.1)).length + (rest.map (·.1)).length ≤ M ∧ smalls M (elems.map (·.1)) ∧ smalls M (rest.map (·.1)) := by simpa only [small] using hs
        obtain ⟨hs1, hs2, hs3⟩ := hs'
        have hle := mapM_some_length he
        have hlr := mapM_some_length hr
        simp only [List.length_range] at hle hlr
        simp only [List.length_map] at hs1
        have hel : ∀ i, i < cap → ∃ ci x, w.cells? 0 (a.add (i * P.cellsOf e)) (P.cellsOf e) = some ci ∧ DataW.trod enc P w 0 (fun _ => true) true n e ci = some x ∧ small M x.1 := by
          intro i hi
          rcases Nat.lt_or_ge i len with h1 | h1
          · have h2 := mapM_some_get he i i (by simp [h1])
            rw [List.getElem?_eq_getElem (by omega : i < elems.length), Option.bind_eq_some_iff] at h2
            obtain ⟨ci, h3, h4⟩ := h2
            exact ⟨ci, _, h3, h4, smalls_get hs2 (i := i) (by simp [List.getElem?_eq_getElem (by omega : i < elems.length)])⟩
          · have h2 := mapM_some_get hr (i - len) (i - len) (by rw [List.getElem?_range (by omega)])
            rw [List.getElem?_eq_getElem (by omega : i - len < rest.length), Option.bind_eq_some_iff] at h2
            obtain ⟨ci, h3, h4⟩ := h2
            rw [show len + (i - len) = i from by omega] at h3
            exact ⟨ci, _, h3, h4, smalls_get hs3 (i := i - len) (by simp [List.getElem?_eq_getElem (by omega : i - len < rest.length)])⟩
        rcases Nat.eq_zero_or_pos cap with hz | hcap
        · subst hz
          have hl0 : len = 0 := by omega
          subst hl0
          intro h φ s ff al
          refine ⟨φ, h.ro [], [.sl h.next 0 0 (some 0) (P.cellsOf e)], Grow.ro h [], al.ro [], Phi.le.refl φ, sim_ro0 s ff al [], fun k hk => ff k (by have : h.next + 1 ≤ k := hk; omega), ?_, ?_⟩
          · exact .cons (.sl (g := a.block) (base := 0) (sz := 0) (.inr ⟨rfl, rfl⟩) (.inr ⟨rfl, rfl⟩) (Nat.le_refl _) (CapIs.is _) (.inr rfl)) .nil
          · unfold OkV
            rw [hu]
            exact .inr ⟨h.next, 0, 0, [], rfl, Nat.le_refl _, Nat.zero_le _, read_ro_new h [], by simp, fun i hi => by omega⟩
        · obtain ⟨c0, x0, g0, _, _⟩ := hel 0 hcap
          obtain ⟨k0, k1⟩ := cells_spec g0
          have k2 := k1 0 hes
          rw [List.getElem?_eq_getElem (by omega)] at k2
          obtain ⟨arr, t0, lo0, hi0, m1, m2, m3⟩ := cell_some k2
          obtain ⟨g, off, sp⟩ := a
          have hsp : sp = none := by simpa [Addr.add] using m2
          subst hsp
          have hheap : w.heap[g]? = some (.cells arr t0 (lo0, hi0)) := by simpa [Addr.add] using m1
          have hpiece : ∀ i, i < cap → off + i * P.cellsOf e + P.cellsOf e ≤ arr.size ∧ Lays P M w N e ((((arr.toList.drop off).take (cap * P.cellsOf e)).drop (i * P.cellsOf e)).take (P.cellsOf e)) := by
            intro i hi
            obtain ⟨ci, x, q1, q2, q3⟩ := hel i hi
            obtain ⟨r1, r2⟩ := cells_spec q1
            have r3 : ∀ j, j < P.cellsOf e → arr[off + i * P.cellsOf e + j]? = ci[j]? := by
              intro j hj
              rw [← r2 j hj, add_addr, add_addr, cell_of_row w _ _ _ _ _ hheap]
            have hfit : off + i * P.cellsOf e + P.cellsOf e ≤ arr.size := by
              have := r3 (P.cellsOf e - 1) (by omega)
              rw [List.getElem?_eq_getElem (by omega)] at this
              have := (Array.getElem?_eq_some_iff.1 this).1
              omega
            refine ⟨hfit, ?_⟩
            have h1 : (i + 1) * P.cellsOf e ≤ cap * P.cellsOf e := Nat.mul_le_mul_right _ (by omega)
            rw [Nat.add_mul, Nat.one_mul] at h1
            have e2 : (((arr.toList.drop off).take (cap * P.cellsOf e)).drop (i * P.cellsOf e)).take (P.cellsOf e) = ci := by
              apply List.ext_getElem?
              intro j
              rw [List.getElem?_take]
              split
              · rename_i hj
                rw [List.getElem?_drop, List.getElem?_take, if_pos (by omega), List.getElem?_drop, ← r3 j hj, ← Nat.add_assoc]
                simp
              · rename_i hj
                rw [List.getElem?_eq_none (by omega)]
            rw [e2]
            exact ih n e ci x.1 x.2 q2 hp q3 (K.slice hT hu)
          have hend : off + cap * P.cellsOf e ≤ arr.size := by
            have h1 := (hpiece (cap - 1) (by omega)).1
            have h2 : (cap - 1 + 1) * P.cellsOf e = cap * P.cellsOf e := by congr 1; omega
            rw [Nat.add_mul, Nat.one_mul] at h2
            omega
          intro h φ s ff al
          obtain ⟨φ1, h1, vs, g1, a1, le1, s1, ff1, r1, o1⟩ := lays_row (n := N) (l := (arr.toList.drop off).take (cap * P.cellsOf e)) (c := cap) (es := P.cellsOf e) (by simp; omega) (fun i hi => (hpiece i hi).2) h φ s ff al
          have hvl : vs.length = cap * P.cellsOf e := by rw [r1.length]; simp; omega
          have hcells : Cells φ1 w (g, off, arr.size) vs := ⟨arr, t0, lo0, hi0, hheap, rfl, trivial, by simp only [hvl]; exact hend, by simp only [hvl]; exact r1⟩
          refine ⟨φ1.with h1.next (g, off, arr.size), h1.ro vs, [.sl h1.next 0 len (some cap) (P.cellsOf e)], g1.trans (Grow.ro h1 vs), a1.ro vs, le1.trans (Phi.le_with (ff1 _ (Nat.le_refl _))), sim_ro s1 ff1 a1 hcells, fun k hk => ?_, ?_, ?_⟩
          · have hk' : h1.next + 1 ≤ k := hk
            rw [Phi.with_ne _ _ (by omega)]
            exact ff1 k (by omega)
          · exact .cons (.sl (.inl (Phi.with_at _ _ _)) (.inl (by simp)) hc.2.1 (CapIs.is _) (.inl (by omega))) .nil
          · unfold OkV
            rw [hu]
            exact .inr ⟨h1.next, len, cap, vs, rfl, hc.2.1, by omega, read_ro_new h1 vs, hvl, fun i hi => (o1 i hi).mono fun b l hr => (Grow.ro h1 vs).read s1.wf hr⟩
      · cases ht
    case struct fs =>
      obtain ⟨hTf, hsum, hoff⟩ := K.struct hT hu
      simp only at ht
      split at ht
      · rename_i hlen
        rw [Option.map_eq_some_iff] at ht
        obtain ⟨xs, hx, heq⟩ := ht
        cases heq
        have hs' : smalls M (xs.map (·.1)) := by simpa only [small] using hs
        have hxl := mapM_some_length hx
        rw [List.all_eq_true] at hp
        intro h φ s ff al
        obtain ⟨φ1, h1, vss, g1, a1, le1, s1, ff1, r1, l1, m1, o1⟩ := lays_list (n := N) (M := M) (fs.toList.map fun f => (f.type, (cs.drop f.offset).take (P.cellsOf f.type))) (fun p hp' => by
          obtain ⟨f, hf, rfl⟩ := List.mem_map.1 hp'
          obtain ⟨j, hj⟩ := List.mem_iff_getElem?.1 hf
          have h2 := mapM_some_get hx j f hj
          have hjl : j < xs.length := by rw [hxl]; exact (List.getElem?_eq_some_iff.1 hj).1
          rw [List.getElem?_eq_getElem hjl] at h2
          exact ih n f.type _ _ _ h2 (hp f hf) (smalls_get hs' (i := j) (by simp [List.getElem?_eq_getElem hjl])) (hTf f hf)) h φ s ff al
        have hflat : ((fs.toList.map fun f => (f.type, (cs.drop f.offset).take (P.cellsOf f.type))).map (·.2)).flatten = cs := by
          rw [List.map_map]
          have := flatten_fields cs (fun f : Field => P.cellsOf f.type) (·.offset) fs.toList 0 (fun j f hf => by rw [Nat.zero_add]; exact hoff j f hf)
          rw [show ((fun x : TypeId × List Value => x.2) ∘ fun f : Field => (f.type, (cs.drop f.offset).take (P.cellsOf f.type))) = fun f => (cs.drop f.offset).take (P.cellsOf f.type) from rfl, this]
          rw [List.drop_zero, ← hsum, ← hlen, List.take_length]
        rw [hflat] at r1
        refine ⟨φ1, h1, vss.flatten, g1, a1, le1, s1, ff1, r1, ?_⟩
        unfold OkV
        rw [hu]
        refine ⟨by rw [r1.length, hlen], fun f hf => ?_⟩
        obtain ⟨j, hj⟩ := List.mem_iff_getElem?.1 hf
        obtain ⟨vs, hvs, ho⟩ := o1 j f.type ((cs.drop f.offset).take (P.cellsOf f.type)) (by simp only [List.getElem?_map, hj, Option.map_some])
        have hmap : vss.map List.length = fs.toList.map fun f => P.cellsOf f.type := by
          rw [m1, List.map_map]
          apply List.ext_getElem?
          intro k
          rw [List.getElem?_map, List.getElem?_map]
          cases hk : fs.toList[k]? with
          | none => rfl
          | some fk =>
            simp only [Option.map_some, Function.comp]
            have h3 := hoff k fk hk
            have h4 := sum_take_le (fs.toList.map fun f => P.cellsOf f.type) k (P.cellsOf fk.type) (by rw [List.getElem?_map, hk]; rfl)
            rw [← List.map_take, ← h3, ← hsum, ← hlen] at h4
            simp
            omega
        have hvl : vs.length = P.cellsOf f.type := by
          have : (vss.map List.length)[j]? = some vs.length := by rw [List.getElem?_map, hvs]; rfl
          rw [hmap, List.getElem?_map, hj] at this
          simpa using this.symm
        have h5 := part_flatten vss j vs hvs
        rw [List.map_take, hmap, ← List.map_take, ← hoff j f hj, hvl] at h5
        rw [h5]
        exact ho
      · cases ht
    case array m e =>
      obtain ⟨hTe, hsz⟩ := K.array hT hu
      simp only at ht
      split at ht
      · rename_i hlen
        rw [Option.map_eq_some_iff] at ht
        obtain ⟨xs, hx, heq⟩ := ht
        cases heq
        have hs' : smalls M (xs.map (·.1)) := by simpa only [small] using hs
        have hxl := mapM_some_length hx
        simp only [List.length_range] at hxl
        intro h φ s ff al
        obtain ⟨φ1, h1, vs, g1, a1, le1, s1, ff1, r1, o1⟩ := lays_row (n := N) (M := M) (t := e) (l := cs) (c := m) (es := P.cellsOf e) (by rw [hlen, hsz]) (fun i hi => by
          have h2 := mapM_some_get hx i i (by simp [hi])
          rw [List.getElem?_eq_getElem (by omega : i < xs.length)] at h2
          exact ih n e _ _ _ h2 hp (smalls_get hs' (i := i) (by simp [List.getElem?_eq_getElem (by omega : i < xs.length)])) hTe) h φ s ff al
        refine ⟨φ1, h1, vs, g1, a1, le1, s1, ff1, r1, ?_⟩
        unfold OkV
        rw [hu]
        exact ⟨by rw [r1.length, hlen], o1⟩
      · cases ht
end Go.Den
/- From the machine to a row: what is handed in, what comes back, what stays. -/
namespace Go.Den
open Go Go.RowKit
variable {P : Program} {w : World}

/-- a value of a type, as an argument -/
def OkA (P : Program) (rd : Rd) (M N : Nat) (t : TypeId) (v : V) : Prop :=
  match P.underlying t with
  | some (.struct _) => ∃ vs, v = .agg vs ∧ OkV P rd M N t vs
  | some (.array _ _) => ∃ vs, v = .agg vs ∧ OkV P rd M N t vs
  | _ => OkV P rd M N t [v]
theorem OkA.mono {rd rd' : Rd} {M N : Nat} (hr : ∀ b l, rd b = some l → rd' b = some l) {t : TypeId} {v : V} (h : OkA P rd M N t v) : OkA P rd' M N t v := by
  unfold OkA at h ⊢
  split at h
  · obtain ⟨vs, h1, h2⟩ := h; exact ⟨vs, h1, h2.mono hr⟩
  · obtain ⟨vs, h1, h2⟩ := h; exact ⟨vs, h1, h2.mono hr⟩
  · exact h.mono hr
theorem one_cell {v : Value} (h : ∀ cs, v ≠ .agg cs) : v.cells.toList = [v] := by
  cases v <;> first | rfl | exact absurd rfl (h _)
theorem arg_lay {M N : Nat} {A : Type} {enc : TypeId × Value → A} (hl : laidOutB P = true) {t : TypeId} (hr : P.readableRec t = true) (hrow : t < P.types.size) (hp : plainT P N t = true)
    {v : Value} {d : DataW A} {ps : List MemPlace} (ht : DataW.Trod enc P w 0 (fun _ => true) true t v d ps) (hs : small M d) {base : Nat} (hok : Value.okWide P w .any base t v) :
    ∀ h φ, Sim φ h w → FreeFrom φ h → AllRo h → ∃ φ' h' x, Grow h h' ∧ AllRo h' ∧ φ.le φ' ∧ Sim φ' h' w ∧ FreeFrom φ' h' ∧ VR φ' x v ∧ OkA P h'.read M N t x := by
  intro h φ s ff a
  obtain ⟨n, hn⟩ := ht
  obtain ⟨φ1, h1, vs, g1, a1, le1, s1, ff1, r1, o1⟩ := lays (kids_book hl hr) N n t _ _ _ hn hp hs ⟨hrow, book_self t⟩ h φ s ff a
  by_cases hag : ∃ cs, v = .agg cs
  · obtain ⟨cs, rfl⟩ := hag
    refine ⟨φ1, h1, .agg vs, g1, a1, le1, s1, ff1, ?_, ?_⟩
    · obtain ⟨cs⟩ := cs
      exact .agg (by simpa [Value.cells] using r1)
    · unfold OkA
      unfold Value.okWide at hok
      split at hok
      · rename_i hu; rw [hu]; exact ⟨vs, rfl, o1⟩
      · rename_i hu; rw [hu]; exact ⟨vs, rfl, o1⟩
      · exfalso
        unfold Cell.okWide at hok
        split at hok <;> first | (rename_i e; cases e; done) | skip
        unfold Cell.ok at hok
        split at hok <;> first | (rename_i e; cases e; done) | exact hok
  · rw [one_cell (fun cs e => hag ⟨cs, e⟩)] at r1
    cases r1 with
    | cons hv hnil =>
    cases hnil
    refine ⟨φ1, h1, _, g1, a1, le1, s1, ff1, hv, ?_⟩
    unfold OkA
    unfold Value.okWide at hok
    split at hok
    · obtain ⟨cs, e, _⟩ := hok; exact absurd ⟨cs, e⟩ hag
    · obtain ⟨cs, e, _⟩ := hok; exact absurd ⟨cs, e⟩ hag
    · rename_i h1 h2
      split
      · rename_i e; exact absurd e (h1 _)
      · rename_i e; exact absurd e (h2 _ _)
      · exact o1
theorem args_lay {M N : Nat} {A : Type} {enc : TypeId × Value → A} (hl : laidOutB P = true) {base : Nat} : ∀ (ts : List TypeId) (vs' : List Value) (ds : List (DataW A)) (ps : List MemPlace),
    (∀ t ∈ ts, P.readableRec t = true ∧ t < P.types.size ∧ plainT P N t = true) → DataW.TrodAll enc P w 0 (fun _ => true) true ts vs' ds ps → smalls M ds →
    (∀ (j : Nat) t v, ts[j]? = some t → vs'[j]? = some v → Value.okWide P w .any base t v) → ∀ h φ, Sim φ h w → FreeFrom φ h → AllRo h →
    ∃ (φ' : Phi) (h' : H) (vs : List V), Grow h h' ∧ AllRo h' ∧ φ.le φ' ∧ Sim φ' h' w ∧ FreeFrom φ' h' ∧ VRs φ' vs vs' ∧ vs.length = ts.length ∧ ∀ (j : Nat) t v, ts[j]? = some t → vs[j]? = some v → OkA P h'.read M N t v
  | [], [], [], ps, _, _, _, _, h, φ, s, ff, a => ⟨φ, h, [], Grow.refl h, a, Phi.le.refl φ, s, ff, .nil, rfl, fun j t v hj => by simp at hj⟩
  | t :: ts, v :: vs', d :: ds, ps, hts, ⟨p, q, h1, h2, _⟩, hsm, hok, h, φ, s, ff, a => by
    obtain ⟨k1, k2, k3⟩ := hts t (by simp)
    obtain ⟨φ1, m1, x, g1, a1, le1, s1, ff1, r1, o1⟩ := arg_lay hl k1 k2 k3 h1 hsm.1 (hok 0 t v (by simp) (by simp)) h φ s ff a
    obtain ⟨φ2, m2, xs, g2, a2, le2, s2, ff2, r2, l2, o2⟩ := args_lay hl ts vs' ds q (fun t ht => hts t (by simp [ht])) h2 hsm.2 (fun j t v hj hv => hok (j + 1) t v (by simpa using hj) (by simpa using hv)) m1 φ1 s1 ff1 a1
    refine ⟨φ2, m2, x :: xs, g1.trans g2, a2, le1.trans le2, s2, ff2, .cons (r1.mono le2) r2, by simp [l2], fun j t' v' hj hv => ?_⟩
    cases j with
    | zero =>
      simp at hj hv
      subst hj hv
      exact o1.mono fun b l hr => g2.read s1.wf hr
    | succ j => exact o2 j t' v' (by simpa using hj) (by simpa using hv)
  | [], _ :: _, _, _, _, h, _, _, _, _, _, _, _ => by simp [DataW.TrodAll] at h
  | _ :: _, [], _, _, _, h, _, _, _, _, _, _, _ => by simp [DataW.TrodAll] at h
  | [], [], _ :: _, _, _, h, _, _, _, _, _, _, _ => by simp [DataW.TrodAll] at h
  | _ :: _, _ :: _, [], _, _, h, _, _, _, _, _, _, _ => by simp [DataW.TrodAll] at h

theorem sim_none (hgr : GR (fun _ => none)) (w : World) : Sim (fun _ => none) H0 w := by
  have hg : ∀ b, H0.get b = none := fun b => by unfold H.get H0; exact T.get_nil b
  refine ⟨fun b x l h => ?_, fun b1 b2 x1 x2 l1 l2 _ h => ?_, ⟨fun b o h => ?_, fun b l f h => ?_⟩, fun b x h => ?_, fun b x l f h => ?_, hgr⟩
  · cases h
  · cases h
  · rw [hg] at h; cases h
  · rw [hg] at h; cases h
  · cases h
  · cases h
theorem allRo_none : AllRo H0 := fun b l f h => by
  have hg : H0.get b = none := by unfold H.get H0; exact T.get_nil b
  rw [hg] at h; cases h

/-- what a program must bring along for the machine to speak of it -/
structure ProgOk (C : Cfg) : Prop where
  mix : C.P.follows .mixedOrders = true
  names : NameOk C.P
  sim : ShortSim C
  next : ShortNext C
  good : ShortGood C
theorem nameOk_of {P : Program} (h : (P.funcs.all fun fn => !(fn.name == "runtime.NumGoroutine")) = true) : NameOk P := by
  intro f fn hf
  obtain ⟨hlt, he⟩ := Array.getElem?_eq_some_iff.1 hf
  have := Array.all_eq_true.1 h f hlt
  rw [he] at this
  simpa using this
theorem ProgOk.plain {P : Program} (hmix : P.follows .mixedOrders = true) (h : (P.funcs.all fun fn => !(fn.name == "runtime.NumGoroutine")) = true) : ProgOk { P := P, S := fun _ => none } :=
  { mix := hmix, names := nameOk_of h, sim := fun f g h => by (cases h), next := fun f g h => by (cases h), good := fun f g h => by (cases h) }
theorem ProgOk.call {C : Cfg} (ok : ProgOk C) (n : Nat) : CallSim C.P (call C n) := by
  obtain ⟨h1, h2⟩ := exec_sim ok.names (front_sim ok.mix ok.names) ok.sim ok.next ok.good n
  exact callStep_sim ok.sim h1

theorem trod_lts {A : Type} {enc : TypeId × Value → A} {ts : List TypeId} {vars : List String} {apart : Bool} {vs : List Value} {ds gs : List (DataW A)} {ps : List MemPlace} (hW : DataW.Whole enc P ts vars apart w vs ds gs ps) : ∀ p ∈ ps, p.block < w.heap.size := hW.lt

theorem trods_stay {A : Type} {enc : TypeId × Value → A} (hl : laidOutB P = true) {W W' : World} (hb : Below W.heap.size W W') : ∀ {ts : List TypeId} {vs : List Value} {ds : List (DataW A)} {ps : List MemPlace},
    (∀ t ∈ ts, P.readableRec t = true ∧ t < P.types.size) → DataW.TrodAll enc P W 0 (fun _ => true) true ts vs ds ps → (∀ p ∈ ps, p.block < W.heap.size) → DataW.TrodAll enc P W' 0 (fun b => decide (b < W.heap.size)) true ts vs ds ps
  | [], [], [], _, _, h, _ => h
  | t :: ts, v :: vs, d :: ds, ps, hts, ⟨p, q, h1, h2, e⟩, hlt => by
    subst e
    exact ⟨p, q, Below.trod hl (hts t (by simp)).1 (hts t (by simp)).2 h1 hb (fun x hx => hlt x (by simp [hx])), trods_stay hl hb (fun t ht => hts t (by simp [ht])) h2 (fun x hx => hlt x (by simp [hx])), rfl⟩
  | [], _ :: _, _, _, _, h, _ => by simp [DataW.TrodAll] at h
  | _ :: _, [], _, _, _, h, _ => by simp [DataW.TrodAll] at h
  | [], [], _ :: _, _, _, h, _ => by simp [DataW.TrodAll] at h
  | _ :: _, _ :: _, [], _, _, h, _ => by simp [DataW.TrodAll] at h
theorem trodAll_len {A : Type} {enc : TypeId × Value → A} {base : Nat} {sp : Nat → Bool} {held : Bool} : ∀ {ts : List TypeId} {vs : List Value} {ds : List (DataW A)} {ps : List MemPlace},
    DataW.TrodAll enc P w base sp held ts vs ds ps → ds.length = ts.length
  | [], [], [], _, _ => rfl
  | t :: ts, v :: vs, d :: ds, ps, ⟨p, q, h1, h2, e⟩ => by simp [trodAll_len h2]
  | [], _ :: _, _, _, h => by simp [DataW.TrodAll] at h
  | _ :: _, [], _, _, h => by simp [DataW.TrodAll] at h
  | [], [], _ :: _, _, h => by simp [DataW.TrodAll] at h
  | _ :: _, _ :: _, [], _, h => by simp [DataW.TrodAll] at h

/-- the row's contract, out of a run of the machine -/
theorem contract0 {C : Cfg} (ok : ProgOk C) (hl : laidOutB C.P = true) {A : Type} {enc : TypeId × Value → A} {s : ChangeSpec} {fn : Func} {f : FuncId} {tb : TypeId} (hres : fn.resultTypes = #[tb]) (hub : C.P.underlying tb = some .bool)
    (hvars : s.vars = []) {N M : Nat} (hts : ∀ t ∈ fn.params.toList, C.P.readableRec t = true ∧ t < C.P.types.size ∧ plainT C.P N t = true)
    (hspec : ∀ ds : List (DataW A), ds.length = fn.params.toList.length → (s.fn A ds).results = [.lit (.bool true)] ∧ (s.fn A ds).args = ds ∧ (s.fn A ds).vars = [])
    {W : World} {args : Array Value}
    {φ0 : Phi} {h0 : H} (s0 : Sim φ0 h0 W) (ff0 : FreeFrom φ0 h0) (a0 : AllRo h0)
    (run : ∀ (φ : Phi) (h : H) (vs : List V), Sim φ h W → FreeFrom φ h → AllRo h → Grow h0 h → VRs φ vs args.toList → vs.length = fn.params.toList.length → (∀ (j : Nat) t v, fn.params.toList[j]? = some t → vs[j]? = some v → OkA C.P h.read M N t v) →
      ∃ (φ' : Phi) (h1 : H) (vs' : List V) (n : Nat) (h' : H), Sim φ' h1 W ∧ FreeFrom φ' h1 ∧ AllRo h1 ∧ VRs φ' vs' args.toList ∧ call C n f vs' h1.next h1 = some (.bool true, h'))
    {base : Nat} {ds gs : List (DataW A)} {before : List MemPlace} {apart fresh handsOn : Bool}
    (hval : ∀ (j : Nat) t v, fn.params[j]? = some t → args[j]? = some v → Value.okWide C.P W .any base t v)
    (hW : DataW.Whole enc C.P fn.params.toList s.vars apart W args.toList ds gs before) (hsm : smalls M (ds ++ gs)) :
    Calls C.P f args W fun e W' => ∃ v, e = .returned v ∧ s.post enc C.P fn apart fresh handsOn false W args v W' := by
  have hlt := hW.lt
  have hW' := hW
  obtain ⟨p, q, hA, hV, rfl, hfz, hnd⟩ := hW
  rw [hvars] at hV
  obtain ⟨rfl, rfl⟩ := ChangeShapes.trodVars_none hV
  rw [List.append_nil] at hsm hlt
  obtain ⟨φ, h, vs, g, al, le, s1, ff, r, len, o⟩ := args_lay hl fn.params.toList args.toList ds p hts hA hsm (fun j t v hj hv => hval j t v (by simpa using hj) (by simpa using hv)) h0 φ0 s0 ff0 a0
  obtain ⟨φ, h, vs, n, h', s1, ff, al, r, hc⟩ := run φ h vs s1 ff al g r len o
  have hcall := ((ok.call n) f vs h.next h _ h' hc).2 (Nat.le_refl _) φ W args.toList s1 (fun k h1 _ => ff k h1) r
  rw [show args.toList.toArray = args from by simp] at hcall
  refine hcall.mono fun e W' hpost => ?_
  obtain ⟨v', φ', he, x, _, hv⟩ := hpost
  cases hv
  have hb : Below W.heap.size W W' := ⟨x.os, x.tape, x.out, x.size, fun k hk => x.keep k hk fun b y hb' ho _ => by
    obtain ⟨l, f', low, hg, _⟩ := ho
    have := s1.wf.lt _ _ hg
    omega⟩
  obtain ⟨q1, q2, q3⟩ := hspec ds (trodAll_len hA)
  refine ⟨_, he, ds, [], p ++ [], [], p, [], hW', ?_, ?_, ?_, hb.frame _, fun hc => by cases hc⟩
  · rw [List.append_nil, q1, hres]
    refine ⟨[], [], ⟨1, ?_⟩, ?_, rfl⟩
    · simp [DataW.trod, Value.cells, hub]
    · simp [DataW.TrodAll]
  · rw [List.append_nil, q2]
    exact trods_stay hl hb (fun t ht => ⟨(hts t ht).1, (hts t ht).2.1⟩) hA hlt
  · rw [List.append_nil, q3, hvars]
    rfl
theorem contract {C : Cfg} (ok : ProgOk C) (hgr : GR fun _ => none) (hl : laidOutB C.P = true) {A : Type} {enc : TypeId × Value → A} {s : ChangeSpec} {fn : Func} {f : FuncId} {tb : TypeId} (hres : fn.resultTypes = #[tb]) (hub : C.P.underlying tb = some .bool)
    (hvars : s.vars = []) {N M : Nat} (hts : ∀ t ∈ fn.params.toList, C.P.readableRec t = true ∧ t < C.P.types.size ∧ plainT C.P N t = true)
    (hspec : ∀ ds : List (DataW A), ds.length = fn.params.toList.length → (s.fn A ds).results = [.lit (.bool true)] ∧ (s.fn A ds).args = ds ∧ (s.fn A ds).vars = [])
    (run : ∀ (h : H) (vs : List V), HWF h → AllRo h → vs.length = fn.params.toList.length → (∀ (j : Nat) t v, fn.params.toList[j]? = some t → vs[j]? = some v → OkA C.P h.read M N t v) → ∃ n h', call C n f vs h.next h = some (.bool true, h'))
    {W : World} {base : Nat} {args : Array Value} {ds gs : List (DataW A)} {before : List MemPlace} {apart fresh handsOn : Bool}
    (hval : ∀ (j : Nat) t v, fn.params[j]? = some t → args[j]? = some v → Value.okWide C.P W .any base t v)
    (hW : DataW.Whole enc C.P fn.params.toList s.vars apart W args.toList ds gs before) (hsm : smalls M (ds ++ gs)) :
    Calls C.P f args W fun e W' => ∃ v, e = .returned v ∧ s.post enc C.P fn apart fresh handsOn false W args v W' :=
  contract0 ok hl hres hub hvars hts hspec (sim_none hgr W) (fun _ _ => rfl) allRo_none (fun φ h vs s1 ff al _ r len o => by
    obtain ⟨n, h', hc⟩ := run h vs s1.wf al len o
    exact ⟨φ, h, vs, n, h', s1, ff, al, r, hc⟩) hval hW hsm
end Go.Den
