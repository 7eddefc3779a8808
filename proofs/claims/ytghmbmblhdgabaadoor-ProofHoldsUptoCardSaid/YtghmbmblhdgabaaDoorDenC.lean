/- How the machine's memory stands for the model's, and that it still does behind a new block, a store, an append. -/
import Derived.Test.YtghmbmblhdgabaaDoorDenB
import Derived.Laws.Append
import Derived.Laws.AppendOwn
import Derived.Orders
set_option linter.all false
namespace Go.Den
open Go
variable {P : Program} {φ φ' : Phi} {w w' : World} {h h' : H}

def H.famOf (h : H) (b : Nat) : Option Nat := match h.get b with
  | some (.cells _ f) => f
  | _ => none
def own (h : H) (b : Nat) : Prop := ∃ l f low, h.get b = some (.cells l (some f)) ∧ h.fam f = some (b, low)
structure HWF (h : H) : Prop where
  lt : ∀ b o, h.get b = some o → b < h.next
  fam : ∀ b l f, h.get b = some (.cells l (some f)) → f ≤ b ∧ ∃ o low, h.fam f = some (o, low) ∧ b ≤ o ∧ o < h.next ∧ low ≤ o
structure Sim (φ : Phi) (h : H) (w : World) : Prop where
  at_ : ∀ b x l, φ b = some x → h.read b = some l → Cells φ w x l
  sep : ∀ b1 b2 x1 x2 l1 l2, b2 < b1 → φ b1 = some x1 → φ b2 = some x2 → h.read b1 = some l1 → h.read b2 = some l2 → x1.1 = x2.1 →
    (h.famOf b1 = none ∧ h.famOf b2 = none) ∨ (∃ f, h.famOf b1 = some f ∧ h.famOf b2 = some f ∧ x2.2.1 + l2.length ≤ x1.2.1 + l1.length)
  wf : HWF h
  bnd : ∀ b x, φ b = some x → x.1 < w.heap.size
  frz : ∀ b x l f, φ b = some x → h.get b = some (.cells l (some f)) → Clear w x.1
  gl : GR φ
structure Ext (lo : Nat) (φ : Phi) (h : H) (w : World) (φ' : Phi) (h' : H) (w' : World) : Prop where
  le : φ.le φ'
  dom : ∀ b, φ b = none → φ' b ≠ none → h.next ≤ b ∧ b < h'.next
  next : h.next ≤ h'.next
  tape : w'.tape = w.tape
  os : w'.os = w.os
  out : w'.output = w.output
  size : w.heap.size ≤ w'.heap.size
  keep : ∀ g, g < w.heap.size → (∀ b x, lo ≤ b → own h b → φ b = some x → x.1 ≠ g) → w'.heap[g]? = w.heap[g]?
  mine : ∀ b x, lo ≤ b → own h' b → φ' b = some x → w.heap.size ≤ x.1 ∨ ∃ b0 x0, lo ≤ b0 ∧ own h b0 ∧ φ b0 = some x0 ∧ x0.1 = x.1
  low : ∀ b, b < lo → own h' b → own h b
  fresh : ∀ b x, φ b = none → φ' b = some x → w.heap.size ≤ x.1 ∨ ∃ b0 x0, lo ≤ b0 ∧ own h b0 ∧ φ b0 = some x0 ∧ x0.1 = x.1
def FreeIn (φ : Phi) (a b : Nat) : Prop := ∀ k, a ≤ k → k < b → φ k = none

theorem Ext.refl (lo : Nat) (φ : Phi) (h : H) (w : World) : Ext lo φ h w φ h w :=
  ⟨Phi.le.refl φ, fun _ h1 h2 => absurd h1 h2, Nat.le_refl _, rfl, rfl, rfl, Nat.le_refl _, fun _ _ _ => rfl, fun b x hb ho hx => .inr ⟨b, x, hb, ho, hx, rfl⟩, fun _ _ h => h, fun _ _ h1 h2 => by rw [h1] at h2; cases h2⟩
theorem Ext.trans {lo : Nat} {φ1 φ2 φ3 : Phi} {h1 h2 h3 : H} {w1 w2 w3 : World} (a : Ext lo φ1 h1 w1 φ2 h2 w2) (b : Ext lo φ2 h2 w2 φ3 h3 w3) : Ext lo φ1 h1 w1 φ3 h3 w3 := by
  refine ⟨a.le.trans b.le, ?_, Nat.le_trans a.next b.next, b.tape.trans a.tape, b.os.trans a.os, b.out.trans a.out, Nat.le_trans a.size b.size, ?_, ?_, fun c hc ho => a.low c hc (b.low c hc ho), ?_⟩
  · intro c hc1 hc3
    by_cases hc2 : φ2 c = none
    · have := b.dom c hc2 hc3; have := a.next; omega
    · have := a.dom c hc1 hc2; have := b.next; omega
  · intro g hg hno
    refine (b.keep g (Nat.lt_of_lt_of_le hg a.size) ?_).trans (a.keep g hg hno)
    intro c x hc ho hx he
    rcases a.mine c x hc ho hx with h | ⟨c0, x0, h0, h1, h2, h3⟩
    · omega
    · exact hno c0 x0 h0 h1 h2 (h3.trans he)
  · intro c x hc ho hx
    rcases b.mine c x hc ho hx with h | ⟨c0, x0, h0, h1, h2, h3⟩
    · left; have := a.size; omega
    · rcases a.mine c0 x0 h0 h1 h2 with h | ⟨c1, x1, g0, g1, g2, g3⟩
      · left; omega
      · exact .inr ⟨c1, x1, g0, g1, g2, g3.trans h3⟩
  · intro c x hc1 hc3
    cases hc2 : φ2 c with
    | some y =>
      have := b.le _ _ hc2
      rw [hc3] at this
      cases this
      exact a.fresh c x hc1 hc2
    | none =>
      rcases b.fresh c x hc2 hc3 with h | ⟨c0, x0, h0, h1, h2, h3⟩
      · left; have := a.size; omega
      · rcases a.mine c0 x0 h0 h1 h2 with h | ⟨c1, x1, g0, g1, g2, g3⟩
        · left; omega
        · exact .inr ⟨c1, x1, g0, g1, g2, g3.trans h3⟩
/-- under a higher barrier less may turn -/
theorem Ext.lower {lo lo' : Nat} (hl : lo ≤ lo') (wf : HWF h) (a : Ext lo' φ h w φ' h' w') : Ext lo φ h w φ' h' w' := by
  refine ⟨a.le, a.dom, a.next, a.tape, a.os, a.out, a.size, fun g hg hno => a.keep g hg fun b x hb => hno b x (Nat.le_trans hl hb), ?_, fun b hb => a.low b (Nat.lt_of_lt_of_le hb hl), fun b x h1 h2 => (a.fresh b x h1 h2).imp id fun ⟨b0, x0, g0, g⟩ => ⟨b0, x0, Nat.le_trans hl g0, g⟩⟩
  intro b x hb ho hx
  rcases Nat.lt_or_ge b lo' with h1 | h1
  · have ho' := a.low b h1 ho
    have hlt : b < h.next := by
      obtain ⟨l, f, lw, hg, _⟩ := ho'
      exact wf.lt _ _ hg
    cases hφ : φ b with
    | none => have := a.dom b hφ (by rw [hx]; simp); omega
    | some x0 =>
      have := a.le _ _ hφ
      rw [hx] at this
      cases this
      exact .inr ⟨b, x, hb, ho', hφ, rfl⟩
  · rcases a.mine b x h1 ho hx with h | ⟨b0, x0, g0, g1, g2, g3⟩
    · exact .inl h
    · exact .inr ⟨b0, x0, Nat.le_trans hl g0, g1, g2, g3⟩

theorem Cells.lt {x : Nat × Nat × Nat} {l : List V} (hc : Cells φ w x l) : x.1 < w.heap.size := by
  obtain ⟨arr, t, lo, hi, hh, _⟩ := hc
  rcases Nat.lt_or_ge x.1 w.heap.size with h1 | h1
  · exact h1
  · rw [Array.getElem?_eq_none h1] at hh; cases hh
theorem Cells.mono {x : Nat × Nat × Nat} {l : List V} (hc : Cells φ w x l) (hl : φ.le φ') (hw : w'.heap[x.1]? = w.heap[x.1]?) : Cells φ' w' x l := by
  obtain ⟨arr, t, lo, hi, h1, h2, h3, h4, h5⟩ := hc
  exact ⟨arr, t, lo, hi, hw.trans h1, h2, h3, h4, h5.mono hl⟩

/-! ### what may be read -/
theorem read_some {b : Nat} {l : List V} (hr : h.read b = some l) :
    h.get b = some (.cells l none) ∨ ∃ f o low, h.get b = some (.cells l (some f)) ∧ h.fam f = some (o, low) ∧ low ≤ b := by
  unfold H.read at hr
  split at hr
  · rename_i l' hg; cases hr; exact .inl hg
  · rename_i l' f hg
    split at hr
    · rename_i o low hf
      split at hr
      · rename_i hle; cases hr; exact .inr ⟨f, o, low, hg, hf, hle⟩
      · cases hr
    · cases hr
  · cases hr
theorem read_ro {b : Nat} {l : List V} (hg : h.get b = some (.cells l none)) : h.read b = some l := by unfold H.read; rw [hg]
theorem read_fam {b f o low : Nat} {l : List V} (hg : h.get b = some (.cells l (some f))) (hf : h.fam f = some (o, low)) : h.read b = if low ≤ b then some l else none := by
  unfold H.read; rw [hg]; simp only [hf]
theorem famOf_of {b : Nat} {l : List V} {f : Option Nat} (hg : h.get b = some (.cells l f)) : h.famOf b = f := by unfold H.famOf; rw [hg]
theorem owned_some {lo b f low : Nat} {l : List V} (ho : h.owned lo b = some (l, f, low)) : h.get b = some (.cells l (some f)) ∧ h.fam f = some (b, low) ∧ lo ≤ b := by
  unfold H.owned at ho
  split at ho
  · rename_i l' f' hg
    split at ho
    · rename_i o lw hf
      split at ho
      · rename_i he
        split at ho
        · rename_i hle; cases ho; subst he; exact ⟨hg, hf, hle.1⟩
        · cases ho
      · cases ho
    · cases ho
  · cases ho
theorem owned_fam {lo b f low : Nat} {l : List V} (ho : h.owned lo b = some (l, f, low)) : lo ≤ f := by
  unfold H.owned at ho
  split at ho
  · split at ho
    · split at ho
      · split at ho
        · rename_i hle; cases ho; exact hle.2
        · cases ho
      · cases ho
    · cases ho
  · cases ho
theorem owned_read {lo b f low : Nat} {l : List V} (wf : HWF h) (ho : h.owned lo b = some (l, f, low)) : h.read b = some l := by
  obtain ⟨hg, hf, _⟩ := owned_some ho
  rw [read_fam hg hf]
  obtain ⟨_, o, lw, h1, _, _, h4⟩ := wf.fam _ _ _ hg
  rw [hf] at h1
  cases h1
  rw [if_pos h4]
theorem own_of_owned {lo b f low : Nat} {l : List V} (ho : h.owned lo b = some (l, f, low)) : own h b := by
  obtain ⟨hg, hf, _⟩ := owned_some ho
  exact ⟨l, f, low, hg, hf⟩

/-! ### a new block -/
theorem get_alloc (h : H) (l : List V) (b : Nat) : (h.alloc l).get b = if b = h.next then some (.cells l (some h.next)) else h.get b := by
  unfold H.alloc H.get; exact T.get_set _ _ _ _
theorem fam_alloc (h : H) (l : List V) (f : Nat) : (h.alloc l).fam f = if f = h.next then some (h.next, h.next) else h.fam f := by
  unfold H.alloc H.fam; exact T.get_set _ _ _ _
theorem HWF.next_none (wf : HWF h) : h.get h.next = none := by
  cases hg : h.get h.next with
  | none => rfl
  | some o => exact absurd (wf.lt _ _ hg) (Nat.lt_irrefl _)
theorem read_alloc (wf : HWF h) (l : List V) (b : Nat) : (h.alloc l).read b = if b = h.next then some l else h.read b := by
  by_cases hb : b = h.next
  · subst hb
    rw [if_pos rfl, read_fam (l := l) (f := h.next) (o := h.next) (low := h.next) (by rw [get_alloc, if_pos rfl]) (by rw [fam_alloc, if_pos rfl]), if_pos (Nat.le_refl _)]
  · rw [if_neg hb]
    have hg : (h.alloc l).get b = h.get b := by rw [get_alloc, if_neg hb]
    unfold H.read
    rw [hg]
    split
    · rfl
    · rename_i l' f hg'
      have hlt := wf.lt _ _ hg'
      have hf := (wf.fam _ _ _ hg').1
      rw [fam_alloc, if_neg (by omega)]
    · rfl
theorem HWF.alloc (wf : HWF h) (l : List V) : HWF (h.alloc l) := by
  have hn : (h.alloc l).next = h.next + 1 := rfl
  refine ⟨fun b o hg => ?_, fun b l' f hg => ?_⟩
  · rw [get_alloc] at hg
    split at hg
    · rename_i hb; rw [hn]; omega
    · have := wf.lt _ _ hg; rw [hn]; omega
  · rw [get_alloc] at hg
    split at hg
    · rename_i hb
      cases hg
      exact ⟨by omega, h.next, h.next, by rw [fam_alloc, if_pos rfl], by omega, by rw [hn]; omega, Nat.le_refl _⟩
    · rename_i hb
      obtain ⟨h1, o, low, h2, h3, h4, h5⟩ := wf.fam _ _ _ hg
      have hlt := wf.lt _ _ hg
      exact ⟨h1, o, low, by rw [fam_alloc, if_neg (by omega)]; exact h2, h3, by rw [hn]; omega, h5⟩
theorem own_alloc (wf : HWF h) {l : List V} {b : Nat} (ho : own (h.alloc l) b) : b = h.next ∨ own h b := by
  obtain ⟨l', f, low, hg, hf⟩ := ho
  rw [get_alloc] at hg
  split at hg
  · exact .inl ‹_›
  · have hlt := wf.lt _ _ hg
    have := (wf.fam _ _ _ hg).1
    rw [fam_alloc, if_neg (by omega)] at hf
    exact .inr ⟨l', f, low, hg, hf⟩
def Phi.with (φ : Phi) (b : Nat) (x : Nat × Nat × Nat) : Phi := fun c => if c = b then some x else φ c
theorem Phi.le_with {φ : Phi} {b : Nat} {x : Nat × Nat × Nat} (hn : φ b = none) : φ.le (φ.with b x) := by
  intro c y hy
  unfold Phi.with
  rw [if_neg (fun e => by subst e; rw [hn] at hy; cases hy)]
  exact hy
theorem Phi.with_at (φ : Phi) (b : Nat) (x : Nat × Nat × Nat) : φ.with b x b = some x := by unfold Phi.with; rw [if_pos rfl]
theorem Phi.with_ne (φ : Phi) {b c : Nat} (x : Nat × Nat × Nat) (hne : c ≠ b) : φ.with b x c = φ c := by unfold Phi.with; rw [if_neg hne]

theorem heap_push_old {o : Go.Obj} (hh : w'.heap = w.heap.push o) {g : Nat} (hg : g < w.heap.size) : w'.heap[g]? = w.heap[g]? := by
  rw [hh, Array.getElem?_push, if_neg (by omega)]
theorem sim_alloc (s : Sim φ h w) (hn : φ h.next = none) {l : List V} {arr : Array Value} {t : TypeId} {lo0 hi0 : Nat} (hh : w'.heap = w.heap.push (.cells arr t (lo0, hi0)))
    (ht : w'.tape = w.tape) (hos : w'.os = w.os) (hu : w'.output = w.output) (hl : l.length ≤ arr.size) (hf : lo0 = hi0 ∨ arr.size ≤ lo0) (hr : VRs φ l (arr.toList.take l.length))
    {lo : Nat} (hlo : lo ≤ h.next) :
    Sim (φ.with h.next (w.heap.size, 0, arr.size)) (h.alloc l) w' ∧ Ext lo φ h w (φ.with h.next (w.heap.size, 0, arr.size)) (h.alloc l) w' := by
  have hle : φ.le (φ.with h.next (w.heap.size, 0, arr.size)) := Phi.le_with hn
  have hs : w'.heap.size = w.heap.size + 1 := by rw [hh]; simp
  refine ⟨⟨?_, ?_, s.wf.alloc l, ?_, ?_, s.gl.mono hle⟩, ⟨hle, ?_, by show h.next ≤ h.next + 1; omega, ht, hos, hu, by omega, fun g hg _ => heap_push_old hh hg, ?_, ?_, ?_⟩⟩
  · intro b x l' hb hrd
    rw [read_alloc s.wf] at hrd
    by_cases hbn : b = h.next
    · rw [if_pos hbn] at hrd
      cases hrd
      rw [hbn, Phi.with_at] at hb
      cases hb
      exact ⟨arr, t, lo0, hi0, by rw [hh]; simp, rfl, trivial, by simpa using hl, by simpa using hr.mono hle⟩
    · rw [if_neg hbn] at hrd
      rw [Phi.with_ne _ _ hbn] at hb
      have hc := s.at_ _ _ _ hb hrd
      exact hc.mono hle (heap_push_old hh hc.lt)
  · intro b1 b2 x1 x2 l1 l2 hlt hb1 hb2 hr1 hr2 he
    rw [read_alloc s.wf] at hr1 hr2
    by_cases hn1 : b1 = h.next
    · rw [hn1, Phi.with_at] at hb1
      cases hb1
      rw [if_neg (by omega)] at hr2
      rw [Phi.with_ne _ _ (by omega)] at hb2
      have := (s.at_ _ _ _ hb2 hr2).lt
      simp only at he
      omega
    · by_cases hn2 : b2 = h.next
      · rw [hn2, Phi.with_at] at hb2
        cases hb2
        rw [if_neg hn1] at hr1
        rw [Phi.with_ne _ _ hn1] at hb1
        have := (s.at_ _ _ _ hb1 hr1).lt
        simp only at he
        omega
      · rw [if_neg hn1] at hr1
        rw [if_neg hn2] at hr2
        rw [Phi.with_ne _ _ hn1] at hb1
        rw [Phi.with_ne _ _ hn2] at hb2
        have e : ∀ b, b ≠ h.next → (h.alloc l).famOf b = h.famOf b := fun b hb => by unfold H.famOf; rw [get_alloc, if_neg hb]
        rw [e _ hn1, e _ hn2]
        exact s.sep _ _ _ _ _ _ hlt hb1 hb2 hr1 hr2 he
  · intro b x hb
    by_cases hbn : b = h.next
    · rw [hbn, Phi.with_at] at hb; cases hb; simp only; omega
    · rw [Phi.with_ne _ _ hbn] at hb; have := s.bnd _ _ hb; omega
  · intro b x l' f hb hg
    rw [get_alloc] at hg
    by_cases hbn : b = h.next
    · rw [hbn, Phi.with_at] at hb; cases hb; exact Clear.of (arr := arr) (t := t) (lo := lo0) (hi := hi0) (by rw [hh]; simp) hf
    · rw [if_neg hbn] at hg
      rw [Phi.with_ne _ _ hbn] at hb
      exact (s.frz _ _ _ _ hb hg).mono (heap_push_old hh (s.bnd _ _ hb))
  · intro b h1 h2
    by_cases hbn : b = h.next
    · subst hbn; exact ⟨Nat.le_refl _, Nat.lt_succ_self _⟩
    · rw [Phi.with_ne _ _ hbn] at h2; exact absurd h1 h2
  · intro b x hb ho hx
    rcases own_alloc s.wf ho with h1 | h1
    · rw [h1, Phi.with_at] at hx; cases hx; exact .inl (Nat.le_refl _)
    · have hlt : b < h.next := by obtain ⟨_, _, _, hg, _⟩ := h1; exact s.wf.lt _ _ hg
      rw [Phi.with_ne _ _ (by omega)] at hx
      exact .inr ⟨b, x, hb, h1, hx, rfl⟩
  · intro b hb ho
    exact (own_alloc s.wf ho).resolve_left (by omega)
  · intro b x h1 h2
    by_cases hbn : b = h.next
    · rw [hbn, Phi.with_at] at h2; cases h2; exact .inl (Nat.le_refl _)
    · rw [Phi.with_ne _ _ hbn, h1] at h2; cases h2

/-- what a light operation leaves -/
theorem light_sim {r : LR} {v' : Value} (hl : LightRes φ w r v' w') (s : Sim φ h w) {v : V} {lo : Nat} (hlo : lo ≤ h.next) (hk : keep h (some r) = some (v, h')) (hn : FreeIn φ h.next h'.next) :
    ∃ φ', Ext lo φ h w φ' h' w' ∧ Sim φ' h' w' ∧ VR φ' v v' := by
  cases hl with
  | val hv =>
    cases hk
    exact ⟨φ, Ext.refl _ _ _ _, s, hv⟩
  | new arr t lo0 hi0 hh ht ho hu hl hf hr hk' =>
    cases hk
    have hn' : φ h.next = none := hn _ (Nat.le_refl _) (Nat.lt_succ_self _)
    obtain ⟨h1, h2⟩ := sim_alloc s hn' hh ht ho hu hl hf hr hlo
    refine ⟨_, h2, h1, ?_⟩
    cases hk' with
    | ptr => exact .ptr (o := 0) (Phi.with_at _ _ _)
    | sl hn hc hr => exact .sl (.inl (Phi.with_at _ _ _)) (.inl rfl) hn hc (.inl (by simpa using hr))
end Go.Den
/- Memory, continued: a store, an append, a mark. -/
namespace Go.Den
open Go
variable {P : Program} {φ φ' : Phi} {w w' : World} {h h' : H}

/-! ### a store into a block of its own -/
theorem get_put (h : H) (b f : Nat) (l : List V) (c : Nat) : (h.put b f l).get c = if c = b then some (.cells l (some f)) else h.get c := by
  unfold H.put H.get; exact T.get_set _ _ _ _
theorem fam_put (h : H) (b f : Nat) (l : List V) (g : Nat) : (h.put b f l).fam g = if g = f then some (b, b) else h.fam g := by
  unfold H.put H.fam; exact T.get_set _ _ _ _
section put
variable {b f low : Nat} {l l' : List V}
theorem HWF.put (wf : HWF h) (hg : h.get b = some (.cells l (some f))) (hf : h.fam f = some (b, low)) (l' : List V) : HWF (h.put b f l') := by
  have hlt := wf.lt _ _ hg
  have hfb := (wf.fam _ _ _ hg).1
  refine ⟨fun c o hc => ?_, fun c l2 f2 hc => ?_⟩
  · rw [get_put] at hc
    split at hc
    · rename_i e; subst e; exact hlt
    · exact wf.lt _ _ hc
  · rw [get_put] at hc
    split at hc
    · rename_i e
      cases hc
      subst e
      exact ⟨hfb, c, c, by rw [fam_put, if_pos rfl], Nat.le_refl _, hlt, Nat.le_refl _⟩
    · obtain ⟨h1, o, lw, h2, h3, h4, h5⟩ := wf.fam _ _ _ hc
      refine ⟨h1, ?_⟩
      by_cases e : f2 = f
      · subst e
        rw [hf] at h2
        cases h2
        exact ⟨b, b, by rw [fam_put, if_pos rfl], h3, hlt, Nat.le_refl _⟩
      · exact ⟨o, lw, by rw [fam_put, if_neg e]; exact h2, h3, h4, h5⟩
/-- what may be read behind the store: the block itself; of its family nothing else -/
theorem read_put (wf : HWF h) (hg : h.get b = some (.cells l (some f))) (hf : h.fam f = some (b, low)) {c : Nat} {l2 : List V} (hr : (h.put b f l').read c = some l2) :
    (c = b ∧ l2 = l') ∨ (c ≠ b ∧ h.read c = some l2 ∧ h.famOf c ≠ some f) := by
  rcases read_some hr with hg2 | ⟨f2, o, lw, hg2, hf2, hle⟩
  · rw [get_put] at hg2
    split at hg2
    · cases hg2
    · rename_i e
      exact .inr ⟨e, read_ro hg2, by rw [famOf_of hg2]; simp⟩
  · rw [get_put] at hg2
    split at hg2
    · rename_i e; cases hg2; exact .inl ⟨e, rfl⟩
    · rename_i e
      rw [fam_put] at hf2
      split at hf2
      · rename_i ef
        cases hf2
        subst ef
        obtain ⟨_, o, lw, h2, h3, _⟩ := wf.fam _ _ _ hg2
        rw [hf] at h2
        cases h2
        omega
      · rename_i ef
        refine .inr ⟨e, ?_, by rw [famOf_of hg2]; simpa using ef⟩
        rw [read_fam hg2 hf2, if_pos hle]
theorem own_put (hf : h.fam f = some (b, low)) (hg : h.get b = some (.cells l (some f))) {c : Nat} (ho : own (h.put b f l') c) : own h c := by
  obtain ⟨l2, f2, lw, hg2, hf2⟩ := ho
  rw [get_put] at hg2
  split at hg2
  · rename_i e; subst e; exact ⟨l, f, low, hg, hf⟩
  · rename_i e
    rw [fam_put] at hf2
    split at hf2
    · cases hf2; exact absurd rfl e
    · exact ⟨l2, f2, lw, hg2, hf2⟩
theorem famOf_put (hg : h.get b = some (.cells l (some f))) (c : Nat) : (h.put b f l').famOf c = h.famOf c := by
  by_cases e : c = b
  · subst e; rw [famOf_of hg, famOf_of (l := l') (by rw [get_put, if_pos rfl])]
  · unfold H.famOf; rw [get_put, if_neg e]
/-- the same place in two numbers: one family -/
theorem Sim.same (s : Sim φ h w) {c x1 x2} {l1 l2 : List V} (hne : c ≠ b) (hc : φ c = some x1) (hb : φ b = some x2) (hr1 : h.read c = some l1) (hr2 : h.read b = some l2) (he : x1.1 = x2.1) (hfb : h.famOf b = some f) :
    h.famOf c = some f := by
  rcases Nat.lt_or_ge b c with hlt | hge
  · rcases s.sep _ _ _ _ _ _ hlt hc hb hr1 hr2 he with ⟨_, h2⟩ | ⟨f', h1, h2, _⟩
    · rw [hfb] at h2; cases h2
    · rw [hfb] at h2; cases h2; exact h1
  · rcases s.sep _ _ _ _ _ _ (by omega : c < b) hb hc hr2 hr1 he.symm with ⟨h1, _⟩ | ⟨f', h1, h2, _⟩
    · rw [hfb] at h1; cases h1
    · rw [hfb] at h1; cases h1; exact h2
theorem sim_put (s : Sim φ h w) {lo : Nat} (ho : h.owned lo b = some (l, f, low)) {x : Nat × Nat × Nat} (hx : φ b = some x) (hlen : l'.length = l.length)
    (hc : Cells φ w' x l') (hclr : Clear w' x.1) (hw : ∀ g, g ≠ x.1 → w'.heap[g]? = w.heap[g]?) (hs : w'.heap.size = w.heap.size) (ht : w'.tape = w.tape) (hos : w'.os = w.os) (hu : w'.output = w.output) :
    Sim φ (h.put b f l') w' ∧ Ext lo φ h w φ (h.put b f l') w' := by
  obtain ⟨hg, hf, hlo⟩ := owned_some ho
  have hrb := owned_read s.wf ho
  have hob := own_of_owned ho
  refine ⟨⟨?_, ?_, s.wf.put hg hf l', fun b x hb => by rw [hs]; exact s.bnd b x hb, ?_, s.gl⟩, ⟨Phi.le.refl φ, fun _ h1 h2 => absurd h1 h2, Nat.le_refl _, ht, hos, hu, by omega, ?_, ?_, fun c _ hc => own_put hf hg hc, fun _ _ h1 h2 => by rw [h1] at h2; cases h2⟩⟩
  · intro c y l2 hy hr
    rcases read_put s.wf hg hf hr with ⟨rfl, rfl⟩ | ⟨e, hr', hnf⟩
    · rw [hx] at hy; cases hy; exact hc
    · refine (s.at_ _ _ _ hy hr').mono (Phi.le.refl φ) (hw _ fun he => hnf ?_)
      exact s.same e hy hx hr' hrb he (famOf_of hg)
  · intro b1 b2 x1 x2 l1 l2 hlt hb1 hb2 hr1 hr2 he
    rw [famOf_put hg, famOf_put hg]
    rcases read_put s.wf hg hf hr1 with ⟨rfl, rfl⟩ | ⟨e1, hr1', hnf1⟩
    · rcases read_put s.wf hg hf hr2 with ⟨rfl, rfl⟩ | ⟨e2, hr2', hnf2⟩
      · omega
      · exact absurd (s.same e2 hb2 hb1 hr2' hrb he.symm (famOf_of hg)) hnf2
    · rcases read_put s.wf hg hf hr2 with ⟨rfl, rfl⟩ | ⟨e2, hr2', hnf2⟩
      · exact absurd (s.same e1 hb1 hb2 hr1' hrb he (famOf_of hg)) hnf1
      · exact s.sep _ _ _ _ _ _ hlt hb1 hb2 hr1' hr2' he
  · intro c y l2 f2 hy hgc
    by_cases e : y.1 = x.1
    · rw [e]; exact hclr
    · rw [get_put] at hgc
      split at hgc
      · rename_i ec; subst ec; rw [hx] at hy; cases hy; exact absurd rfl e
      · exact (s.frz _ _ _ _ hy hgc).mono (hw _ e)
  · intro g hg' hno
    exact hw g fun e => hno b x hlo hob hx e.symm
  · intro c y hc' hoc hy
    exact .inr ⟨c, y, hc', own_put hf hg hoc, hy, rfl⟩
end put

/-! ### what append tells -/
theorem get_more (h : H) (f low : Nat) (l : List V) (c : Nat) : (h.more f low l).get c = if c = h.next then some (.cells l (some f)) else h.get c := by
  unfold H.more H.get; exact T.get_set _ _ _ _
theorem fam_more (h : H) (f low : Nat) (l : List V) (g : Nat) : (h.more f low l).fam g = if g = f then some (h.next, low) else h.fam g := by
  unfold H.more H.fam; exact T.get_set _ _ _ _
section more
variable {b f low low' : Nat} {l l' : List V}
theorem HWF.more (wf : HWF h) (hg : h.get b = some (.cells l (some f))) (hf : h.fam f = some (b, low)) (hlow : low' = low ∨ low' = h.next) (l' : List V) : HWF (h.more f low' l') := by
  have hlt := wf.lt _ _ hg
  have hfb := (wf.fam _ _ _ hg).1
  have hlb : low ≤ b := by
    obtain ⟨_, o, lw, h2, _, _, h5⟩ := wf.fam _ _ _ hg
    rw [hf] at h2; cases h2; exact h5
  have hn : (h.more f low' l').next = h.next + 1 := rfl
  refine ⟨fun c o hc => ?_, fun c l2 f2 hc => ?_⟩
  · rw [get_more] at hc
    split at hc
    · rw [hn]; omega
    · have := wf.lt _ _ hc; rw [hn]; omega
  · rw [get_more] at hc
    split at hc
    · rename_i e
      cases hc
      refine ⟨by omega, h.next, low', by rw [fam_more, if_pos rfl], by omega, by rw [hn]; omega, by omega⟩
    · obtain ⟨h1, o, lw, h2, h3, h4, h5⟩ := wf.fam _ _ _ hc
      refine ⟨h1, ?_⟩
      by_cases e : f2 = f
      · subst e
        have := wf.lt _ _ hc
        exact ⟨h.next, low', by rw [fam_more, if_pos rfl], by omega, by rw [hn]; omega, by omega⟩
      · exact ⟨o, lw, by rw [fam_more, if_neg e]; exact h2, h3, by rw [hn]; omega, h5⟩
theorem read_more (wf : HWF h) (hf : h.fam f = some (b, low)) {c : Nat} {l2 : List V} (hr : (h.more f low' l').read c = some l2) (hlow : low' = low ∨ low' = h.next) :
    (c = h.next ∧ l2 = l') ∨ (c ≠ h.next ∧ h.read c = some l2 ∧ (low' = low ∨ h.famOf c ≠ some f)) := by
  rcases read_some hr with hg2 | ⟨f2, o, lw, hg2, hf2, hle⟩
  · rw [get_more] at hg2
    split at hg2
    · cases hg2
    · rename_i e
      exact .inr ⟨e, read_ro hg2, .inr (by rw [famOf_of hg2]; simp)⟩
  · rw [get_more] at hg2
    split at hg2
    · rename_i e; cases hg2; exact .inl ⟨e, rfl⟩
    · rename_i e
      rw [fam_more] at hf2
      split at hf2
      · rename_i ef
        cases hf2
        subst ef
        have hlt := wf.lt _ _ hg2
        have he : low' = low := by omega
        exact .inr ⟨e, by rw [read_fam hg2 hf, if_pos (by omega)], .inl he⟩
      · rename_i ef
        exact .inr ⟨e, by rw [read_fam hg2 hf2, if_pos hle], .inr (by rw [famOf_of hg2]; simpa using ef)⟩
theorem own_more (hf : h.fam f = some (b, low)) {c : Nat} (ho : own (h.more f low' l') c) : c = h.next ∨ (own h c ∧ c ≠ h.next) := by
  obtain ⟨l2, f2, lw, hg2, hf2⟩ := ho
  rw [get_more] at hg2
  split at hg2
  · exact .inl ‹_›
  · rename_i e
    rw [fam_more] at hf2
    split at hf2
    · cases hf2; exact absurd rfl e
    · exact .inr ⟨⟨l2, f2, lw, hg2, hf2⟩, e⟩
theorem famOf_more_new (h : H) : (h.more f low' l').famOf h.next = some f := famOf_of (by rw [get_more, if_pos rfl])
theorem famOf_more_old {c : Nat} (hc : c ≠ h.next) : (h.more f low' l').famOf c = h.famOf c := by unfold H.famOf; rw [get_more, if_neg hc]
/-- behind an append: in place (x0 in the old block's place) or elsewhere -/
theorem sim_more (s : Sim φ h w) {lo : Nat} (ho : h.owned lo b = some (l, f, low)) (hn : φ h.next = none) {x0 x : Nat × Nat × Nat} (hx : φ b = some x)
    (hlow : low' = low ∨ low' = h.next) (hc : Cells φ w' x0 l') (hclr : Clear w' x0.1)
    (hpl : (x0.1 = w.heap.size ∧ ∀ g, g < w.heap.size → w'.heap[g]? = w.heap[g]?) ∨
      (x0.1 = x.1 ∧ (∀ g, g ≠ x.1 → w'.heap[g]? = w.heap[g]?) ∧
        (low' = low → x.2.1 + l.length ≤ x0.2.1 + l'.length ∧ ∀ y l2, y.1 = x.1 → y.2.1 + l2.length ≤ x.2.1 + l.length → Cells φ w y l2 → Cells φ w' y l2)))
    (hs : w.heap.size ≤ w'.heap.size) (ht : w'.tape = w.tape) (hos : w'.os = w.os) (hu : w'.output = w.output) (hlo : lo ≤ h.next) :
    Sim (φ.with h.next x0) (h.more f low' l') w' ∧ Ext lo φ h w (φ.with h.next x0) (h.more f low' l') w' := by
  obtain ⟨hg, hf, hlob⟩ := owned_some ho
  have hrb := owned_read s.wf ho
  have hob := own_of_owned ho
  have hfb := famOf_of hg
  have hxlt := (s.at_ _ _ _ hx hrb).lt
  have hle : φ.le (φ.with h.next x0) := Phi.le_with hn
  have hown : ∀ o lw, h.fam f = some (o, lw) → o = b := fun o lw e => by rw [hf] at e; cases e; rfl
  -- what could be read before and still may be stands as it stood
  have hold : ∀ c y l2, c ≠ h.next → φ c = some y → h.read c = some l2 → (low' = low ∨ h.famOf c ≠ some f) → Cells φ w' y l2 ∧ (y.1 = x.1 → x0.1 = x.1 → h.famOf c = some f ∧ low' = low ∧ y.2.1 + l2.length ≤ x.2.1 + l.length) := by
    intro c y l2 hcn hy hr hcond
    have hcc := s.at_ _ _ _ hy hr
    by_cases he : y.1 = x.1
    · have hend : h.famOf c = some f ∧ y.2.1 + l2.length ≤ x.2.1 + l.length := by
        by_cases hcb : c = b
        · subst hcb
          rw [hx] at hy
          cases hy
          rw [hrb] at hr
          cases hr
          exact ⟨hfb, Nat.le_refl _⟩
        · have hfc := s.same hcb hy hx hr hrb he hfb
          refine ⟨hfc, ?_⟩
          have hcltb : c < b := by
            rcases read_some hr with hg2 | ⟨f2, o, lw, hg2, hf2, _⟩
            · rw [famOf_of hg2] at hfc; cases hfc
            · rw [famOf_of hg2] at hfc
              cases hfc
              obtain ⟨_, o, lw, h2, h3, _⟩ := s.wf.fam _ _ _ hg2
              have := hown _ _ h2
              omega
          rcases s.sep _ _ _ _ _ _ hcltb hx hy hrb hr he.symm with ⟨h1, _⟩ | ⟨_, _, _, h3⟩
          · rw [hfb] at h1; cases h1
          · exact h3
      have hlw : low' = low := hcond.resolve_right (fun e => e hend.1)
      refine ⟨?_, fun _ _ => ⟨hend.1, hlw, hend.2⟩⟩
      rcases hpl with ⟨_, hk⟩ | ⟨_, _, hk⟩
      · exact hcc.mono (Phi.le.refl φ) (hk _ hcc.lt)
      · exact (hk hlw).2 _ _ he hend.2 hcc
    · refine ⟨?_, fun e => absurd e he⟩
      rcases hpl with ⟨_, hk⟩ | ⟨_, hk, _⟩
      · exact hcc.mono (Phi.le.refl φ) (hk _ hcc.lt)
      · exact hcc.mono (Phi.le.refl φ) (hk _ he)
  refine ⟨⟨?_, ?_, s.wf.more hg hf hlow l', ?_, ?_, s.gl.mono hle⟩, ⟨hle, ?_, by show h.next ≤ h.next + 1; omega, ht, hos, hu, hs, ?_, ?_, ?_, ?_⟩⟩
  · intro c y l2 hy hr
    rcases read_more s.wf hf hr hlow with ⟨rfl, rfl⟩ | ⟨e, hr', hcond⟩
    · rw [Phi.with_at] at hy; cases hy; exact hc.mono hle rfl
    · rw [Phi.with_ne _ _ e] at hy
      exact (hold c y l2 e hy hr' hcond).1.mono hle rfl
  · intro b1 b2 x1 x2 l1 l2 hlt hb1 hb2 hr1 hr2 he
    rcases read_more s.wf hf hr2 hlow with ⟨rfl, rfl⟩ | ⟨e2, hr2', hc2⟩
    · rcases read_more s.wf hf hr1 hlow with ⟨rfl, rfl⟩ | ⟨e1, hr1', hc1⟩
      · omega
      · exfalso
        rcases read_some hr1' with hg2 | ⟨f2, o, lw, hg2, _⟩ <;> have := s.wf.lt _ _ hg2 <;> omega
    · rw [Phi.with_ne _ _ e2] at hb2
      rcases read_more s.wf hf hr1 hlow with ⟨rfl, rfl⟩ | ⟨e1, hr1', hc1⟩
      · rw [Phi.with_at] at hb1
        cases hb1
        rcases hpl with ⟨h1, _⟩ | ⟨h1, _, hk⟩
        · have := (s.at_ _ _ _ hb2 hr2').lt
          omega
        · obtain ⟨h3, h4, h5⟩ := (hold b2 x2 l2 e2 hb2 hr2' hc2).2 (he.symm.trans h1) h1
          exact .inr ⟨f, famOf_more_new h, by rw [famOf_more_old e2]; exact h3, by have := (hk h4).1; omega⟩
      · rw [Phi.with_ne _ _ e1] at hb1
        rw [famOf_more_old e1, famOf_more_old e2]
        exact s.sep _ _ _ _ _ _ hlt hb1 hb2 hr1' hr2' he
  · intro c y hy
    by_cases hcn : c = h.next
    · rw [hcn, Phi.with_at] at hy; cases hy; exact hc.lt
    · rw [Phi.with_ne _ _ hcn] at hy; have := s.bnd _ _ hy; omega
  · intro c y l2 f2 hy hgc
    by_cases hcn : c = h.next
    · rw [hcn, Phi.with_at] at hy; cases hy; exact hclr
    · rw [Phi.with_ne _ _ hcn] at hy
      rw [get_more, if_neg hcn] at hgc
      have h0 := s.frz _ _ _ _ hy hgc
      rcases hpl with ⟨_, hk⟩ | ⟨h1, hk, _⟩
      · exact h0.mono (hk _ (s.bnd _ _ hy))
      · by_cases e : y.1 = x.1
        · rw [e, ← h1]; exact hclr
        · exact h0.mono (hk _ e)
  · intro c h1 h2
    by_cases hcn : c = h.next
    · subst hcn; exact ⟨Nat.le_refl _, Nat.lt_succ_self _⟩
    · rw [Phi.with_ne _ _ hcn] at h2; exact absurd h1 h2
  · intro g hg' hno
    rcases hpl with ⟨_, hk⟩ | ⟨_, hk, _⟩
    · exact hk g hg'
    · exact hk g fun e => hno b x hlob hob hx e.symm
  · intro c y hcl hoc hy
    rcases own_more hf hoc with rfl | ⟨h1, h2⟩
    · rw [Phi.with_at] at hy
      cases hy
      rcases hpl with ⟨h1, _⟩ | ⟨h1, _⟩
      · exact .inl (by omega)
      · exact .inr ⟨b, x, hlob, hob, hx, h1.symm⟩
    · rw [Phi.with_ne _ _ h2] at hy
      exact .inr ⟨c, y, hcl, h1, hy, rfl⟩
  · intro c hcl hoc
    rcases own_more hf hoc with rfl | ⟨h1, _⟩
    · omega
    · exact h1
  · intro c y h1 h2
    by_cases hcn : c = h.next
    · rw [hcn, Phi.with_at] at h2
      cases h2
      rcases hpl with ⟨h3, _⟩ | ⟨h3, _⟩
      · exact .inl (by omega)
      · exact .inr ⟨b, x, hlob, hob, hx, h3.symm⟩
    · rw [Phi.with_ne _ _ hcn, h1] at h2; cases h2
end more
end Go.Den
/- Heavy operations: a store, a copy, an append, a mark, a call. -/
namespace Go.Den
open Go
variable {P : Program} {φ φ' : Phi} {w w' : World} {h h' : H}

/-- cells that are laid over a part of a block's cells -/
def over (arr : Array Value) (at_ : Nat) (vs : List Value) : Array Value := (arr.toList.take at_ ++ vs ++ arr.toList.drop (at_ + vs.length)).toArray
theorem over_size {arr : Array Value} {at_ : Nat} {vs : List Value} (hl : at_ + vs.length ≤ arr.size) : (over arr at_ vs).size = arr.size := by
  simp [over]; omega
theorem over_cons (arr : Array Value) (i : Nat) (v : Value) (r : List Value) (hi : i < arr.size) : over (arr.setIfInBounds i v) (i + 1) r = over arr i (v :: r) := by
  apply Array.ext'
  have hil : i < arr.toList.length := by simpa using hi
  simp only [over, Array.toList_setIfInBounds, List.length_cons]
  rw [List.take_set, List.drop_set_of_lt (by omega), List.take_succ_eq_append_getElem hil]
  have hm : min i arr.size = i := Nat.min_eq_left (Nat.le_of_lt hi)
  rw [List.set_append_right _ _ (by simp [hm])]
  simp [hm, show i + 1 + r.length = i + (r.length + 1) from by omega]
theorem heap_setCell (w : World) (g i : Nat) (v : Value) {arr : Array Value} {t : TypeId} {fr : Nat × Nat} (hg : w.heap[g]? = some (.cells arr t fr)) :
    (w.setCell ⟨g, i, none⟩ v).heap[g]? = some (.cells (arr.setIfInBounds i v) t fr) := by
  obtain ⟨lo, hi⟩ := fr
  simp [World.setCell, Array.getElem?_modify, hg]

/-- a row of stores into one block: the world behind it -/
theorem run_storeCells (P : Program) (g : Nat) (t : TypeId) (lo hi : Nat) : ∀ (vs : List Value) (arr : Array Value) (at_ i : Nat) (w : World), w.heap[g]? = some (.cells arr t (lo, hi)) → (lo = hi ∨ arr.size ≤ lo) →
    at_ + i + vs.length ≤ arr.size → (∀ v ∈ vs, v.oneCell' = true) →
    ∃ w', (storeCells ⟨g, at_, none⟩ vs i).run P w = .ok () w' ∧ w'.heap[g]? = some (.cells (over arr (at_ + i) vs) t (lo, hi)) ∧ (∀ k, k ≠ g → w'.heap[k]? = w.heap[k]?) ∧
      w'.heap.size = w.heap.size ∧ w'.tape = w.tape ∧ w'.os = w.os ∧ w'.output = w.output := by
  intro vs
  induction vs with
  | nil =>
    intro arr at_ i w hg _ hl _
    refine ⟨w, rfl, ?_, fun _ _ => rfl, rfl, rfl, rfl, rfl⟩
    rw [hg]
    congr 2
    apply Array.ext'
    simp [over]
  | cons v r ih =>
    intro arr at_ i w hg hf hl h1
    simp only [List.length_cons] at hl
    have hcell : w.cell? ⟨g, at_ + i, none⟩ = some (arr[at_ + i]'(by omega)) := by
      rw [cell_of_row w _ _ _ _ _ hg]
      simp
    have hfr : w.frozen? ⟨g, at_ + i, none⟩ = false := by
      unfold World.frozen?
      simp only [hg]
      rw [Bool.eq_false_iff]
      intro hc
      simp only [Bool.and_eq_true, decide_eq_true_eq] at hc
      omega
    have hrun : (store ((⟨g, at_, none⟩ : Addr).add i) v).run P w = .ok () (w.setCell ⟨g, at_ + i, none⟩ v) := by
      rw [add_addr, run_store P w _ _ _ (h1 v (by simp)), hcell]
      simp [hfr]
    obtain ⟨w', e1, e2, e3, e4, e5, e6, e7⟩ := ih (arr.setIfInBounds (at_ + i) v) at_ (i + 1) (w.setCell ⟨g, at_ + i, none⟩ v) (heap_setCell w g _ v hg) (by simpa using hf) (by simp; omega) (fun u hu => h1 u (by simp [hu]))
    refine ⟨w', by simp only [storeCells, Sem.run_bind, hrun, Result.andThen_ok]; exact e1, ?_, ?_, by simpa using e4, by simpa using e5, ?_, ?_⟩
    · rw [e2]
      congr 2
      exact over_cons arr (at_ + i) v r (by omega)
    · intro k hk
      rw [e3 k hk, heap_setCell_other w _ _ _ hk]
    · rw [e6]; rfl
    · rw [e7]; rfl

theorem scal_one {v : V} {v' : Value} (hv : VR φ v v') (hs : scal v = true) : v'.oneCell' = true := by
  cases hv <;> first | rfl | (simp [scal] at hs)
theorem scals_one {vs : List V} {vs' : List Value} (hv : VRs φ vs vs') (hs : vs.all scal = true) : ∀ v ∈ vs', v.oneCell' = true := by
  intro v hm
  obtain ⟨i, hi⟩ := List.getElem?_of_mem hm
  obtain ⟨u, hu, hr⟩ := hv.get' i v hi
  rw [List.all_eq_true] at hs
  exact scal_one hr (hs u (List.mem_of_getElem? hu))

/-- cells laid over a part of what stands there -/
theorem Cells.over {x : Nat × Nat × Nat} {l vs : List V} {vs' : List Value} (hc : Cells φ w x l) {o : Nat} (hle : o + vs.length ≤ l.length) (hv : VRs φ vs vs')
    {arr : Array Value} {t : TypeId} {lo hi : Nat} (hg : w.heap[x.1]? = some (.cells arr t (lo, hi))) (hw : w'.heap[x.1]? = some (.cells (over arr (x.2.1 + o) vs') t (lo, hi))) :
    Cells φ w' x (l.take o ++ vs ++ l.drop (o + vs.length)) := by
  obtain ⟨arr', t', lo', hi', h1, h2, h3, h4, h5⟩ := hc
  rw [hg] at h1
  cases h1
  have hvl := hv.length
  have hsz : (Den.over arr (x.2.1 + o) vs').size = arr.size := over_size (by omega)
  refine ⟨_, _, _, _, hw, by rw [hsz]; exact h2, trivial, by simp; omega, ?_⟩
  have hlen : (l.take o ++ vs ++ l.drop (o + vs.length)).length = l.length := by simp; omega
  rw [hlen]
  have e : ((Den.over arr (x.2.1 + o) vs').toList.drop x.2.1).take l.length = (((arr.toList.drop x.2.1).take l.length).take o ++ vs' ++ ((arr.toList.drop x.2.1).take l.length).drop (o + vs'.length)) := by
    simp only [Den.over]
    apply List.ext_getElem?
    intro i
    have hal : arr.toList.length = arr.size := by simp
    by_cases hi : i < l.length
    · rw [List.getElem?_take, if_pos hi, List.getElem?_drop]
      by_cases h1 : i < o
      · rw [List.append_assoc, List.getElem?_append_left (by simp; omega), List.getElem?_take, if_pos (by omega)]
        rw [List.append_assoc, List.getElem?_append_left (by simp; omega), List.getElem?_take, if_pos h1, List.getElem?_take, if_pos hi, List.getElem?_drop]
      · by_cases h2 : i < o + vs'.length
        · rw [List.getElem?_append_left (by simp; omega), List.getElem?_append_right (by simp; omega)]
          rw [List.getElem?_append_left (by simp; omega), List.getElem?_append_right (by simp; omega)]
          congr 1
          simp
          omega
        · rw [List.getElem?_append_right (by simp; omega), List.getElem?_append_right (by simp; omega), List.getElem?_drop, List.getElem?_drop, List.getElem?_take, if_pos (by simp; omega), List.getElem?_drop]
          congr 1
          simp
          omega
    · rw [List.getElem?_eq_none (by simp; omega), List.getElem?_eq_none (by simp; omega)]
  rw [e, ← hvl]
  exact ((h5.take o).append hv).append (h5.drop _)
theorem fill1_eq {cells cs r : List V} {off : Nat} (h : fill1 cells off cs = some r) : off + cs.length ≤ cells.length ∧ r = cells.take off ++ cs ++ cells.drop (off + cs.length) := by
  unfold fill1 at h
  split at h
  · cases h; exact ⟨‹_›, rfl⟩
  · cases h
/-- a row of stores into a block of its own -/
theorem store_sim (P : Program) {lo b f low o : Nat} {l vs r : List V} {vs' : List Value} (s : Sim φ h w) (ho : h.owned lo b = some (l, f, low)) {g base sz : Nat} (hx : φ b = some (g, base, sz))
    (hfill : fill1 l o vs = some r) (hv : VRs φ vs vs') (hs : vs.all scal = true) :
    ∃ w', (storeCells ⟨g, base + o, none⟩ vs' 0).run P w = .ok () w' ∧ Sim φ (h.put b f r) w' ∧ Ext lo φ h w φ (h.put b f r) w' := by
  obtain ⟨hle, rfl⟩ := fill1_eq hfill
  have hc := s.at_ _ _ _ hx (owned_read s.wf ho)
  have hc0 := hc
  obtain ⟨arr, t, lo0, hi0, h1, h2, h3, h4, h5⟩ := hc
  simp only at h1 h2 h4
  have hvl := hv.length
  obtain ⟨w', e1, e2, e3, e4, e5, e6, e7⟩ := run_storeCells P g t lo0 hi0 vs' arr (base + o) 0 w h1 (s.frz _ _ _ _ hx (owned_some ho).1 _ _ _ _ h1) (by omega) (scals_one hv hs)
  rw [Nat.add_zero] at e2
  have hc' := hc0.over hle hv h1 e2
  obtain ⟨k1, k2⟩ := sim_put s ho hx (by simp; omega) hc' (Clear.of e2 (by rw [over_size (by omega)]; exact s.frz _ _ _ _ hx (owned_some ho).1 _ _ _ _ h1)) e3 e4 e5 e6 e7
  exact ⟨w', e1, k1, k2⟩
theorem storeV_sim {lo : Nat} {t : TypeId} {x v : V} (hst : storeV P lo t x v h = some h') (s : Sim φ h w) {x' v' : Value} (hx : VR φ x x') (hv : VR φ v v') :
    ∃ w', (Instr.storeAt t x' v').run P w = .ok () w' ∧ Sim φ h' w' ∧ Ext lo φ h w φ h' w' := by
  unfold storeV at hst
  split at hst
  · rename_i b o
    cases hx with
    | ptr hb =>
    split at hst
    · rename_i cs f low ho
      split at hst
      · rename_i hsz
        split at hst
        · rename_i cs' hf
          cases hst
          obtain ⟨w', e1, e2, e3⟩ := store_sim P s ho hb hf hv.cells hsz.2
          have hl := hv.cells.length
          have hn : ¬ (v'.cells.size ≠ v.cells.length) := by simp [hl]
          refine ⟨w', ?_, e2, e3⟩
          simp only [Instr.storeAt, Instr.sureAddr, storeVar, Sem.run_bind, Sem.run_pure, Result.andThen_ok, run_sizeOf hsz.1]
          rw [if_neg hn]
          simpa using e1
        · cases hst
      · cases hst
    · cases hst
  · cases hst
end Go.Den
/- append and copy. -/
namespace Go.Den
open Go
variable {P : Program} {φ φ' : Phi} {w w' : World} {h h' : H}

theorem run_append_in (w : World) {t u ty e : TypeId} {d : TypeDesc} {i : TypeInfo} (ht : P.underlying t = some (.slice e)) (hu : P.underlying u = some d) (hd : (∃ e', d = .slice e') ∨ d = .string) (hi : P.info? e = some i)
    {a : Addr} {n m c : Nat} {x : Value} {news : List Value} (hlen : (Builtin.lenOf x).run P w = .ok m w) (hx : (Builtin.firstCells i.size m x).run P w = .ok news.toArray w) (hroom : n + m ≤ c)
    {w' : World} (hst : (storeCells (a.add (n * i.size)) news 0).run P w = .ok () w') :
    (Builtin.append_ #[t, u] ty #[.slice (some a) n c, x]).run P w = .ok (.slice (some a) (n + m) c) w' := by
  rcases hd with ⟨e', rfl⟩ | rfl <;>
    simp [Builtin.append_, run_underlying ht, run_underlying hu, sizeOf, typeInfo, hi, hlen, hroom, hx, hst]
theorem run_append_out (w : World) {t u ty e : TypeId} {d : TypeDesc} {i : TypeInfo} {z : Value} (ht : P.underlying t = some (.slice e)) (hu : P.underlying u = some d) (hd : (∃ e', d = .slice e') ∨ d = .string) (hi : P.info? e = some i)
    (hz : i.zero = some z) {base : Option Addr} {n m c : Nat} {x : Value} {olds news : List Value} (hlen : (Builtin.lenOf x).run P w = .ok m w) (hx : (Builtin.firstCells i.size m x).run P w.drew = .ok news.toArray w.drew)
    (hs : (Builtin.firstCells i.size n (.slice base n c)).run P w.drew = .ok olds.toArray w.drew) (hg : c < n + m) (h63 : n + m ≤ 9223372036854775807) (hby : (n + m) * i.bytes ≤ 140737488355328) :
    (Builtin.append_ #[t, u] ty #[.slice base n c, x]).run P w =
      .ok (.slice (some ⟨w.heap.size, 0, none⟩) (n + m) (grownCap w (n + m) c e)) (w.drew.alloc (.cells (olds ++ news ++ (Builtin.zeroCells z.cells (grownCap w (n + m) c e - (n + m))).toList).toArray e)) := by
  have hn : ¬ (n + m ≤ c) := by omega
  have h63' : ¬ (9223372036854775807 < ((n : Int) + (m : Int))) := by omega
  have h48 := growslice_fits (old := c) hg hby
  have h48' : ¬ (281474976710656 < Builtin.nextslicecap (n + m) c * i.bytes) := by omega
  have e1 : (olds ++ news ++ (Builtin.zeroCells z.cells (grownCap w (n + m) c e - (n + m))).toList).toArray = olds.toArray ++ news.toArray ++ Builtin.zeroCells z.cells (grownCap w (n + m) c e - (n + m)) := by
    apply Array.ext'
    simp
  rw [e1]
  rcases hd with ⟨e', rfl⟩ | rfl <;>
    (simp [Builtin.append_, run_underlying ht, run_underlying hu, sizeOf, typeInfo, zeroValue, hi, hz, hlen, hn, h63', h48', Question.forced, hx, hs, newRow, grownCap]
     congr 2
     apply Array.ext'
     simp)

theorem take_drop_take (l : List Value) (b o n L : Nat) (hle : o + n ≤ L) : (((l.drop b).take L).drop o).take n = (l.drop (b + o)).take n := by
  rw [List.drop_take, List.drop_drop, List.take_take, Nat.min_eq_left (by omega)]
/-- the cells ahead of what is laid over stand as they stood -/
theorem over_ahead (arr : Array Value) (k : Nat) (vs : List Value) (b n : Nat) (hle : b + n ≤ k) (hk : k + vs.length ≤ arr.size) : ((over arr k vs).toList.drop b).take n = (arr.toList.drop b).take n := by
  apply List.ext_getElem?
  intro i
  by_cases hi : i < n
  · rw [List.getElem?_take, if_pos hi, List.getElem?_take, if_pos hi, List.getElem?_drop, List.getElem?_drop]
    simp only [over]
    rw [List.append_assoc, List.getElem?_append_left (by simp; omega), List.getElem?_take, if_pos (by omega)]
  · rw [List.getElem?_eq_none (by simp; omega), List.getElem?_eq_none (by simp; omega)]
theorem over_both (arr : Array Value) (b n : Nat) (vs : List Value) (hk : b + n + vs.length ≤ arr.size) : ((over arr (b + n) vs).toList.drop b).take (n + vs.length) = (arr.toList.drop b).take n ++ vs := by
  have hl : arr.toList.length = arr.size := by simp
  apply List.ext_getElem?
  intro i
  by_cases hi : i < n + vs.length
  · rw [List.getElem?_take, if_pos hi, List.getElem?_drop]
    simp only [over]
    by_cases h1 : i < n
    · rw [List.append_assoc, List.getElem?_append_left (by simp; omega), List.getElem?_take, if_pos (by omega)]
      rw [List.getElem?_append_left (by simp; omega), List.getElem?_take, if_pos h1, List.getElem?_drop]
    · rw [List.getElem?_append_left (by simp; omega), List.getElem?_append_right (by simp; omega), List.getElem?_append_right (by simp; omega)]
      congr 1
      simp
      omega
  · rw [List.getElem?_eq_none (by simp; omega), List.getElem?_eq_none (by simp; omega)]

theorem elems_sl {rd : Rd} {b o n es es' m : Nat} {c : Option Nat} {cs : List V} (hr : rd b = some cs) (hle : o + n * es ≤ cs.length) : elems rd es (.sl b o n c es) = some (n, (cs.drop o).take (n * es)) := by
  unfold elems
  simp [hr, hle]

theorem appendV_sim {lo : Nat} {ts : List TypeId} {sv x v : V} (ha : appendV P lo ts sv x h = some (v, h')) (s : Sim φ h w) (hfr : FreeIn φ h.next h'.next) (hlo : lo ≤ h.next) {s' x' : Value} (hsv : VR φ sv s') (hx : VR φ x x') (ty : TypeId) :
    ∃ φ' v' w', (Builtin.append_ ts.toArray ty #[s', x']).run P w = .ok v' w' ∧ Ext lo φ h w φ' h' w' ∧ Sim φ' h' w' ∧ VR φ' v v' := by
  unfold appendV at ha
  split at ha
  · rename_i t u
    split at ha
    · rename_i e d ht hu
      split at ha
      · rename_i i hi hdd
        have hd : (∃ e', d = .slice e') ∨ d = .string := by
          cases d <;> first | exact .inl ⟨_, rfl⟩ | exact .inr rfl | (simp at hdd)
        split at ha
        · rename_i m xs z hel hz
          split at ha
          · cases ha
          · rename_i hcond
            simp only [not_or, ne_eq, Decidable.not_not, Bool.not_eq_false] at hcond
            obtain ⟨hzs, hscal⟩ := hcond
            have hrd : RdSim φ w h.read := fun b x l hb hr => s.at_ b x l hb hr
            have hrd' : RdSim φ w.drew h.read := fun b x l hb hr => s.at_ b x l hb hr
            obtain ⟨xs1, f1, f2, f3, f4⟩ := elems_rel (P := P) hel hrd hx
            obtain ⟨xs2, g1, _, _, g4⟩ := elems_rel (P := P) hel hrd' hx
            have hx1 : xs1.take (m * i.size) = xs1 := List.take_of_length_le (by rw [← f1.length, f2]; exact Nat.le_refl _)
            have hx2 : xs2.take (m * i.size) = xs2 := List.take_of_length_le (by rw [← g1.length, f2]; exact Nat.le_refl _)
            have k1 := f4 m (Nat.le_refl _)
            have k2 := g4 m (Nat.le_refl _)
            rw [hx1] at k1
            rw [hx2] at k2
            -- what a growing append leaves
            have grown : ∀ (base : Option Addr) (n c : Nat) (olds : List Value) (lx : List V), (Builtin.firstCells i.size n (.slice base n c)).run P w.drew = .ok olds.toArray w.drew → VRs φ lx olds → lx.length = n * i.size →
                c < n + m → n + m ≤ 9223372036854775807 → (n + m) * i.bytes ≤ 140737488355328 →
                ∃ arr : Array Value, (Builtin.append_ #[t, u] ty #[.slice base n c, x']).run P w = .ok (.slice (some ⟨w.heap.size, 0, none⟩) (n + m) (grownCap w (n + m) c e)) (w.drew.alloc (.cells arr e)) ∧
                  arr.size = grownCap w (n + m) c e * i.size ∧ n + m ≤ grownCap w (n + m) c e ∧ (lx ++ xs).length ≤ arr.size ∧ VRs φ (lx ++ xs) (arr.toList.take (lx ++ xs).length) := by
              intro base n c olds lx hs hlx hll hg h63 hby
              have hge := grownCap_ge w (n + m) c e
              have hrun := run_append_out (ty := ty) w ht hu hd hi hz f3 k2 hs hg h63 hby
              have hol := hlx.length
              have hxl := g1.length
              have hasz : (olds ++ xs2 ++ (Builtin.zeroCells z.cells (grownCap w (n + m) c e - (n + m))).toList).toArray.size = grownCap w (n + m) c e * i.size := by
                simp only [List.size_toArray, List.length_append, Array.length_toList, size_zeroCells, hzs, ← hol, hll, ← hxl, f2, ← Nat.add_mul]
                congr 1
                omega
              have hlen : (lx ++ xs).length = (n + m) * i.size := by simp [hll, f2, Nat.add_mul]
              refine ⟨_, hrun, hasz, hge, ?_, ?_⟩
              · rw [hasz, hlen]; exact Nat.mul_le_mul_right _ hge
              · have e2 : (olds ++ xs2 ++ (Builtin.zeroCells z.cells (grownCap w (n + m) c e - (n + m))).toList).take (lx ++ xs).length = olds ++ xs2 := by
                  rw [List.take_append_of_le_length (by simp [hol, hxl]), List.take_of_length_le (by simp [hol, hxl])]
                simp only [e2]
                exact hlx.append g1
            split at ha
            · -- append onto nil
              cases hsv
              split at ha
              · rename_i hm
                cases ha
                subst hm
                have hne : xs1 = [] := List.eq_nil_of_length_eq_zero (by rw [← f1.length, f2]; simp)
                subst hne
                refine ⟨φ, .slice none 0 0, w, ?_, Ext.refl _ _ _ _, s, .nils⟩
                rcases hd with ⟨e', rfl⟩ | rfl <;> simp [Builtin.append_, run_underlying ht, run_underlying hu, sizeOf, typeInfo, hi, f3, k1]
              · split at ha
                · rename_i hm hb
                  cases ha
                  obtain ⟨arr, r1, r2, r3, r4, r5⟩ := grown none 0 0 [] [] (by simp [Builtin.firstCells]) .nil (by simp) (by omega) (by omega) (by simpa using hb.1)
                  simp only [Nat.zero_add, List.nil_append] at r1 r2 r3 r4 r5
                  have hn' : φ h.next = none := hfr _ (Nat.le_refl _) (Nat.lt_succ_self _)
                  obtain ⟨q1, q2⟩ := sim_alloc (w' := w.drew.alloc (.cells arr e)) s hn' rfl rfl rfl rfl r4 (.inl rfl) r5 hlo
                  exact ⟨_, _, _, r1, q2, q1, .sl (.inl (Phi.with_at _ _ _)) (.inl rfl) r3 ((CapIs.none _).up r3) (.inl (by simp [r2]))⟩
                · cases ha
            · rename_i b o n c es
              split at ha
              · cases ha
              · rename_i hes
                have hes' : es = i.size := by simpa using hes
                subst hes'
                split at ha
                · rename_i hm
                  cases ha
                  subst hm
                  have hne : xs1 = [] := List.eq_nil_of_length_eq_zero (by rw [← f1.length, f2]; simp)
                  subst hne
                  have hsv0 := hsv
                  cases hsv with
                  | sl hb ha' hn hc hroom =>
                  rename_i c' g base sz a
                  refine ⟨φ, .slice (some a) n c', w, ?_, Ext.refl _ _ _ _, s, hsv0⟩
                  exact run_append_in (m := 0) w ht hu hd hi f3 k1 (by omega) (w' := w) rfl
                · rename_i hm0
                  split at ha
                  · rename_i hbd
                    cases hsv with
                    | sl hb ha' hn hc hroom =>
                    rename_i c' g base sz a
                    have hb0 := hb
                    -- the old cells
                    have holds : ∀ cs, h.read b = some cs → o + n * i.size ≤ cs.length → ∃ olds : List Value, (Builtin.firstCells i.size n (.slice (some a) n c')).run P w.drew = .ok olds.toArray w.drew ∧ VRs φ ((cs.drop o).take (n * i.size)) olds := by
                      intro cs hr hle
                      obtain ⟨o1, p1, p2, p3, p4⟩ := elems_rel (P := P) (elems_sl (c := c) (es' := 0) (m := 0) hr hle) hrd' (.sl (c := c) hb ha' hn hc hroom)
                      refine ⟨o1, ?_, p1⟩
                      have := p4 n (Nat.le_refl _)
                      rwa [List.take_of_length_le (by rw [← p1.length, p2]; exact Nat.le_refl _)] at this
                    split at ha
                    · -- the capacity is known, and too small
                      rename_i hforce
                      split at ha
                      · rename_i cs hr
                        split at ha
                        · rename_i hle
                          cases ha
                          have hgc : c' < n + m := by
                            cases c with
                            | none => simp [forced] at hforce
                            | some k => have := hc k rfl; have := hbd.2; simp [forced] at hforce; omega
                          obtain ⟨olds, q1, q2⟩ := holds cs hr hle
                          obtain ⟨arr, r1, r2, r3, r4, r5⟩ := grown (some a) n c' olds _ q1 q2 (by simp; omega) hgc hbd.2 hbd.1
                          have hn' : φ h.next = none := hfr _ (Nat.le_refl _) (Nat.lt_succ_self _)
                          obtain ⟨t1, t2⟩ := sim_alloc (w' := w.drew.alloc (.cells arr e)) s hn' rfl rfl rfl rfl r4 (.inl rfl) r5 hlo
                          exact ⟨_, _, _, r1, t2, t1, .sl (.inl (Phi.with_at _ _ _)) (.inl rfl) r3 ((CapIs.none _).up r3) (.inl (by simp [r2]))⟩
                        · cases ha
                      · cases ha
                    · rename_i hforce
                      split at ha
                      · rename_i cs f low hown
                        split at ha
                        · rename_i hle
                          cases ha
                          have hb := hb.resolve_right (fun e => hforce (by rw [e.2]; simp [forced]; omega))
                          have hr := owned_read s.wf hown
                          have hn' : φ h.next = none := hfr _ (Nat.le_refl _) (Nat.lt_succ_self _)
                          have hlowlt : low < h.next := by
                            obtain ⟨hg2, hf2, _⟩ := owned_some hown
                            obtain ⟨_, o2, lw, e1, e2, e3, e4⟩ := s.wf.fam _ _ _ hg2
                            rw [hf2] at e1; cases e1; omega
                          have hlow : (if o + n * i.size = cs.length then low else h.next) = low ∨ (if o + n * i.size = cs.length then low else h.next) = h.next := by split <;> simp
                          by_cases hroom' : n + m ≤ c'
                          · -- in place
                            have ha2 : a = ⟨g, base + o, none⟩ := ha'.resolve_right (by omega)
                            subst ha2
                            have hrm := hroom.resolve_right (by omega)
                            have hc0 := s.at_ _ _ _ hb hr
                            obtain ⟨arr, t0, lo0, hi0, h1, h2, h3, h4, h5⟩ := hc0
                            simp only at h1 h2 h3 h4
                            have hclr0 := s.frz _ _ _ _ hb (owned_some hown).1 _ _ _ _ h1
                            have hxl := f1.length
                            have hmul : (n + m) * i.size = n * i.size + m * i.size := Nat.add_mul _ _ _
                            have hmc : (n + m) * i.size ≤ c' * i.size := Nat.mul_le_mul_right _ hroom'
                            obtain ⟨w', e1, e2, e3, e4, e5, e6, e7⟩ := run_storeCells P g t0 lo0 hi0 xs1 arr (base + o + n * i.size) 0 w h1 hclr0 (by omega) (scals_one f1 hscal)
                            rw [Nat.add_zero] at e2
                            have hcells : Cells φ w' (g, base + o, sz) ((cs.drop o).take (n * i.size) ++ xs) := by
                              refine ⟨_, _, _, _, e2, by rw [over_size (by omega)]; exact h2, trivial, by simp; omega, ?_⟩
                              have hlen : ((cs.drop o).take (n * i.size) ++ xs).length = n * i.size + xs1.length := by simp; omega
                              rw [hlen, over_both arr (base + o) (n * i.size) xs1 (by omega)]
                              refine VRs.append ?_ f1
                              have := (h5.drop o).take (n * i.size)
                              rwa [take_drop_take _ _ _ _ _ hle] at this
                            have hpl := sim_more (w' := w') s hown hn' (x0 := (g, base + o, sz)) (x := (g, base, sz)) hb hlow hcells (Clear.of e2 (by rw [over_size (by omega)]; exact hclr0)) (.inr ⟨rfl, fun k hk => e3 k hk, fun hll => by
                              have hend : o + n * i.size = cs.length := by
                                by_cases hh : o + n * i.size = cs.length
                                · exact hh
                                · rw [if_neg hh] at hll; omega
                              refine ⟨by simp; omega, fun y l2 hy1 hy2 hcy => ?_⟩
                              obtain ⟨arr', t', lo', hi', y1, y2, y3, y4, y5⟩ := hcy
                              rw [hy1] at y1
                              simp only at y1 hy2
                              rw [h1] at y1
                              cases y1
                              refine ⟨_, _, _, _, by rw [hy1]; exact e2, by rw [over_size (by omega)]; exact y2, y3, y4, ?_⟩
                              rw [over_ahead arr _ _ _ _ (by omega) (by omega)]
                              exact y5⟩) (by omega) e5 e6 e7 hlo
                            refine ⟨_, .slice (some ⟨g, base + o, none⟩) (n + m) c', w', ?_, hpl.2, hpl.1, ?_⟩
                            · exact run_append_in w ht hu hd hi f3 k1 hroom' (by rw [add_addr]; exact e1)
                            · exact .sl (.inl (Phi.with_at _ _ _)) (.inl rfl) hroom' (hc.up hroom') (.inl (by omega))
                          · -- elsewhere
                            have hcn : ∀ k, c = some k → 9223372036854775808 ≤ k := by
                              intro k hk
                              have := hc k hk
                              subst hk
                              simp [forced] at hforce
                              omega
                            obtain ⟨olds, q1, q2⟩ := holds cs hr hle
                            obtain ⟨arr, r1, r2, r3, r4, r5⟩ := grown (some a) n c' olds _ q1 q2 (by simp; omega) (by omega) hbd.2 hbd.1
                            have hcells : Cells φ (w.drew.alloc (.cells arr e)) (w.heap.size, 0, arr.size) ((cs.drop o).take (n * i.size) ++ xs) :=
                              ⟨arr, e, 0, 0, heap_alloc_new w.drew _, rfl, trivial, by simpa using r4, by simpa using r5⟩
                            have hpl := sim_more (w' := w.drew.alloc (.cells arr e)) s hown hn' (x0 := (w.heap.size, 0, arr.size)) hb hlow hcells (Clear.of (heap_alloc_new w.drew _) (.inl rfl))
                              (.inl ⟨rfl, fun k hk => heap_alloc_old w.drew _ hk⟩) (by simp) rfl rfl rfl hlo
                            exact ⟨_, _, _, r1, hpl.2, hpl.1, .sl (.inl (Phi.with_at _ _ _)) (.inl rfl) r3 (hc.more (by omega) hcn r3) (.inl (by simp [r2]))⟩
                        · cases ha
                      · cases ha
                  · cases ha
            · cases ha
        · cases ha
      · cases ha
    · cases ha
  · cases ha

theorem copyV_sim {lo : Nat} {ts : List TypeId} {d x v : V} (hcp : copyV P lo ts d x h = some (v, h')) (s : Sim φ h w) {d' x' : Value} (hd : VR φ d d') (hx : VR φ x x') (ty : TypeId) :
    ∃ v' w', (Builtin.copy_ ts.toArray ty #[d', x']).run P w = .ok v' w' ∧ Ext lo φ h w φ h' w' ∧ Sim φ h' w' ∧ VR φ v v' := by
  unfold copyV at hcp
  split at hcp
  · rename_i t u
    split at hcp
    · rename_i e ht
      split at hcp
      · rename_i es hes
        have hrd : RdSim φ w h.read := fun b x l hb hr => s.at_ b x l hb hr
        split at hcp
        · rename_i mxs hel
          cases hcp
          cases hd
          obtain ⟨m, xs⟩ := mxs
          obtain ⟨xs1, f1, f2, f3, f4⟩ := elems_rel (P := P) hel hrd hx
          have k0 := f4 0 (Nat.zero_le _)
          refine ⟨.int .i64 0, w, ?_, Ext.refl _ _ _ _, s, .int _ _⟩
          simp [Builtin.copy_, run_underlying ht, run_sizeOf hes, f3, k0, goInt]
        · rename_i m xs b o n c es' hel
          split at hcp
          · cases hcp
          · rename_i hcond
            simp only [not_or, ne_eq, Decidable.not_not, Bool.not_eq_false] at hcond
            obtain ⟨he, hscal⟩ := hcond
            subst he
            obtain ⟨xs1, f1, f2, f3, f4⟩ := elems_rel (P := P) hel hrd hx
            have hk := f4 (min m n) (Nat.min_le_left _ _)
            cases hd with
            | sl hb ha hn hc hroom =>
            rename_i c' g base sz a
            have hb00 := hb
            have hlen : (xs1.take (min m n * es)).length = min m n * es := by
              rw [List.length_take, ← f1.length, f2]
              exact Nat.min_eq_left (Nat.mul_le_mul_right _ (Nat.min_le_left _ _))
            have hrun : ∀ w', (storeCells a (xs1.take (min m n * es)) 0).run P w = .ok () w' → (Builtin.copy_ #[t, u] ty #[.slice (some a) n c', x']).run P w = .ok (.int .i64 ((min m n : Nat) : Int)) w' := by
              intro w' hst
              have e1 : Nat.min m n = min m n := rfl
              simp only [Builtin.copy_, List.getElem?_toArray, List.getElem?_cons_zero, List.getElem?_cons_succ, Sem.run_bind, run_underlying ht, Result.andThen_ok, f3, run_sizeOf hes, e1, hk]
              simp [hst, goInt]
            simp only at hcp
            split at hcp
            · rename_i h0
              cases hcp
              have hnil : xs1.take (min m n * es) = [] := List.eq_nil_of_length_eq_zero (by omega)
              exact ⟨_, w, hrun w (by rw [hnil]; rfl), Ext.refl _ _ _ _, s, .int _ _⟩
            · rename_i h0
              split at hcp
              · rename_i cs f low hown
                split at hcp
                · rename_i cs' hf
                  cases hcp
                  have hc' : c' ≠ 0 := by
                    intro hc0
                    have : n = 0 := by omega
                    subst this
                    simp at h0
                  have ha2 : a = ⟨g, base + o, none⟩ := ha.resolve_right (fun e => hc' e.1)
                  subst ha2
                  have hsc : (xs.take (min m n * es)).all scal = true := by
                    rw [List.all_eq_true] at hscal ⊢
                    exact fun v hv => hscal v (List.mem_of_mem_take hv)
                  obtain ⟨w', e1, e2, e3⟩ := store_sim P s hown (hb.resolve_right fun e => hc' e.1) hf (f1.take _) hsc
                  exact ⟨_, w', hrun w' e1, e3, e2, .int _ _⟩
                · cases hcp
              · cases hcp
        · cases hcp
      · cases hcp
    · cases hcp
  · cases hcp

theorem markV_sim {lo : Nat} {t : TypeId} {x v : V} (hm : markV P lo t x h = some (v, h')) (s : Sim φ h w) {x' : Value} (hx : VR φ x x') :
    ∃ v' w', (convert t t x').run P w = .ok v' w' ∧ Ext lo φ h w φ h' w' ∧ Sim φ h' w' ∧ VR φ v v' := by
  unfold markV at hm
  split at hm
  · rename_i e b o n c es hu
    split at hm
    · rename_i k he hown
      split at hm
      · cases hm
      rename_i hn0
      cases hm
      obtain ⟨cs, f, low⟩ := k
      have hx0 := hx
      cases hx with
      | sl hb ha hn hc hroom =>
      rename_i c' g base sz a
      have hb := hb.resolve_right (fun e => by omega)
      have hab : a.block = g := by
        rcases ha with rfl | ha
        · rfl
        · exact ha.2
      obtain ⟨arr, t0, lo0, hi0, h1, h2, h3, h4, h5⟩ := s.at_ _ _ _ hb (owned_read s.wf hown)
      simp only at h1 h2
      have hclr := s.frz _ _ _ _ hb (owned_some hown).1 _ _ _ _ h1
      have hsh : w.shape? a.block = some (t0, arr.size) := by unfold World.shape?; rw [hab, h1]
      obtain ⟨lo1, hi1, hfz, hok⟩ : ∃ lo1 hi1, (w.freeze ⟨a.block, arr.size, none⟩ 1).heap[g]? = some (.cells arr t0 (lo1, hi1)) ∧ (lo1 = hi1 ∨ arr.size ≤ lo1) := by
        by_cases he2 : lo0 = hi0
        · refine ⟨arr.size, arr.size + 1, ?_, .inr (by omega)⟩
          simp [World.freeze, hab, Array.getElem?_modify, h1, he2]
        · refine ⟨min lo0 arr.size, max hi0 (arr.size + 1), ?_, .inr (by omega)⟩
          simp [World.freeze, hab, Array.getElem?_modify, h1, he2]
      have hoth : ∀ k, k ≠ g → (w.freeze ⟨a.block, arr.size, none⟩ 1).heap[k]? = w.heap[k]? := by
        intro k hk
        simp [World.freeze, hab, Array.getElem?_modify, Ne.symm hk]
      have hsize : (w.freeze ⟨a.block, arr.size, none⟩ 1).heap.size = w.heap.size := by simp [World.freeze]
      have hcells : ∀ y l, Cells φ w y l → Cells φ (w.freeze ⟨a.block, arr.size, none⟩ 1) y l := by
        intro y l hc'
        by_cases hy : y.1 = g
        · obtain ⟨arr', t', lo', hi', y1, y2, y3, y4, y5⟩ := hc'
          rw [hy, h1] at y1
          cases y1
          exact ⟨arr, t0, lo1, hi1, by rw [hy]; exact hfz, y2, trivial, y4, y5⟩
        · exact hc'.mono (Phi.le.refl φ) (hoth _ hy)
      refine ⟨.slice (some a) n c', w.freeze ⟨a.block, arr.size, none⟩ 1, ?_, ⟨Phi.le.refl φ, fun _ h1 h2 => absurd h1 h2, Nat.le_refl _, rfl, rfl, rfl, by omega, ?_, fun c y hc1 hc2 hc3 => .inr ⟨c, y, hc1, hc2, hc3, rfl⟩, fun _ _ h => h, fun _ _ h1 h2 => by rw [h1] at h2; cases h2⟩,
        ⟨fun c y l hy hr => hcells _ _ (s.at_ _ _ _ hy hr), s.sep, s.wf, fun c y hy => by rw [hsize]; exact s.bnd c y hy, fun c y l f2 hy hg2 => by
          by_cases e : y.1 = g
          · rw [e]; exact Clear.of hfz hok
          · exact (s.frz c y l f2 hy hg2).mono (hoth _ e), s.gl⟩, hx0⟩
      · simp [convert, run_underlying hu, run_underlying he, markStringish, hsh]
      · intro k hk hno
        exact hoth k fun e => hno b _ (owned_some hown).2.2 (own_of_owned hown) hb e.symm
    · cases hm
  · cases hm
end Go.Den
/- One operation, a row of operations: what the machine tells, the model tells. -/
namespace Go.Den
open Go
variable {P : Program} {φ φ' : Phi} {w w' : World} {h h' : H}

def NameOk (P : Program) : Prop := ∀ (f : Nat) (fn : Func), P.funcs[f]? = some fn → (fn.name == "runtime.NumGoroutine") = false
def CallPost (lo : Nat) (φ : Phi) (h : H) (w : World) (h' : H) (v : V) : Ending → World → Prop :=
  fun e w' => ∃ v' φ', e = .returned v' ∧ Ext lo φ h w φ' h' w' ∧ Sim φ' h' w' ∧ VR φ' v v'
abbrev CallFn := FuncId → List V → Nat → H → Option (V × H)
def CallSim (P : Program) (call : CallFn) : Prop :=
  ∀ f as lo h v h', call f as lo h = some (v, h') → (∃ fn, P.funcs[f]? = some fn ∧ fn.body.isSome = true) ∧
    (lo ≤ h.next → ∀ φ w as', Sim φ h w → FreeIn φ h.next h'.next → VRs φ as as' → Calls P f as'.toArray w (CallPost lo φ h w h' v))
def CallNext (call : CallFn) : Prop := ∀ f as lo h v h', call f as lo h = some (v, h') → h.next ≤ h'.next

theorem keep_next {r : Option LR} {v : V} (hk : keep h r = some (v, h')) : h.next ≤ h'.next := by
  unfold keep at hk
  split at hk
  · cases hk; exact Nat.le_refl _
  · cases hk; exact Nat.le_succ _
  · cases hk
theorem storeV_next {lo : Nat} {t : TypeId} {x v : V} (hs : storeV P lo t x v h = some h') : h.next ≤ h'.next := by
  unfold storeV at hs
  split at hs
  · split at hs
    · split at hs
      · split at hs
        · cases hs; exact Nat.le_refl _
        · cases hs
      · cases hs
    · cases hs
  · cases hs
theorem appendV_next {lo : Nat} {ts : List TypeId} {s x v : V} (ha : appendV P lo ts s x h = some (v, h')) : h.next ≤ h'.next := by
  unfold appendV at ha
  repeat' (split at ha)
  all_goals first
    | (cases ha; done)
    | (cases ha; first | exact Nat.le_refl _ | exact Nat.le_succ _)
theorem copyV_next {lo : Nat} {ts : List TypeId} {d x v : V} (hc : copyV P lo ts d x h = some (v, h')) : h.next ≤ h'.next := by
  unfold copyV at hc
  repeat' (first | split at hc | simp only at hc)
  all_goals first
    | (cases hc; done)
    | (cases hc; exact Nat.le_refl _)
theorem markV_next {lo : Nat} {t : TypeId} {x v : V} (hm : markV P lo t x h = some (v, h')) : h.next ≤ h'.next := by
  unfold markV at hm
  repeat' (split at hm)
  all_goals first
    | (cases hm; done)
    | (cases hm; exact Nat.le_refl _)
theorem aop_next {call : CallFn} (hc : CallNext call) {lo : Nat} {e : Env} {o : Op} {v : V} (ha : aop P call lo e h o = some (v, h')) : h.next ≤ h'.next := by
  unfold aop at ha
  split at ha
  · split at ha
    · split at ha
      · rename_i hs; cases ha; exact storeV_next hs
      · cases ha
    · cases ha
  · split at ha
    · split at ha
      · exact markV_next ha
      · cases ha
    · exact keep_next ha
  · split at ha
    · exact hc _ _ _ _ _ _ ha
    · cases ha
  · split at ha
    · exact appendV_next ha
    · cases ha
  · split at ha
    · exact copyV_next ha
    · cases ha
  · exact keep_next ha

theorem Act.put_tmps (a : Act) (d : Option Nat) (v : Value) : (a.put d v).tmps = match d with | some d => a.tmps.setIfInBounds d v | none => a.tmps := by cases d <;> rfl
theorem put_rel {nt : Nat} {d : Option Nat} {v : V} {e e' : Env} (hp : put nt d v e = some e') {a : Act} (he : ER φ e a.tmps) (hsz : a.tmps.size = nt) {v' : Value} (hv : VR φ v v') :
    ER φ e' (a.put d v').tmps ∧ (a.put d v').tmps.size = nt := by
  unfold put at hp
  split at hp
  · cases hp; exact ⟨he, hsz⟩
  · rename_i t
    split at hp
    · rename_i hlt
      cases hp
      rw [Act.put_tmps]
      refine ⟨⟨he.gr, fun u => ?_⟩, by simpa using hsz⟩
      rw [Env.at_set]
      simp only [Array.getD_eq_getD_getElem?]
      by_cases hu : u = t
      · subst hu
        rw [if_pos rfl, Array.getElem?_setIfInBounds_self_of_lt (by omega)]
        exact hv
      · rw [if_neg hu, Array.getElem?_setIfInBounds_ne (Ne.symm hu)]
        have := he.at_ u
        rwa [Array.getD_eq_getD_getElem?] at this
    · cases hp
theorem put_defers (a : Act) (d : Option Nat) (v : Value) : (a.put d v).defers = a.defers := by cases d <;> rfl

theorem yielded_rel {ops : Array Oper} {e : Env} {a : Array Value} (he : ER φ e a) (j : Nat) : yielded ops a j = yieldedV ops e j := by
  unfold yielded yieldedV
  cases hd : (ops[j]?).bind (·.dst) with
  | none => simp
  | some t =>
    simp only [Option.bind_some]
    have ht := he.at_ t
    rw [Array.getD_eq_getD_getElem?] at ht
    cases hat : a[t]? with
    | none =>
      rw [hat] at ht
      generalize e.at t = x at ht
      cases ht
      rfl
    | some v =>
      rw [hat] at ht
      simp only [Option.getD_some] at ht
      generalize e.at t = x at ht
      cases ht <;> rfl
theorem wanted_rel {ops : Array Oper} {e : Env} {a : Array Value} (he : ER φ e a) (o : Oper) : Region.wanted o (yielded ops a) = wantedV ops e o := by
  unfold Region.wanted wantedV
  split
  · rename_i hg; rw [hg]
  · rename_i j want hg
    rw [hg]
    simp only [yielded_rel he]

theorem args_rel {e : Env} {a : Act} (he : ER φ e a.tmps) {l : Array Operand} {vs : List V} (h : evs e l.toList = some vs) : ∃ vs', l.map a.eval = vs'.toArray ∧ VRs φ vs vs' :=
  ⟨_, evs_map rfl, evs_rel he h⟩

theorem aop_sim {call : CallFn} (hnm : NameOk P) (hcs : CallSim P call) {lo : Nat} {e : Env} {o : Oper} {v : V} (ha : aop P call lo e h o.op = some (v, h')) {a : Act} (he : ER φ e a.tmps) (s : Sim φ h w)
    (hfr : FreeIn φ h.next h'.next) (hlo : lo ≤ h.next) {K : Act → World → Prop} {Q : Exit → Act → World → Prop}
    (hK : ∀ φ' v' w', Ext lo φ h w φ' h' w' → Sim φ' h' w' → VR φ' v v' → K (a.put o.dst v') w') : o.wp P a w K Q := by
  have hlight : aop P call lo e h o.op = keep h (lightOp P h.read e o.op) → o.wp P a w K Q := by
    intro hl
    rw [hl] at ha
    cases hr : lightOp P h.read e o.op with
    | none => rw [hr] at ha; cases ha
    | some r =>
      rw [hr] at ha
      obtain ⟨v', w', h1, h2⟩ := lightOp_rel (w := w) hr he (fun b x l hb hr => s.at_ b x l hb hr)
      obtain ⟨φ', k1, k2, k3⟩ := light_sim h2 s hlo ha hfr
      unfold Oper.wp
      rw [h1, Oper.upon_value]
      exact hK φ' v' w' k1 k2 k3
  generalize hop : o.op = op at ha hlight
  cases op
  case store t x y =>
    simp only [aop] at ha
    split at ha
    · rename_i vx vy hx hy
      split at ha
      · rename_i h1 hst
        cases ha
        obtain ⟨w', r1, r2, r3⟩ := storeV_sim hst s (ev_rel he hx) (ev_rel he hy)
        unfold Oper.wp execOp
        rw [hop]
        simp only [Sem.run_bind, r1, Result.andThen_ok, Sem.run_pure, Oper.upon_skip]
        exact hK φ _ w' r3 r2 VR.undef
      · cases ha
    · cases ha
  case convert t d x =>
    by_cases hc : t = d ∧ isSlice P t = true
    · simp only [aop] at ha
      rw [if_pos hc] at ha
      obtain ⟨rfl, _⟩ := hc
      split at ha
      · rename_i vx hx
        obtain ⟨v', w', r1, r2, r3, r4⟩ := markV_sim ha s (ev_rel he hx)
        unfold Oper.wp execOp
        rw [hop]
        simp only [Sem.run_bind, r1, Result.andThen_ok, Sem.run_pure, Oper.upon_value]
        exact hK φ v' w' r2 r3 r4
      · cases ha
    · exact hlight (by simp only [aop]; rw [if_neg hc])
  case call c =>
    obtain ⟨cal, args, ats⟩ := c
    cases cal with
    | invoke x m => exact hlight rfl
    | value f =>
      simp only [aop] at ha
      split at ha
      · rename_i as g l1 l2 has hf
        obtain ⟨as', e1, e2⟩ := args_rel he has
        have hfv := ev_rel he hf
        generalize hfe : a.eval f = fv at hfv
        cases hfv with
        | fn h1 h2 =>
        rename_i l1' l2'
        obtain ⟨⟨fn, hfn, hbody⟩, hcalls⟩ := hcs _ _ _ _ _ _ ha
        have hcall := hcalls hlo φ w _ s hfr ((h1.append e2).append h2)
        have hn := hnm g fn hfn
        unfold Oper.wp execOp
        rw [hop]
        have hnone : fn.body.isNone = false := by rw [← Option.not_isSome, hbody]; rfl
        simp only [resolve, e1, hfe, Deferred.ofValue, Sem.run_bind, Sem.run_pure, Result.andThen_ok, invoke, callFunc, run_program, hfn, hn, Bool.false_eq_true, if_false, hnone, Oper.upon_enter]
        have ea : ((⟨l1'⟩ : Array Value) ++ as'.toArray ++ ⟨l2'⟩) = (l1' ++ as' ++ l2').toArray := by apply Array.ext'; simp
        rw [ea]
        refine hcall.mono ?_
        rintro e0 w0 ⟨v', φ', rfl, k1, k2, k3⟩
        exact hK φ' v' w0 k1 k2 k3
      · cases ha
    | builtin b =>
      cases b
      case append =>
        simp only [aop] at ha
        split at ha
        · rename_i sv x has
          obtain ⟨s', x', e1, e2, e3⟩ := evs_two he has
          obtain ⟨φ', v', w', r1, r2, r3, r4⟩ := appendV_sim ha s hfr hlo e2 e3 o.type
          rw [Array.toArray_toList] at r1
          unfold Oper.wp execOp
          rw [hop]
          simp only [resolve, e1, Sem.run_bind, Sem.run_pure, Result.andThen_ok, invoke, builtin, r1, Oper.upon_value]
          exact hK φ' v' w' r2 r3 r4
        · cases ha
      case copy =>
        simp only [aop] at ha
        split at ha
        · rename_i sv x has
          obtain ⟨s', x', e1, e2, e3⟩ := evs_two he has
          obtain ⟨v', w', r1, r2, r3, r4⟩ := copyV_sim ha s e2 e3 o.type
          rw [Array.toArray_toList] at r1
          unfold Oper.wp execOp
          rw [hop]
          simp only [resolve, e1, Sem.run_bind, Sem.run_pure, Result.andThen_ok, invoke, builtin, r1, Oper.upon_value]
          exact hK φ v' w' r2 r3 r4
        · cases ha
      all_goals exact hlight rfl
  all_goals exact hlight rfl

theorem FreeIn.left {a b c : Nat} (hf : FreeIn φ a c) (h : b ≤ c) : FreeIn φ a b := fun k h1 h2 => hf k h1 (by omega)
theorem FreeIn.right {lo : Nat} (x : Ext lo φ h w φ' h' w') {c : Nat} (hf : FreeIn φ h.next c) : FreeIn φ' h'.next c := by
  intro k h1 h2
  have hn : φ k = none := hf k (by have := x.next; omega) h2
  cases hk : φ' k with
  | none => rfl
  | some y => have := x.dom k hn (by rw [hk]; simp); omega

theorem runOps_next {call : CallFn} (hc : CallNext call) {lo nt : Nat} {ops : Array Oper} : ∀ {l : List Oper} {e e' : Env} {h h' : H}, runOps P call lo nt ops l e h = some (e', h') → h.next ≤ h'.next
  | [], e, e', h, h', hr => by cases hr; exact Nat.le_refl _
  | o :: r, e, e', h, h', hr => by
    unfold runOps at hr
    split at hr
    · split at hr
      · rename_i v h1 ha
        split at hr
        · exact Nat.le_trans (aop_next hc ha) (runOps_next hc hr)
        · cases hr
      · cases hr
    · split at hr
      · exact runOps_next hc hr
      · cases hr
theorem runOps_sim {call : CallFn} (hnm : NameOk P) (hcs : CallSim P call) (hcn : CallNext call) {lo nt : Nat} {ops : Array Oper} {Q : Exit → Act → World → Prop} :
    ∀ {l : List Oper} {e e' : Env} {h h' : H}, runOps P call lo nt ops l e h = some (e', h') → ∀ {φ : Phi} {w : World} {a : Act}, ER φ e a.tmps → a.tmps.size = nt → Sim φ h w → FreeIn φ h.next h'.next → lo ≤ h.next →
      (∀ φ' a' w', Ext lo φ h w φ' h' w' → Sim φ' h' w' → ER φ' e' a'.tmps → a'.tmps.size = nt → a'.defers = a.defers → Q .normal a' w') → wpList P ops Q l a w
  | [], e, e', h, h', hr, φ, w, a, he, hsz, s, hfr, hlo, hQ => by
    cases hr
    exact hQ φ a w (Ext.refl _ _ _ _) s he hsz rfl
  | o :: r, e, e', h, h', hr, φ, w, a, he, hsz, s, hfr, hlo, hQ => by
    unfold runOps at hr
    unfold wpList
    rw [wanted_rel he]
    split at hr
    · rename_i hw
      rw [if_pos hw]
      split at hr
      · rename_i v h1 ha
        split at hr
        · rename_i e1 hp
          have hn1 := aop_next hcn ha
          have hn2 := runOps_next hcn hr
          refine .inl (aop_sim hnm hcs ha he s (hfr.left hn2) hlo fun φ1 v1 w1 x1 s1 hv1 => ?_)
          obtain ⟨he1, hsz1⟩ := put_rel hp (he.mono x1.le) hsz hv1
          refine runOps_sim hnm hcs hcn hr he1 hsz1 s1 (FreeIn.right x1 hfr) (by omega) fun φ2 a2 w2 x2 s2 he2 hsz2 hd2 => ?_
          exact hQ φ2 a2 w2 (x1.trans x2) s2 he2 hsz2 (hd2.trans (put_defers _ _ _))
        · cases hr
      · cases hr
    · rename_i hw
      rw [if_neg hw]
      split at hr
      · rename_i e1 hp
        obtain ⟨he1, hsz1⟩ := put_rel hp he hsz VR.undef
        refine runOps_sim hnm hcs hcn hr he1 hsz1 s hfr hlo fun φ2 a2 w2 x2 s2 he2 hsz2 hd2 => ?_
        exact hQ φ2 a2 w2 x2 s2 he2 hsz2 (hd2.trans (put_defers _ _ _))
      · cases hr
end Go.Den
