/- How the machine's memory stands for the model's, and that it still does behind a new block, a store, an append. -/
import Derived.Test.YtghmbmblhdgabaaLight5
set_option linter.all false
namespace Go.Den
open Go
variable {P : Program} {φ φ' : Phi} {w w' : World} {h h' : H}

def H.famOf (h : H) (b : Nat) : Option Nat := match h.get b with
  | some (.cells _ f) => f
  | _ => none
def own (h : H) (b : Nat) : Prop := ∃ l f low, h.get b = some (.cells l (some f)) ∧ h.fam f = some (b, low)
structure HWF (h : H) : Prop where
  lt : ∀ b o, h.get b = some o → b < h.next
  fam : ∀ b l f, h.get b = some (.cells l (some f)) → f ≤ b ∧ ∃ o low, h.fam f = some (o, low) ∧ b ≤ o ∧ o < h.next ∧ low ≤ o
structure Sim (φ : Phi) (h : H) (w : World) : Prop where
  at_ : ∀ b x l, φ b = some x → h.read b = some l → Cells φ w x l
  sep : ∀ b1 b2 x1 x2 l1 l2, b2 < b1 → φ b1 = some x1 → φ b2 = some x2 → h.read b1 = some l1 → h.read b2 = some l2 → x1.1 = x2.1 →
    (h.famOf b1 = none ∧ h.famOf b2 = none) ∨ (∃ f, h.famOf b1 = some f ∧ h.famOf b2 = some f ∧ x2.2.1 + l2.length ≤ x1.2.1 + l1.length)
  wf : HWF h
  bnd : ∀ b x, φ b = some x → x.1 < w.heap.size
  frz : ∀ b x l f, φ b = some x → h.get b = some (.cells l (some f)) → Clear w x.1
structure Ext (lo : Nat) (φ : Phi) (h : H) (w : World) (φ' : Phi) (h' : H) (w' : World) : Prop where
  le : φ.le φ'
  dom : ∀ b, φ b = none → φ' b ≠ none → h.next ≤ b ∧ b < h'.next
  next : h.next ≤ h'.next
  tape : w'.tape = w.tape
  os : w'.os = w.os
  out : w'.output = w.output
  size : w.heap.size ≤ w'.heap.size
  keep : ∀ g, g < w.heap.size → (∀ b x, lo ≤ b → own h b → φ b = some x → x.1 ≠ g) → w'.heap[g]? = w.heap[g]?
  mine : ∀ b x, lo ≤ b → own h' b → φ' b = some x → w.heap.size ≤ x.1 ∨ ∃ b0 x0, lo ≤ b0 ∧ own h b0 ∧ φ b0 = some x0 ∧ x0.1 = x.1
  low : ∀ b, b < lo → own h' b → own h b
  fresh : ∀ b x, φ b = none → φ' b = some x → w.heap.size ≤ x.1 ∨ ∃ b0 x0, lo ≤ b0 ∧ own h b0 ∧ φ b0 = some x0 ∧ x0.1 = x.1
def FreeIn (φ : Phi) (a b : Nat) : Prop := ∀ k, a ≤ k → k < b → φ k = none

theorem Ext.refl (lo : Nat) (φ : Phi) (h : H) (w : World) : Ext lo φ h w φ h w :=
  ⟨Phi.le.refl φ, fun _ h1 h2 => absurd h1 h2, Nat.le_refl _, rfl, rfl, rfl, Nat.le_refl _, fun _ _ _ => rfl, fun b x hb ho hx => .inr ⟨b, x, hb, ho, hx, rfl⟩, fun _ _ h => h, fun _ _ h1 h2 => by rw [h1] at h2; cases h2⟩
theorem Ext.trans {lo : Nat} {φ1 φ2 φ3 : Phi} {h1 h2 h3 : H} {w1 w2 w3 : World} (a : Ext lo φ1 h1 w1 φ2 h2 w2) (b : Ext lo φ2 h2 w2 φ3 h3 w3) : Ext lo φ1 h1 w1 φ3 h3 w3 := by
  refine ⟨a.le.trans b.le, ?_, Nat.le_trans a.next b.next, b.tape.trans a.tape, b.os.trans a.os, b.out.trans a.out, Nat.le_trans a.size b.size, ?_, ?_, fun c hc ho => a.low c hc (b.low c hc ho), ?_⟩
  · intro c hc1 hc3
    by_cases hc2 : φ2 c = none
    · have := b.dom c hc2 hc3; have := a.next; omega
    · have := a.dom c hc1 hc2; have := b.next; omega
  · intro g hg hno
    refine (b.keep g (Nat.lt_of_lt_of_le hg a.size) ?_).trans (a.keep g hg hno)
    intro c x hc ho hx he
    rcases a.mine c x hc ho hx with h | ⟨c0, x0, h0, h1, h2, h3⟩
    · omega
    · exact hno c0 x0 h0 h1 h2 (h3.trans he)
  · intro c x hc ho hx
    rcases b.mine c x hc ho hx with h | ⟨c0, x0, h0, h1, h2, h3⟩
    · left; have := a.size; omega
    · rcases a.mine c0 x0 h0 h1 h2 with h | ⟨c1, x1, g0, g1, g2, g3⟩
      · left; omega
      · exact .inr ⟨c1, x1, g0, g1, g2, g3.trans h3⟩
  · intro c x hc1 hc3
    cases hc2 : φ2 c with
    | some y =>
      have := b.le _ _ hc2
      rw [hc3] at this
      cases this
      exact a.fresh c x hc1 hc2
    | none =>
      rcases b.fresh c x hc2 hc3 with h | ⟨c0, x0, h0, h1, h2, h3⟩
      · left; have := a.size; omega
      · rcases a.mine c0 x0 h0 h1 h2 with h | ⟨c1, x1, g0, g1, g2, g3⟩
        · left; omega
        · exact .inr ⟨c1, x1, g0, g1, g2, g3.trans h3⟩
/-- under a higher barrier less may turn -/
theorem Ext.lower {lo lo' : Nat} (hl : lo ≤ lo') (wf : HWF h) (a : Ext lo' φ h w φ' h' w') : Ext lo φ h w φ' h' w' := by
  refine ⟨a.le, a.dom, a.next, a.tape, a.os, a.out, a.size, fun g hg hno => a.keep g hg fun b x hb => hno b x (Nat.le_trans hl hb), ?_, fun b hb => a.low b (Nat.lt_of_lt_of_le hb hl), fun b x h1 h2 => (a.fresh b x h1 h2).imp id fun ⟨b0, x0, g0, g⟩ => ⟨b0, x0, Nat.le_trans hl g0, g⟩⟩
  intro b x hb ho hx
  rcases Nat.lt_or_ge b lo' with h1 | h1
  · have ho' := a.low b h1 ho
    have hlt : b < h.next := by
      obtain ⟨l, f, lw, hg, _⟩ := ho'
      exact wf.lt _ _ hg
    cases hφ : φ b with
    | none => have := a.dom b hφ (by rw [hx]; simp); omega
    | some x0 =>
      have := a.le _ _ hφ
      rw [hx] at this
      cases this
      exact .inr ⟨b, x, hb, ho', hφ, rfl⟩
  · rcases a.mine b x h1 ho hx with h | ⟨b0, x0, g0, g1, g2, g3⟩
    · exact .inl h
    · exact .inr ⟨b0, x0, Nat.le_trans hl g0, g1, g2, g3⟩

theorem Cells.lt {x : Nat × Nat × Nat} {l : List V} (hc : Cells φ w x l) : x.1 < w.heap.size := by
  obtain ⟨arr, t, lo, hi, hh, _⟩ := hc
  rcases Nat.lt_or_ge x.1 w.heap.size with h1 | h1
  · exact h1
  · rw [Array.getElem?_eq_none h1] at hh; cases hh
theorem Cells.mono {x : Nat × Nat × Nat} {l : List V} (hc : Cells φ w x l) (hl : φ.le φ') (hw : w'.heap[x.1]? = w.heap[x.1]?) : Cells φ' w' x l := by
  obtain ⟨arr, t, lo, hi, h1, h2, h3, h4, h5⟩ := hc
  exact ⟨arr, t, lo, hi, hw.trans h1, h2, h3, h4, h5.mono hl⟩

/-! ### what may be read -/
theorem read_some {b : Nat} {l : List V} (hr : h.read b = some l) :
    h.get b = some (.cells l none) ∨ ∃ f o low, h.get b = some (.cells l (some f)) ∧ h.fam f = some (o, low) ∧ low ≤ b := by
  unfold H.read at hr
  split at hr
  · rename_i l' hg; cases hr; exact .inl hg
  · rename_i l' f hg
    split at hr
    · rename_i o low hf
      split at hr
      · rename_i hle; cases hr; exact .inr ⟨f, o, low, hg, hf, hle⟩
      · cases hr
    · cases hr
  · cases hr
theorem read_ro {b : Nat} {l : List V} (hg : h.get b = some (.cells l none)) : h.read b = some l := by unfold H.read; rw [hg]
theorem read_fam {b f o low : Nat} {l : List V} (hg : h.get b = some (.cells l (some f))) (hf : h.fam f = some (o, low)) : h.read b = if low ≤ b then some l else none := by
  unfold H.read; rw [hg]; simp only [hf]
theorem famOf_of {b : Nat} {l : List V} {f : Option Nat} (hg : h.get b = some (.cells l f)) : h.famOf b = f := by unfold H.famOf; rw [hg]
theorem owned_some {lo b f low : Nat} {l : List V} (ho : h.owned lo b = some (l, f, low)) : h.get b = some (.cells l (some f)) ∧ h.fam f = some (b, low) ∧ lo ≤ b := by
  unfold H.owned at ho
  split at ho
  · rename_i l' f' hg
    split at ho
    · rename_i o lw hf
      split at ho
      · rename_i he
        split at ho
        · rename_i hle; cases ho; subst he; exact ⟨hg, hf, hle.1⟩
        · cases ho
      · cases ho
    · cases ho
  · cases ho
theorem owned_fam {lo b f low : Nat} {l : List V} (ho : h.owned lo b = some (l, f, low)) : lo ≤ f := by
  unfold H.owned at ho
  split at ho
  · split at ho
    · split at ho
      · split at ho
        · rename_i hle; cases ho; exact hle.2
        · cases ho
      · cases ho
    · cases ho
  · cases ho
theorem owned_read {lo b f low : Nat} {l : List V} (wf : HWF h) (ho : h.owned lo b = some (l, f, low)) : h.read b = some l := by
  obtain ⟨hg, hf, _⟩ := owned_some ho
  rw [read_fam hg hf]
  obtain ⟨_, o, lw, h1, _, _, h4⟩ := wf.fam _ _ _ hg
  rw [hf] at h1
  cases h1
  rw [if_pos h4]
theorem own_of_owned {lo b f low : Nat} {l : List V} (ho : h.owned lo b = some (l, f, low)) : own h b := by
  obtain ⟨hg, hf, _⟩ := owned_some ho
  exact ⟨l, f, low, hg, hf⟩

/-! ### a new block -/
theorem get_alloc (h : H) (l : List V) (b : Nat) : (h.alloc l).get b = if b = h.next then some (.cells l (some h.next)) else h.get b := by
  unfold H.alloc H.get; exact T.get_set _ _ _ _
theorem fam_alloc (h : H) (l : List V) (f : Nat) : (h.alloc l).fam f = if f = h.next then some (h.next, h.next) else h.fam f := by
  unfold H.alloc H.fam; exact T.get_set _ _ _ _
theorem HWF.next_none (wf : HWF h) : h.get h.next = none := by
  cases hg : h.get h.next with
  | none => rfl
  | some o => exact absurd (wf.lt _ _ hg) (Nat.lt_irrefl _)
theorem read_alloc (wf : HWF h) (l : List V) (b : Nat) : (h.alloc l).read b = if b = h.next then some l else h.read b := by
  by_cases hb : b = h.next
  · subst hb
    rw [if_pos rfl, read_fam (l := l) (f := h.next) (o := h.next) (low := h.next) (by rw [get_alloc, if_pos rfl]) (by rw [fam_alloc, if_pos rfl]), if_pos (Nat.le_refl _)]
  · rw [if_neg hb]
    have hg : (h.alloc l).get b = h.get b := by rw [get_alloc, if_neg hb]
    unfold H.read
    rw [hg]
    split
    · rfl
    · rename_i l' f hg'
      have hlt := wf.lt _ _ hg'
      have hf := (wf.fam _ _ _ hg').1
      rw [fam_alloc, if_neg (by omega)]
    · rfl
theorem HWF.alloc (wf : HWF h) (l : List V) : HWF (h.alloc l) := by
  have hn : (h.alloc l).next = h.next + 1 := rfl
  refine ⟨fun b o hg => ?_, fun b l' f hg => ?_⟩
  · rw [get_alloc] at hg
    split at hg
    · rename_i hb; rw [hn]; omega
    · have := wf.lt _ _ hg; rw [hn]; omega
  · rw [get_alloc] at hg
    split at hg
    · rename_i hb
      cases hg
      exact ⟨by omega, h.next, h.next, by rw [fam_alloc, if_pos rfl], by omega, by rw [hn]; omega, Nat.le_refl _⟩
    · rename_i hb
      obtain ⟨h1, o, low, h2, h3, h4, h5⟩ := wf.fam _ _ _ hg
      have hlt := wf.lt _ _ hg
      exact ⟨h1, o, low, by rw [fam_alloc, if_neg (by omega)]; exact h2, h3, by rw [hn]; omega, h5⟩
theorem own_alloc (wf : HWF h) {l : List V} {b : Nat} (ho : own (h.alloc l) b) : b = h.next ∨ own h b := by
  obtain ⟨l', f, low, hg, hf⟩ := ho
  rw [get_alloc] at hg
  split at hg
  · exact .inl ‹_›
  · have hlt := wf.lt _ _ hg
    have := (wf.fam _ _ _ hg).1
    rw [fam_alloc, if_neg (by omega)] at hf
    exact .inr ⟨l', f, low, hg, hf⟩
def Phi.with (φ : Phi) (b : Nat) (x : Nat × Nat × Nat) : Phi := fun c => if c = b then some x else φ c
theorem Phi.le_with {φ : Phi} {b : Nat} {x : Nat × Nat × Nat} (hn : φ b = none) : φ.le (φ.with b x) := by
  intro c y hy
  unfold Phi.with
  rw [if_neg (fun e => by subst e; rw [hn] at hy; cases hy)]
  exact hy
theorem Phi.with_at (φ : Phi) (b : Nat) (x : Nat × Nat × Nat) : φ.with b x b = some x := by unfold Phi.with; rw [if_pos rfl]
theorem Phi.with_ne (φ : Phi) {b c : Nat} (x : Nat × Nat × Nat) (hne : c ≠ b) : φ.with b x c = φ c := by unfold Phi.with; rw [if_neg hne]

theorem heap_push_old {o : Go.Obj} (hh : w'.heap = w.heap.push o) {g : Nat} (hg : g < w.heap.size) : w'.heap[g]? = w.heap[g]? := by
  rw [hh, Array.getElem?_push, if_neg (by omega)]
theorem sim_alloc (s : Sim φ h w) (hn : φ h.next = none) {l : List V} {arr : Array Value} {t : TypeId} {lo0 hi0 : Nat} (hh : w'.heap = w.heap.push (.cells arr t (lo0, hi0)))
    (ht : w'.tape = w.tape) (hos : w'.os = w.os) (hu : w'.output = w.output) (hl : l.length ≤ arr.size) (hf : lo0 = hi0 ∨ arr.size ≤ lo0) (hr : VRs φ l (arr.toList.take l.length))
    {lo : Nat} (hlo : lo ≤ h.next) :
    Sim (φ.with h.next (w.heap.size, 0, arr.size)) (h.alloc l) w' ∧ Ext lo φ h w (φ.with h.next (w.heap.size, 0, arr.size)) (h.alloc l) w' := by
  have hle : φ.le (φ.with h.next (w.heap.size, 0, arr.size)) := Phi.le_with hn
  have hs : w'.heap.size = w.heap.size + 1 := by rw [hh]; simp
  refine ⟨⟨?_, ?_, s.wf.alloc l, ?_, ?_⟩, ⟨hle, ?_, by show h.next ≤ h.next + 1; omega, ht, hos, hu, by omega, fun g hg _ => heap_push_old hh hg, ?_, ?_, ?_⟩⟩
  · intro b x l' hb hrd
    rw [read_alloc s.wf] at hrd
    by_cases hbn : b = h.next
    · rw [if_pos hbn] at hrd
      cases hrd
      rw [hbn, Phi.with_at] at hb
      cases hb
      exact ⟨arr, t, lo0, hi0, by rw [hh]; simp, rfl, trivial, by simpa using hl, by simpa using hr.mono hle⟩
    · rw [if_neg hbn] at hrd
      rw [Phi.with_ne _ _ hbn] at hb
      have hc := s.at_ _ _ _ hb hrd
      exact hc.mono hle (heap_push_old hh hc.lt)
  · intro b1 b2 x1 x2 l1 l2 hlt hb1 hb2 hr1 hr2 he
    rw [read_alloc s.wf] at hr1 hr2
    by_cases hn1 : b1 = h.next
    · rw [hn1, Phi.with_at] at hb1
      cases hb1
      rw [if_neg (by omega)] at hr2
      rw [Phi.with_ne _ _ (by omega)] at hb2
      have := (s.at_ _ _ _ hb2 hr2).lt
      simp only at he
      omega
    · by_cases hn2 : b2 = h.next
      · rw [hn2, Phi.with_at] at hb2
        cases hb2
        rw [if_neg hn1] at hr1
        rw [Phi.with_ne _ _ hn1] at hb1
        have := (s.at_ _ _ _ hb1 hr1).lt
        simp only at he
        omega
      · rw [if_neg hn1] at hr1
        rw [if_neg hn2] at hr2
        rw [Phi.with_ne _ _ hn1] at hb1
        rw [Phi.with_ne _ _ hn2] at hb2
        have e : ∀ b, b ≠ h.next → (h.alloc l).famOf b = h.famOf b := fun b hb => by unfold H.famOf; rw [get_alloc, if_neg hb]
        rw [e _ hn1, e _ hn2]
        exact s.sep _ _ _ _ _ _ hlt hb1 hb2 hr1 hr2 he
  · intro b x hb
    by_cases hbn : b = h.next
    · rw [hbn, Phi.with_at] at hb; cases hb; simp only; omega
    · rw [Phi.with_ne _ _ hbn] at hb; have := s.bnd _ _ hb; omega
  · intro b x l' f hb hg
    rw [get_alloc] at hg
    by_cases hbn : b = h.next
    · rw [hbn, Phi.with_at] at hb; cases hb; exact Clear.of (arr := arr) (t := t) (lo := lo0) (hi := hi0) (by rw [hh]; simp) hf
    · rw [if_neg hbn] at hg
      rw [Phi.with_ne _ _ hbn] at hb
      exact (s.frz _ _ _ _ hb hg).mono (heap_push_old hh (s.bnd _ _ hb))
  · intro b h1 h2
    by_cases hbn : b = h.next
    · subst hbn; exact ⟨Nat.le_refl _, Nat.lt_succ_self _⟩
    · rw [Phi.with_ne _ _ hbn] at h2; exact absurd h1 h2
  · intro b x hb ho hx
    rcases own_alloc s.wf ho with h1 | h1
    · rw [h1, Phi.with_at] at hx; cases hx; exact .inl (Nat.le_refl _)
    · have hlt : b < h.next := by obtain ⟨_, _, _, hg, _⟩ := h1; exact s.wf.lt _ _ hg
      rw [Phi.with_ne _ _ (by omega)] at hx
      exact .inr ⟨b, x, hb, h1, hx, rfl⟩
  · intro b hb ho
    exact (own_alloc s.wf ho).resolve_left (by omega)
  · intro b x h1 h2
    by_cases hbn : b = h.next
    · rw [hbn, Phi.with_at] at h2; cases h2; exact .inl (Nat.le_refl _)
    · rw [Phi.with_ne _ _ hbn, h1] at h2; cases h2

/-- what a light operation leaves -/
theorem light_sim {r : LR} {v' : Value} (hl : LightRes φ w r v' w') (s : Sim φ h w) {v : V} {lo : Nat} (hlo : lo ≤ h.next) (hk : keep h (some r) = some (v, h')) (hn : FreeIn φ h.next h'.next) :
    ∃ φ', Ext lo φ h w φ' h' w' ∧ Sim φ' h' w' ∧ VR φ' v v' := by
  cases hl with
  | val hv =>
    cases hk
    exact ⟨φ, Ext.refl _ _ _ _, s, hv⟩
  | new arr t lo0 hi0 hh ht ho hu hl hf hr hk' =>
    cases hk
    have hn' : φ h.next = none := hn _ (Nat.le_refl _) (Nat.lt_succ_self _)
    obtain ⟨h1, h2⟩ := sim_alloc s hn' hh ht ho hu hl hf hr hlo
    refine ⟨_, h2, h1, ?_⟩
    cases hk' with
    | ptr => exact .ptr (o := 0) (Phi.with_at _ _ _)
    | sl hn hc hr => exact .sl (.inl (Phi.with_at _ _ _)) (.inl rfl) hn hc (.inl (by simpa using hr))
end Go.Den
