/- Memory, continued: a store, an append, a mark. -/
import Derived.Test.YtghmbmblhdgabaaMem
import Derived.Laws.Append
import Derived.Laws.AppendOwn
set_option linter.all false
namespace Go.Den
open Go
variable {P : Program} {φ φ' : Phi} {w w' : World} {h h' : H}

/-! ### a store into a block of its own -/
theorem get_put (h : H) (b f : Nat) (l : List V) (c : Nat) : (h.put b f l).get c = if c = b then some (.cells l (some f)) else h.get c := by
  unfold H.put H.get; exact T.get_set _ _ _ _
theorem fam_put (h : H) (b f : Nat) (l : List V) (g : Nat) : (h.put b f l).fam g = if g = f then some (b, b) else h.fam g := by
  unfold H.put H.fam; exact T.get_set _ _ _ _
section put
variable {b f low : Nat} {l l' : List V}
theorem HWF.put (wf : HWF h) (hg : h.get b = some (.cells l (some f))) (hf : h.fam f = some (b, low)) (l' : List V) : HWF (h.put b f l') := by
  have hlt := wf.lt _ _ hg
  have hfb := (wf.fam _ _ _ hg).1
  refine ⟨fun c o hc => ?_, fun c l2 f2 hc => ?_⟩
  · rw [get_put] at hc
    split at hc
    · rename_i e; subst e; exact hlt
    · exact wf.lt _ _ hc
  · rw [get_put] at hc
    split at hc
    · rename_i e
      cases hc
      subst e
      exact ⟨hfb, c, c, by rw [fam_put, if_pos rfl], Nat.le_refl _, hlt, Nat.le_refl _⟩
    · obtain ⟨h1, o, lw, h2, h3, h4, h5⟩ := wf.fam _ _ _ hc
      refine ⟨h1, ?_⟩
      by_cases e : f2 = f
      · subst e
        rw [hf] at h2
        cases h2
        exact ⟨b, b, by rw [fam_put, if_pos rfl], h3, hlt, Nat.le_refl _⟩
      · exact ⟨o, lw, by rw [fam_put, if_neg e]; exact h2, h3, h4, h5⟩
/-- what may be read behind the store: the block itself; of its family nothing else -/
theorem read_put (wf : HWF h) (hg : h.get b = some (.cells l (some f))) (hf : h.fam f = some (b, low)) {c : Nat} {l2 : List V} (hr : (h.put b f l').read c = some l2) :
    (c = b ∧ l2 = l') ∨ (c ≠ b ∧ h.read c = some l2 ∧ h.famOf c ≠ some f) := by
  rcases read_some hr with hg2 | ⟨f2, o, lw, hg2, hf2, hle⟩
  · rw [get_put] at hg2
    split at hg2
    · cases hg2
    · rename_i e
      exact .inr ⟨e, read_ro hg2, by rw [famOf_of hg2]; simp⟩
  · rw [get_put] at hg2
    split at hg2
    · rename_i e; cases hg2; exact .inl ⟨e, rfl⟩
    · rename_i e
      rw [fam_put] at hf2
      split at hf2
      · rename_i ef
        cases hf2
        subst ef
        obtain ⟨_, o, lw, h2, h3, _⟩ := wf.fam _ _ _ hg2
        rw [hf] at h2
        cases h2
        omega
      · rename_i ef
        refine .inr ⟨e, ?_, by rw [famOf_of hg2]; simpa using ef⟩
        rw [read_fam hg2 hf2, if_pos hle]
theorem own_put (hf : h.fam f = some (b, low)) (hg : h.get b = some (.cells l (some f))) {c : Nat} (ho : own (h.put b f l') c) : own h c := by
  obtain ⟨l2, f2, lw, hg2, hf2⟩ := ho
  rw [get_put] at hg2
  split at hg2
  · rename_i e; subst e; exact ⟨l, f, low, hg, hf⟩
  · rename_i e
    rw [fam_put] at hf2
    split at hf2
    · cases hf2; exact absurd rfl e
    · exact ⟨l2, f2, lw, hg2, hf2⟩
theorem famOf_put (hg : h.get b = some (.cells l (some f))) (c : Nat) : (h.put b f l').famOf c = h.famOf c := by
  by_cases e : c = b
  · subst e; rw [famOf_of hg, famOf_of (l := l') (by rw [get_put, if_pos rfl])]
  · unfold H.famOf; rw [get_put, if_neg e]
/-- the same place in two numbers: one family -/
theorem Sim.same (s : Sim φ h w) {c x1 x2} {l1 l2 : List V} (hne : c ≠ b) (hc : φ c = some x1) (hb : φ b = some x2) (hr1 : h.read c = some l1) (hr2 : h.read b = some l2) (he : x1.1 = x2.1) (hfb : h.famOf b = some f) :
    h.famOf c = some f := by
  rcases Nat.lt_or_ge b c with hlt | hge
  · rcases s.sep _ _ _ _ _ _ hlt hc hb hr1 hr2 he with ⟨_, h2⟩ | ⟨f', h1, h2, _⟩
    · rw [hfb] at h2; cases h2
    · rw [hfb] at h2; cases h2; exact h1
  · rcases s.sep _ _ _ _ _ _ (by omega : c < b) hb hc hr2 hr1 he.symm with ⟨h1, _⟩ | ⟨f', h1, h2, _⟩
    · rw [hfb] at h1; cases h1
    · rw [hfb] at h1; cases h1; exact h2
theorem sim_put (s : Sim φ h w) {lo : Nat} (ho : h.owned lo b = some (l, f, low)) {x : Nat × Nat × Nat} (hx : φ b = some x) (hlen : l'.length = l.length)
    (hc : Cells φ w' x l') (hclr : Clear w' x.1) (hw : ∀ g, g ≠ x.1 → w'.heap[g]? = w.heap[g]?) (hs : w'.heap.size = w.heap.size) (ht : w'.tape = w.tape) (hos : w'.os = w.os) (hu : w'.output = w.output) :
    Sim φ (h.put b f l') w' ∧ Ext lo φ h w φ (h.put b f l') w' := by
  obtain ⟨hg, hf, hlo⟩ := owned_some ho
  have hrb := owned_read s.wf ho
  have hob := own_of_owned ho
  refine ⟨⟨?_, ?_, s.wf.put hg hf l', fun b x hb => by rw [hs]; exact s.bnd b x hb, ?_⟩, ⟨Phi.le.refl φ, fun _ h1 h2 => absurd h1 h2, Nat.le_refl _, ht, hos, hu, by omega, ?_, ?_, fun c _ hc => own_put hf hg hc, fun _ _ h1 h2 => by rw [h1] at h2; cases h2⟩⟩
  · intro c y l2 hy hr
    rcases read_put s.wf hg hf hr with ⟨rfl, rfl⟩ | ⟨e, hr', hnf⟩
    · rw [hx] at hy; cases hy; exact hc
    · refine (s.at_ _ _ _ hy hr').mono (Phi.le.refl φ) (hw _ fun he => hnf ?_)
      exact s.same e hy hx hr' hrb he (famOf_of hg)
  · intro b1 b2 x1 x2 l1 l2 hlt hb1 hb2 hr1 hr2 he
    rw [famOf_put hg, famOf_put hg]
    rcases read_put s.wf hg hf hr1 with ⟨rfl, rfl⟩ | ⟨e1, hr1', hnf1⟩
    · rcases read_put s.wf hg hf hr2 with ⟨rfl, rfl⟩ | ⟨e2, hr2', hnf2⟩
      · omega
      · exact absurd (s.same e2 hb2 hb1 hr2' hrb he.symm (famOf_of hg)) hnf2
    · rcases read_put s.wf hg hf hr2 with ⟨rfl, rfl⟩ | ⟨e2, hr2', hnf2⟩
      · exact absurd (s.same e1 hb1 hb2 hr1' hrb he (famOf_of hg)) hnf1
      · exact s.sep _ _ _ _ _ _ hlt hb1 hb2 hr1' hr2' he
  · intro c y l2 f2 hy hgc
    by_cases e : y.1 = x.1
    · rw [e]; exact hclr
    · rw [get_put] at hgc
      split at hgc
      · rename_i ec; subst ec; rw [hx] at hy; cases hy; exact absurd rfl e
      · exact (s.frz _ _ _ _ hy hgc).mono (hw _ e)
  · intro g hg' hno
    exact hw g fun e => hno b x hlo hob hx e.symm
  · intro c y hc' hoc hy
    exact .inr ⟨c, y, hc', own_put hf hg hoc, hy, rfl⟩
end put

/-! ### what append tells -/
theorem get_more (h : H) (f low : Nat) (l : List V) (c : Nat) : (h.more f low l).get c = if c = h.next then some (.cells l (some f)) else h.get c := by
  unfold H.more H.get; exact T.get_set _ _ _ _
theorem fam_more (h : H) (f low : Nat) (l : List V) (g : Nat) : (h.more f low l).fam g = if g = f then some (h.next, low) else h.fam g := by
  unfold H.more H.fam; exact T.get_set _ _ _ _
section more
variable {b f low low' : Nat} {l l' : List V}
theorem HWF.more (wf : HWF h) (hg : h.get b = some (.cells l (some f))) (hf : h.fam f = some (b, low)) (hlow : low' = low ∨ low' = h.next) (l' : List V) : HWF (h.more f low' l') := by
  have hlt := wf.lt _ _ hg
  have hfb := (wf.fam _ _ _ hg).1
  have hlb : low ≤ b := by
    obtain ⟨_, o, lw, h2, _, _, h5⟩ := wf.fam _ _ _ hg
    rw [hf] at h2; cases h2; exact h5
  have hn : (h.more f low' l').next = h.next + 1 := rfl
  refine ⟨fun c o hc => ?_, fun c l2 f2 hc => ?_⟩
  · rw [get_more] at hc
    split at hc
    · rw [hn]; omega
    · have := wf.lt _ _ hc; rw [hn]; omega
  · rw [get_more] at hc
    split at hc
    · rename_i e
      cases hc
      refine ⟨by omega, h.next, low', by rw [fam_more, if_pos rfl], by omega, by rw [hn]; omega, by omega⟩
    · obtain ⟨h1, o, lw, h2, h3, h4, h5⟩ := wf.fam _ _ _ hc
      refine ⟨h1, ?_⟩
      by_cases e : f2 = f
      · subst e
        have := wf.lt _ _ hc
        exact ⟨h.next, low', by rw [fam_more, if_pos rfl], by omega, by rw [hn]; omega, by omega⟩
      · exact ⟨o, lw, by rw [fam_more, if_neg e]; exact h2, h3, by rw [hn]; omega, h5⟩
theorem read_more (wf : HWF h) (hf : h.fam f = some (b, low)) {c : Nat} {l2 : List V} (hr : (h.more f low' l').read c = some l2) (hlow : low' = low ∨ low' = h.next) :
    (c = h.next ∧ l2 = l') ∨ (c ≠ h.next ∧ h.read c = some l2 ∧ (low' = low ∨ h.famOf c ≠ some f)) := by
  rcases read_some hr with hg2 | ⟨f2, o, lw, hg2, hf2, hle⟩
  · rw [get_more] at hg2
    split at hg2
    · cases hg2
    · rename_i e
      exact .inr ⟨e, read_ro hg2, .inr (by rw [famOf_of hg2]; simp)⟩
  · rw [get_more] at hg2
    split at hg2
    · rename_i e; cases hg2; exact .inl ⟨e, rfl⟩
    · rename_i e
      rw [fam_more] at hf2
      split at hf2
      · rename_i ef
        cases hf2
        subst ef
        have hlt := wf.lt _ _ hg2
        have he : low' = low := by omega
        exact .inr ⟨e, by rw [read_fam hg2 hf, if_pos (by omega)], .inl he⟩
      · rename_i ef
        exact .inr ⟨e, by rw [read_fam hg2 hf2, if_pos hle], .inr (by rw [famOf_of hg2]; simpa using ef)⟩
theorem own_more (hf : h.fam f = some (b, low)) {c : Nat} (ho : own (h.more f low' l') c) : c = h.next ∨ (own h c ∧ c ≠ h.next) := by
  obtain ⟨l2, f2, lw, hg2, hf2⟩ := ho
  rw [get_more] at hg2
  split at hg2
  · exact .inl ‹_›
  · rename_i e
    rw [fam_more] at hf2
    split at hf2
    · cases hf2; exact absurd rfl e
    · exact .inr ⟨⟨l2, f2, lw, hg2, hf2⟩, e⟩
theorem famOf_more_new (h : H) : (h.more f low' l').famOf h.next = some f := famOf_of (by rw [get_more, if_pos rfl])
theorem famOf_more_old {c : Nat} (hc : c ≠ h.next) : (h.more f low' l').famOf c = h.famOf c := by unfold H.famOf; rw [get_more, if_neg hc]
/-- behind an append: in place (x0 in the old block's place) or elsewhere -/
theorem sim_more (s : Sim φ h w) {lo : Nat} (ho : h.owned lo b = some (l, f, low)) (hn : φ h.next = none) {x0 x : Nat × Nat × Nat} (hx : φ b = some x)
    (hlow : low' = low ∨ low' = h.next) (hc : Cells φ w' x0 l') (hclr : Clear w' x0.1)
    (hpl : (x0.1 = w.heap.size ∧ ∀ g, g < w.heap.size → w'.heap[g]? = w.heap[g]?) ∨
      (x0.1 = x.1 ∧ (∀ g, g ≠ x.1 → w'.heap[g]? = w.heap[g]?) ∧
        (low' = low → x.2.1 + l.length ≤ x0.2.1 + l'.length ∧ ∀ y l2, y.1 = x.1 → y.2.1 + l2.length ≤ x.2.1 + l.length → Cells φ w y l2 → Cells φ w' y l2)))
    (hs : w.heap.size ≤ w'.heap.size) (ht : w'.tape = w.tape) (hos : w'.os = w.os) (hu : w'.output = w.output) (hlo : lo ≤ h.next) :
    Sim (φ.with h.next x0) (h.more f low' l') w' ∧ Ext lo φ h w (φ.with h.next x0) (h.more f low' l') w' := by
  obtain ⟨hg, hf, hlob⟩ := owned_some ho
  have hrb := owned_read s.wf ho
  have hob := own_of_owned ho
  have hfb := famOf_of hg
  have hxlt := (s.at_ _ _ _ hx hrb).lt
  have hle : φ.le (φ.with h.next x0) := Phi.le_with hn
  have hown : ∀ o lw, h.fam f = some (o, lw) → o = b := fun o lw e => by rw [hf] at e; cases e; rfl
  -- what could be read before and still may be stands as it stood
  have hold : ∀ c y l2, c ≠ h.next → φ c = some y → h.read c = some l2 → (low' = low ∨ h.famOf c ≠ some f) → Cells φ w' y l2 ∧ (y.1 = x.1 → x0.1 = x.1 → h.famOf c = some f ∧ low' = low ∧ y.2.1 + l2.length ≤ x.2.1 + l.length) := by
    intro c y l2 hcn hy hr hcond
    have hcc := s.at_ _ _ _ hy hr
    by_cases he : y.1 = x.1
    · have hend : h.famOf c = some f ∧ y.2.1 + l2.length ≤ x.2.1 + l.length := by
        by_cases hcb : c = b
        · subst hcb
          rw [hx] at hy
          cases hy
          rw [hrb] at hr
          cases hr
          exact ⟨hfb, Nat.le_refl _⟩
        · have hfc := s.same hcb hy hx hr hrb he hfb
          refine ⟨hfc, ?_⟩
          have hcltb : c < b := by
            rcases read_some hr with hg2 | ⟨f2, o, lw, hg2, hf2, _⟩
            · rw [famOf_of hg2] at hfc; cases hfc
            · rw [famOf_of hg2] at hfc
              cases hfc
              obtain ⟨_, o, lw, h2, h3, _⟩ := s.wf.fam _ _ _ hg2
              have := hown _ _ h2
              omega
          rcases s.sep _ _ _ _ _ _ hcltb hx hy hrb hr he.symm with ⟨h1, _⟩ | ⟨_, _, _, h3⟩
          · rw [hfb] at h1; cases h1
          · exact h3
      have hlw : low' = low := hcond.resolve_right (fun e => e hend.1)
      refine ⟨?_, fun _ _ => ⟨hend.1, hlw, hend.2⟩⟩
      rcases hpl with ⟨_, hk⟩ | ⟨_, _, hk⟩
      · exact hcc.mono (Phi.le.refl φ) (hk _ hcc.lt)
      · exact (hk hlw).2 _ _ he hend.2 hcc
    · refine ⟨?_, fun e => absurd e he⟩
      rcases hpl with ⟨_, hk⟩ | ⟨_, hk, _⟩
      · exact hcc.mono (Phi.le.refl φ) (hk _ hcc.lt)
      · exact hcc.mono (Phi.le.refl φ) (hk _ he)
  refine ⟨⟨?_, ?_, s.wf.more hg hf hlow l', ?_, ?_⟩, ⟨hle, ?_, by show h.next ≤ h.next + 1; omega, ht, hos, hu, hs, ?_, ?_, ?_, ?_⟩⟩
  · intro c y l2 hy hr
    rcases read_more s.wf hf hr hlow with ⟨rfl, rfl⟩ | ⟨e, hr', hcond⟩
    · rw [Phi.with_at] at hy; cases hy; exact hc.mono hle rfl
    · rw [Phi.with_ne _ _ e] at hy
      exact (hold c y l2 e hy hr' hcond).1.mono hle rfl
  · intro b1 b2 x1 x2 l1 l2 hlt hb1 hb2 hr1 hr2 he
    rcases read_more s.wf hf hr2 hlow with ⟨rfl, rfl⟩ | ⟨e2, hr2', hc2⟩
    · rcases read_more s.wf hf hr1 hlow with ⟨rfl, rfl⟩ | ⟨e1, hr1', hc1⟩
      · omega
      · exfalso
        rcases read_some hr1' with hg2 | ⟨f2, o, lw, hg2, _⟩ <;> have := s.wf.lt _ _ hg2 <;> omega
    · rw [Phi.with_ne _ _ e2] at hb2
      rcases read_more s.wf hf hr1 hlow with ⟨rfl, rfl⟩ | ⟨e1, hr1', hc1⟩
      · rw [Phi.with_at] at hb1
        cases hb1
        rcases hpl with ⟨h1, _⟩ | ⟨h1, _, hk⟩
        · have := (s.at_ _ _ _ hb2 hr2').lt
          omega
        · obtain ⟨h3, h4, h5⟩ := (hold b2 x2 l2 e2 hb2 hr2' hc2).2 (he.symm.trans h1) h1
          exact .inr ⟨f, famOf_more_new h, by rw [famOf_more_old e2]; exact h3, by have := (hk h4).1; omega⟩
      · rw [Phi.with_ne _ _ e1] at hb1
        rw [famOf_more_old e1, famOf_more_old e2]
        exact s.sep _ _ _ _ _ _ hlt hb1 hb2 hr1' hr2' he
  · intro c y hy
    by_cases hcn : c = h.next
    · rw [hcn, Phi.with_at] at hy; cases hy; exact hc.lt
    · rw [Phi.with_ne _ _ hcn] at hy; have := s.bnd _ _ hy; omega
  · intro c y l2 f2 hy hgc
    by_cases hcn : c = h.next
    · rw [hcn, Phi.with_at] at hy; cases hy; exact hclr
    · rw [Phi.with_ne _ _ hcn] at hy
      rw [get_more, if_neg hcn] at hgc
      have h0 := s.frz _ _ _ _ hy hgc
      rcases hpl with ⟨_, hk⟩ | ⟨h1, hk, _⟩
      · exact h0.mono (hk _ (s.bnd _ _ hy))
      · by_cases e : y.1 = x.1
        · rw [e, ← h1]; exact hclr
        · exact h0.mono (hk _ e)
  · intro c h1 h2
    by_cases hcn : c = h.next
    · subst hcn; exact ⟨Nat.le_refl _, Nat.lt_succ_self _⟩
    · rw [Phi.with_ne _ _ hcn] at h2; exact absurd h1 h2
  · intro g hg' hno
    rcases hpl with ⟨_, hk⟩ | ⟨_, hk, _⟩
    · exact hk g hg'
    · exact hk g fun e => hno b x hlob hob hx e.symm
  · intro c y hcl hoc hy
    rcases own_more hf hoc with rfl | ⟨h1, h2⟩
    · rw [Phi.with_at] at hy
      cases hy
      rcases hpl with ⟨h1, _⟩ | ⟨h1, _⟩
      · exact .inl (by omega)
      · exact .inr ⟨b, x, hlob, hob, hx, h1.symm⟩
    · rw [Phi.with_ne _ _ h2] at hy
      exact .inr ⟨c, y, hcl, h1, hy, rfl⟩
  · intro c hcl hoc
    rcases own_more hf hoc with rfl | ⟨h1, _⟩
    · omega
    · exact h1
  · intro c y h1 h2
    by_cases hcn : c = h.next
    · rw [hcn, Phi.with_at] at h2
      cases h2
      rcases hpl with ⟨h3, _⟩ | ⟨h3, _⟩
      · exact .inl (by omega)
      · exact .inr ⟨b, x, hlob, hob, hx, h3.symm⟩
    · rw [Phi.with_ne _ _ hcn, h1] at h2; cases h2
end more
end Go.Den
