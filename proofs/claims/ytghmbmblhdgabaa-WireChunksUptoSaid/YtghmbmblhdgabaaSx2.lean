/- What an operation with a short environment comes to, it comes to on the machine. -/
import Derived.Test.YtghmbmblhdgabaaSx
set_option linter.all false
namespace Go.Den
open Go
variable {C : Cfg} {P : Program} {lo old : Nat} {h : H} {st : Bool}

theorem bd_P {A : Type} {o : Option A} {K : A → Prop} (hb : bd o K) : bindP o K := bd_iff.1 hb
theorem bd_P' {A : Type} {o : Option A} {K K' : A → Prop} (hb : bd o K) (hk : ∀ a, K a → K' a) : bindP o K' := by
  obtain ⟨a, h1, h2⟩ := bd_iff.1 hb; exact ⟨a, h1, hk _ h2⟩
theorem KX_L {K : V → H → Prop} {r : LR} (hk : KX h K r) : KL h K r := by cases r <;> exact hk
theorem evsX_ev {e : Env} : ∀ l : List Operand, evsX (ev e) l = evs e l
  | [] => rfl
  | x :: r => by
    have ih := evsX_ev (e := e) r
    unfold evs at ih ⊢
    unfold evsX omap
    rw [ih]
    cases ev e x with
    | none => rfl
    | some v => cases omap (ev e) r <;> rfl
theorem evoX_ev {e : Env} (x : Option Operand) : evoX (ev e) x = evo e x := by cases x <;> rfl
theorem evPartsX_ev {e : Env} : ∀ l : List (Nat × Operand), evPartsX (ev e) l = evParts e l
  | [] => rfl
  | (i, x) :: r => by
    have ih := evPartsX_ev (e := e) r
    unfold evParts at ih ⊢
    unfold evPartsX omap
    rw [ih]
    have he : evPart e (i, x) = match ev e x with
      | some v => some (i, v)
      | none => none := rfl
    rw [he]
    cases ev e x with
    | none => rfl
    | some v => cases omap (evPart e) r <;> rfl
theorem oneX_one {l : List V} {K : V → Prop} (ho : oneX l K) : ∃ a, l = [a] ∧ K a := by
  unfold oneX at ho
  split at ho
  · exact ⟨_, rfl, ho⟩
  · exact ho.elim
theorem twoX_two {l : List V} {K : V → V → Prop} (ho : twoX l K) : ∃ a b, l = [a, b] ∧ K a b := by
  unfold twoX at ho
  split at ho
  · exact ⟨_, _, rfl, ho⟩
  · exact ho.elim
theorem intX_int' {v : V} {K : IntKind → Int → Prop} (ho : intX v K) : ∃ k n, v = .int k n ∧ K k n := by
  unfold intX at ho
  split at ho
  · exact ⟨_, _, rfl, ho⟩
  · exact ho.elim
theorem tupX_tup' {v : V} {K : List V → Prop} (ho : tupX v K) : ∃ l, v = .tup l ∧ K l := by
  unfold tupX at ho
  split at ho
  · exact ⟨_, rfl, ho⟩
  · exact ho.elim
theorem binX_bin {op : BinOp} {t : TypeId} {a b : V} {K : V → Prop} (hb : binX P op t a b K) : bindP (binV P op t a b) K := by
  unfold binX at hb
  split at hb
  · obtain ⟨c, h1, h2⟩ := bdB_iff.1 hb; exact ⟨_, h1, h2⟩
  · exact bd_P hb
theorem LO'_LO {e : Env} {rd : Rd} {o : Op} {K : V → H → Prop} (hw : LO' (ev e) P rd h o K) : LO P rd e h o K := by
  cases o <;> try exact hw.elim
  case move x => rw [LO_move]; exact bd_P hw
  case assign x => rw [LO_assign]; exact bd_P hw
  case pick c x y =>
    obtain ⟨c', h1, hw⟩ := bd_iff.1 hw
    obtain ⟨a, h2, hw⟩ := bd_iff.1 hw
    obtain ⟨b, h3, hw⟩ := bd_iff.1 hw
    rw [LO_pick]
    rcases byV_iff.1 hw with ⟨rfl, hk⟩ | ⟨rfl, hk⟩ | ⟨_, hk⟩
    · exact ⟨_, h1, true, rfl, a, h2, b, h3, hk⟩
    · exact ⟨_, h1, false, rfl, a, h2, b, h3, by simpa using hk⟩
    · exact hk.elim
  case alloc t => rw [LO_alloc]; exact bd_P hw
  case box t x => rw [LO_box]; exact bd_P hw
  case build t ps => rw [LO_build, ← evPartsX_ev]; exact bd_P' hw fun _ h => bd_P h
  case buildSlice t n ps => rw [LO_buildSlice, ← evPartsX_ev]; exact bd_P' hw fun _ h => bd_P' h fun _ h => KX_L h
  case load t x => rw [LO_load]; exact bd_P' hw fun _ h => bd_P h
  case nilCheck x => rw [LO_nilCheck]; exact bd_P' hw fun _ h => bd_P h
  case binOp op t x y _ => rw [LO_binOp]; exact bd_P' hw fun _ h => bd_P' h fun _ h => binX_bin h
  case unOp op t x => rw [LO_unOp]; exact bd_P' hw fun _ h => bd_P h
  case convert s d x => rw [LO_conv]; exact bd_P' hw fun _ h => bd_P' h fun _ h => KX_L h
  case makeFunc f a c =>
    obtain ⟨as, h1, hw⟩ := bd_iff.1 hw
    obtain ⟨cs, h2, hw⟩ := bd_iff.1 hw
    rw [evsX_ev] at h1 h2
    exact ⟨.val (.fn f as cs), by simp only [lightOp, h1, h2], hw⟩
  case makeSlice t x y => rw [LO_makeSlice]; exact bd_P' hw fun _ h => bd_P' h fun _ h => bd_P' h fun _ h => KX_L h
  case slice t x l m k =>
    rw [LO_slice, ← evoX_ev, ← evoX_ev, ← evoX_ev]
    exact bd_P' hw fun _ h => bd_P' h fun _ h => bd_P' h fun _ h => bd_P' h fun _ h => bd_P h
  case fieldAddr t x f => rw [LO_fieldAddr]; exact bd_P' hw fun _ h => bd_P h
  case field t x f => rw [LO_field]; exact bd_P' hw fun _ h => bd_P h
  case indexAddr t x y => rw [LO_indexAddr]; exact bd_P' hw fun _ h => bd_P' h fun _ h => bd_P h
  case index t x y => rw [LO_index]; exact bd_P' hw fun _ h => bd_P' h fun _ h => bd_P h
  case extract x f =>
    rw [LO_extract]
    refine bd_P' hw fun _ h => ?_
    obtain ⟨l, h1, h2⟩ := tupX_tup' h
    exact ⟨l, h1, bd_P h2⟩
  case call c =>
    obtain ⟨callee, args, ts⟩ := c
    cases callee <;> try exact hw.elim
    rename_i b
    cases b <;> try exact hw.elim
    · rw [LO_len, ← evsX_ev]
      refine bd_P' hw fun _ h => ?_
      obtain ⟨a, rfl, h2⟩ := oneX_one h
      exact bd_P h2
    · rw [LO_max]
      obtain ⟨l, h1, hw⟩ := bd_iff.1 hw
      rw [evsX_ev] at h1
      obtain ⟨a, b, rfl, h2⟩ := twoX_two hw
      obtain ⟨k, x, e1, h3⟩ := intX_int' h2
      have h3 : intX b _ := h3
      obtain ⟨k', y, e2, h4⟩ := intX_int' h3
      exact ⟨_, h1, k, x, e1, k', y, e2, h4⟩
    · rw [LO_min]
      obtain ⟨l, h1, hw⟩ := bd_iff.1 hw
      rw [evsX_ev] at h1
      obtain ⟨a, b, rfl, h2⟩ := twoX_two hw
      obtain ⟨k, x, e1, h3⟩ := intX_int' h2
      have h3 : intX b _ := h3
      obtain ⟨k', y, e2, h4⟩ := intX_int' h3
      exact ⟨_, h1, k, x, e1, k', y, e2, h4⟩
theorem callX_CW {f : V} {vs : List V} {K : V → H → Prop} (hw : callX C f vs lo h K) : ∃ g a b, f = .fn (.func g) a b ∧ CW C g (a ++ vs ++ b) lo h K := by
  unfold callX at hw
  split at hw
  · exact ⟨_, _, _, rfl, hw⟩
  · exact hw.elim
theorem OW_call_val {e : Env} {f : Operand} {as : Array Operand} {ts : Array TypeId} {K : V → H → Prop} (hw : bd (evsX (ev e) as.toList) fun vs => bd (ev e f) fun f => callX C f vs lo h K) : OW C lo e h (.call { callee := .value f, args := as, argTypes := ts }) K := by
  obtain ⟨vs, h1, hw⟩ := bd_iff.1 hw
  obtain ⟨fv, h2, hw⟩ := bd_iff.1 hw
  obtain ⟨g, a, b, rfl, hw⟩ := callX_CW hw
  rw [evsX_ev] at h1
  unfold OW
  exact ⟨vs, g, a, b, h1, h2, hw⟩
theorem OW_append_X {e : Env} {as : Array Operand} {ts : Array TypeId} {K : V → H → Prop} (hw : bd (evsX (ev e) as.toList) fun l => twoX l fun s x => bd2 (appendV C.P lo ts.toList s x h) K) : OW C lo e h (.call { callee := .builtin .append, args := as, argTypes := ts }) K := by
  rw [OW_append']
  obtain ⟨vs, h1, hw⟩ := bd_iff.1 hw
  obtain ⟨a, b, rfl, h2⟩ := twoX_two hw
  obtain ⟨v, h3, h4, h5⟩ := bd2_iff.1 h2
  rw [evsX_ev] at h1
  exact ⟨a, b, v, h3, h1, h4, h5⟩
theorem OW_copy_X {e : Env} {as : Array Operand} {ts : Array TypeId} {K : V → H → Prop} (hw : bd (evsX (ev e) as.toList) fun l => twoX l fun s x => bd2 (copyV C.P lo ts.toList s x h) K) : OW C lo e h (.call { callee := .builtin .copy, args := as, argTypes := ts }) K := by
  rw [OW_copy']
  obtain ⟨vs, h1, hw⟩ := bd_iff.1 hw
  obtain ⟨a, b, rfl, h2⟩ := twoX_two hw
  obtain ⟨v, h3, h4, h5⟩ := bd2_iff.1 h2
  rw [evsX_ev] at h1
  exact ⟨a, b, v, h3, h1, h4, h5⟩
theorem OW_mark_X {e : Env} {s : TypeId} {x : Operand} {K : V → H → Prop} (hs : isSlice C.P s = true) (hw : bd (ev e x) fun x => bd2 (markV C.P lo s x h) K) : OW C lo e h (.convert s s x) K := by
  rw [OW_mark' hs]
  obtain ⟨a, h1, hw⟩ := bd_iff.1 hw
  obtain ⟨v, h3, h4, h5⟩ := bd2_iff.1 hw
  exact ⟨a, v, h3, h1, h4, h5⟩
theorem beq_of_false {a b : Nat} (h : Nat.beq a b = false) : a ≠ b := fun e => by rw [e, Nat.beq_refl] at h; cases h
theorem OX_OW {e : Env} {o : Op} {K : V → H → Prop} (hw : OX (ev e) C lo h o K) : OW C lo e h o K := by
  cases o <;> try exact hw.elim
  case store t x y =>
    rw [OW_store]
    exact bd_P' hw fun _ h => bd_P' h fun _ h => bd_P h
  case convert s d x =>
    unfold OX at hw
    simp only at hw
    cases hb : Nat.beq s d with
    | true =>
      rw [hb] at hw
      have := Nat.eq_of_beq_eq_true hb
      subst this
      cases hs : isSlice C.P s with
      | true => rw [hs] at hw; exact OW_mark_X hs hw
      | false => rw [hs] at hw; exact hw.elim
    | false =>
      rw [hb] at hw
      rw [OW_conv (beq_of_false hb)]
      exact LO'_LO hw
  case call c =>
    obtain ⟨callee, args, ts⟩ := c
    cases callee
    case value f => exact OW_call_val hw
    case builtin b =>
      cases b
      case append => exact OW_append_X hw
      case copy => exact OW_copy_X hw
      case len => rw [OW_len]; exact LO'_LO hw
      case min => rw [OW_min]; exact LO'_LO hw
      case max => rw [OW_max]; exact LO'_LO hw
      all_goals exact hw.elim
    all_goals exact hw.elim
  all_goals exact Eq.mpr LO_keep (LO'_LO hw)
theorem FOX_FOW {e : Env} {o : Op} {K : V → H → Prop} (hw : FOX (ev e) C lo old st h o K) : FOW C lo old st e h o K := by
  cases o <;> try exact hw.elim
  case store t x y =>
    rw [FOW_store]
    exact bd_P' hw fun _ h => bd_P' h fun _ h => bd_P h
  case convert s d x =>
    unfold FOX at hw
    simp only at hw
    cases hb : Nat.beq s d with
    | true =>
      rw [hb] at hw
      have := Nat.eq_of_beq_eq_true hb
      subst this
      cases hs : isSlice C.P s with
      | true =>
        rw [hs] at hw
        unfold FOW
        have : heavy (.convert s s x) = true := by simp [heavy]
        rw [this]
        exact ⟨rfl, OW_mark_X hs hw⟩
      | false => rw [hs] at hw; exact hw.elim
    | false =>
      rw [hb] at hw
      rw [FOW_conv (beq_of_false hb)]
      exact LO'_LO hw
  case call c =>
    obtain ⟨callee, args, ts⟩ := c
    cases callee
    case value f => exact ⟨rfl, OW_call_val hw⟩
    case builtin b =>
      cases b
      case append =>
        rw [FOW_append']
        obtain ⟨vs, h1, hw⟩ := bd_iff.1 hw
        obtain ⟨a, b, rfl, h2⟩ := twoX_two hw
        rw [evsX_ev] at h1
        have key : atEnd e h (.call { callee := .builtin .append, args := args, argTypes := ts }) = true ∧ bd2 (appendV C.P lo ts.toList a b h) K := by
          have hx : ∃ x r, args.toList = x :: r ∧ ev e x = some a := by
            generalize args.toList = l at h1
            cases l with
            | nil => cases h1
            | cons x r =>
              refine ⟨x, r, rfl, ?_⟩
              unfold evs omap at h1
              split at h1
              · rename_i y hy
                split at h1
                · cases h1; exact hy
                · cases h1
              · cases h1
          obtain ⟨x, r, hl, hx⟩ := hx
          unfold atEnd
          simp only [hl, hx]
          unfold endX at h2
          split at h2
          · obtain ⟨cs, h3, h4, h5⟩ := bd_iff.1 h2
            simp only [h3]
            exact ⟨decide_eq_true h4, h5⟩
          · rename_i hno
            refine ⟨?_, h2⟩
            split
            · rename_i hh; cases hh; exact (hno _ _ _ _ _ rfl).elim
            · rfl
        obtain ⟨v, h3, h4, h5⟩ := bd2_iff.1 key.2
        exact ⟨key.1, a, b, v, h3, h1, h4, h5⟩
      case len => rw [FOW_len]; exact LO'_LO hw
      all_goals exact hw.elim
    all_goals exact hw.elim
  all_goals exact Eq.mpr LO_keep (LO'_LO hw)
end Go.Den
