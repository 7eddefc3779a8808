/- The plain law: a stream in pieces is cut as the whole stream is. -/
import Derived.Test.YtghmbmblhdgabaaU4
set_option linter.all false
namespace Go.Proofs.Ytghmbmblhdgabaa
open Go Go.Den Code
theorem num4_app {u w : List UInt8} (h : 4 ≤ u.length) : num4 (u ++ w) = num4 u := by
  match u, h with
  | a :: b :: c :: d :: r, _ => rfl
theorem getD_app {u w : List UInt8} (h : 4 < u.length) : (u ++ w).getD 4 0 = u.getD 4 0 := by
  rw [List.getD_eq_getElem?_getD, List.getD_eq_getElem?_getD, List.getElem?_append_left h]
theorem wrong_app {u w : List UInt8} (hw : wrongB u = true) : wrongB (u ++ w) = true := by
  unfold wrongB at hw ⊢
  simp only [Bool.and_eq_true, Bool.or_eq_true, decide_eq_true_eq] at hw ⊢
  obtain ⟨h4, h⟩ := hw
  rw [num4_app h4]
  refine ⟨by simp; omega, ?_⟩
  rcases h with h | h | ⟨h5, h⟩
  · exact .inl h
  · exact .inr (.inl h)
  · refine .inr (.inr ⟨by simp; omega, ?_⟩)
    rw [getD_app h5]
    exact h
theorem right_app {u w : List UInt8} (hw : wrongB u = false) (h5 : 4 < u.length) : wrongB (u ++ w) = false := by
  have h4 : 4 ≤ u.length := by omega
  unfold wrongB at hw ⊢
  rw [num4_app h4, getD_app h5]
  have e1 : decide (4 ≤ (u ++ w).length) = decide (4 ≤ u.length) := by simp; omega
  have e2 : decide (4 < (u ++ w).length) = decide (4 < u.length) := by simp; omega
  rw [e1, e2]
  exact hw
theorem cut_app (w : List UInt8) : ∀ (n : Nat) (u : List UInt8), u.length = n → cut (u ++ w) = match (cut u).2 with
    | some r => ((cut u).1 ++ (cut (r ++ w)).1, (cut (r ++ w)).2)
    | none => ((cut u).1, none) := by
  intro n
  induction n using Nat.strongRecOn with
  | _ n ih =>
    intro u hu
    cases hw : wrongB u with
    | true => rw [cut_none hw, cut_none (wrong_app hw)]
    | false =>
      by_cases hl : u.length < 4 ∨ u.length < 4 + num4 u
      · rw [cut_stop hw hl]; simp
      · have h4 : 4 ≤ u.length := by omega
        obtain ⟨n1, n2⟩ := wrong_false hw h4
        have h5 : 4 < u.length := by omega
        have e1 := ih (u.drop (4 + num4 u)).length (by simp; omega) (u.drop (4 + num4 u)) rfl
        rw [cut_go hw hl, cut_go (right_app hw h5) (by rw [num4_app h4]; simp; omega), num4_app h4, getD_app h5]
        rw [List.drop_append_of_le_length (by omega), List.drop_append_of_le_length (by omega), e1]
        rw [List.take_append_of_le_length (by simp; omega)]
        cases (cut (u.drop (4 + num4 u))).2 with
        | none => rfl
        | some r => rfl
theorem cut_rest : ∀ (n : Nat) (u r : List UInt8), u.length = n → (cut u).2 = some r → r.length ≤ u.length := by
  intro n
  induction n using Nat.strongRecOn with
  | _ n ih =>
    intro u r hu hr
    cases hw : wrongB u with
    | true => rw [cut_none hw] at hr; cases hr
    | false =>
      by_cases hl : u.length < 4 ∨ u.length < 4 + num4 u
      · rw [cut_stop hw hl] at hr; cases hr; exact Nat.le_refl _
      · rw [cut_go hw hl] at hr
        have := ih (u.drop (4 + num4 u)).length (by simp; omega) _ _ rfl hr
        simp at this
        omega
theorem cut_count : ∀ (n : Nat) (u : List UInt8), u.length = n → (cut u).1.length ≤ u.length ∧ ∀ f ∈ (cut u).1, f.2.length ≤ u.length := by
  intro n
  induction n using Nat.strongRecOn with
  | _ n ih =>
    intro u hu
    cases hw : wrongB u with
    | true => rw [cut_none hw]; simp
    | false =>
      by_cases hl : u.length < 4 ∨ u.length < 4 + num4 u
      · rw [cut_stop hw hl]; simp
      · rw [cut_go hw hl]
        obtain ⟨h1, h2⟩ := ih (u.drop (4 + num4 u)).length (by simp; omega) _ rfl
        simp only [List.length_drop] at h1 h2
        refine ⟨by simp only [List.length_cons]; omega, fun f hf => ?_⟩
        rcases List.mem_cons.1 hf with rfl | hf
        · simp; omega
        · have := h2 f hf; omega
theorem cut_nil : cut [] = ([], some []) := cut_stop rfl (.inl (by simp))
end Go.Proofs.Ytghmbmblhdgabaa
