/- The law 'CellBack' on the machine. -/
import Derived.Test.YtghmbmblhdgabaaK11
import Derived.Test.YtghmbmblhdgabaaK13
import Derived.Test.YtghmbmblhdgabaaU3
import Derived.Test.YtghmbmblhdgabaaViewA
set_option linter.all false
namespace Go.Proofs.Ytghmbmblhdgabaa
open Go Go.Den Code
set_option maxRecDepth 100000
theorem aw26 {lo : Nat} {h : H} {K : V → H → Prop} (hk : K (.bool true) h) : CW C 26 [] lo h K := short_CW rfl hk
theorem sameRow {a b : V} {h : H} {xs ys : List Vl} {lo : Nat} (ha : Vals h.read a xs) (hb : Vals h.read b ys) (hx : xs.length < 1000000000000000) : CW C 25 [a, b] lo h fun v h' => v = .bool (decide (xs = ys)) ∧ h' = h := by
  refine enter25 rfl ?_
  simp only [q25_0, sx, reduceIte, Nat.reduceEqDiff, Nat.reduceAdd]
  refine (sameValues ha hb hx).mono ?_
  rintro _ h' ⟨rfl, rfl⟩
  simp only [e25_rt, sx, reduceIte, Nat.reduceEqDiff, Nat.reduceAdd]
  exact ⟨trivial, trivial⟩
theorem copyRow {a : V} {h : H} {xs : List Vl} {lo : Nat} (wf : HWF h) (hlo : lo ≤ h.next) (ha : Vals h.read a xs) (hx : xs.length < 100000000000) : CW C 23 [a] lo h fun v h' => NewVals h h' v xs ∧ Ch None_ None_ h h' := by
  refine enter23 rfl ?_
  simp only [q23_0, sx, reduceIte, Nat.reduceEqDiff, Nat.reduceAdd]
  refine (copyValues wf hlo ha hx).mono ?_
  rintro v h' hp
  simp only [e23_rt, sx, reduceIte, Nat.reduceEqDiff, Nat.reduceAdd]
  exact hp
theorem vl_ok {rd : Rd} {M n : Nat} {cs : List V} (hM : M ≤ 1048576) (ho : OkV Try.prog rd M n 60 cs) : ∃ x : Vl, vlE rd cs x ∧ x.ok := by
  cases n with
  | zero => exact ho.elim
  | succ n =>
    unfold OkV at ho
    simp only [Try.underlying60] at ho
    obtain ⟨h1, h2⟩ := ho
    have hc60 : Try.prog.cellsOf 60 = 3 := by kernel_rfl
    have hc58 : Try.prog.cellsOf 58 = 1 := by kernel_rfl
    have hc2 : Try.prog.cellsOf 2 = 1 := by kernel_rfl
    have hc9 : Try.prog.cellsOf 9 = 1 := by kernel_rfl
    rw [hc60] at h1
    match cs, h1 with
    | [a, b, c], _ =>
      have g0 := h2 _ (List.mem_cons_self)
      have g1 := h2 _ (List.mem_cons_of_mem _ List.mem_cons_self)
      have g2 := h2 _ (List.mem_cons_of_mem _ (List.mem_cons_of_mem _ List.mem_cons_self))
      simp only [hc58, hc2, hc9, List.drop_zero, List.take_succ_cons, List.take_zero, List.drop_succ_cons] at g0 g1 g2
      obtain ⟨k, hk⟩ := byte_ok Try.underlying58 g0
      obtain ⟨m, hm, hw⟩ := int_ok Try.underlying2 g1
      obtain ⟨s, hs, hl⟩ := str_ok Try.underlying9 g2
      unfold byteE at hk
      simp at hk hm hs
      subst hk
      subst hm
      subst hs
      simp [Lit.wf, IntKind.min, IntKind.max, IntKind.signed, IntKind.bits] at hw
      exact ⟨⟨k, m, s⟩, rfl, hw.1, hw.2, by show s.length ≤ _; omega⟩
theorem vals_ok {rd : Rd} {t n : Nat} {v : V} (hu : Try.prog.underlying t = some (.slice 60)) (ho : OkV Try.prog rd 1048576 n t [v]) : ∃ xs, Vals rd v xs ∧ (∀ x ∈ xs, x.ok) ∧ xs.length ≤ 1048576 := by
  cases n with
  | zero => exact ho.elim
  | succ n =>
    obtain ⟨xs, h1, h2⟩ := sl_ok (Er := fun rd c x => vlE rd c x ∧ x.ok) hu (by kernel_rfl) (fun cs hc _ => vl_ok (Nat.le_refl _) hc) ho
    obtain ⟨cs, q1, q2, q3⟩ := h1
    refine ⟨xs, ⟨cs, q1, q2, q3.mono fun c x h => h.1⟩, fun x hx => ?_, h2⟩
    obtain ⟨i, hi⟩ := List.getElem?_of_mem hx
    have hlt := (List.getElem?_eq_some_iff.1 hi).1
    have hlen := q3.1
    exact (q3.2 i _ x (List.getElem?_eq_getElem (by omega)) hi).2
end Go.Proofs.Ytghmbmblhdgabaa
