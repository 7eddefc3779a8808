/- What a caller hands in, as frames and answers. -/
import Derived.Test.YtghmbmblhdgabaaW5
set_option linter.all false
namespace Go.Proofs.Ytghmbmblhdgabaa
open Go Go.Den Code
set_option maxRecDepth 100000
theorem SlOf.split {α : Type} {E : Rd → List V → α → Prop} {Q : α → Prop} {es : Nat} {rd : Rd} {v : V} {xs : List α} (h : SlOf (fun rd c x => E rd c x ∧ Q x) es rd v xs) : SlOf E es rd v xs ∧ ∀ x ∈ xs, Q x := by
  obtain ⟨cs, q1, q2, q3⟩ := h
  refine ⟨⟨cs, q1, q2, q3.mono fun c x h => h.1⟩, fun x hx => ?_⟩
  obtain ⟨i, hi⟩ := List.getElem?_of_mem hx
  have hlt := (List.getElem?_eq_some_iff.1 hi).1
  have hlen := q3.1
  exact (q3.2 i _ x (List.getElem?_eq_getElem (by omega)) hi).2
theorem fr_ok {rd : Rd} {n : Nat} {cs : List V} (ho : OkV Try.prog rd 1048576 n 42 cs) : ∃ f : Fm, frE rd cs f ∧ f.2.length ≤ 1048576 := by
  cases n with
  | zero => exact ho.elim
  | succ n =>
    unfold OkV at ho
    simp only [Try.underlying42] at ho
    obtain ⟨h1, h2⟩ := ho
    have hc42 : Try.prog.cellsOf 42 = 2 := by kernel_rfl
    have hc40 : Try.prog.cellsOf 40 = 1 := by kernel_rfl
    have hc22 : Try.prog.cellsOf 22 = 1 := by kernel_rfl
    rw [hc42] at h1
    match cs, h1 with
    | [a, b], _ =>
      have g0 := h2 _ (List.mem_cons_self)
      have g1 := h2 _ (List.mem_cons_of_mem _ List.mem_cons_self)
      simp only [hc40, hc22, List.drop_zero, List.take_succ_cons, List.take_zero, List.drop_succ_cons] at g0 g1
      obtain ⟨k, hk⟩ := byte_ok Try.underlying40 g0
      obtain ⟨bs, hb, hl⟩ := bytes_ok Try.underlying22 Try.underlying5 (by kernel_rfl) g1
      unfold byteE at hk
      simp at hk
      subst hk
      exact ⟨(k, bs), ⟨b, rfl, hb⟩, hl⟩
theorem frames_ok {rd : Rd} {n : Nat} {v : V} (ho : OkV Try.prog rd 1048576 n 26 [v]) : ∃ fs, Frames rd v fs ∧ (∀ f ∈ fs, f.2.length ≤ 1048576) ∧ fs.length ≤ 1048576 := by
  cases n with
  | zero => exact ho.elim
  | succ n =>
    obtain ⟨xs, h1, h2⟩ := sl_ok (Er := fun rd c x => frE rd c x ∧ x.2.length ≤ 1048576) Try.underlying26 (by kernel_rfl) (fun cs hc _ => fr_ok hc) ho
    exact ⟨xs, (SlOf.split h1).1, (SlOf.split h1).2, h2⟩
theorem texts_ok {rd : Rd} {n : Nat} {v : V} (ho : OkV Try.prog rd 1048576 n 72 [v]) : ∃ xs, Texts rd v xs ∧ (∀ s ∈ xs, s.length ≤ 1048576) ∧ xs.length ≤ 1048576 := by
  cases n with
  | zero => exact ho.elim
  | succ n =>
    obtain ⟨xs, h1, h2⟩ := sl_ok (Er := fun rd c x => txE rd c x ∧ x.length ≤ 1048576) Try.underlying72 (by kernel_rfl) (fun cs hc _ => by
      obtain ⟨s, h1, h2⟩ := str_ok Try.underlying9 hc
      exact ⟨s, h1, h2⟩) ho
    exact ⟨xs, (SlOf.split h1).1, (SlOf.split h1).2, h2⟩
theorem rows_ok {rd : Rd} {n : Nat} {v : V} (ho : OkV Try.prog rd 1048576 n 73 [v]) : ∃ xs, RowsOf rd v xs ∧ (∀ r ∈ xs, (∀ x ∈ r, x.ok) ∧ r.length ≤ 1048576) ∧ xs.length ≤ 1048576 := by
  cases n with
  | zero => exact ho.elim
  | succ n =>
    obtain ⟨xs, h1, h2⟩ := sl_ok (Er := fun rd c x => rowE rd c x ∧ ((∀ y ∈ x, y.ok) ∧ x.length ≤ 1048576)) Try.underlying73 (by kernel_rfl) (fun cs hc hl => by
      have hl1 : cs.length = 1 := hl
      match cs, hl1 with
      | [w], _ =>
        obtain ⟨r, h1, h2, h3⟩ := vals_ok Try.underlying48 hc
        exact ⟨r, ⟨w, rfl, h1⟩, h2, h3⟩) ho
    exact ⟨xs, (SlOf.split h1).1, (SlOf.split h1).2, h2⟩
theorem an_ok {rd : Rd} {N : Nat} {v : V} (o : OkA Try.prog rd 1048576 N 75 v) : ∃ c a, v = .agg c ∧ AnC rd c a ∧ AnOk a ∧ c.all scal = true := by
  unfold OkA at o
  simp only [Try.underlying75] at o
  obtain ⟨vs, rfl, o⟩ := o
  cases N with
  | zero => exact o.elim
  | succ n =>
    unfold OkV at o
    simp only [Try.underlying75] at o
    obtain ⟨h1, h2⟩ := o
    have hc75 : Try.prog.cellsOf 75 = 3 := by kernel_rfl
    have hc72 : Try.prog.cellsOf 72 = 1 := by kernel_rfl
    have hc73 : Try.prog.cellsOf 73 = 1 := by kernel_rfl
    have hc3 : Try.prog.cellsOf 3 = 1 := by kernel_rfl
    rw [hc75] at h1
    match vs, h1 with
    | [a, b, c], _ =>
      have g0 := h2 _ (List.mem_cons_self)
      have g1 := h2 _ (List.mem_cons_of_mem _ List.mem_cons_self)
      have g2 := h2 _ (List.mem_cons_of_mem _ (List.mem_cons_of_mem _ List.mem_cons_self))
      simp only [hc72, hc73, hc3, List.drop_zero, List.take_succ_cons, List.take_zero, List.drop_succ_cons] at g0 g1 g2
      obtain ⟨ns, n1, n2, n3⟩ := texts_ok g0
      obtain ⟨rs, r1, r2, r3⟩ := rows_ok g1
      obtain ⟨m, hm, hw⟩ := int_ok Try.underlying3 g2
      simp at hm
      subst hm
      refine ⟨[a, b, .int .i64 m], ⟨ns, rs, m⟩, rfl, ⟨a, b, rfl, n1, r1⟩, ⟨n3, n2, r3, fun r hr => (r2 r hr).2, fun r hr => (r2 r hr).1⟩, ?_⟩
      show (scal a && (scal b && true)) = true
      rw [n1.isSl.scal, r1.isSl.scal]
      rfl
end Go.Proofs.Ytghmbmblhdgabaa
