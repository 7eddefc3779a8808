/- The plain law of rows and their bytes. -/
import Derived.Test.YtghmbmblhdgabaaK12
import Derived.Test.YtghmbmblhdgabaaK9
set_option linter.all false
namespace Go.Proofs.Ytghmbmblhdgabaa
open Go Go.Den Code
theorem takeP_app {p r : List UInt8} {n : Nat} (h : p.length = n) : takeP n (p ++ r) true = (p, r, true) := by
  unfold takeP
  rw [if_neg (by simp; omega), List.take_left' h, List.drop_left' h]
theorem one_of {p : List UInt8} (h : p.length = 1) : ∃ y, p = [y] := by
  match p, h with
  | [y], _ => exact ⟨y, rfl⟩
theorem takeP_inv {n : Nat} {l l' p : List UInt8} {ok : Bool} (h : takeP n l ok = (p, l', true)) : ok = true ∧ l = p ++ l' ∧ p.length = n := by
  unfold takeP at h
  split at h
  · cases h
  · cases h
    exact ⟨rfl, by simp, by simp; omega⟩
theorem body_enc {x : Vl} {r : List UInt8} (hr : rightV x = true) (hx : x.ok) : bodyV x.k (encBody x ++ r) true = (x, r, true) := by
  obtain ⟨k, n, s⟩ := x
  unfold bodyV encBody
  unfold rightV at hr
  simp only at hr ⊢
  by_cases h1 : k.toNat = 1
  · rw [if_neg (by omega), if_pos h1] at hr
    simp only [decide_eq_true_eq] at hr
    obtain ⟨hs, hn⟩ := hr
    rw [if_pos h1, if_pos h1, takeP_app (p := [lowB n]) (n := 1) rfl]
    subst hs
    have : ((([lowB n].getD 0 0).toNat : Nat) : Int) = n := by
      show ((lowB n).toNat : Int) = n
      rw [low_nat]
      omega
    rw [this]
  · rw [if_neg h1, if_neg h1]
    by_cases h2 : k.toNat = 2 ∨ k.toNat = 3
    · rw [if_neg (by omega), if_neg h1, if_pos h2] at hr
      simp only [decide_eq_true_eq] at hr
      subst hr
      rw [if_pos h2, if_pos h2, takeP_app (p := eightB (IntKind.wrap .u64 n)) (n := 8) rfl]
      simp only
      rw [num8_eight hx.1 hx.2.1]
    · rw [if_neg h2, if_neg h2]
      by_cases h4 : k.toNat = 4 ∨ k.toNat = 5
      · rw [if_neg (by omega), if_neg h1, if_neg h2, if_pos h4] at hr
        simp only [decide_eq_true_eq] at hr
        obtain ⟨hn, hs⟩ := hr
        subst hn
        rw [if_pos h4, if_pos h4]
        have e1 : takeP 1 (lowB (s.length : Int) :: s ++ r) true = ([lowB (s.length : Int)], s ++ r, true) := takeP_app (p := [lowB (s.length : Int)]) (r := s ++ r) rfl
        rw [e1]
        have e2 : ([lowB (s.length : Int)].getD 0 0).toNat = s.length := by
          show (lowB (s.length : Int)).toNat = s.length
          have := low_nat (s.length : Int)
          omega
        simp only
        rw [e2, takeP_app rfl]
      · rw [if_neg h4, if_neg h4]
        by_cases h0 : k.toNat = 0
        · rw [if_pos h0] at hr
          simp only [decide_eq_true_eq] at hr
          obtain ⟨hn, hs⟩ := hr
          subst hn
          subst hs
          rfl
        · rw [if_neg h0, if_neg h1, if_neg h2, if_neg h4] at hr
          cases hr
theorem step_enc {x : Vl} {r : List UInt8} (hr : rightV x = true) (hx : x.ok) : stepV (encV x ++ r) true = (x, r, true) := by
  unfold stepV
  have e1 : takeP 1 (encV x ++ r) true = ([x.k], encBody x ++ r, true) := takeP_app (p := [x.k]) rfl
  rw [e1]
  have e2 : ([x.k].getD 0 0) = x.k := rfl
  simp only [e2, body_enc hr hx, hr, Bool.and_true]
theorem iter_enc {xs : List Vl} (hr : ∀ x ∈ xs, rightV x = true) (hx : ∀ x ∈ xs, x.ok) : ∀ i, i ≤ xs.length → iterP i (xs.flatMap encV) true = (xs.take i, (xs.drop i).flatMap encV, true)
  | 0, _ => by simp [iterP]
  | i + 1, hi => by
    have ih := iter_enc hr hx i (by omega)
    unfold iterP
    rw [ih]
    have hd : xs.drop i = xs[i] :: xs.drop (i + 1) := List.drop_eq_getElem_cons (by omega)
    have hm := List.getElem_mem (l := xs) (show i < xs.length by omega)
    simp only
    rw [hd, List.flatMap_cons, step_enc (hr _ hm) (hx _ hm), List.take_add_one, List.getElem?_eq_getElem (by omega)]
    rfl
theorem any_false {xs : List Vl} (h : ¬ (xs.any (fun x => !rightV x) = true)) : ∀ x ∈ xs, rightV x = true := by
  intro x hx
  cases hv : rightV x with
  | true => rfl
  | false => exact (h (List.any_eq_true.2 ⟨x, hx, by simp [hv]⟩)).elim
theorem row_right {xs : List Vl} (h : rowErr xs = 0) : (∀ x ∈ xs, rightV x = true) ∧ xs.length ≤ 12 ∧ (rowBytes xs).length ≤ 480 := by
  unfold rowErr at h
  split at h
  · cases h
  · rename_i h1
    split at h
    · cases h
    · split at h
      · cases h
      · exact ⟨any_false h1, by omega, by omega⟩
/-- what is put is read back -/
theorem read_row {xs : List Vl} (hx : ∀ x ∈ xs, x.ok) (h : rowErr xs = 0) : readP (rowBytes xs) = some xs := by
  obtain ⟨h1, h2, h3⟩ := row_right h
  have e1 : takeP 1 (rowBytes xs) true = ([lowB (xs.length : Int)], xs.flatMap encV, true) := takeP_app (p := [lowB (xs.length : Int)]) rfl
  have e2 : (lowB (xs.length : Int)).toNat = xs.length := by
    have := low_nat (xs.length : Int)
    omega
  have e3 : ([lowB (xs.length : Int)].getD 0 0).toNat = xs.length := e2
  unfold readP
  rw [if_neg (by omega), e1]
  simp only
  rw [e3, if_neg (by omega), iter_enc h1 hx _ (Nat.le_refl _)]
  simp
theorem body_inv {k : UInt8} {l l' : List UInt8} {ok : Bool} {x : Vl} (h : bodyV k l ok = (x, l', true)) (hr : rightV x = true) : ok = true ∧ x.k = k ∧ l = encBody x ++ l' := by
  unfold bodyV at h
  by_cases h1 : k.toNat = 1
  · rw [if_pos h1] at h
    injection h with hx h2
    obtain ⟨g1, g2, g3⟩ := takeP_inv (p := (takeP 1 l ok).1) (show takeP 1 l ok = _ by rw [← h2])
    subst hx
    refine ⟨g1, rfl, ?_⟩
    unfold encBody
    simp only
    rw [if_pos h1]
    rw [low_byte]
    match hp : (takeP 1 l ok).1, g3 with
    | [y], _ => rw [hp] at g2; exact g2
  · rw [if_neg h1] at h
    by_cases h2 : k.toNat = 2 ∨ k.toNat = 3
    · rw [if_pos h2] at h
      injection h with hx h3
      obtain ⟨g1, g2, g3⟩ := takeP_inv (p := (takeP 8 l ok).1) (show takeP 8 l ok = _ by rw [← h3])
      subst hx
      refine ⟨g1, rfl, ?_⟩
      unfold encBody
      simp only
      rw [if_neg h1, if_pos h2]
      match hp : (takeP 8 l ok).1, g3 with
      | [a, b, c, d, e, f, g, i], _ =>
        rw [hp] at g2
        rw [eight_num8]
        exact g2
    · rw [if_neg h2] at h
      by_cases h4 : k.toNat = 4 ∨ k.toNat = 5
      · rw [if_pos h4] at h
        injection h with hx h3
        obtain ⟨q1, q2, q3⟩ := takeP_inv (p := (takeP ((takeP 1 l ok).1.getD 0 0).toNat (takeP 1 l ok).2.1 (takeP 1 l ok).2.2).1) (show takeP ((takeP 1 l ok).1.getD 0 0).toNat (takeP 1 l ok).2.1 (takeP 1 l ok).2.2 = _ by rw [← h3])
        obtain ⟨g1, g2, g3⟩ := takeP_inv (p := (takeP 1 l ok).1) (l' := (takeP 1 l ok).2.1) (show takeP 1 l ok = _ by rw [← q1])
        subst hx
        refine ⟨g1, rfl, ?_⟩
        unfold encBody
        simp only
        rw [if_neg h1, if_neg h2, if_pos h4, q3]
        rw [low_byte]
        obtain ⟨y, hy⟩ := one_of g3
        have e0 : (takeP 1 l ok).1.getD 0 0 = y := by rw [hy]; rfl
        rw [e0] at q2 ⊢
        refine g2.trans ?_
        rw [hy]
        exact congrArg (y :: ·) q2
      · rw [if_neg h4] at h
        injection h with hx h3
        injection h3 with h5 h6
        subst hx
        subst h5
        subst h6
        refine ⟨rfl, rfl, ?_⟩
        unfold encBody
        simp only
        rw [if_neg h1, if_neg h2, if_neg h4]
        rfl
theorem step_inv {l l' : List UInt8} {ok : Bool} {x : Vl} (h : stepV l ok = (x, l', true)) : ok = true ∧ rightV x = true ∧ l = encV x ++ l' := by
  unfold stepV at h
  simp only at h
  injection h with hx h2
  injection h2 with h3 h4
  rw [Bool.and_eq_true] at h4
  obtain ⟨h4, h5⟩ := h4
  rw [hx] at h5
  obtain ⟨b1, b2, b3⟩ := body_inv (x := x) (l' := l') (k := (takeP 1 l ok).1.getD 0 0) (l := (takeP 1 l ok).2.1) (ok := (takeP 1 l ok).2.2) (by rw [← hx, ← h3, ← h4]) h5
  obtain ⟨g1, g2, g3⟩ := takeP_inv (p := (takeP 1 l ok).1) (l' := (takeP 1 l ok).2.1) (show takeP 1 l ok = _ by rw [← b1])
  refine ⟨g1, h5, ?_⟩
  unfold encV
  match hp : (takeP 1 l ok).1, g3 with
  | [y], _ =>
    rw [hp] at g2 b2
    rw [g2, b3, b2]
    rfl
theorem iter_inv {l : List UInt8} {ok : Bool} : ∀ n, (iterP n l ok).2.2 = true → ok = true ∧ (∀ x ∈ (iterP n l ok).1, rightV x = true) ∧ l = (iterP n l ok).1.flatMap encV ++ (iterP n l ok).2.1
  | 0, h => ⟨h, fun x hx => (by cases hx), rfl⟩
  | n + 1, h => by
    have hs : stepV (iterP n l ok).2.1 (iterP n l ok).2.2 = ((stepV (iterP n l ok).2.1 (iterP n l ok).2.2).1, (iterP (n + 1) l ok).2.1, true) := by
      rw [← h]
      rfl
    obtain ⟨s1, s2, s3⟩ := step_inv hs
    obtain ⟨i1, i2, i3⟩ := iter_inv n s1
    have e : (iterP (n + 1) l ok).1 = (iterP n l ok).1 ++ [(stepV (iterP n l ok).2.1 (iterP n l ok).2.2).1] := rfl
    refine ⟨i1, fun x hx => ?_, ?_⟩
    · rw [e] at hx
      rcases List.mem_append.1 hx with h | h
      · exact i2 x h
      · simp at h; subst h; exact s2
    · rw [e, List.flatMap_append]
      conv => lhs; rw [i3, s3]
      simp
/-- what is read is put the same -/
theorem row_read {b : List UInt8} {xs : List Vl} (h : readP b = some xs) : rowErr xs = 0 ∧ rowBytes xs = b := by
  unfold readP at h
  split at h
  · cases h
  · rename_i h1
    split at h
    · cases h
    · rename_i h2
      simp only at h
      split at h
      · rename_i h3
        cases h
        obtain ⟨i1, i2, i3⟩ := iter_inv _ h3.1
        obtain ⟨g1, g2, g3⟩ := takeP_inv (p := (takeP 1 b true).1) (l' := (takeP 1 b true).2.1) (Prod.ext rfl (Prod.ext rfl i1))
        rw [h3.2, List.append_nil] at i3
        have hlen := iter_len (takeP 1 b true).2.1 (takeP 1 b true).2.2 ((takeP 1 b true).1.getD 0 0).toNat
        have hb : rowBytes (iterP ((takeP 1 b true).1.getD 0 0).toNat (takeP 1 b true).2.1 (takeP 1 b true).2.2).1 = b := by
          unfold rowBytes
          rw [hlen, ← i3, low_byte]
          obtain ⟨y, hy⟩ := one_of g3
          refine Eq.trans ?_ g2.symm
          rw [hy]
          rfl
        refine ⟨?_, hb⟩
        unfold rowErr
        rw [if_neg (fun ha => ?_), if_neg (by rw [hlen]; omega), if_neg (by rw [hb]; omega)]
        obtain ⟨x, hx, hn⟩ := List.any_eq_true.1 ha
        rw [i2 x hx] at hn
        cases hn
      · cases h
theorem read_ok {b : List UInt8} {xs : List Vl} (h : readP b = some xs) : (∀ x ∈ xs, x.ok) ∧ xs.length ≤ 12 := by
  unfold readP at h
  split at h
  · cases h
  · split at h
    · cases h
    · simp only at h
      split at h
      · cases h
        refine ⟨?_, by rw [iter_len]; omega⟩
        have key : ∀ n l ok, ∀ x ∈ (iterP n l ok).1, x.ok := by
          intro n
          induction n with
          | zero => intro l ok x hx; cases hx
          | succ n ih =>
            intro l ok x hx
            rcases List.mem_append.1 hx with h | h
            · exact ih l ok x h
            · simp at h; subst h; exact step_ok _ _
        exact key _ _ _
      · cases h
end Go.Proofs.Ytghmbmblhdgabaa
