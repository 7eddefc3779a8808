/- A row out of its bytes: the rounds. -/
import Derived.Test.YtghmbmblhdgabaaK8
set_option linter.all false
namespace Go.Proofs.Ytghmbmblhdgabaa
open Go Go.Den Code
set_option maxRecDepth 100000
section
variable {h0 h : H} {l : List UInt8} {ok : Bool} {lv v8 vn vi : V} {bv fv : Nat} {xs : List Vl} {F : Option Nat}
abbrev Zr (h0 : H) : Nat → Prop := fun g => h0.next ≤ g
theorem read_tail (r : Rs h0 h l ok lv) {x : Vl} (hx : x.ok) (oV : Own h h0.next bv fv (vlC x)) (hfv : h0.next + 2 ≤ fv) (ho : BufOf vlE 3 h0.next h (fun _ => none) v8 xs F) (hF : ∀ g, F = some g → h0.next + 2 ≤ g) (hxs : xs.length ≤ 1000) {Q : XQ}
    (hQ : ∀ h' v8' F', Rs h0 h' l (ok && rightV x) lv → BufOf vlE 3 h0.next h' (fun _ => none) v8' (xs ++ [x]) F' → (∀ g, F' = some g → h0.next + 2 ≤ g) → Ch (Zr h0) (Zr h0) h h' → Q .nx ((8, v8') :: envR h0 v8 vn vi bv) h') :
    XW C h0.next x24_28 Q (envR h0 v8 vn vi bv) h := by
  have lok : loadV Try.prog 4 (.ptr (h0.next + 1) 0) h.read = some (.bool ok) := (r.oK.at r.wf).cell0 c4 rfl
  have fin : ∀ (h1 : H), Rs h0 h1 l ok lv → Own h1 h0.next bv fv (vlC x) → BufOf vlE 3 h0.next h1 (fun _ => none) v8 xs F → Ch (Zr h0) (Zr h0) h h1 → ∃ h2, storeV Try.prog h0.next 4 (.ptr (h0.next + 1) 0) (.bool (ok && rightV x)) h1 = some h2 ∧
      loadV Try.prog 60 (.ptr bv 0) h2.read = some (.agg (vlC x)) ∧ ∃ v8' h3, appendV Try.prog h0.next [48, 48] v8 (.sl h2.next 0 1 (some 1) 3) (h2.alloc (vlC x)) = some (v8', h3) ∧ Q .nx ((8, v8') :: envR h0 v8 vn vi bv) h3 := by
    intro h1 r1 o1 b1 ch1
    obtain ⟨h2, s1, ok2, c2, n2⟩ := r1.oK.set (P := Try.prog) (t := 4) (o := 0) (w := .bool (ok && rightV x)) r1.wf sz4 rfl rfl (by simp)
    have r2 : Rs h0 h2 l (ok && rightV x) lv := ⟨c2.wf, r1.oL.ch c2 (by omega), ok2, r1.hl.mono (c2.rb fun g hg => by omega), Nat.le_trans r1.nx c2.next⟩
    have o2 := o1.ch c2 (by omega)
    have b2 := BufOf.own b1 c2 fun g hg he => by have := hF g hg; omega
    have c3 := ch_alloc c2.wf (vlC x)
    have b3 := BufOf.own b2 c3 fun _ _ h => h
    obtain ⟨v8', h3, F', x1, x2, x3, x4⟩ := append_one (Er := vlE) (y := x) a48 c3.wf (by have := r2.nx; have := c3.next; omega) b3 (elems_new (c := some 1) c2.wf (n := 1) (es := 3) rfl) rfl rfl rfl (by omega) (by omega)
    refine ⟨h2, s1, (o2.at c2.wf).agg agg60 siz60 rfl (by decide), v8', h3, x1, hQ h3 v8' F' ?_ x2 (fun g hg => ?_) ?_⟩
    · exact (r2.ch c3 (fun _ h => h.elim) (fun h => h) fun h => h).ch x3 (fun _ h => h.elim) (fun h => by have := hF _ h; omega) fun h => by have := hF _ h; omega
    · rcases x4 g hg with h | h
      · exact hF g h
      · have := r2.nx; have := c3.next; omega
    · exact ch1.trans ((c2.mono (fun g h => by show h0.next ≤ g; omega) fun g h => by show h0.next ≤ g; omega).trans ((c3.mono (None_sub _) (None_sub _)).trans (x3.mono (None_sub _) fun g hg => by have := hF g hg; show h0.next ≤ g; omega)))
  simp only [q24_28, sx, reduceIte, Nat.reduceEqDiff, Nat.reduceAdd, lok]
  refine byT_mk (fun ht => ?_) (fun hf => ?_)
  · subst ht
    have lv1 : loadV Try.prog 60 (.ptr bv 0) h.read = some (.agg (vlC x)) := (oV.at r.wf).agg agg60 siz60 rfl (by decide)
    simp only [sx, reduceIte, Nat.reduceEqDiff, Nat.reduceAdd, lv1]
    refine (rightOf r.wf hx).mono ?_
    rintro _ h1 ⟨rfl, c1⟩
    obtain ⟨h2, s1, l2, v8', h3, a1, hq⟩ := fin h1 (r.ch c1 (fun _ h => h.elim) (fun h => h) fun h => h) (oV.ch c1 fun h => h) (BufOf.own ho c1 fun _ _ h => h) (c1.mono (None_sub _) (None_sub _))
    simp only [Bool.true_and] at s1
    simp only [sx, reduceIte, Nat.reduceEqDiff, Nat.reduceAdd, s1, l2, buildSlice_one b48 (v := .agg (vlC x)) rfl, a1]
    exact hq
  · subst hf
    obtain ⟨h2, s1, l2, v8', h3, a1, hq⟩ := fin h r oV ho (Ch.refl _ _ r.wf)
    simp only [Bool.false_and] at s1
    simp only [sx, reduceIte, Nat.reduceEqDiff, Nat.reduceAdd, s1, l2, buildSlice_one b48 (v := .agg (vlC x)) rfl, a1]
    exact hq
theorem num8_ok (p : List UInt8) : -9223372036854775808 ≤ num8 p ∧ num8 p ≤ 9223372036854775807 := by
  have key : ∀ (p : List UInt8) (a : Int), -9223372036854775808 ≤ a ∧ a ≤ 9223372036854775807 → -9223372036854775808 ≤ p.foldl accP a ∧ p.foldl accP a ≤ 9223372036854775807 := by
    intro p
    induction p with
    | nil => intro a h; exact h
    | cons x r ih =>
      intro a h
      refine ih _ ?_
      unfold accP
      simp [IntKind.wrap, IntKind.bits, IntKind.signed]
      omega
  exact key p 0 (by omega)
theorem body_ok (k : UInt8) (l : List UInt8) (ok : Bool) : (bodyV k l ok).1.ok := by
  unfold bodyV
  split
  · have := ((takeP 1 l ok).1.getD 0 0).toNat_lt
    exact ⟨by show _ ≤ ((_ : Nat) : Int); omega, by show ((_ : Nat) : Int) ≤ _; omega, by simp⟩
  · split
    · have := num8_ok (takeP 8 l ok).1
      exact ⟨this.1, this.2, by simp⟩
    · split
      · have := ((takeP 1 l ok).1.getD 0 0).toNat_lt
        exact ⟨by show (_ : Int) ≤ 0; omega, by show (0 : Int) ≤ _; omega, by rw [takeP_len]; omega⟩
      · exact ⟨by show (_ : Int) ≤ 0; omega, by show (0 : Int) ≤ _; omega, by simp⟩
theorem step_ok (l : List UInt8) (ok : Bool) : (stepV l ok).1.ok := body_ok _ _ _
theorem iter_len (l : List UInt8) (ok : Bool) : ∀ n, (iterP n l ok).1.length = n
  | 0 => rfl
  | n + 1 => by show ((iterP n l ok).1 ++ [_]).length = _; rw [List.length_append, iter_len l ok n]; rfl
theorem b60k (k : UInt8) : buildV Try.prog 60 [(0, byteV k)] = some (.agg (vlC ⟨k, 0, []⟩)) := by
  unfold byteV
  kernel_rfl
end
end Go.Proofs.Ytghmbmblhdgabaa
