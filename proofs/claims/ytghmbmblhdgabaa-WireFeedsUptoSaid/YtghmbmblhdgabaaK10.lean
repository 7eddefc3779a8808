/- A row out of its bytes: the walk, whole. -/
import Derived.Test.YtghmbmblhdgabaaK9
set_option linter.all false
namespace Go.Proofs.Ytghmbmblhdgabaa
open Go Go.Den Code
set_option maxRecDepth 100000
theorem byte_lss (P : Program) (t : Nat) (a b : Int) (k : IntKind) : binV P .lss t (.int k a) (.int k b) = some (.bool (decide (a < b))) := binV_lss t k a b
section
variable {h0 : H} {l0 : List UInt8} {ok0 : Bool} {nb : UInt8}
/-- what holds at each round's start -/
def RdI (h0 : H) (l0 : List UInt8) (ok0 : Bool) (nb : UInt8) (m : Nat) (e : E) (h : H) : Prop :=
  ∃ (i : Nat) (v8 : V) (F : Option Nat) (lv : V), e = [(4, .ptr h0.next 0), (5, .ptr (h0.next + 1) 0), (6, fnv h0), (8, v8), (23, byteV nb), (24, .int .u8 (i : Int))] ∧ i ≤ nb.toNat ∧ m = nb.toNat - i ∧
    Rs h0 h (iterP i l0 ok0).2.1 (iterP i l0 ok0).2.2 lv ∧ BufOf vlE 3 h0.next h (fun _ => none) v8 (iterP i l0 ok0).1 F ∧ (∀ g, F = some g → h0.next + 2 ≤ g) ∧ Ch (Zr h0) (Zr h0) h0 h
theorem read_round (hnb : nb.toNat ≤ 12) {Q : XQ} {m : Nat} {e : E} {h : H} (I : RdI h0 l0 ok0 nb m e h)
    (hQ : ∀ e h v8 F lv, E.get e 4 = .ptr h0.next 0 → E.get e 5 = .ptr (h0.next + 1) 0 → E.get e 8 = v8 → Rs h0 h (iterP nb.toNat l0 ok0).2.1 (iterP nb.toNat l0 ok0).2.2 lv → BufOf vlE 3 h0.next h (fun _ => none) v8 (iterP nb.toNat l0 ok0).1 F →
      (∀ g, F = some g → h0.next + 2 ≤ g) → Ch (Zr h0) (Zr h0) h0 h → Q (.ex 0) e h) :
    XW C h0.next x24_6 (kX (fun e' h' => ∃ m', m' < m ∧ RdI h0 l0 ok0 nb m' (only [4, 5, 6, 8, 23, 24] e') h') Q) e h := by
  obtain ⟨i, v8, F, lv, rfl, hi, rfl, r, ho, hF, ch⟩ := I
  simp only [q24_6, sx, reduceIte, Nat.reduceEqDiff, Nat.reduceAdd, byteV]
  refine byT_dec (fun hlt => ?_) (fun hge => ?_)
  · have hlt : i < nb.toNat := by omega
    have hi8 : (iterP i l0 ok0).1.length = i := iter_len _ _ _
    have hl1 := takeP_len 1 (iterP i l0 ok0).2.1 (iterP i l0 ok0).2.2
    simp only [q24_7, q24_8, sx, reduceIte, Nat.reduceEqDiff, Nat.reduceAdd]
    refine callX_mono ?_ (r.take (X := fun _ => False) (fun _ h => h.elim) (n := 1) (by omega))
    rintro pv h1 ⟨lv1, hp, r1, ch1⟩
    obtain ⟨q, q1, q2⟩ := (hp.mono (rb_le _ _)).at t22 c5 (i := 0) (by omega) (k := .i64)
    simp only [Int.cast_ofNat_Int] at q1
    rw [← getD0] at q2
    have cA := ch_alloc r1.wf [V.int .u8 0, .int .i64 0, .str []]
    have hlo1 : h0.next ≤ h1.next := by have := r1.nx; omega
    obtain ⟨h2, s1, o1, c2, n2⟩ := (Own.new (cs := [V.int .u8 0, .int .i64 0, .str []]) hlo1).fill (P := Try.prog) (t := 60) (c := vlC ⟨(takeP 1 (iterP i l0 ok0).2.1 (iterP i l0 ok0).2.2).1.getD 0 0, 0, []⟩) cA.wf siz60 rfl rfl rfl
    have l58 : loadV Try.prog 58 (.ptr h1.next 0) h2.read = some (byteV ((takeP 1 (iterP i l0 ok0).2.1 (iterP i l0 ok0).2.2).1.getD 0 0)) := (o1.at c2.wf).cell0 c58 rfl
    have hnx := r1.nx
    have r2 := (r1.ch cA (fun _ h => h.elim) (fun h => h) fun h => h).ch c2 (fun g hg => by omega) (by omega) (by omega)
    have b2 := BufOf.own (BufOf.own (BufOf.own ho ch1 fun g hg he => by have := hF g hg; rcases he with he | he <;> omega) cA fun _ _ h => h) c2 fun g hg he => by
      have h3 := hF g hg
      have h4 := BufOf.lt r.wf ho hg
      have := ch1.next
      omega
    have chA : Ch (Zr h0) (Zr h0) h0 h2 := ch.trans ((ch1.mono (fun g h => by show h0.next ≤ g; rcases h with h | h <;> omega) fun g h => by show h0.next ≤ g; rcases h with h | h <;> omega).trans ((cA.mono (None_sub _) (None_sub _)).trans (c2.mono (fun g h => by show h0.next ≤ g; omega) fun g h => by show h0.next ≤ g; omega)))
    simp only [sx, reduceIte, Nat.reduceEqDiff, Nat.reduceAdd, q1, q2, b60k, z60, s1, fa60_0, l58]
    refine read_body r2 o1 (by omega) (v8 := v8) (vn := byteV nb) (vi := .int .u8 (i : Int)) (by simp only [sx, reduceIte, Nat.reduceEqDiff, Nat.reduceAdd]) (by simp only [sx, reduceIte, Nat.reduceEqDiff, Nat.reduceAdd]) (by simp only [sx, reduceIte, Nat.reduceEqDiff, Nat.reduceAdd]) (by simp only [sx, reduceIte, Nat.reduceEqDiff, Nat.reduceAdd]) (by simp only [sx, reduceIte, Nat.reduceEqDiff, Nat.reduceAdd]) (by simp only [sx, reduceIte, Nat.reduceEqDiff, Nat.reduceAdd]; rfl) (by simp only [sx, reduceIte, Nat.reduceEqDiff, Nat.reduceAdd]) (by simp only [sx, reduceIte, Nat.reduceEqDiff, Nat.reduceAdd]; rfl) fun h3 lv3 r3 o3 c3 => ?_
    have b3 := BufOf.own b2 c3 fun g hg he => by
      have h3 := hF g hg
      have h4 := BufOf.lt r.wf ho hg
      have := ch1.next
      rcases he with he | he | he <;> omega
    refine read_tail r3 (body_ok _ _ _) o3 (by omega) b3 hF (by omega) fun h4 v84 F4 r4 b4 hF4 c4 => ?_
    have e5 : IntKind.wrap .u8 ((i : Int) + 1) = ((i + 1 : Nat) : Int) := by
      simp [IntKind.wrap, IntKind.bits, IntKind.signed]; omega
    simp only [sx, reduceIte, Nat.reduceEqDiff, Nat.reduceAdd, q24_30, e5]
    refine ⟨nb.toNat - (i + 1), by omega, i + 1, v84, F4, lv3, rfl, by omega, rfl, r4, b4, hF4, chA.trans ((c3.mono (fun g h => ?_) fun g h => ?_).trans c4)⟩
    · show h0.next ≤ g; rcases h with h | h | h <;> omega
    · show h0.next ≤ g; rcases h with h | h | h <;> omega
  · have hin : i = nb.toNat := by omega
    subst hin
    exact hQ _ _ v8 F lv (by simp only [sx, reduceIte, Nat.reduceEqDiff, Nat.reduceAdd]) (by simp only [sx, reduceIte, Nat.reduceEqDiff, Nat.reduceAdd]) (by simp only [sx, reduceIte, Nat.reduceEqDiff, Nat.reduceAdd]) r ho hF ch
end
end Go.Proofs.Ytghmbmblhdgabaa
