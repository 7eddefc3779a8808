/- A row's bytes. -/
import Derived.Test.YtghmbmblhdgabaaK2
import Derived.Test.YtghmbmblhdgabaaViewA
set_option linter.all false
namespace Go.Proofs.Ytghmbmblhdgabaa
open Go Go.Den Code
set_option maxRecDepth 100000
theorem conv_int {P : Program} {rd : Rd} {s d : Nat} {k k' : IntKind} (hs : P.underlying s = some (.int k)) (hd : P.underlying d = some (.int k')) (j : IntKind) (n : Int) : convV P rd s d (.int j n) = some (.val (.int k' (k'.wrap n))) := by
  simp only [convV, hs, hd]
/-- a number's bytes, the highest first -/
def eightB (u : Int) : List UInt8 := [lowB (u / 2 ^ 56), lowB (u / 2 ^ 48), lowB (u / 2 ^ 40), lowB (u / 2 ^ 32), lowB (u / 2 ^ 24), lowB (u / 2 ^ 16), lowB (u / 2 ^ 8), lowB u]
theorem eightB_at (u : Int) (i : Nat) (hi : i < 8) : (eightB u)[i]? = some (lowB (u.fdiv (2 ^ (56 - 8 * i)))) := by
  rw [Int.fdiv_eq_ediv_of_nonneg _ (by exact Int.le_of_lt (Int.pow_pos (by omega)))]
  match i, hi with
  | 0, _ => rfl
  | 1, _ => rfl
  | 2, _ => rfl
  | 3, _ => rfl
  | 4, _ => rfl
  | 5, _ => rfl
  | 6, _ => rfl
  | 7, _ => simp [eightB]
theorem eight {s : V} {xs : List UInt8} {F : Option Nat} {h : H} {lo : Nat} {u : Int} (wf : HWF h) (hlo : lo ≤ h.next) (hb : BufB h lo s xs F) (hl : xs.length ≤ 1000000000) :
    CW C 52 [s, .int .u64 u] lo h fun v h' => ∃ F', BufB h' lo v (xs ++ eightB u) F' ∧ Gr h F h' F' := by
  refine enter52 rfl ?_
  simp only [q52_0, q52_1, sx, reduceIte, Nat.reduceEqDiff, Nat.reduceAdd]
  refine rounds (fun m e' h' => ∃ (i : Nat) (v : V) (F' : Option Nat), e' = [(0, v), (1, .int .u64 u), (6, .int .i64 (i : Int))] ∧ i ≤ 8 ∧ m = 8 - i ∧ BufB h' lo v (xs ++ (eightB u).take i) F' ∧ Gr h F h' F') ?_ 8
    ⟨0, s, F, by simp only [sx, reduceIte, Nat.reduceEqDiff, Nat.reduceAdd]; rfl, by omega, rfl, by simpa using hb, Gr.refl wf F⟩
  rintro m e' h' ⟨i, v, F', rfl, hi, rfl, hb', g⟩
  simp only [q52_2, sx, reduceIte, Nat.reduceEqDiff, Nat.reduceAdd]
  refine byT_dec (fun hlt => ?_) (fun hge => ?_)
  · have hlt : i < 8 := by omega
    have e1 : IntKind.wrap .i64 (8 * (i : Int)) = ((8 * i : Nat) : Int) := by rw [wrap64 (by omega) (by omega)]; omega
    have e2 : IntKind.wrap .i64 (56 - ((8 * i : Nat) : Int)) = ((56 - 8 * i : Nat) : Int) := by rw [wrap64 (by omega) (by omega)]; omega
    have e3 : binV Try.prog .shr 92 (.int .u64 u) (.int .i64 ((56 - 8 * i : Nat) : Int)) = some (.int .u64 (u.fdiv (2 ^ (56 - 8 * i)))) := by
      simp only [binV, shiftOp]
      rw [if_neg (by omega)]
      have : min ((56 - 8 * i : Nat) : Int).toNat (IntKind.bits .u64) = 56 - 8 * i := by
        simp [IntKind.bits]; omega
      rw [this]
    have e4 := conv_int (P := Try.prog) (rd := h'.read) Try.underlying92 Try.underlying5 .u64 (u.fdiv (2 ^ (56 - 8 * i)))
    rw [byteV_low] at e4
    obtain ⟨v2, h2, F2, x1, x2, x3⟩ := append_byte a22 g.ch.wf (Nat.le_trans hlo g.ch.next) hb' (lowB (u.fdiv (2 ^ (56 - 8 * i)))) (by simp; omega)
    have e5 := add64 (a := i) (b := 1) (by omega)
    simp only [Int.cast_ofNat_Int] at e5
    simp only [q52_3, q52_4, sx, reduceIte, Nat.reduceEqDiff, Nat.reduceAdd, e1, e2, e3, e4, buildSlice_one b22 (v := byteV (lowB (u.fdiv (2 ^ (56 - 8 * i))))) rfl, x1, q52_5, e5]
    refine ⟨8 - (i + 1), by omega, i + 1, v2, F2, rfl, by omega, rfl, ?_, g.trans x3⟩
    rw [List.take_add_one, eightB_at u i hlt, ← List.append_assoc]
    exact x2
  · have hi8 : i = 8 := by omega
    subst hi8
    simp only [q52_6, sx, reduceIte, Nat.reduceEqDiff, Nat.reduceAdd, e52_rt]
    have : (eightB u).take 8 = eightB u := rfl
    rw [this] at hb'
    exact ⟨F', hb', g⟩
end Go.Proofs.Ytghmbmblhdgabaa
