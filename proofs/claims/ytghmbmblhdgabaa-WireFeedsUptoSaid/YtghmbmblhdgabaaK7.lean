/- A row out of its bytes: one value. -/
import Derived.Test.YtghmbmblhdgabaaK6
set_option linter.all false
namespace Go.Proofs.Ytghmbmblhdgabaa
open Go Go.Den Code
set_option maxRecDepth 100000
theorem conv_byte {rd : Rd} {d : Nat} (hd : Try.prog.underlying d = some (.int .i64)) (x : UInt8) : convV Try.prog rd 5 d (byteV x) = some (.val (.int .i64 (x.toNat : Int))) := by
  have hx := x.toNat_lt
  have h := conv_int (P := Try.prog) (rd := rd) Try.underlying5 hd .u8 (x.toNat : Int)
  rw [wrap64 (by omega) (by omega)] at h
  exact h
theorem getD0 {p : List UInt8} (h : 0 < p.length) : p.getD 0 0 = p[0] := by
  rw [List.getD_eq_getElem?_getD, List.getElem?_eq_getElem h]; rfl
section
variable {h0 h : H} {l : List UInt8} {ok : Bool} {lv v8 vn vi : V} {k : UInt8} {bv fv : Nat}
abbrev envR (h0 : H) (v8 vn vi : V) (bv : Nat) : E := [(4, .ptr h0.next 0), (5, .ptr (h0.next + 1) 0), (6, fnv h0), (8, v8), (9, .ptr bv 0), (23, vn), (24, vi)]
/-- the loop over eight bytes -/
theorem read_eight (r : Rs h0 h l ok lv) {x : Vl} (hn : x.n = 0) (oV : Own h h0.next bv fv (vlC x)) (hfv : h0.next + 2 ≤ fv) {pv : V} {p : List UInt8} (hp : Bytes (h.rb fun g => g = fv) pv p) (hpl : p.length ≤ 1000) {Q : XQ} {e : E}
    (g4 : E.get e 4 = .ptr h0.next 0) (g5 : E.get e 5 = .ptr (h0.next + 1) 0) (g6 : E.get e 6 = fnv h0) (g8 : E.get e 8 = v8) (g9 : E.get e 9 = .ptr bv 0) (g23 : E.get e 23 = vn) (g24 : E.get e 24 = vi)
    (g45 : E.get e 45 = pv) (g46 : E.get e 46 = .int .i64 (p.length : Int)) (g47 : E.get e 47 = .int .i64 0)
    (hQ : ∀ h', Rs h0 h' l ok lv → Own h' h0.next bv fv (vlC { x with n := num8 p }) → Ch (fun g => g = fv) (fun g => g = fv) h h' → Q .nx (envR h0 v8 vn vi bv) h') :
    XW C h0.next x24_15 (kXB 3 (XW C h0.next x24_20 Q) Q) e h := by
  simp only [q24_15]
  refine rounds (fun m e' h' => ∃ j : Nat, e' = [(4, .ptr h0.next 0), (5, .ptr (h0.next + 1) 0), (6, fnv h0), (8, v8), (9, .ptr bv 0), (23, vn), (24, vi), (45, pv), (46, .int .i64 (p.length : Int)), (47, .int .i64 (j : Int))] ∧ j ≤ p.length ∧ m = p.length - j ∧
      Rs h0 h' l ok lv ∧ Own h' h0.next bv fv (vlC { x with n := (p.take j).foldl accP 0 }) ∧ Ch (fun g => g = fv) (fun g => g = fv) h h') ?_ p.length
    ⟨0, by simp only [sx, reduceIte, Nat.reduceEqDiff, Nat.reduceAdd, g4, g5, g6, g8, g9, g23, g24, g45, g46, g47]; rfl, Nat.zero_le _, rfl, r, by rw [List.take_zero]; show Own h _ _ _ (vlC ⟨x.k, 0, x.s⟩); rw [← hn]; exact oV, Ch.refl _ _ r.wf⟩
  rintro m e' h' ⟨j, rfl, hj, rfl, r', oV', ch⟩
  simp only [q24_16, sx, reduceIte, Nat.reduceEqDiff, Nat.reduceAdd]
  refine byT_dec (fun hlt => ?_) (fun hge => ?_)
  · have hlt : j < p.length := by omega
    have hp' := (hp.mono (ch.rb fun g h => h)).mono (rb_le _ _)
    obtain ⟨q, q1, q2⟩ := hp'.at t22 c5 hlt (k := .i64)
    have ln : loadV Try.prog 2 (.ptr bv (0 + 1)) h'.read = some (.int .i64 ((p.take j).foldl accP 0)) := (oV'.at r'.wf).cell c2 rfl
    have e1 : binV Try.prog .shl 2 (.int .i64 ((p.take j).foldl accP 0)) (.int .u64 8) = some (.int .i64 (IntKind.wrap .i64 ((p.take j).foldl accP 0 * 2 ^ 8))) := by
      simp only [binV, shiftOp]
      rw [if_neg (by omega)]
      rfl
    have e2 := or_acc ((p.take j).foldl accP 0) p[j]
    obtain ⟨h2, s1, o1, c1, n1⟩ := oV'.set (P := Try.prog) (t := 2) (o := 0 + 1) (w := .int .i64 (accP ((p.take j).foldl accP 0) p[j])) r'.wf c2.s rfl rfl (by simp [vlC])
    have e5 := add64 (a := j) (b := 1) (by omega)
    simp only [Int.cast_ofNat_Int] at e5
    simp only [q24_17, q24_18, sx, reduceIte, Nat.reduceEqDiff, Nat.reduceAdd, q1, q2, fa60_1, ln, e1, conv_byte Try.underlying2, e2, s1, q24_19, e5]
    refine ⟨p.length - (j + 1), by omega, j + 1, rfl, by omega, rfl, r'.ch c1 (fun g hg => by omega) (by omega) (by omega), ?_, ch.trans c1⟩
    rw [List.take_add_one, List.getElem?_eq_getElem hlt, List.foldl_append]
    exact o1
  · have hj' : j = p.length := by omega
    subst hj'
    rw [List.take_length] at oV'
    simp only [sx, reduceIte, Nat.reduceEqDiff, Nat.reduceAdd, q24_20]
    exact hQ h' r' oV' ch
end
end Go.Proofs.Ytghmbmblhdgabaa
