/- What the law's own small functions come to. -/
import Derived.Test.YtghmbmblhdgabaaU3
set_option linter.all false
namespace Go.Proofs.Ytghmbmblhdgabaa
open Go Go.Den Code
set_option maxRecDepth 100000
/-- a frame -/
def frE (rd : Rd) (c : List V) (f : Fm) : Prop := ∃ w, c = [byteV f.1, w] ∧ Bytes rd w f.2
theorem frE_mono : Mono frE := fun r r' c x hl ⟨w, h1, h2⟩ => ⟨w, h1, h2.mono hl⟩
abbrev Frames (rd : Rd) (v : V) (fs : List Fm) : Prop := SlOf frE 2 rd v fs
theorem frOwn.toE {h : H} {lo : Nat} {G X : Nat → Prop} {c : List V} {f : Fm} (wf : HWF h) (hx : ∀ g, G g → ¬ X g) (hf : frOwn h lo G c f) : frE (h.rb X) c f := by
  obtain ⟨w, F, h1, h2, h3⟩ := hf
  exact ⟨w, h1, h2.bytes wf fun g hF => hx g (h3 g hF)⟩
theorem c40 : Sc Try.prog 40 := ⟨by kernel_rfl, by kernel_rfl⟩
theorem fa42_0 (b o : Nat) : fieldAddrV Try.prog 42 (.ptr b o) 0 = some (.ptr b o) := by kernel_rfl
theorem fa42_1 (b o : Nat) : fieldAddrV Try.prog 42 (.ptr b o) 1 = some (.ptr b (o + 1)) := by kernel_rfl
/-- reading a frame of a slice -/
theorem Frames.at {rd : Rd} {v : V} {fs : List Fm} (hs : Frames rd v fs) {i : Nat} {f : Fm} (hi : fs[i]? = some f) : ∃ b o w, addrV Try.prog 26 v (.int .i64 (i : Int)) = some (.ptr b o) ∧ loadV Try.prog 40 (.ptr b o) rd = some (byteV f.1) ∧
    loadV Try.prog 22 (.ptr b (o + 1)) rd = some w ∧ Bytes rd w f.2 := by
  obtain ⟨b, o, c, h1, h2, h3, w, rfl, h4⟩ := SlOf.at s26 hs hi .i64
  exact ⟨b, o, w, h1, h2.cell0 c40 rfl, h2.cell c22 rfl, h4⟩
theorem sameFrames {a b : V} {h : H} {xs ys : List Fm} {lo : Nat} (ha : Frames h.read a xs) (hb : Frames h.read b ys) (hx : xs.length < 1000000000000000) (hx2 : ∀ f ∈ xs, f.2.length < 1000000000000000) : CW C 16 [a, b] lo h fun v h' => v = .bool (decide (xs = ys)) ∧ h' = h := by
  refine enter16 rfl ?_
  simp only [q16_0, sx, reduceIte, Nat.reduceEqDiff, Nat.reduceAdd, ha.len s26, hb.len s26]
  refine byT_mk (fun hl => ?_) (fun hl => ?_)
  · simp only [q16_1, sx, reduceIte, Nat.reduceEqDiff, Nat.reduceAdd, e16_rt]
    have : xs ≠ ys := fun e => by subst e; simp at hl
    simp [this]
  · have hlen : xs.length = ys.length := by simp at hl; omega
    simp only [q16_2, q16_3, sx, reduceIte, Nat.reduceEqDiff, Nat.reduceAdd]
    refine rounds (fun m e' h' => h' = h ∧ ∃ i : Nat, e' = [(0, a), (1, b), (5, .int .i64 (i : Int))] ∧ i ≤ xs.length ∧ m = xs.length - i ∧ xs.take i = ys.take i) ?_ xs.length ⟨rfl, 0, by simp only [sx, reduceIte, Nat.reduceEqDiff, Nat.reduceAdd]; rfl, Nat.zero_le _, rfl, by simp⟩
    rintro m e' h' ⟨rfl, i, rfl, hi, hm, heq⟩
    simp only [q16_4, sx, reduceIte, Nat.reduceEqDiff, Nat.reduceAdd, ha.len s26]
    refine byT_dec (fun hlt => ?_) (fun hge => ?_)
    · have hlt : i < xs.length := by omega
      obtain ⟨b1, o1, w1, p1, p2, p3, p4⟩ := ha.at (List.getElem?_eq_getElem hlt)
      obtain ⟨b2, o2, w2, r1, r2, r3, r4⟩ := hb.at (i := i) (List.getElem?_eq_getElem (by omega))
      have hno : xs[i] ≠ ys[i] → xs ≠ ys := fun hne e => by subst e; exact hne rfl
      simp only [q16_5, q16_6, sx, reduceIte, Nat.reduceEqDiff, Nat.reduceAdd, p1, p2, p3, r1, r2, r3, fa42_0, fa42_1]
      refine byT_dec (fun hne => ?_) (fun he => ?_)
      · simp only [q16_8, sx, reduceIte, Nat.reduceEqDiff, Nat.reduceAdd, e16_rt]
        have := hno fun e => hne (by rw [e])
        simp [this]
      · have he : xs[i].1 = ys[i].1 := Classical.byContradiction he
        refine (sameBytes p4 r4 (hx2 _ (List.getElem_mem hlt))).mono ?_
        rintro _ h' ⟨rfl, rfl⟩
        simp only [sx, reduceIte, Nat.reduceEqDiff, Nat.reduceAdd]
        refine byT_mk (fun hne => ?_) (fun hq => ?_)
        · simp only [q16_8, sx, reduceIte, Nat.reduceEqDiff, Nat.reduceAdd, e16_rt]
          have := hno fun e => by rw [e] at hne; simp at hne
          simp [this]
        · have hq : xs[i].2 = ys[i].2 := by simpa using hq
          simp only [q16_9, sx, reduceIte, Nat.reduceEqDiff, Nat.reduceAdd]
          refine ⟨xs.length - (i + 1), by omega, trivial, i + 1, ?_, by omega, rfl, ?_⟩
          · rw [wrap64 (by omega) (by omega)]; rfl
          · rw [List.take_add_one, List.take_add_one, heq, List.getElem?_eq_getElem hlt, List.getElem?_eq_getElem (by omega : i < ys.length), Prod.ext he hq]
    · have hge : xs.length ≤ i := by omega
      simp only [q16_10, sx, reduceIte, Nat.reduceEqDiff, Nat.reduceAdd, e16_rt]
      have : xs = ys := by
        have h2 := heq
        rwa [List.take_of_length_le hge, List.take_of_length_le (by omega)] at h2
      simp [this]
theorem pick {x n : Int} {h : H} {lo : Nat} (hx : -9223372036854775808 ≤ x ∧ x ≤ 9223372036854775807) (hn : 1 ≤ n ∧ n ≤ 1000000000000000000) : CW C 14 [.int .i64 x, .int .i64 n] lo h fun v h' => v = .int .i64 (x % n) ∧ h' = h := by
  refine enter14 rfl ?_
  simp only [q14_0, sx, reduceIte, Nat.reduceEqDiff, Nat.reduceAdd]
  refine byT_dec (fun h1 => by omega) (fun _ => ?_)
  have hrem : binV Try.prog .rem 3 (.int .i64 x) (.int .i64 n) = some (.int .i64 (x.tmod n)) := by
    simp only [binV, intOp, if_true]
    rw [if_neg (by omega)]
  have e1 : x.tmod n = if 0 ≤ x ∨ n ∣ x then x % n else x % n - n := by
    rw [Int.tmod_eq_emod]
    split <;> omega
  have e2 := Int.emod_nonneg x (show n ≠ 0 by omega)
  have e3 := Int.emod_lt_of_pos x (show 0 < n by omega)
  simp only [q14_2, sx, reduceIte, Nat.reduceEqDiff, Nat.reduceAdd, hrem]
  refine byT_dec (fun h2 => ?_) (fun h2 => ?_)
  · simp only [q14_3, q14_4, sx, reduceIte, Nat.reduceEqDiff, Nat.reduceAdd, e14_rt]
    refine ⟨?_, trivial⟩
    congr 1
    split at e1
    · omega
    · rw [wrap64 (by omega) (by omega)]; omega
  · simp only [q14_4, sx, reduceIte, Nat.reduceEqDiff, Nat.reduceAdd, e14_rt]
    refine ⟨?_, trivial⟩
    congr 1
    split at e1 <;> omega
section
variable {h : H} {lo b f : Nat} {lv : V} {br : Bool} {ls : List UInt8}
theorem leftLen (hr : h.read b = some [lv, .bool br, .bool true]) (hl : Bytes h.read lv ls) : CW C 17 [.ptr b 0] lo h fun v h' => v = .int .i64 (ls.length : Int) ∧ h' = h := by
  refine enter17 rfl ?_
  simp only [q17_0, sx, reduceIte, Nat.reduceEqDiff, Nat.reduceAdd]
  refine (right hr).mono ?_
  rintro _ h' ⟨rfl, rfl⟩
  simp only [sx, reduceIte, Nat.reduceEqDiff, Nat.reduceAdd, Bool.not_true, q17_2, fa45_0, ld0 hr, hl.len t22, e17_rt]
  exact ⟨trivial, trivial⟩
theorem feedBroken {inp : V} (hr : h.read b = some [lv, .bool true, .bool true]) : CW C 12 [.ptr b 0, inp] lo h fun v h' => v = .tup [.nils, .int .i64 390] ∧ h' = h := by
  refine enter12 rfl ?_
  simp only [q12_0, sx, reduceIte, Nat.reduceEqDiff, Nat.reduceAdd]
  refine (right hr).mono ?_
  rintro _ h' ⟨rfl, rfl⟩
  simp only [sx, reduceIte, Nat.reduceEqDiff, Nat.reduceAdd, Bool.not_true, q12_2, fa45_1, ld1 hr, q12_3, e12_rt]
  exact ⟨trivial, trivial⟩
end
end Go.Proofs.Ytghmbmblhdgabaa
