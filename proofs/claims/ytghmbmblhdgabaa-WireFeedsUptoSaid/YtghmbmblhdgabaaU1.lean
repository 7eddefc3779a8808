/- What the small functions come to. -/
import Derived.Test.YtghmbmblhdgabaaCodeX
import Derived.Test.YtghmbmblhdgabaaViewA
import Derived.Test.YtghmbmblhdgabaaSim
set_option linter.all false
namespace Go.Proofs.Ytghmbmblhdgabaa
open Go Go.Den Code
set_option maxRecDepth 100000
theorem t22 : SlT Try.prog 22 5 1 := ⟨Try.underlying22, by kernel_rfl⟩
theorem c5 : Sc Try.prog 5 := ⟨by kernel_rfl, by kernel_rfl⟩
theorem wrap64 {x : Int} (h1 : -9223372036854775808 ≤ x) (h2 : x ≤ 9223372036854775807) : IntKind.wrap .i64 x = x := by
  simp [IntKind.wrap, IntKind.bits, IntKind.signed]; omega
theorem add64 {a b : Nat} (h : a + b < 9000000000000000000) : IntKind.wrap .i64 ((a : Int) + (b : Int)) = ((a + b : Nat) : Int) := by
  rw [wrap64 (by omega) (by omega)]
  simp
theorem or64 (P : Program) (t : Nat) (a b : Nat) (ha : a < 9223372036854775808) (hb : b < 9223372036854775808) : binV P .or t (.int .i64 (a : Int)) (.int .i64 (b : Int)) = some (.int .i64 ((a ||| b : Nat) : Int)) := by
  have h1 : (BitVec.ofInt (IntKind.bits .i64) (a : Int) ||| BitVec.ofInt (IntKind.bits .i64) (b : Int)).toNat = a ||| b := by
    show (BitVec.ofInt 64 (a : Int) ||| BitVec.ofInt 64 (b : Int)).toNat = a ||| b
    rw [BitVec.ofInt_natCast, BitVec.ofInt_natCast, BitVec.toNat_or, BitVec.toNat_ofNat, BitVec.toNat_ofNat, Nat.mod_eq_of_lt (by omega), Nat.mod_eq_of_lt (by omega)]
  have h2 : a ||| b < 2 ^ 63 := Nat.or_lt_two_pow ha hb
  simp only [binV, intOp, if_true]
  rw [h1, wrap64 (by omega) (by omega)]
theorem shl64 (P : Program) (t : Nat) (k : IntKind) (a s : Nat) (hs : s ≤ 64) (ha : a * 2 ^ s < 9223372036854775808) : binV P .shl t (.int .i64 (a : Int)) (.int k (s : Int)) = some (.int .i64 ((a * 2 ^ s : Nat) : Int)) := by
  have h1 : min (s : Int).toNat (IntKind.bits .i64) = s := by simp [IntKind.bits]; omega
  simp only [binV, shiftOp]
  rw [if_neg (by omega), h1]
  have h2 : (a : Int) * 2 ^ s = ((a * 2 ^ s : Nat) : Int) := by simp
  rw [h2, wrap64 (by omega) (by omega)]
theorem conv53 (rd : Rd) (n : Nat) (hn : n < 256) : convV Try.prog rd 5 3 (.int .u8 (n : Int)) = some (.val (.int .i64 (n : Int))) := by
  have h5 : Try.prog.underlying 5 = some (.int .u8) := Try.underlying5
  have h3 : Try.prog.underlying 3 = some (.int .i64) := Try.underlying3
  simp only [convV, h5, h3]
  rw [wrap64 (by omega) (by omega)]
def num4 : List UInt8 → Nat
  | a :: b :: c :: d :: _ => a.toNat * 16777216 + b.toNat * 65536 + c.toNat * 256 + d.toNat
  | _ => 0
theorem or_low (x y s : Nat) (hy : y < 2 ^ s) : x * 2 ^ s ||| y = x * 2 ^ s + y := by
  have := Nat.two_pow_add_eq_or_of_lt hy x
  rw [Nat.mul_comm x]
  exact this.symm
theorem number {a : V} {h : H} {bs : List UInt8} {lo : Nat} (ha : Bytes h.read a bs) (hl : 4 ≤ bs.length) : CW C 46 [a] lo h fun v h' => v = .int .i64 (num4 bs : Int) ∧ h' = h := by
  refine enter46 rfl ?_
  match bs, hl with
  | b0 :: b1 :: b2 :: b3 :: r, _ =>
    obtain ⟨p0, q0, s0⟩ := ha.at t22 c5 (i := 0) (by simp) (k := .i64)
    obtain ⟨p1, q1, s1⟩ := ha.at t22 c5 (i := 1) (by simp) (k := .i64)
    obtain ⟨p2, q2, s2⟩ := ha.at t22 c5 (i := 2) (by simp) (k := .i64)
    obtain ⟨p3, q3, s3⟩ := ha.at t22 c5 (i := 3) (by simp) (k := .i64)
    have u0 := b0.toNat_lt
    have u1 := b1.toNat_lt
    have u2 := b2.toNat_lt
    have u3 := b3.toNat_lt
    have e1 : b0.toNat * 2 ^ 24 ||| b1.toNat * 2 ^ 16 = b0.toNat * 2 ^ 24 + b1.toNat * 2 ^ 16 := or_low _ _ 24 (by omega)
    have e2 : (b0.toNat * 2 ^ 24 + b1.toNat * 2 ^ 16) ||| b2.toNat * 2 ^ 8 = b0.toNat * 2 ^ 24 + b1.toNat * 2 ^ 16 + b2.toNat * 2 ^ 8 := by
      have : b0.toNat * 2 ^ 24 + b1.toNat * 2 ^ 16 = (b0.toNat * 2 ^ 8 + b1.toNat) * 2 ^ 16 := by omega
      rw [this]; exact or_low _ _ 16 (by omega)
    have e3 : (b0.toNat * 2 ^ 24 + b1.toNat * 2 ^ 16 + b2.toNat * 2 ^ 8) ||| b3.toNat = b0.toNat * 2 ^ 24 + b1.toNat * 2 ^ 16 + b2.toNat * 2 ^ 8 + b3.toNat := by
      have : b0.toNat * 2 ^ 24 + b1.toNat * 2 ^ 16 + b2.toNat * 2 ^ 8 = (b0.toNat * 2 ^ 16 + b1.toNat * 2 ^ 8 + b2.toNat) * 2 ^ 8 := by omega
      rw [this]; exact or_low _ _ 8 (by omega)
    have h1 := shl64 Try.prog 3 .u64 b0.toNat 24 (by omega) (by omega)
    have h2 := shl64 Try.prog 3 .u64 b1.toNat 16 (by omega) (by omega)
    have h3 := shl64 Try.prog 3 .u64 b2.toNat 8 (by omega) (by omega)
    have o1 := or64 Try.prog 3 (b0.toNat * 2 ^ 24) (b1.toNat * 2 ^ 16) (by omega) (by omega)
    have o2 := or64 Try.prog 3 (b0.toNat * 2 ^ 24 + b1.toNat * 2 ^ 16) (b2.toNat * 2 ^ 8) (by omega) (by omega)
    have o3 := or64 Try.prog 3 (b0.toNat * 2 ^ 24 + b1.toNat * 2 ^ 16 + b2.toNat * 2 ^ 8) b3.toNat (by omega) (by omega)
    rw [e1] at o1
    rw [e2] at o2
    rw [e3] at o3
    simp only [List.getElem_cons_zero, List.getElem_cons_succ, byteV, Int.cast_ofNat_Int] at q0 q1 q2 q3 s0 s1 s2 s3 h1 h2 h3
    simp only [q46_0, sx, reduceIte, Nat.reduceEqDiff, Nat.reduceAdd, q0, q1, q2, q3, s0, s1, s2, s3, conv53 _ _ u0, conv53 _ _ u1, conv53 _ _ u2, conv53 _ _ u3, h1, h2, h3, o1, o2, o3, e46_rt]
    have e : num4 (b0 :: b1 :: b2 :: b3 :: r) = b0.toNat * 2 ^ 24 + b1.toNat * 2 ^ 16 + b2.toNat * 2 ^ 8 + b3.toNat := by simp only [num4]
    rw [e]
    exact ⟨rfl, trivial⟩
theorem sameBytes {a b : V} {h : H} {xs ys : List UInt8} {lo : Nat} (ha : Bytes h.read a xs) (hb : Bytes h.read b ys) (hx : xs.length < 1000000000000000) : CW C 27 [a, b] lo h fun v h' => v = .bool (decide (xs = ys)) ∧ h' = h := by
  refine enter27 rfl ?_
  simp only [q27_0, sx, reduceIte, Nat.reduceEqDiff, Nat.reduceAdd, ha.len t22, hb.len t22]
  refine byT_mk (fun hl => ?_) (fun hl => ?_)
  · simp only [q27_1, sx, reduceIte, Nat.reduceEqDiff, Nat.reduceAdd, e27_rt]
    have : xs ≠ ys := fun e => by subst e; simp at hl
    simp [this]
  · have hlen : xs.length = ys.length := by simp at hl; omega
    simp only [q27_2, q27_3, sx, reduceIte, Nat.reduceEqDiff, Nat.reduceAdd]
    refine rounds (fun m e' h' => h' = h ∧ ∃ i : Nat, e' = [(0, a), (1, b), (5, .int .i64 (i : Int))] ∧ i ≤ xs.length ∧ m = xs.length - i ∧ xs.take i = ys.take i) ?_ xs.length ⟨rfl, 0, by simp only [sx, reduceIte, Nat.reduceEqDiff, Nat.reduceAdd]; rfl, Nat.zero_le _, rfl, by simp⟩
    rintro m e' h' ⟨rfl, i, rfl, hi, hm, heq⟩
    simp only [q27_4, sx, reduceIte, Nat.reduceEqDiff, Nat.reduceAdd, ha.len t22]
    refine byT_dec (fun hlt => ?_) (fun hge => ?_)
    · have hlt : i < xs.length := by omega
      obtain ⟨p, p1, p2⟩ := ha.at t22 c5 hlt (k := .i64)
      obtain ⟨q, q1, q2⟩ := hb.at t22 c5 (i := i) (by omega) (k := .i64)
      simp only [q27_5, q27_6, sx, reduceIte, Nat.reduceEqDiff, Nat.reduceAdd, p1, p2, q1, q2, byteV]
      refine byT_mk (fun hne => ?_) (fun he => ?_)
      · simp only [q27_7, sx, reduceIte, Nat.reduceEqDiff, Nat.reduceAdd, e27_rt]
        have : xs ≠ ys := fun e => by subst e; simp at hne
        simp [this]
      · simp only [q27_8, sx, reduceIte, Nat.reduceEqDiff, Nat.reduceAdd]
        have e1 : xs[i] = ys[i] := by
          have h2 : ((xs[i].toNat : Nat) : Int) = (ys[i].toNat : Int) := by simpa using he
          exact UInt8.toNat_inj.1 (by omega)
        refine ⟨xs.length - (i + 1), by omega, trivial, i + 1, ?_, by omega, rfl, ?_⟩
        · rw [wrap64 (by omega) (by omega)]; rfl
        · rw [List.take_add_one, List.take_add_one, heq, List.getElem?_eq_getElem hlt, List.getElem?_eq_getElem (by omega : i < ys.length), e1]
    · have hge : xs.length ≤ i := by omega
      simp only [q27_9, sx, reduceIte, Nat.reduceEqDiff, Nat.reduceAdd, e27_rt]
      have : xs = ys := by
        have h2 := heq
        rwa [List.take_of_length_le hge, List.take_of_length_le (by omega)] at h2
      simp [this]
theorem a22 : ApT Try.prog 22 22 5 1 1 := ⟨Try.underlying22, .inl ⟨5, Try.underlying22⟩, (Try.prog.info? 5).get (by kernel_rfl), .int .u8 0, by kernel_rfl, by kernel_rfl, by kernel_rfl, by kernel_rfl, by kernel_rfl⟩
theorem b22 : BsT Try.prog 22 5 1 := ⟨Try.underlying22, ⟨(Try.prog.info? 5).get (by kernel_rfl), .int .u8 0, by kernel_rfl, by kernel_rfl, by kernel_rfl, by kernel_rfl⟩, by decide⟩
/-- a new slice of bytes, of its own family -/
def NewBytes (h0 h' : H) (v : V) (xs : List UInt8) : Prop := ∃ F, Buf h' h0.next 1 v xs.length (xs.map byteV) F ∧ ∀ g, F = some g → h0.next ≤ g
theorem copyBytes {a : V} {h : H} {xs : List UInt8} {lo : Nat} (wf : HWF h) (hlo : lo ≤ h.next) (ha : Bytes h.read a xs) (hx : xs.length < 100000000000) : CW C 13 [a] lo h fun v h' => NewBytes h h' v xs ∧ Ch None_ None_ h h' := by
  refine CW.low hS hlo (enter13 rfl ?_)
  simp only [q13_0, q13_1, sx, reduceIte, Nat.reduceEqDiff, Nat.reduceAdd]
  refine rounds (fun m e' h' => Ch None_ (fun g => h.next ≤ g) h h' ∧ ∃ i : Nat, ∃ v F, e' = [(0, a), (3, v), (4, .int .i64 (i : Int))] ∧ i ≤ xs.length ∧ m = xs.length - i ∧ Buf h' h.next 1 v i ((xs.take i).map byteV) F ∧ ∀ g, F = some g → h.next ≤ g) ?_ xs.length
    ⟨Ch.refl _ _ wf, 0, .nils, none, by simp only [sx, reduceIte, Nat.reduceEqDiff, Nat.reduceAdd]; rfl, Nat.zero_le _, rfl, by simpa using Buf.nil 1, fun g hg => by cases hg⟩
  rintro m e' h' ⟨hc, i, v, F, rfl, hi, hm, hb, hF⟩
  have ha' := (ha.mono (rb_none h)).mono (hc.rb (Z := None_) fun _ h => h)
  have ha'' := ha'.mono (rb_le _ _)
  simp only [q13_2, sx, reduceIte, Nat.reduceEqDiff, Nat.reduceAdd, ha''.len t22]
  refine byT_dec (fun hlt => ?_) (fun hge => ?_)
  · have hlt : i < xs.length := by omega
    obtain ⟨p, p1, p2⟩ := ha''.at t22 c5 hlt (k := .i64)
    have wf1 := hc.wf.alloc [byteV xs[i]]
    have c1 := ch_alloc hc.wf [byteV xs[i]]
    have hb1 := hb.ch c1 (fun _ _ h => h)
    obtain ⟨v2, h2, F2, e1, e2, e3, e4, _⟩ := append_ch a22 wf1 (Nat.le_trans hc.next c1.next) hb1 (elems_new (c := some 1) hc.wf (n := 1) (es := 1) rfl) rfl rfl (by omega) (by omega)
    simp only [q13_3, q13_4, sx, reduceIte, Nat.reduceEqDiff, Nat.reduceAdd, p1, p2, buildSlice_one b22 (v := byteV xs[i]) rfl]
    simp only [q13_5, sx, reduceIte, Nat.reduceEqDiff, Nat.reduceAdd, e1]
    refine ⟨xs.length - (i + 1), by omega, (hc.trans (c1.mono (None_sub _) (None_sub _))).trans (e3.mono (None_sub _) fun g hg => hF g hg), i + 1, v2, F2, ?_, by omega, rfl, ?_, fun g hg => ?_⟩
    · rw [wrap64 (by omega) (by omega)]; rfl
    · rw [List.take_add_one, List.getElem?_eq_getElem hlt]
      simp only [Option.toList, List.map_append, List.map_cons, List.map_nil]
      exact e2
    · rcases e4 g hg with h1 | h1
      · exact hF g h1
      · have := c1.next
        have := hc.next
        omega
  · have hge : xs.length ≤ i := by omega
    have : i = xs.length := by omega
    subst this
    simp only [q13_6, sx, reduceIte, Nat.reduceEqDiff, Nat.reduceAdd, e13_rt]
    rw [List.take_length] at hb
    exact ⟨⟨F, hb, hF⟩, hc.old wf (fun _ h _ => h) (fun _ h1 h2 => by omega)⟩
end Go.Proofs.Ytghmbmblhdgabaa
