/- The fixed example; copies; a number picked. -/
import Derived.Test.YtghmbmblhdgabaaDoorP8
import Derived.Test.YtghmbmblhdgabaaDoorRows
set_option linter.all false
namespace Go.Proofs.YtghmbmblhdgabaaDoor
open Go Go.Den Code
set_option maxRecDepth 100000
def kOf (d : DataW Unit) : UInt32 := match d with
  | .lit (.int _ n) => UInt32.ofNat n.toNat
  | _ => 0
/-- the constants, as the row lists them -/
def ksC : List UInt32 := match (Rows.laid_chancery_proof_k : DataW Unit) with
  | .agg l => l.map kOf
  | _ => []
theorem ksC_len : ksC.length = 64 := by kernel_rfl
theorem abc0 : (sha ksC [97, 98, 99]).getD 0 0 = 186 := by kernel_rfl
theorem abc1 : (sha ksC [97, 98, 99]).getD 1 0 = 120 := by kernel_rfl
theorem abc31 : (sha ksC [97, 98, 99]).getD 31 0 = 173 := by kernel_rfl
theorem eql186 : binV Tryd.prog .eql 5 (byteV 186) (.int .u8 186) = some (.bool true) := by kernel_rfl
theorem eql120 : binV Tryd.prog .eql 5 (byteV 120) (.int .u8 120) = some (.bool true) := by kernel_rfl
theorem eql173 : binV Tryd.prog .eql 5 (byteV 173) (.int .u8 173) = some (.bool true) := by kernel_rfl
theorem abcV : buildSliceV Tryd.prog 22 3 [(0, .int .u8 97), (1, .int .u8 98), (2, .int .u8 99)] = some (.new (([97, 98, 99] : List UInt8).map byteV) (.sl 3 (some 3) 1)) := by kernel_rfl
theorem a24_0 (b : Nat) : addrV Tryd.prog 24 (.ptr b 0) (.int .i64 0) = some (.ptr b 0) := addr24 (i := 0) (by decide)
theorem a24_1 (b : Nat) : addrV Tryd.prog 24 (.ptr b 0) (.int .i64 1) = some (.ptr b 1) := addr24 (i := 1) (by decide)
theorem a24_31 (b : Nat) : addrV Tryd.prog 24 (.ptr b 0) (.int .i64 31) = some (.ptr b 31) := addr24 (i := 31) (by decide)
theorem awake {h : H} {lo : Nat} (wf : HWF h) (hlo : lo ≤ h.next) (hk : h.read 0 = some (ksC.map w32)) {K : V → H → Prop} (hK : ∀ h', Ch None_ None_ h h' → K (.bool true) h') : CW C 13 [] lo h K := by
  refine enter13 rfl ?_
  have c1 := ch_alloc wf (([97, 98, 99] : List UInt8).map byteV)
  have o1 : Own (h.alloc (([97, 98, 99] : List UInt8).map byteV)) lo h.next h.next (([97, 98, 99] : List UInt8).map byteV) := Own.new hlo
  have rk : ∀ {h' : H}, Ch None_ None_ h h' → h'.read 0 = some (ksC.map w32) := fun c => (rb_le _ _) _ _ (c.rb (fun _ h => h) _ _ (rb_none _ _ _ hk))
  simp only [q13_0, sx, reduceIte, Nat.reduceEqDiff, Nat.reduceAdd, abcV, mark22 o1 (by decide : 3 ≠ 0)]
  refine sum c1.wf (Nat.le_trans hlo c1.next) (ownBytes (n := 3) (c := some 3) c1.wf o1 rfl) (by decide) (rk c1) ksC_len fun h2 c2 => ?_
  obtain ⟨h4, s4, o4, c4, n4⟩ := box24 (lo := lo) c2.wf (Nat.le_trans hlo (Nat.le_trans c1.next c2.next)) (sha_len ksC [97, 98, 99])
  have l0 := load8 (o4.read c4.wf) (i := 0) (by rw [sha_len]; decide)
  have l1 := load8 (o4.read c4.wf) (i := 1) (by rw [sha_len]; decide)
  have l31 := load8 (o4.read c4.wf) (i := 31) (by rw [sha_len]; decide)
  rw [abc0] at l0
  rw [abc1] at l1
  rw [abc31] at l31
  have cc := (c1.trans c2).trans c4
  simp only [sx, reduceIte, Nat.reduceEqDiff, Nat.reduceAdd, z24, s4, a24_0, a24_1, a24_31, l0, l1, l31, eql186, eql120, eql173]
  refine proofF (key := [107]) (t := 1) (role := [114]) (draw := 7) c4.wf (Nat.le_trans hlo cc.next) (rk cc) ksC_len (by decide) (by decide) fun v5 h5 F5 b5 f5 c5 => ?_
  refine holdsF (key := [107]) (t := 1) (role := [114]) (draw := 7) c5.wf (Nat.le_trans hlo (cc.trans c5).next) (rk (cc.trans c5)) ksC_len (by decide) (by decide) ((Buf.bytes (X := None_) c5.wf b5 fun _ _ h => h).mono (rb_le _ _)) fun h6 c6 => ?_
  simp only [sx, reduceIte, Nat.reduceEqDiff, Nat.reduceAdd, e13_rt]
  rw [decide_eq_true trivial]
  exact hK _ ((cc.trans c5).trans c6)
theorem copyBytes {a : V} {h : H} {xs : List UInt8} {lo : Nat} (wf : HWF h) (hlo : lo ≤ h.next) (ha : Bytes h.read a xs) (hx : xs.length < 100000000000) {K : V → H → Prop}
    (hK : ∀ v h' F, BufB h' h.next v xs F → (∀ g, F = some g → h.next ≤ g) → Ch None_ None_ h h' → K v h') : CW C 20 [a] lo h K := by
  refine CW.low hS hlo (enter20 rfl ?_)
  simp only [q20_0, q20_1, sx, reduceIte, Nat.reduceEqDiff, Nat.reduceAdd]
  refine rounds (fun m e' h' => Ch None_ (fun g => h.next ≤ g) h h' ∧ ∃ i : Nat, ∃ v F, e' = [(0, a), (3, v), (4, .int .i64 (i : Int))] ∧ i ≤ xs.length ∧ m = xs.length - i ∧ BufB h' h.next v (xs.take i) F ∧ ∀ g, F = some g → h.next ≤ g) ?_ xs.length
    ⟨Ch.refl _ _ wf, 0, .nils, none, by simp only [sx, reduceIte, Nat.reduceEqDiff, Nat.reduceAdd]; rfl, Nat.zero_le _, rfl, by rw [List.take_zero]; exact Buf.nil 1, fun g hg => by cases hg⟩
  rintro m e' h' ⟨hc, i, v, F, rfl, hi, hm, hb, hF⟩
  have ha'' := ((ha.mono (rb_none h)).mono (hc.rb (Z := None_) fun _ h => h)).mono (rb_le _ _)
  simp only [q20_2, sx, reduceIte, Nat.reduceEqDiff, Nat.reduceAdd, ha''.len t22]
  refine byT_dec (fun hlt => ?_) (fun hge => ?_)
  · have hlt : i < xs.length := by omega
    obtain ⟨p, p1, p2⟩ := ha''.at t22 c5 hlt (k := .i64)
    obtain ⟨v2, h2, F2, e1, e2, e3⟩ := append_byte (t := 22) a22 hc.wf hc.next hb xs[i] (by rw [List.length_take]; omega)
    have g2 : ∀ g, (F = some g ∨ h'.next ≤ g) → h.next ≤ g := fun g hg => by
      rcases hg with hg | hg
      · exact hF g hg
      · exact Nat.le_trans hc.next hg
    simp only [q20_3, q20_4, sx, reduceIte, Nat.reduceEqDiff, Nat.reduceAdd, p1, p2, bs22_1, e1]
    simp only [q20_5, sx, reduceIte, Nat.reduceEqDiff, Nat.reduceAdd, inc64 (by omega : i < 9000000000000000000)]
    refine ⟨xs.length - (i + 1), by omega, hc.trans (e3.ch.mono (fun _ h => h) g2), i + 1, v2, F2, rfl, by omega, rfl, ?_, fun g hg => g2 g (e3.F g hg)⟩
    rw [List.take_add_one, List.getElem?_eq_getElem hlt]
    exact e2
  · have : i = xs.length := by omega
    subst this
    rw [List.take_length] at hb
    simp only [q20_6, sx, reduceIte, Nat.reduceEqDiff, Nat.reduceAdd, e20_rt]
    exact hK _ _ F hb hF (hc.old wf (fun _ h _ => h) fun g h1 h2 => by have h1 : h.next ≤ g := h1; omega)
theorem pick {h : H} {lo : Nat} {x : Int} {K : V → H → Prop} (hK : ∀ r : Nat, r < 256 → K (.int .i64 (r : Int)) h) : CW C 21 [.int .i64 x, .int .i64 256] lo h K := by
  refine enter21 rfl ?_
  have hr : binV Tryd.prog .rem 3 (.int .i64 x) (.int .i64 256) = some (.int .i64 (x.tmod 256)) := by
    simp only [binV, intOp, if_true]
    rw [if_neg (by decide)]
  have h1 := Int.tmod_lt_of_pos x (b := 256) (by decide)
  have h2 := Int.lt_tmod_of_pos x (b := 256) (by decide)
  simp only [q21_0, sx, reduceIte, Nat.reduceEqDiff, Nat.reduceAdd]
  refine byT_dec (fun hlt => absurd hlt (by decide)) (fun _ => ?_)
  simp only [q21_2, sx, reduceIte, Nat.reduceEqDiff, Nat.reduceAdd, hr]
  refine byT_dec (fun hlt => ?_) (fun hge => ?_)
  · simp only [q21_3, q21_4, sx, reduceIte, Nat.reduceEqDiff, Nat.reduceAdd, e21_rt]
    rw [wrap64 (by omega) (by omega)]
    have := hK (x.tmod 256 + 256).toNat (by omega)
    rwa [Int.toNat_of_nonneg (by omega)] at this
  · simp only [q21_4, sx, reduceIte, Nat.reduceEqDiff, Nat.reduceAdd, e21_rt]
    have := hK (x.tmod 256).toNat (by omega)
    rwa [Int.toNat_of_nonneg (by omega)] at this
theorem one8 {r : Nat} (h : r < 8) : ∃ c : UInt8, c ≠ 0 ∧ binV Tryd.prog .shl 5 (.int .u8 1) (.int .i64 (r : Int)) = some (byteV c) := by
  have : r = 0 ∨ r = 1 ∨ r = 2 ∨ r = 3 ∨ r = 4 ∨ r = 5 ∨ r = 6 ∨ r = 7 := by omega
  rcases this with rfl | rfl | rfl | rfl | rfl | rfl | rfl | rfl
  · exact ⟨1, by decide, by kernel_rfl⟩
  · exact ⟨2, by decide, by kernel_rfl⟩
  · exact ⟨4, by decide, by kernel_rfl⟩
  · exact ⟨8, by decide, by kernel_rfl⟩
  · exact ⟨16, by decide, by kernel_rfl⟩
  · exact ⟨32, by decide, by kernel_rfl⟩
  · exact ⟨64, by decide, by kernel_rfl⟩
  · exact ⟨128, by decide, by kernel_rfl⟩
theorem xor_ne {x c : UInt8} (h : c ≠ 0) : x ^^^ c ≠ x := fun e => h (by
  have h1 : x ^^^ (x ^^^ c) = x ^^^ x := by rw [e]
  rw [← UInt8.xor_assoc, UInt8.xor_self, UInt8.zero_xor] at h1
  exact h1)
theorem neq4 (a b : Bool) : binV Tryd.prog .neq 4 (.bool a) (.bool b) = some (.bool (a != b)) := by
  cases a <;> cases b <;> kernel_rfl
end Go.Proofs.YtghmbmblhdgabaaDoor
