/- A slice's copy; a number's eight bytes behind others. -/
import Derived.Test.YtghmbmblhdgabaaDoorP4
set_option linter.all false
namespace Go.Proofs.YtghmbmblhdgabaaDoor
open Go Go.Den Code
set_option maxRecDepth 100000
theorem a22 : ApT Tryd.prog 22 22 5 1 1 := ⟨Tryd.underlying22, .inl ⟨5, Tryd.underlying22⟩, (Tryd.prog.info? 5).get (by kernel_rfl), .int .u8 0, by kernel_rfl, by kernel_rfl, by kernel_rfl, by kernel_rfl, by kernel_rfl⟩
theorem b22 : BsT Tryd.prog 22 5 1 := ⟨Tryd.underlying22, ⟨(Tryd.prog.info? 5).get (by kernel_rfl), .int .u8 0, by kernel_rfl, by kernel_rfl, by kernel_rfl, by kernel_rfl⟩, by decide⟩
theorem bs22 : buildSliceV Tryd.prog 22 0 [] = some (.new [] (.sl 0 (some 0) 1)) := by kernel_rfl
theorem bs22_1 (y : UInt8) : buildSliceV Tryd.prog 22 1 [(0, byteV y)] = some (.new [byteV y] (.sl 1 (some 1) 1)) := buildSlice_one b22 (v := byteV y) rfl
theorem eqnil : binV Tryd.prog .eql 22 .nils .nils = some (.bool true) := by kernel_rfl
theorem eqsl (b o n es : Nat) (c : Option Nat) : binV Tryd.prog .eql 22 (.sl b o n c es) .nils = some (.bool false) := by kernel_rfl
theorem clone {a : V} {h : H} {xs : List UInt8} {lo : Nat} (wf : HWF h) (hlo : lo ≤ h.next) (ha : Bytes h.read a xs) (hx : xs.length < 100000000000) {K : V → H → Prop}
    (hK : ∀ v h' F, BufB h' lo v xs F → (∀ g, F = some g → h.next ≤ g) → Ch None_ None_ h h' → K v h') : CW C 22 [a] lo h K := by
  refine enter22 rfl ?_
  rcases ha with ⟨rfl, h1, h2⟩ | ⟨b, o, c, l, rfl, h2, h3, h4⟩
  · have : xs = [] := List.eq_nil_of_length_eq_zero h1
    subst this
    simp only [q22_0, q22_1, sx, reduceIte, Nat.reduceEqDiff, Nat.reduceAdd, eqnil, e22_rt]
    exact hK .nils h none (Buf.nil 1) (fun _ h => by cases h) (Ch.refl _ _ wf)
  · have ha : Bytes h.read (.sl b o xs.length c 1) xs := .inr ⟨b, o, c, l, rfl, h2, h3, h4⟩
    have c1 := ch_alloc wf []
    have hb : BufB (h.alloc []) lo (.sl h.next 0 0 (some 0) 1) [] (some h.next) := Buf.new hlo rfl
    have he := (ha.keep (keeps_alloc wf [])).elems
    obtain ⟨v, h', F, e1, e2, e3⟩ := append_bytes (t := 22) (u := 22) a22 c1.wf (Nat.le_trans hlo c1.next) hb he (by simp; omega)
    simp only [q22_0, q22_2, sx, reduceIte, Nat.reduceEqDiff, Nat.reduceAdd, eqsl, bs22, e1, e22_rt]
    refine hK v h' F e2 (fun g hg => ?_) ?_
    · rcases e3.F g hg with h5 | h5
      · cases h5; exact Nat.le_refl _
      · have := c1.next; omega
    · refine ((c1.mono (None_sub _) (None_sub _)).trans e3.ch).old wf (fun _ h _ => h) fun g h5 h6 => ?_
      rcases h5 with h5 | h5
      · cases h5; omega
      · have := c1.next; omega
theorem shr64 (n s : Nat) (k : IntKind) (hs : s ≤ 56) : binV Tryd.prog .shr 29 (.int .u64 (n : Int)) (.int k (s : Int)) = some (.int .u64 ((n / 2 ^ s : Nat) : Int)) := by
  have h1 : min (s : Int).toNat (IntKind.bits .u64) = s := by simp [IntKind.bits]; omega
  simp only [binV, shiftOp]
  rw [if_neg (by omega), h1]
  congr 2
  rw [Int.fdiv_eq_ediv_of_nonneg _ (by exact_mod_cast Nat.zero_le _)]
  simp
theorem conv29_5 (rd : Rd) (n : Nat) : convV Tryd.prog rd 29 5 (.int .u64 (n : Int)) = some (.val (byteV (UInt8.ofNat n))) := by
  have h5 : Tryd.prog.underlying 29 = some (.int .u64) := Tryd.underlying29
  have h3 : Tryd.prog.underlying 5 = some (.int .u8) := Tryd.underlying5
  simp only [convV, h5, h3]
  have : IntKind.wrap .u8 (n : Int) = ((UInt8.ofNat n).toNat : Int) := by simp [IntKind.wrap, IntKind.bits, IntKind.signed]
  rw [this]
  rfl
def longS (n : Nat) : Nat → List UInt8
  | 0 => []
  | i + 1 => longS n i ++ [UInt8.ofNat (n / 2 ^ (56 - 8 * i))]
theorem longS_len (n : Nat) : ∀ i, (longS n i).length = i
  | 0 => rfl
  | i + 1 => by simp [longS, longS_len n i]
theorem long {a : V} {h : H} {xs : List UInt8} {F : Option Nat} {lo n : Nat} (wf : HWF h) (hlo : lo ≤ h.next) (hb : BufB h lo a xs F) (hx : xs.length < 100000000000) {K : V → H → Prop}
    (hK : ∀ v h' F', BufB h' lo v (xs ++ longS n 8) F' → Gr h F h' F' → K v h') : CW C 23 [a, .int .u64 (n : Int)] lo h K := by
  refine enter23 rfl ?_
  simp only [q23_0, q23_1, sx, reduceIte, Nat.reduceEqDiff, Nat.reduceAdd]
  refine rounds (fun m e' h' => ∃ (i : Nat) (v : V) (F' : Option Nat), e' = [(0, v), (1, .int .u64 (n : Int)), (6, .int .i64 (i : Int))] ∧ i ≤ 8 ∧ m = 8 - i ∧ BufB h' lo v (xs ++ longS n i) F' ∧ Gr h F h' F') ?_ 8
    ⟨0, a, F, by simp only [sx, reduceIte, Nat.reduceEqDiff, Nat.reduceAdd]; rfl, by omega, rfl, by simpa [longS] using hb, Gr.refl wf F⟩
  rintro m e' h' ⟨i, v, F', rfl, hi, hm, hb', G⟩
  simp only [q23_2, sx, reduceIte, Nat.reduceEqDiff, Nat.reduceAdd]
  refine byT_dec (fun hlt => ?_) (fun hge => ?_)
  · have hlt : i < 8 := by omega
    have m0 : IntKind.wrap .i64 (8 * (i : Int)) = ((8 * i : Nat) : Int) := by rw [wrap64 (by omega) (by omega)]; simp
    have m1 : IntKind.wrap .i64 (56 - ((8 * i : Nat) : Int)) = ((56 - 8 * i : Nat) : Int) := by rw [wrap64 (by omega) (by omega)]; omega
    obtain ⟨v2, h2, F2, e1, e2, e3⟩ := append_byte (t := 22) a22 G.ch.wf (Nat.le_trans hlo G.ch.next) hb' (UInt8.ofNat (n / 2 ^ (56 - 8 * i))) (by simp [longS_len]; omega)
    simp only [q23_3, q23_4, sx, reduceIte, Nat.reduceEqDiff, Nat.reduceAdd, m0, m1, shr64 n (56 - 8 * i) .i64 (by omega), conv29_5, bs22_1, e1]
    simp only [q23_5, sx, reduceIte, Nat.reduceEqDiff, Nat.reduceAdd, inc64 (by omega : i < 9000000000000000000)]
    refine ⟨8 - (i + 1), by omega, i + 1, v2, F2, rfl, by omega, rfl, ?_, G.trans e3⟩
    rw [longS, ← List.append_assoc]
    exact e2
  · have : i = 8 := by omega
    subst this
    simp only [q23_6, sx, reduceIte, Nat.reduceEqDiff, Nat.reduceAdd, e23_rt]
    exact hK v h' F' hb' G
end Go.Proofs.YtghmbmblhdgabaaDoor
