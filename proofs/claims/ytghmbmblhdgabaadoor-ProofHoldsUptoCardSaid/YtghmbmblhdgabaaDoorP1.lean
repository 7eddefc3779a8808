/- Words of 32 bits as the machine holds them; what turns them. -/
import Derived.Test.YtghmbmblhdgabaaDoorCodeP
import Derived.Test.YtghmbmblhdgabaaDoorViewA
import Derived.Test.YtghmbmblhdgabaaDoorSim
set_option linter.all false
namespace Go.Proofs.YtghmbmblhdgabaaDoor
open Go Go.Den Code
set_option maxRecDepth 100000
def w32 (x : UInt32) : V := .int .u32 (x.toNat : Int)
theorem wrap32 (n : Nat) : IntKind.wrap .u32 (n : Int) = ((n % 4294967296 : Nat) : Int) := by
  simp [IntKind.wrap, IntKind.bits, IntKind.signed]
theorem w32_of {n : Nat} (x : UInt32) (h : n % 4294967296 = x.toNat) : V.int .u32 (IntKind.wrap .u32 (n : Int)) = w32 x := by
  unfold w32
  rw [wrap32, h]
theorem add32 (P : Program) (t : Nat) (a b : UInt32) : binV P .add t (w32 a) (w32 b) = some (w32 (a + b)) := by
  have : (a.toNat : Int) + (b.toNat : Int) = ((a.toNat + b.toNat : Nat) : Int) := by simp
  unfold w32
  rw [binV_add, this]
  exact congrArg some (w32_of _ (by simp [UInt32.toNat_add]))
theorem bits32 (f : BitVec 32 → BitVec 32 → BitVec 32) (a b x : UInt32) (h : (f a.toBitVec b.toBitVec).toNat = x.toNat) :
    V.int .u32 (IntKind.wrap .u32 ((f (BitVec.ofInt 32 (a.toNat : Int)) (BitVec.ofInt 32 (b.toNat : Int))).toNat : Int)) = w32 x := by
  have e : ∀ y : UInt32, BitVec.ofInt 32 (y.toNat : Int) = y.toBitVec := fun y => by
    rw [BitVec.ofInt_natCast]
    apply BitVec.eq_of_toNat_eq
    simp
  rw [e, e]
  refine w32_of x ?_
  rw [h]
  exact Nat.mod_eq_of_lt x.toNat_lt
theorem xor32 (P : Program) (t : Nat) (a b : UInt32) : binV P .xor t (w32 a) (w32 b) = some (w32 (a ^^^ b)) := by
  have := bits32 (· ^^^ ·) a b (a ^^^ b) rfl
  unfold w32 at this ⊢
  simp only [binV, intOp, if_true]
  exact congrArg some this
theorem and32 (P : Program) (t : Nat) (a b : UInt32) : binV P .and t (w32 a) (w32 b) = some (w32 (a &&& b)) := by
  have := bits32 (· &&& ·) a b (a &&& b) rfl
  unfold w32 at this ⊢
  simp only [binV, intOp, if_true]
  exact congrArg some this
theorem or32 (P : Program) (t : Nat) (a b : UInt32) : binV P .or t (w32 a) (w32 b) = some (w32 (a ||| b)) := by
  have := bits32 (· ||| ·) a b (a ||| b) rfl
  unfold w32 at this ⊢
  simp only [binV, intOp, if_true]
  exact congrArg some this
theorem not32 (a : UInt32) : unV .xor (w32 a) = some (w32 (~~~a)) := by
  have := bits32 (· ^^^ ·) 4294967295 a (~~~a) (by
    show (BitVec.allOnes 32 ^^^ a.toBitVec).toNat = (~~~a.toBitVec).toNat
    rw [BitVec.allOnes_xor])
  unfold w32 at this ⊢
  simp only [unV, intOp]
  exact congrArg some this
theorem shl32 (P : Program) (t : Nat) (k : IntKind) (a : UInt32) (s : Nat) (hs : s < 32) : binV P .shl t (w32 a) (.int k (s : Int)) = some (w32 (a <<< UInt32.ofNat s)) := by
  have h1 : min (s : Int).toNat (IntKind.bits .u32) = s := by simp [IntKind.bits]; omega
  unfold w32
  simp only [binV, shiftOp]
  rw [if_neg (by omega), h1]
  have h2 : (a.toNat : Int) * 2 ^ s = ((a.toNat * 2 ^ s : Nat) : Int) := by simp
  rw [h2]
  refine congrArg some (w32_of _ ?_)
  rw [UInt32.toNat_shiftLeft]
  simp only [UInt32.toNat_ofNat']
  rw [Nat.mod_eq_of_lt (by omega : s < 2 ^ 32), Nat.mod_eq_of_lt hs, Nat.shiftLeft_eq]
theorem shr32 (P : Program) (t : Nat) (k : IntKind) (a : UInt32) (s : Nat) (hs : s < 32) : binV P .shr t (w32 a) (.int k (s : Int)) = some (w32 (a >>> UInt32.ofNat s)) := by
  have h1 : min (s : Int).toNat (IntKind.bits .u32) = s := by simp [IntKind.bits]; omega
  unfold w32
  simp only [binV, shiftOp]
  rw [if_neg (by omega), h1]
  congr 2
  rw [UInt32.toNat_shiftRight]
  simp only [UInt32.toNat_ofNat']
  rw [Nat.mod_eq_of_lt (by omega : s < 2 ^ 32), Nat.mod_eq_of_lt hs, Nat.shiftRight_eq_div_pow, Int.fdiv_eq_ediv_of_nonneg _ (by exact_mod_cast Nat.zero_le _)]
  simp
theorem conv5_38 (rd : Rd) (b : UInt8) : convV Tryd.prog rd 5 38 (byteV b) = some (.val (w32 b.toUInt32)) := by
  have h5 : Tryd.prog.underlying 5 = some (.int .u8) := Tryd.underlying5
  have h3 : Tryd.prog.underlying 38 = some (.int .u32) := Tryd.underlying38
  simp only [convV, byteV, h5, h3]
  congr 2
  refine w32_of _ ?_
  have := b.toNat_lt
  simp
theorem conv38_5 (rd : Rd) (x : UInt32) : convV Tryd.prog rd 38 5 (w32 x) = some (.val (byteV x.toUInt8)) := by
  have h5 : Tryd.prog.underlying 5 = some (.int .u8) := Tryd.underlying5
  have h3 : Tryd.prog.underlying 38 = some (.int .u32) := Tryd.underlying38
  simp only [convV, w32, h5, h3]
  have : IntKind.wrap .u8 (x.toNat : Int) = (x.toUInt8.toNat : Int) := by simp [IntKind.wrap, IntKind.bits, IntKind.signed]
  rw [this]
  rfl
/-- turned right -/
def ror (x : UInt32) (r : Nat) : UInt32 := x <<< UInt32.ofNat (32 - r) ||| x >>> UInt32.ofNat r
theorem conv3_48 (rd : Rd) (r : Nat) (h0 : 0 < r) (hr : r < 32) : convV Tryd.prog rd 3 48 (.int .i64 (-(r : Int))) = some (.val (.int .u64 ((18446744073709551616 - r : Nat) : Int))) := by
  have h5 : Tryd.prog.underlying 3 = some (.int .i64) := Tryd.underlying3
  have h3 : Tryd.prog.underlying 48 = some (.int .u64) := Tryd.underlying48
  simp only [convV, h5, h3]
  congr 3
  simp [IntKind.wrap, IntKind.bits, IntKind.signed]
  omega
theorem and31 (P : Program) (t : Nat) (r : Nat) (h0 : 0 < r) (hr : r < 32) : binV P .and t (.int .u64 ((18446744073709551616 - r : Nat) : Int)) (.int .u64 31) = some (.int .u64 ((32 - r : Nat) : Int)) := by
  have h1 : (BitVec.ofInt (IntKind.bits .u64) ((18446744073709551616 - r : Nat) : Int) &&& BitVec.ofInt (IntKind.bits .u64) 31).toNat = 32 - r := by
    show (BitVec.ofInt 64 ((18446744073709551616 - r : Nat) : Int) &&& BitVec.ofInt 64 ((31 : Nat) : Int)).toNat = _
    rw [BitVec.ofInt_natCast, BitVec.ofInt_natCast, BitVec.toNat_and, BitVec.toNat_ofNat, BitVec.toNat_ofNat, Nat.mod_eq_of_lt (by omega), Nat.mod_eq_of_lt (by omega), show (31 : Nat) = 2 ^ 5 - 1 from rfl, Nat.and_two_pow_sub_one_eq_mod]
    omega
  simp only [binV, intOp, if_true]
  rw [h1]
  congr 2
  simp [IntKind.wrap, IntKind.bits, IntKind.signed]
  omega
theorem sub32 (P : Program) (t : Nat) (r : Nat) (h0 : 0 < r) (hr : r < 32) : binV P .sub t (.int .u64 32) (.int .u64 ((32 - r : Nat) : Int)) = some (.int .u64 (r : Int)) := by
  rw [binV_sub]
  congr 2
  simp [IntKind.wrap, IntKind.bits, IntKind.signed]
  omega
theorem rot {x : UInt32} {h : H} {lo : Nat} {K : V → H → Prop} (r : Nat) (h0 : 0 < r) (hr : r < 32) (hk : K (w32 (ror x r)) h) : CW C 32 [w32 x, .int .i64 (-(r : Int))] lo h K := by
  refine enter32 rfl ?_
  simp only [q32_0, sx, reduceIte, Nat.reduceEqDiff, Nat.reduceAdd, conv3_48 _ r h0 hr, and31 _ _ r h0 hr, sub32 _ _ r h0 hr, shl32 _ _ _ _ (32 - r) (by omega), shr32 _ _ _ _ r hr, or32, e32_rt]
  exact hk
end Go.Proofs.YtghmbmblhdgabaaDoor
