/- The plain law: a row out of a row's bytes is the row; no other bytes are taken for one. -/
import Derived.Test.YtghmbmblhdgabaaK5
set_option linter.all false
namespace Go.Proofs.Ytghmbmblhdgabaa
open Go Go.Den Code
theorem low_nat (n : Int) : ((lowB n).toNat : Int) = n % 256 := by
  unfold lowB
  rw [UInt8.toNat_ofNat']
  omega
theorem low_byte (x : UInt8) : lowB (x.toNat : Int) = x := by
  have h := low_nat (x.toNat : Int)
  have := x.toNat_lt
  exact UInt8.toNat_inj.1 (by omega)
theorem low_mod {a b : Int} (h : a % 256 = b % 256) : lowB a = lowB b := by unfold lowB; rw [h]
theorem wrap_i64 (x : Int) : IntKind.wrap .i64 x = (x + 9223372036854775808) % 18446744073709551616 - 9223372036854775808 := by
  simp [IntKind.wrap, IntKind.bits, IntKind.signed]
  omega
theorem wrap_u64 (x : Int) : IntKind.wrap .u64 x = x % 18446744073709551616 := by
  simp [IntKind.wrap, IntKind.bits, IntKind.signed]
theorem acc_wrap (a : Int) (x : UInt8) : accP (IntKind.wrap .i64 a) x = IntKind.wrap .i64 (a * 256 + (x.toNat : Int)) := by
  unfold accP
  rw [wrap_i64, wrap_i64, wrap_i64]
  omega
theorem num8_val (a b c d e f g h : UInt8) : num8 [a, b, c, d, e, f, g, h] = IntKind.wrap .i64 ((((((((0 * 256 + (a.toNat : Int)) * 256 + (b.toNat : Int)) * 256 + (c.toNat : Int)) * 256 + (d.toNat : Int)) * 256 + (e.toNat : Int)) * 256 + (f.toNat : Int)) * 256 + (g.toNat : Int)) * 256 + (h.toNat : Int)) := by
  show accP (accP (accP (accP (accP (accP (accP (accP 0 a) b) c) d) e) f) g) h = _
  have h0 : accP 0 a = IntKind.wrap .i64 (0 * 256 + (a.toNat : Int)) := rfl
  rw [h0, acc_wrap, acc_wrap, acc_wrap, acc_wrap, acc_wrap, acc_wrap, acc_wrap]
theorem div8 (u : Int) (k : Nat) : u / 2 ^ k = 256 * (u / 2 ^ (k + 8)) + (u / 2 ^ k) % 256 := by
  have : u / 2 ^ (k + 8) = (u / 2 ^ k) / 256 := by
    rw [Int.pow_add, Int.ediv_ediv_of_nonneg (Int.le_of_lt (Int.pow_pos (by omega)))]
    rfl
  rw [this]
  omega
theorem eight_val (u : Int) (h0 : 0 ≤ u) (h1 : u < 18446744073709551616) : num8 (eightB u) = IntKind.wrap .i64 u := by
  unfold eightB
  rw [num8_val]
  congr 1
  simp only [low_nat]
  have e0 := div8 u 8
  have e1 := div8 u 16
  have e2 := div8 u 24
  have e3 := div8 u 32
  have e4 := div8 u 40
  have e5 := div8 u 48
  have e6 : u / 2 ^ 56 < 256 := by omega
  have e7 : 0 ≤ u / 2 ^ 56 := by omega
  have e8 : u = 256 * (u / 2 ^ 8) + u % 256 := by omega
  simp only [Nat.reduceAdd] at e0 e1 e2 e3 e4 e5
  generalize u / 2 ^ 8 = a1 at *
  generalize u / 2 ^ 16 = a2 at *
  generalize u / 2 ^ 24 = a3 at *
  generalize u / 2 ^ 32 = a4 at *
  generalize u / 2 ^ 40 = a5 at *
  generalize u / 2 ^ 48 = a6 at *
  generalize u / 2 ^ 56 = a7 at *
  omega
theorem num8_eight {n : Int} (h1 : -9223372036854775808 ≤ n) (h2 : n ≤ 9223372036854775807) : num8 (eightB (IntKind.wrap .u64 n)) = n := by
  rw [wrap_u64, eight_val _ (by omega) (by omega), wrap_i64]
  omega
theorem eight_num8 (a b c d e f g h : UInt8) : eightB (IntKind.wrap .u64 (num8 [a, b, c, d, e, f, g, h])) = [a, b, c, d, e, f, g, h] := by
  have ha := a.toNat_lt
  have hb := b.toNat_lt
  have hc := c.toNat_lt
  have hd := d.toNat_lt
  have he := e.toNat_lt
  have hf := f.toNat_lt
  have hg := g.toNat_lt
  have hh := h.toNat_lt
  rw [num8_val, wrap_i64, wrap_u64]
  generalize hv : ((((((((0 * 256 + (a.toNat : Int)) * 256 + (b.toNat : Int)) * 256 + (c.toNat : Int)) * 256 + (d.toNat : Int)) * 256 + (e.toNat : Int)) * 256 + (f.toNat : Int)) * 256 + (g.toNat : Int)) * 256 + (h.toNat : Int)) = v
  have e1 : ((v + 9223372036854775808) % 18446744073709551616 - 9223372036854775808) % 18446744073709551616 = v := by omega
  rw [e1]
  unfold eightB
  rw [show lowB (v / 2 ^ 56) = a by rw [← low_byte a]; exact low_mod (by omega), show lowB (v / 2 ^ 48) = b by rw [← low_byte b]; exact low_mod (by omega), show lowB (v / 2 ^ 40) = c by rw [← low_byte c]; exact low_mod (by omega),
    show lowB (v / 2 ^ 32) = d by rw [← low_byte d]; exact low_mod (by omega), show lowB (v / 2 ^ 24) = e by rw [← low_byte e]; exact low_mod (by omega), show lowB (v / 2 ^ 16) = f by rw [← low_byte f]; exact low_mod (by omega),
    show lowB (v / 2 ^ 8) = g by rw [← low_byte g]; exact low_mod (by omega), show lowB v = h by rw [← low_byte h]; exact low_mod (by omega)]
end Go.Proofs.Ytghmbmblhdgabaa
