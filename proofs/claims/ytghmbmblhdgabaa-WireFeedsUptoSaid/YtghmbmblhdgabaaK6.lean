/- A row out of its bytes: the walk. -/
import Derived.Test.YtghmbmblhdgabaaK5
set_option linter.all false
namespace Go.Proofs.Ytghmbmblhdgabaa
open Go Go.Den Code
set_option maxRecDepth 100000
theorem omap_bytes (bs : List UInt8) : omap toByte (bs.map byteV) = some bs := by
  induction bs with
  | nil => rfl
  | cons b r ih =>
    have h1 : toByte (byteV b) = some b := by
      unfold toByte byteV
      simp only [Int.toNat_natCast]
      rw [UInt8.ofNat_toNat]
    simp only [List.map_cons, omap, h1, ih]
theorem conv_str {rd : Rd} {v : V} {bs : List UInt8} (hb : Bytes rd v bs) : convV Try.prog rd 22 9 v = some (.val (.str bs)) := by
  have h22 := Try.underlying22
  have h9 := Try.underlying9
  have h5 := Try.underlying5
  have he := hb.elems
  rcases hb with ⟨rfl, h3, _⟩ | ⟨b, o, c, l, rfl, _, _, _⟩
  · have : bs = [] := List.eq_nil_of_length_eq_zero h3
    subst this
    simp only [convV, h22, h9, h5]
  · simp only [convV, h22, h9, h5, he, omap_bytes]
theorem or_acc (n : Int) (x : UInt8) : binV Try.prog .or 2 (.int .i64 (IntKind.wrap .i64 (n * 2 ^ 8))) (.int .i64 (x.toNat : Int)) = some (.int .i64 (accP n x)) := by
  have hx := x.toNat_lt
  have h1 : (BitVec.ofInt (IntKind.bits .i64) (IntKind.wrap .i64 (n * 2 ^ 8)) ||| BitVec.ofInt (IntKind.bits .i64) (x.toNat : Int)).toNat = ((n * 256) % 2 ^ 64).toNat + x.toNat := by
    show (BitVec.ofInt 64 (IntKind.wrap .i64 (n * 2 ^ 8)) ||| BitVec.ofInt 64 (x.toNat : Int)).toNat = _
    rw [BitVec.toNat_or, BitVec.toNat_ofInt, BitVec.ofInt_natCast, BitVec.toNat_ofNat, Nat.mod_eq_of_lt (by omega)]
    have h2 : (IntKind.wrap .i64 (n * 2 ^ 8) % ((2 ^ 64 : Nat) : Int)).toNat = ((n * 256) % 2 ^ 64).toNat := by
      simp [IntKind.wrap, IntKind.bits, IntKind.signed]
      omega
    rw [h2]
    have h3 : ((n * 256) % 2 ^ 64).toNat = ((n % 2 ^ 56).toNat) * 2 ^ 8 := by omega
    rw [h3]
    exact or_low _ _ 8 (by omega)
  simp only [binV, intOp, if_true]
  rw [h1]
  congr 2
  unfold accP
  simp [IntKind.wrap, IntKind.bits, IntKind.signed]
  omega
/-- what the closure's objects are -/
structure Rs (h0 : H) (h : H) (l : List UInt8) (ok : Bool) (lv : V) : Prop where
  wf : HWF h
  oL : Own h h0.next h0.next h0.next [lv]
  oK : Own h h0.next (h0.next + 1) (h0.next + 1) [.bool ok]
  hl : Bytes (h.rb fun g => h0.next ≤ g) lv l
  nx : h0.next + 2 ≤ h.next
def fnv (h0 : H) : V := .fn (Go.Fn.func 54) [] [.ptr h0.next 0, .ptr (h0.next + 1) 0]
section
variable {h0 h : H} {l : List UInt8} {ok : Bool} {lv : V}
theorem Rs.ch {h' : H} {X Y : Nat → Prop} (r : Rs h0 h l ok lv) (a : Ch X Y h h') (hx : ∀ g, X g → h0.next ≤ g) (h1 : ¬ Y h0.next) (h2 : ¬ Y (h0.next + 1)) : Rs h0 h' l ok lv where
  wf := a.wf
  oL := r.oL.ch a h1
  oK := r.oK.ch a h2
  hl := r.hl.mono (a.rb hx)
  nx := Nat.le_trans r.nx a.next
abbrev Tk (h0 : H) : Nat → Prop := fun g => g = h0.next ∨ g = h0.next + 1
/-- bytes are taken -/
theorem Rs.take (r : Rs h0 h l ok lv) {X : Nat → Prop} (hX : ∀ g, X g → h0.next ≤ g ∧ g < h.next) {n : Nat} (hn : n ≤ 1000000000) :
    callX C (fnv h0) [.int .i64 (n : Int)] h0.next h fun v h' => ∃ lv', Bytes (h'.rb X) v (takeP n l ok).1 ∧ Rs h0 h' (takeP n l ok).2.1 (takeP n l ok).2.2 lv' ∧ Ch (Tk h0) (Tk h0) h h' := by
  show CW C 54 [.int .i64 (n : Int), .ptr h0.next 0, .ptr (h0.next + 1) 0] h0.next h _
  refine (Go.Proofs.Ytghmbmblhdgabaa.take r.wf r.oL r.oK r.hl (by omega) (Nat.le_refl _) (by omega) hX hn).mono ?_
  rintro v h' ⟨lv', h1, h2, h3, h4, h5⟩
  exact ⟨lv', h1, ⟨h5.wf, h2, h4, h3, Nat.le_trans r.nx h5.next⟩, h5⟩
end
end Go.Proofs.Ytghmbmblhdgabaa
