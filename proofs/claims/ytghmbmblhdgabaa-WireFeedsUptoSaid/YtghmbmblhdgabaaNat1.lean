/- The seat's functions that hold two strings of bytes against one another. -/
import Derived.Test.YtghmbmblhdgabaaShort
import Derived.Test.YtghmbmblhdgabaaProg
import Derived.Tactics
import Derived.WalkKit
set_option linter.all false
namespace Go.Proofs.Ytghmbmblhdgabaa
open Go Go.Den
set_option maxRecDepth 100000 in
theorem bytesCompare_calls {a b : Value} {w : World} {xs ys : List UInt8} (ha : (Extern.Bytes.bytesOf a).run Try.prog w = .ok ⟨⟨xs⟩⟩ w) (hb : (Extern.Bytes.bytesOf b).run Try.prog w = .ok ⟨⟨ys⟩⟩ w) :
    Calls Try.prog 32 #[a, b] w fun e w' => e = .returned (.int .i64 (Lib.compareBytes xs ys)) ∧ w' = w := by
  go_enter Try.func32, Try.ntmps32
  go_wp2
  rw [run_callFunc_extern Try.func59 (by kernel_rfl) (by kernel_rfl) (by kernel_rfl) (e := Extern.BytealgCompare.compare) (by kernel_rfl), run_compare ha hb]
  simp only [Result.andThen]
  rw [Oper.upon_value]
  go_wp2
  go_ret
  exact ⟨rfl, rfl⟩
set_option maxRecDepth 100000 in
theorem compareString_calls {a b : Value} {w : World} {xs ys : List UInt8} (ha : (Extern.Bytes.bytesOf a).run Try.prog w = .ok ⟨⟨xs⟩⟩ w) (hb : (Extern.Bytes.bytesOf b).run Try.prog w = .ok ⟨⟨ys⟩⟩ w) :
    Calls Try.prog 77 #[a, b] w fun e w' => e = .returned (.int .i64 (Lib.compareBytes xs ys)) ∧ w' = w := by
  go_enter Try.func77, Try.ntmps77
  go_wp2
  rw [run_callFunc_extern Try.func81 (by kernel_rfl) (by kernel_rfl) (by kernel_rfl) (e := Extern.BytealgCompare.compare) (by kernel_rfl), run_compare ha hb]
  simp only [Result.andThen]
  rw [Oper.upon_value]
  go_wp2
  go_ret
  exact ⟨rfl, rfl⟩
theorem cmp32 : CmpOk Try.prog 32 := ⟨⟨_, Try.func32, by kernel_rfl⟩, fun _ _ _ _ _ ha hb => bytesCompare_calls ha hb⟩
theorem cmp77 : CmpOk Try.prog 77 := ⟨⟨_, Try.func77, by kernel_rfl⟩, fun _ _ _ _ _ ha hb => compareString_calls ha hb⟩
end Go.Proofs.Ytghmbmblhdgabaa
