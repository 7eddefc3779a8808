/- The law 'WireFeeds' of the program's chapter 29 returns true for every list of chunks and every place of a copy, and they read as they did. -/
import Derived.Test.YtghmbmblhdgabaaF4
import Derived.Test.YtghmbmblhdgabaaOk
import Derived.WalkKit
import Derived.ProofKit
import Derived.OpenShut
import Derived.JoinedCond
set_option linter.all false
namespace Go.Proofs.Ytghmbmblhdgabaa.wireFeeds
open Go Go.Den Code

set_option maxRecDepth 100000 in
/-- What the law does, for every argument. -/
theorem contract (A : Type) (enc : TypeId × Value → A) (W : World) (base : Nat) (args : Array Value) (ds gs : List (DataW A)) (before : List MemPlace)
    (hval : ∀ (j : Nat) t v, Try.f4.params[j]? = some t → args[j]? = some v → Value.okWide Try.prog W .any base t v)
    (hW : DataW.Whole enc Try.prog Try.f4.params.toList Rows.wireFeedsSpec.vars false W args.toList ds gs before) (hsm : smalls 1048576 (ds ++ gs)) :
    Calls Try.prog 4 args W fun e W' => ∃ v, e = .returned v ∧ Rows.wireFeedsSpec.post enc Try.prog Try.f4 false true false false W args v W' := by
  refine Den.contract (C := C) ok (by kernel_rfl) (fn := Try.f4) (tb := 4) (N := 8) (M := 1048576) (by kernel_rfl) Try.underlying4 rfl ?_ ?_ ?_ hval hW hsm
  · rw [Try.params4]
    intro t ht
    have ht : t = 36 ∨ t = 3 := by simpa using ht
    rcases ht with rfl | rfl
    · exact ⟨by kernel_rfl, of_decide_eq_true (by kernel_rfl), by kernel_rfl⟩
    · exact ⟨by kernel_rfl, of_decide_eq_true (by kernel_rfl), by kernel_rfl⟩
  · intro ds hd
    rw [Try.params4] at hd
    match ds, hd with
    | [d0, d1], _ => exact ⟨rfl, rfl, rfl⟩
  · intro h vs wf ro len o
    rw [Try.params4] at len o
    match vs, len, o with
    | [v0, v1], _, o => exact CW_call (wireFeeds wf ro (o 0 36 v0 rfl rfl) (o 1 3 v1 rfl rfl))

set_option maxRecDepth 100000 in
theorem lifted (os : Os) (started : os.Started) (A : Type) (enc : TypeId × Value → A) (F : Stop.Interp) :
    ReturnsInHanded {} Try.checked os 4 .any ((Rows.OpenSpec.upto Rows.wireFeedsSpec).pre6 enc Try.prog Try.f4 Rows.wireFeedsUptoRow.domain false) (((Rows.OpenSpec.upto Rows.wireFeedsSpec).at F).post enc Try.prog Try.f4 false true false false) := by
  refine returnsInHanded_of_cond (C := Try.checked) (s := Rows.OpenSpec.upto Rows.wireFeedsSpec) (k := Rows.uptoSmall) rfl own started (by kernel_rfl) Try.func4
    (OpenSpec.witness (enc := enc) (C := Try.checked) (s := Rows.OpenSpec.upto Rows.wireFeedsSpec) (k := Rows.uptoSmall) rfl false ⟨#[], #[.slice none 0 0, .int .i64 0], []⟩ 8 (by kernel_rfl) (by kernel_rfl) (by kernel_rfl)
      (x := ([.nil, .lit (.int .i64 0)], [], [])) (by kernel_rfl) rfl (by kernel_rfl)) ?_
  intro W base args ds gs before hval hW _ hk _
  exact contract A enc W base args ds gs before hval hW (smalls_of hk)

theorem over : Rows.wireFeedsUptoRow.holds Try.pinned (Rows.OpenSpec.upto Rows.wireFeedsSpec) :=
  OpenClaim.holds_of_cond 4 Try.f4 rfl rfl rfl rfl rfl rfl rfl ⟨rfl, rfl, rfl, rfl, rfl⟩ rfl rfl rfl rfl rfl (by kernel_rfl) Try.func4 (by kernel_rfl)
    (of_decide_eq_true (by kernel_rfl)) (by unfold Func.isWrapper; first | (rw [if_pos (by decide +kernel)]; kernel_rfl) | (rw [if_neg (by decide +kernel)]; exact ⟨rfl, rfl⟩))
    (fun os started H enc _ F => lifted os started H enc F)

theorem proved : Rows.WireFeedsUptoSaid :=
  over
end Go.Proofs.Ytghmbmblhdgabaa.wireFeeds
