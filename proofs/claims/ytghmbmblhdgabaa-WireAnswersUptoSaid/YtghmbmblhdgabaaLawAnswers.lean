/- The law 'WireAnswers' of the program's chapter 29 returns true for every answer, every list of frames and every number, and they read as they did. -/
import Derived.Test.YtghmbmblhdgabaaZ7
import Derived.Test.YtghmbmblhdgabaaOk
import Derived.WalkKit
import Derived.ProofKit
import Derived.OpenShut
import Derived.JoinedCond
set_option linter.all false
namespace Go.Proofs.Ytghmbmblhdgabaa.wireAnswers
open Go Go.Den Code

set_option maxRecDepth 100000 in
/-- What the law does, for every argument. -/
theorem contract (A : Type) (enc : TypeId × Value → A) (W : World) (base : Nat) (args : Array Value) (ds gs : List (DataW A)) (before : List MemPlace)
    (hval : ∀ (j : Nat) t v, Try.f9.params[j]? = some t → args[j]? = some v → Value.okWide Try.prog W .any base t v)
    (hW : DataW.Whole enc Try.prog Try.f9.params.toList Rows.wireAnswersSpec.vars false W args.toList ds gs before) (hsm : smalls 1048576 (ds ++ gs)) :
    Calls Try.prog 9 args W fun e W' => ∃ v, e = .returned v ∧ Rows.wireAnswersSpec.post enc Try.prog Try.f9 false true false false W args v W' := by
  refine Den.contract (C := C) ok (by kernel_rfl) (fn := Try.f9) (tb := 4) (N := 8) (M := 1048576) (by kernel_rfl) Try.underlying4 rfl ?_ ?_ ?_ hval hW hsm
  · rw [Try.params9]
    intro t ht
    have ht : t = 75 ∨ t = 26 ∨ t = 27 := by simpa using ht
    rcases ht with rfl | rfl | rfl
    · exact ⟨by kernel_rfl, of_decide_eq_true (by kernel_rfl), by kernel_rfl⟩
    · exact ⟨by kernel_rfl, of_decide_eq_true (by kernel_rfl), by kernel_rfl⟩
    · exact ⟨by kernel_rfl, of_decide_eq_true (by kernel_rfl), by kernel_rfl⟩
  · intro ds hd
    rw [Try.params9] at hd
    match ds, hd with
    | [d0, d1, d2], _ => exact ⟨rfl, rfl, rfl⟩
  · intro h vs wf ro len o
    rw [Try.params9] at len o
    match vs, len, o with
    | [v0, v1, v2], _, o => exact CW_call (wireAnswers wf ro (o 0 75 v0 rfl rfl) (o 1 26 v1 rfl rfl) (o 2 27 v2 rfl rfl))

set_option maxRecDepth 100000 in
theorem lifted (os : Os) (started : os.Started) (A : Type) (enc : TypeId × Value → A) (F : Stop.Interp) :
    ReturnsInHanded {} Try.checked os 9 .any ((Rows.OpenSpec.upto Rows.wireAnswersSpec).pre6 enc Try.prog Try.f9 Rows.wireAnswersUptoRow.domain false) (((Rows.OpenSpec.upto Rows.wireAnswersSpec).at F).post enc Try.prog Try.f9 false true false false) := by
  refine returnsInHanded_of_cond (C := Try.checked) (s := Rows.OpenSpec.upto Rows.wireAnswersSpec) (k := Rows.uptoSmall) rfl own started (by kernel_rfl) Try.func9
    (OpenSpec.witness (enc := enc) (C := Try.checked) (s := Rows.OpenSpec.upto Rows.wireAnswersSpec) (k := Rows.uptoSmall) rfl false ⟨#[], #[.agg #[.slice none 0 0, .slice none 0 0, .int .i64 0], .slice none 0 0, .int .i64 0], []⟩ 8 (by kernel_rfl) (by kernel_rfl) (by kernel_rfl)
      (x := ([.agg [.nil, .nil, .lit (.int .i64 0)], .nil, .lit (.int .i64 0)], [], [])) (by kernel_rfl) rfl (by kernel_rfl)) ?_
  intro W base args ds gs before hval hW _ hk _
  exact contract A enc W base args ds gs before hval hW (smalls_of hk)

theorem over : Rows.wireAnswersUptoRow.holds Try.pinned (Rows.OpenSpec.upto Rows.wireAnswersSpec) :=
  OpenClaim.holds_of_cond 9 Try.f9 rfl rfl rfl rfl rfl rfl rfl ⟨rfl, rfl, rfl, rfl, rfl⟩ rfl rfl rfl rfl rfl (by kernel_rfl) Try.func9 (by kernel_rfl)
    (of_decide_eq_true (by kernel_rfl)) (by unfold Func.isWrapper; first | (rw [if_pos (by decide +kernel)]; kernel_rfl) | (rw [if_neg (by decide +kernel)]; exact ⟨rfl, rfl⟩))
    (fun os started H enc _ F => lifted os started H enc F)

theorem proved : Rows.WireAnswersUptoSaid :=
  over
end Go.Proofs.Ytghmbmblhdgabaa.wireAnswers
