/- The law 'CellApart' of the program's chapter 18 returns true for every two places and values, and they read as they did. -/
import Derived.Test.YtghmbmblhdgabaaK23
import Derived.Test.YtghmbmblhdgabaaOk
import Derived.WalkKit
import Derived.ProofKit
import Derived.OpenShut
import Derived.JoinedCond
set_option linter.all false
namespace Go.Proofs.Ytghmbmblhdgabaa.cellApart
open Go Go.Den Code

set_option maxRecDepth 100000 in
/-- What the law does, for every argument. -/
theorem contract (A : Type) (enc : TypeId × Value → A) (W : World) (base : Nat) (args : Array Value) (ds gs : List (DataW A)) (before : List MemPlace)
    (hval : ∀ (j : Nat) t v, Try.f7.params[j]? = some t → args[j]? = some v → Value.okWide Try.prog W .any base t v)
    (hW : DataW.Whole enc Try.prog Try.f7.params.toList Rows.cellApartSpec.vars false W args.toList ds gs before) (hsm : smalls 1048576 (ds ++ gs)) :
    Calls Try.prog 7 args W fun e W' => ∃ v, e = .returned v ∧ Rows.cellApartSpec.post enc Try.prog Try.f7 false true false false W args v W' := by
  refine Den.contract (C := C) ok (by kernel_rfl) (fn := Try.f7) (tb := 4) (N := 8) (M := 1048576) (by kernel_rfl) Try.underlying4 rfl ?_ ?_ ?_ hval hW hsm
  · rw [Try.params7]
    intro t ht
    have ht : t = 57 ∨ t = 62 := by simpa using ht
    rcases ht with rfl | rfl
    · exact ⟨by kernel_rfl, of_decide_eq_true (by kernel_rfl), by kernel_rfl⟩
    · exact ⟨by kernel_rfl, of_decide_eq_true (by kernel_rfl), by kernel_rfl⟩
  · intro ds hd
    rw [Try.params7] at hd
    match ds, hd with
    | [d0, d1, d2], _ => exact ⟨rfl, rfl, rfl⟩
  · intro h vs wf ro len o
    rw [Try.params7] at len o
    match vs, len, o with
    | [v0, v1, v2], _, o => exact CW_call (cellApart wf ro (o 0 57 v0 rfl rfl) (o 1 57 v1 rfl rfl) (o 2 62 v2 rfl rfl))

set_option maxRecDepth 100000 in
theorem lifted (os : Os) (started : os.Started) (A : Type) (enc : TypeId × Value → A) (F : Stop.Interp) :
    ReturnsInHanded {} Try.checked os 7 .any ((Rows.OpenSpec.upto Rows.cellApartSpec).pre6 enc Try.prog Try.f7 Rows.cellApartUptoRow.domain false) (((Rows.OpenSpec.upto Rows.cellApartSpec).at F).post enc Try.prog Try.f7 false true false false) := by
  refine returnsInHanded_of_cond (C := Try.checked) (s := Rows.OpenSpec.upto Rows.cellApartSpec) (k := Rows.uptoSmall) rfl own started (by kernel_rfl) Try.func7
    (OpenSpec.witness (enc := enc) (C := Try.checked) (s := Rows.OpenSpec.upto Rows.cellApartSpec) (k := Rows.uptoSmall) rfl false ⟨#[], #[.agg #[.int .i64 0, .int .u8 0, .string ⟨#[]⟩, .string ⟨#[]⟩], .agg #[.int .i64 0, .int .u8 0, .string ⟨#[]⟩, .string ⟨#[]⟩], .agg #[.int .u8 0, .int .i64 0, .string ⟨#[]⟩, .int .u8 0, .int .i64 0, .string ⟨#[]⟩]], []⟩ 8 (by kernel_rfl) (by kernel_rfl) (by kernel_rfl)
      (x := ([.agg [.lit (.int .i64 0), .lit (.int .u8 0), .lit (.string []), .lit (.string [])], .agg [.lit (.int .i64 0), .lit (.int .u8 0), .lit (.string []), .lit (.string [])], .agg [.agg [.lit (.int .u8 0), .lit (.int .i64 0), .lit (.string [])], .agg [.lit (.int .u8 0), .lit (.int .i64 0), .lit (.string [])]]], [], [])) (by kernel_rfl) rfl (by kernel_rfl)) ?_
  intro W base args ds gs before hval hW _ hk _
  exact contract A enc W base args ds gs before hval hW (smalls_of hk)

theorem over : Rows.cellApartUptoRow.holds Try.pinned (Rows.OpenSpec.upto Rows.cellApartSpec) :=
  OpenClaim.holds_of_cond 7 Try.f7 rfl rfl rfl rfl rfl rfl rfl ⟨rfl, rfl, rfl, rfl, rfl⟩ rfl rfl rfl rfl rfl (by kernel_rfl) Try.func7 (by kernel_rfl)
    (of_decide_eq_true (by kernel_rfl)) (by unfold Func.isWrapper; first | (rw [if_pos (by decide +kernel)]; kernel_rfl) | (rw [if_neg (by decide +kernel)]; exact ⟨rfl, rfl⟩))
    (fun os started H enc _ F => lifted os started H enc F)

theorem proved : Rows.CellApartUptoSaid :=
  over
end Go.Proofs.Ytghmbmblhdgabaa.cellApart
