/- What is of small bulk is small in each of its parts. -/
import Derived.Test.YtghmbmblhdgabaaDoorRows
import Derived.Test.YtghmbmblhdgabaaDoorDenE
set_option linter.all false
namespace Go.Proofs.YtghmbmblhdgabaaDoor
open Go Go.Den
theorem bulk_pos {A : Type} (d : DataW A) : 1 ≤ Rows.uptoBulk d := by
  cases d <;> try (unfold Rows.uptoBulk; omega)
  rename_i l
  cases l <;> (unfold Rows.uptoBulk; omega)
theorem bulk_len {A : Type} : ∀ l : List (DataW A), l.length ≤ Rows.uptoBulkAll l
  | [] => Nat.zero_le _
  | d :: r => by
    have h1 := bulk_pos d
    have h2 := bulk_len r
    unfold Rows.uptoBulkAll
    simp only [List.length_cons]
    omega
mutual
theorem bulk_small {A : Type} {M : Nat} : ∀ d : DataW A, Rows.uptoBulk d ≤ M → small M d
  | .lit (.string bs), h => by
    unfold Rows.uptoBulk at h
    unfold small
    omega
  | .lit (.bool _), _ => by unfold small; trivial
  | .lit .nil, _ => by unfold small; trivial
  | .lit (.int _ _), _ => by unfold small; trivial
  | .lit (.float _ _), _ => by unfold small; trivial
  | .nil, _ => by unfold small; trivial
  | .ptr _, _ => by unfold small; trivial
  | .slice e s, h => by
    unfold Rows.uptoBulk at h
    unfold small
    have h1 := bulk_len e
    have h2 := bulk_len s
    exact ⟨by omega, bulk_smalls e (by omega), bulk_smalls s (by omega)⟩
  | .agg ps, h => by
    unfold Rows.uptoBulk at h
    unfold small
    exact bulk_smalls ps (by omega)
  | .iface _ _, _ => by unfold small; trivial
  | .map _, _ => by unfold small; trivial
  | .held _, _ => by unfold small; trivial
theorem bulk_smalls {A : Type} {M : Nat} : ∀ l : List (DataW A), Rows.uptoBulkAll l ≤ M → smalls M l
  | [], _ => by unfold smalls; trivial
  | d :: r, h => by
    unfold Rows.uptoBulkAll at h
    unfold smalls
    exact ⟨bulk_small d (by omega), bulk_smalls r (by omega)⟩
end
theorem smalls_of {A : Type} {ds : List (DataW A)} (h : Rows.uptoSmall A ds = true) : smalls 1048576 ds := bulk_smalls ds (by simpa [Rows.uptoSmall] using h)
end Go.Proofs.YtghmbmblhdgabaaDoor
