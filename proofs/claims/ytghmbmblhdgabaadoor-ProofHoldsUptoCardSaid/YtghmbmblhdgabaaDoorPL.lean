/- The arguments of the Door's laws; the door's own heap as a witness. -/
import Derived.Test.YtghmbmblhdgabaaDoorPK
import Derived.Test.YtghmbmblhdgabaaDoorBulk
import Derived.JoinedCond
import Derived.JoinedOf
set_option linter.all false
namespace Go.Proofs.YtghmbmblhdgabaaDoor
open Go Go.Den Code
set_option maxRecDepth 100000
theorem claim_ok {rd : Rd} {N : Nat} {v : V} (o : OkA Tryd.prog rd 1048576 N 31 v) : ∃ key t role draw, v = .agg (clC key t role draw) := by
  unfold OkA at o
  simp only [Tryd.underlying31] at o
  obtain ⟨vs, rfl, o⟩ := o
  cases N with
  | zero => exact o.elim
  | succ n =>
    unfold OkV at o
    simp only [Tryd.underlying31] at o
    obtain ⟨h1, h2⟩ := o
    have hc31 : Tryd.prog.cellsOf 31 = 4 := by kernel_rfl
    have hc9 : Tryd.prog.cellsOf 9 = 1 := by kernel_rfl
    have hc3 : Tryd.prog.cellsOf 3 = 1 := by kernel_rfl
    have hc29 : Tryd.prog.cellsOf 29 = 1 := by kernel_rfl
    rw [hc31] at h1
    match vs, h1 with
    | [a, b, c, d], _ =>
      have g0 := h2 _ (List.mem_cons_self)
      have g1 := h2 _ (List.mem_cons_of_mem _ List.mem_cons_self)
      have g2 := h2 _ (List.mem_cons_of_mem _ (List.mem_cons_of_mem _ List.mem_cons_self))
      have g3 := h2 _ (List.mem_cons_of_mem _ (List.mem_cons_of_mem _ (List.mem_cons_of_mem _ List.mem_cons_self)))
      simp only [hc9, hc3, hc29, List.drop_zero, List.take_succ_cons, List.take_zero, List.drop_succ_cons] at g0 g1 g2 g3
      obtain ⟨key, k1, _⟩ := str_ok Tryd.underlying9 g0
      obtain ⟨t, t1, _⟩ := int_ok Tryd.underlying3 g1
      obtain ⟨role, r1, _⟩ := str_ok Tryd.underlying9 g2
      obtain ⟨n, n1, n2⟩ := int_ok Tryd.underlying29 g3
      obtain rfl := (List.cons.inj k1).1
      obtain rfl := (List.cons.inj t1).1
      obtain rfl := (List.cons.inj r1).1
      obtain rfl := (List.cons.inj n1).1
      have hn : 0 ≤ n := by
        have := n2
        simp [Lit.wf, IntKind.min, IntKind.signed] at this
        omega
      refine ⟨key, t, role, n.toNat, ?_⟩
      unfold clC
      rw [Int.toNat_of_nonneg hn]
/-- the door's own heap meets the condition -/
theorem door_met (os : Os) (args : Array Value) : laidMetH Tryd.prog [("chancery/proof.k", Rows.laid_chancery_proof_k)] ((World.doorLaid Tryd.prog 400 os).forCall (fun _ _ => 0) ⟨#[], args, []⟩).memory := by
  rw [MakeChecks.laidMetH_plain _ _ _ (by kernel_rfl)]
  exact laidMet_of_run' 8 (by kernel_rfl) (by kernel_rfl)
theorem bytes_arg {rd : Rd} {N : Nat} {v : V} (o : OkA Tryd.prog rd 1048576 N 22 v) : ∃ bs, Bytes rd v bs ∧ bs.length ≤ 1048576 := by
  have o := okA_slice Tryd.underlying22 o
  cases N with
  | zero => exact o.elim
  | succ n => exact bytes_ok Tryd.underlying22 Tryd.underlying5 (by kernel_rfl) o
theorem CW_call {f : FuncId} {vs : List V} {h : H} (hw : CW C f vs h.next h fun v _ => v = .bool true) : ∃ n h', call C n f vs h.next h = some (.bool true, h') := by
  obtain ⟨n, v, h', h1, rfl⟩ := hw
  exact ⟨n, h', h1⟩
end Go.Proofs.YtghmbmblhdgabaaDoor
