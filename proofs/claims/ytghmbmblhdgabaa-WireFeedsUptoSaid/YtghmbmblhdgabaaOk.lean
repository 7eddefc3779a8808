/- The machine of the seat, with its shortcuts. -/
import Derived.Test.YtghmbmblhdgabaaCodeX
import Derived.Test.YtghmbmblhdgabaaBulk
import Derived.Test.YtghmbmblhdgabaaNat1
set_option linter.all false
namespace Go.Proofs.Ytghmbmblhdgabaa
open Go Go.Den Code
theorem ok0 : ProgOk { P := Try.prog, S := fun _ => none } := ProgOk.plain (by kernel_rfl) (by kernel_rfl)
theorem run15 : (call { P := Try.prog, S := fun _ => none } 1000 15 [] 0 H0).map (·.1) = some (.bool true) := by kernel_rfl
theorem run26 : (call { P := Try.prog, S := fun _ => none } 1000 26 [] 0 H0).map (·.1) = some (.bool true) := by kernel_rfl
theorem ran {f : FuncId} {v : V} (h : (call { P := Try.prog, S := fun _ => none } 1000 f [] 0 H0).map (·.1) = some v) : ∃ n h', call { P := Try.prog, S := fun _ => none } n f [] 0 H0 = some (v, h') := by
  rw [Option.map_eq_some_iff] at h
  obtain ⟨⟨x, h'⟩, hc, rfl⟩ := h
  exact ⟨1000, h', hc⟩
theorem ok : ProgOk C := progOk_short ok0 (fun f v hm => by
  rcases List.mem_cons.1 hm with h | hm
  · cases h; exact ⟨⟨true, rfl⟩, ran run15⟩
  · rcases List.mem_cons.1 hm with h | hm
    · cases h; exact ⟨⟨true, rfl⟩, ran run26⟩
    · cases hm) fun f hm => by
  rcases List.mem_cons.1 hm with h | hm
  · subst h; exact cmp32
  · rcases List.mem_cons.1 hm with h | hm
    · subst h; exact cmp77
    · cases hm
theorem CW_call {f : FuncId} {vs : List V} {h : H} (hw : CW C f vs h.next h fun v _ => v = .bool true) : ∃ n h', call C n f vs h.next h = some (.bool true, h') := by
  obtain ⟨n, v, h', h1, rfl⟩ := hw
  exact ⟨n, h', h1⟩
end Go.Proofs.Ytghmbmblhdgabaa
