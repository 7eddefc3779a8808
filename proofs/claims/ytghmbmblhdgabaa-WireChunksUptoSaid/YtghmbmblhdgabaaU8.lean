/- The law 'WireChunks' on the machine, whole. -/
import Derived.Test.YtghmbmblhdgabaaU7
import Derived.Test.YtghmbmblhdgabaaView4
set_option linter.all false
namespace Go.Proofs.Ytghmbmblhdgabaa
open Go Go.Den Code
set_option maxRecDepth 100000
theorem Rdr.new {h : H} {lo : Nat} (hlo : lo ≤ h.next) : Rdr (h.alloc [.nils, .bool false, .bool true]) lo h.next h.next .nils false := ⟨_, owned_alloc_new hlo⟩
theorem intE_ok {rd : Rd} {M n : Nat} {cs : List V} (ho : OkV Try.prog rd M n 3 cs) : ∃ x, intE rd cs x := by
  obtain ⟨x, rfl, hw⟩ := int_ok Try.underlying3 ho
  simp [Lit.wf, IntKind.min, IntKind.max, IntKind.signed, IntKind.bits] at hw
  exact ⟨x, rfl, hw.1, hw.2⟩
theorem wireChunks {h : H} {bv cv : V} (wf : HWF h) (ro : AllRo h) {N : Nat} (o0 : OkA Try.prog h.read 1048576 N 22 bv) (o1 : OkA Try.prog h.read 1048576 N 23 cv) : CW C 3 [bv, cv] h.next h fun v _ => v = .bool true := by
  obtain ⟨b, hb, hbl⟩ := bytes_ok Try.underlying22 Try.underlying5 (by kernel_rfl) (okA_slice Try.underlying22 o0)
  obtain ⟨cuts, hc, hcl⟩ : ∃ xs, Ints h.read cv xs ∧ xs.length ≤ 1048576 := by
    have ho := okA_slice Try.underlying23 o1
    cases N with
    | zero => exact ho.elim
    | succ N => exact sl_ok (Er := intE) Try.underlying23 (by kernel_rfl) (fun cs hc _ => intE_ok hc) ho
  refine enter3 rfl ?_
  simp only [q3_0, bd_some, bd2_some, bdB_some, byV_bool, byT_true, byT_false, KX_val, KX_new, kX_nx, kX_ex, kX_rt, kXB_nx, kXB_ex, kXB_rt, cells_byte, cells_bool, cells_int, cells_str, cells_ptr, cells_nils, cells_sl, cells_agg, XW_skip, XW_ret, XW_exit, E.get_cons, args, only, intX_int, tupX_tup, byte_neq, byte_eql, binV_add, binV_sub, binV_mul, binV_eql, binV_neq, binV_lss, binV_leq, binV_gtr, binV_geq, unV_not, ncV_ptr, reduceIte, Nat.reduceEqDiff, Nat.reduceAdd, Nat.one_ne_zero, Nat.zero_ne_one, NK_at, NK_ptr, List.getElem?_cons_zero, List.getElem?_cons_succ]
  refine newReader.mono ?_
  rintro _ _ ⟨rfl, rfl⟩
  refine newReader.mono ?_
  rintro _ _ ⟨rfl, rfl⟩
  have cA := ch_alloc wf [.nils, .bool false, .bool true]
  have nA : (h.alloc [.nils, .bool false, .bool true]).next = h.next + 1 := rfl
  have cB := ch_alloc cA.wf [.nils, .bool false, .bool true]
  have nB : ((h.alloc [.nils, .bool false, .bool true]).alloc [.nils, .bool false, .bool true]).next = h.next + 1 + 1 := rfl
  have ra := (Rdr.new (h := h) (Nat.le_refl _)).ch cB fun h => h
  have rc := Rdr.new (h := h.alloc [.nils, .bool false, .bool true]) (lo := h.next) (by omega)
  have kb := ((hb.mono (rb_ro ro fun g => g = h.next ∨ g = h.next + 1)).mono (cA.rb (None_sub _))).mono (cB.rb (None_sub _))
  have kc := ((hc.mono intE_mono (rb_ro ro fun g => g = h.next ∨ g = h.next + 1)).mono intE_mono (cA.rb (None_sub _))).mono intE_mono (cB.rb (None_sub _))
  rw [nA] at rc
  generalize hg : (h.alloc [.nils, .bool false, .bool true]).alloc [.nils, .bool false, .bool true] = h2 at *
  simp only [bd_some, bd2_some, bdB_some, byV_bool, byT_true, byT_false, KX_val, KX_new, kX_nx, kX_ex, kX_rt, kXB_nx, kXB_ex, kXB_rt, cells_byte, cells_bool, cells_int, cells_str, cells_ptr, cells_nils, cells_sl, cells_agg, XW_skip, XW_ret, XW_exit, E.get_cons, args, only, intX_int, tupX_tup, byte_neq, byte_eql, binV_add, binV_sub, binV_mul, binV_eql, binV_neq, binV_lss, binV_leq, binV_gtr, binV_geq, unV_not, ncV_ptr, reduceIte, Nat.reduceEqDiff, Nat.reduceAdd, Nat.one_ne_zero, Nat.zero_ne_one, NK_at, NK_ptr, List.getElem?_cons_zero, List.getElem?_cons_succ, eql24, q3_3, nA]
  refine (copyBytes cB.wf (by omega) (kb.mono (rb_le _ _)) (by omega)).mono ?_
  rintro v1 h3 ⟨⟨F1, nb1, nb2⟩, cC⟩
  have hX : ∀ g, g = h.next ∨ g = h.next + 1 → g < h3.next := fun g hg => by have := cC.next; omega
  have b1 : Bytes (h3.rb fun g => g = h.next ∨ g = h.next + 1) v1 b := nb1.bytes cC.wf fun g hg hx => by have := nb2 g hg; omega
  have ra1 := ra.ch cC fun h => h
  have rc1 := rc.ch cC fun h => h
  refine (feed (ls := []) cC.wf ra1 (.inl ⟨rfl, rfl, rfl⟩) b1 (.inl rfl) hX (by simp; omega)).mono ?_
  intro v h4 hf
  obtain ⟨fv, lvA, rfl, e2, e3, e4, e5⟩ := hf.out hX
  rw [List.nil_append] at e2 e3 e4
  have hfa : ∀ g, g = h.next → g = h.next ∨ g = h.next + 1 := fun g h => .inl h
  have M0 : Mid h.next h.next h.next (h.next + 1) (h.next + 1) bv cv fv b cuts h4 0 .nils none lvA .nils := {
    wf := e5.wf
    lw := by have := e5.next; have := cC.next; omega
    ne := by omega
    lta := by have := e5.next; have := cC.next; omega
    ltc := by have := e5.next; have := cC.next; omega
    kb := (kb.mono (cC.rb (None_sub _))).mono (e5.rb hfa)
    kc := (kc.mono intE_mono (cC.rb (None_sub _))).mono intE_mono (e5.rb hfa)
    kf := e2
    ra := e3
    la := e4
    rc := by rw [List.take_zero, cut_nil]; exact rc1.ch e5 (by omega)
    lc := by rw [List.take_zero, cut_nil]; exact .inl ⟨rfl, rfl, rfl⟩
    kg := by rw [List.take_zero, cut_nil]; exact BufOf.nil
    kF := fun g hg => by cases hg }
  simp only [bd_some, bd2_some, bdB_some, byV_bool, byT_true, byT_false, KX_val, KX_new, kX_nx, kX_ex, kX_rt, kXB_nx, kXB_ex, kXB_rt, cells_byte, cells_bool, cells_int, cells_str, cells_ptr, cells_nils, cells_sl, cells_agg, XW_skip, XW_ret, XW_exit, E.get_cons, args, only, intX_int, tupX_tup, byte_neq, byte_eql, binV_add, binV_sub, binV_mul, binV_eql, binV_neq, binV_lss, binV_leq, binV_gtr, binV_geq, unV_not, ncV_ptr, reduceIte, Nat.reduceEqDiff, Nat.reduceAdd, Nat.one_ne_zero, Nat.zero_ne_one, NK_at, NK_ptr, List.getElem?_cons_zero, List.getElem?_cons_succ, q3_4, List.nil_append]
  have e0 : errOf (cut (b.take 0)).2 = 0 := by rw [List.take_zero, cut_nil]; rfl
  refine rounds (Rnd h.next h.next h.next (h.next + 1) (h.next + 1) bv cv fv b cuts lvA) (fun m e h R => chunks_round hbl hcl ?_ R) (cuts.length + 1) ⟨0, 0, .nils, none, .nils, ?_, rfl, Nat.zero_le _, Nat.zero_le _, M0⟩
  · intro e h
    simp only [bd_some, bd2_some, bdB_some, byV_bool, byT_true, byT_false, KX_val, KX_new, kX_nx, kX_ex, kX_rt, kXB_nx, kXB_ex, kXB_rt, cells_byte, cells_bool, cells_int, cells_str, cells_ptr, cells_nils, cells_sl, cells_agg, XW_skip, XW_ret, XW_exit, E.get_cons, args, only, intX_int, tupX_tup, byte_neq, byte_eql, binV_add, binV_sub, binV_mul, binV_eql, binV_neq, binV_lss, binV_leq, binV_gtr, binV_geq, unV_not, ncV_ptr, reduceIte, Nat.reduceEqDiff, Nat.reduceAdd, Nat.one_ne_zero, Nat.zero_ne_one, NK_at, NK_ptr, List.getElem?_cons_zero, List.getElem?_cons_succ, e3_rt]
  · simp only [bd_some, bd2_some, bdB_some, byV_bool, byT_true, byT_false, KX_val, KX_new, kX_nx, kX_ex, kX_rt, kXB_nx, kXB_ex, kXB_rt, cells_byte, cells_bool, cells_int, cells_str, cells_ptr, cells_nils, cells_sl, cells_agg, XW_skip, XW_ret, XW_exit, E.get_cons, args, only, intX_int, tupX_tup, byte_neq, byte_eql, binV_add, binV_sub, binV_mul, binV_eql, binV_neq, binV_lss, binV_leq, binV_gtr, binV_geq, unV_not, ncV_ptr, reduceIte, Nat.reduceEqDiff, Nat.reduceAdd, Nat.one_ne_zero, Nat.zero_ne_one, NK_at, NK_ptr, List.getElem?_cons_zero, List.getElem?_cons_succ, envOf, e0]
    rfl
end Go.Proofs.Ytghmbmblhdgabaa
