/- Functions that compare, and the law 'CellOrder' on the machine. -/
import Derived.Test.YtghmbmblhdgabaaK17
import Derived.Test.YtghmbmblhdgabaaK15
set_option linter.all false
namespace Go.Proofs.Ytghmbmblhdgabaa
open Go Go.Den Code
set_option maxRecDepth 100000
section
variable {lo : Nat} {h : H}
theorem nan75 {a : Int} {K : V → H → Prop} (hk : K (.bool false) h) : CW C 75 [.int .u8 a] lo h K := by
  refine enter75 rfl ?_
  have e : (a != a) = false := by simp
  simp only [q75_0, bd_some, bd2_some, bdB_some, byV_bool, byT_true, byT_false, KX_val, KX_new, kX_nx, kX_ex, kX_rt, kXB_nx, kXB_ex, kXB_rt, cells_byte, cells_bool, cells_int, cells_str, cells_ptr, cells_nils, cells_sl, cells_agg, XW_skip, XW_ret, XW_exit, E.get_cons, args, only, intX_int, tupX_tup, byte_neq, byte_eql, binV_add, binV_sub, binV_mul, binV_eql, binV_neq, binV_lss, binV_leq, binV_gtr, binV_geq, unV_not, ncV_ptr, reduceIte, Nat.reduceEqDiff, Nat.reduceAdd, Nat.one_ne_zero, Nat.zero_ne_one, NK_at, NK_ptr, List.getElem?_cons_zero, List.getElem?_cons_succ, e75_nx, e75_rt, e]
  exact hk
theorem nan76 {a : Int} {K : V → H → Prop} (hk : K (.bool false) h) : CW C 76 [.int .i64 a] lo h K := by
  refine enter76 rfl ?_
  have e : (a != a) = false := by simp
  simp only [q76_0, bd_some, bd2_some, bdB_some, byV_bool, byT_true, byT_false, KX_val, KX_new, kX_nx, kX_ex, kX_rt, kXB_nx, kXB_ex, kXB_rt, cells_byte, cells_bool, cells_int, cells_str, cells_ptr, cells_nils, cells_sl, cells_agg, XW_skip, XW_ret, XW_exit, E.get_cons, args, only, intX_int, tupX_tup, byte_neq, byte_eql, binV_add, binV_sub, binV_mul, binV_eql, binV_neq, binV_lss, binV_leq, binV_gtr, binV_geq, unV_not, ncV_ptr, reduceIte, Nat.reduceEqDiff, Nat.reduceAdd, Nat.one_ne_zero, Nat.zero_ne_one, NK_at, NK_ptr, List.getElem?_cons_zero, List.getElem?_cons_succ, e76_nx, e76_rt, e]
  exact hk
theorem cmp60 {a b : Int} {K : V → H → Prop} (hk : K (.int .i64 (ordI a b)) h) : CW C 60 [.int .u8 a, .int .u8 b] lo h K := by
  refine enter60 rfl ?_
  unfold ordI at hk
  simp only [q60_0, bd_some, bd2_some, bdB_some, byV_bool, byT_true, byT_false, KX_val, KX_new, kX_nx, kX_ex, kX_rt, kXB_nx, kXB_ex, kXB_rt, cells_byte, cells_bool, cells_int, cells_str, cells_ptr, cells_nils, cells_sl, cells_agg, XW_skip, XW_ret, XW_exit, E.get_cons, args, only, intX_int, tupX_tup, byte_neq, byte_eql, binV_add, binV_sub, binV_mul, binV_eql, binV_neq, binV_lss, binV_leq, binV_gtr, binV_geq, unV_not, ncV_ptr, reduceIte, Nat.reduceEqDiff, Nat.reduceAdd, Nat.one_ne_zero, Nat.zero_ne_one, NK_at, NK_ptr, List.getElem?_cons_zero, List.getElem?_cons_succ]
  refine nan75 (nan75 ?_)
  simp only [bd_some, bd2_some, bdB_some, byV_bool, byT_true, byT_false, KX_val, KX_new, kX_nx, kX_ex, kX_rt, kXB_nx, kXB_ex, kXB_rt, cells_byte, cells_bool, cells_int, cells_str, cells_ptr, cells_nils, cells_sl, cells_agg, XW_skip, XW_ret, XW_exit, E.get_cons, args, only, intX_int, tupX_tup, byte_neq, byte_eql, binV_add, binV_sub, binV_mul, binV_eql, binV_neq, binV_lss, binV_leq, binV_gtr, binV_geq, unV_not, ncV_ptr, reduceIte, Nat.reduceEqDiff, Nat.reduceAdd, Nat.one_ne_zero, Nat.zero_ne_one, NK_at, NK_ptr, List.getElem?_cons_zero, List.getElem?_cons_succ, q60_4, q60_6]
  refine byT_dec (fun g => ?_) (fun g => ?_)
  · rw [if_pos g] at hk
    simp only [bd_some, bd2_some, bdB_some, byV_bool, byT_true, byT_false, KX_val, KX_new, kX_nx, kX_ex, kX_rt, kXB_nx, kXB_ex, kXB_rt, cells_byte, cells_bool, cells_int, cells_str, cells_ptr, cells_nils, cells_sl, cells_agg, XW_skip, XW_ret, XW_exit, E.get_cons, args, only, intX_int, tupX_tup, byte_neq, byte_eql, binV_add, binV_sub, binV_mul, binV_eql, binV_neq, binV_lss, binV_leq, binV_gtr, binV_geq, unV_not, ncV_ptr, reduceIte, Nat.reduceEqDiff, Nat.reduceAdd, Nat.one_ne_zero, Nat.zero_ne_one, NK_at, NK_ptr, List.getElem?_cons_zero, List.getElem?_cons_succ, q60_7, e60_rt]
    exact hk
  · rw [if_neg g] at hk
    simp only [bd_some, bd2_some, bdB_some, byV_bool, byT_true, byT_false, KX_val, KX_new, kX_nx, kX_ex, kX_rt, kXB_nx, kXB_ex, kXB_rt, cells_byte, cells_bool, cells_int, cells_str, cells_ptr, cells_nils, cells_sl, cells_agg, XW_skip, XW_ret, XW_exit, E.get_cons, args, only, intX_int, tupX_tup, byte_neq, byte_eql, binV_add, binV_sub, binV_mul, binV_eql, binV_neq, binV_lss, binV_leq, binV_gtr, binV_geq, unV_not, ncV_ptr, reduceIte, Nat.reduceEqDiff, Nat.reduceAdd, Nat.one_ne_zero, Nat.zero_ne_one, NK_at, NK_ptr, List.getElem?_cons_zero, List.getElem?_cons_succ, q60_8]
    refine byT_dec (fun g => ?_) (fun g => ?_)
    · rw [if_pos g] at hk
      simp only [bd_some, bd2_some, bdB_some, byV_bool, byT_true, byT_false, KX_val, KX_new, kX_nx, kX_ex, kX_rt, kXB_nx, kXB_ex, kXB_rt, cells_byte, cells_bool, cells_int, cells_str, cells_ptr, cells_nils, cells_sl, cells_agg, XW_skip, XW_ret, XW_exit, E.get_cons, args, only, intX_int, tupX_tup, byte_neq, byte_eql, binV_add, binV_sub, binV_mul, binV_eql, binV_neq, binV_lss, binV_leq, binV_gtr, binV_geq, unV_not, ncV_ptr, reduceIte, Nat.reduceEqDiff, Nat.reduceAdd, Nat.one_ne_zero, Nat.zero_ne_one, NK_at, NK_ptr, List.getElem?_cons_zero, List.getElem?_cons_succ, q60_9, e60_rt]
      exact hk
    · rw [if_neg g] at hk
      simp only [bd_some, bd2_some, bdB_some, byV_bool, byT_true, byT_false, KX_val, KX_new, kX_nx, kX_ex, kX_rt, kXB_nx, kXB_ex, kXB_rt, cells_byte, cells_bool, cells_int, cells_str, cells_ptr, cells_nils, cells_sl, cells_agg, XW_skip, XW_ret, XW_exit, E.get_cons, args, only, intX_int, tupX_tup, byte_neq, byte_eql, binV_add, binV_sub, binV_mul, binV_eql, binV_neq, binV_lss, binV_leq, binV_gtr, binV_geq, unV_not, ncV_ptr, reduceIte, Nat.reduceEqDiff, Nat.reduceAdd, Nat.one_ne_zero, Nat.zero_ne_one, NK_at, NK_ptr, List.getElem?_cons_zero, List.getElem?_cons_succ, q60_10, e60_rt]
      exact hk
theorem cmp61 {a b : Int} {K : V → H → Prop} (hk : K (.int .i64 (ordI a b)) h) : CW C 61 [.int .i64 a, .int .i64 b] lo h K := by
  refine enter61 rfl ?_
  unfold ordI at hk
  simp only [q61_0, bd_some, bd2_some, bdB_some, byV_bool, byT_true, byT_false, KX_val, KX_new, kX_nx, kX_ex, kX_rt, kXB_nx, kXB_ex, kXB_rt, cells_byte, cells_bool, cells_int, cells_str, cells_ptr, cells_nils, cells_sl, cells_agg, XW_skip, XW_ret, XW_exit, E.get_cons, args, only, intX_int, tupX_tup, byte_neq, byte_eql, binV_add, binV_sub, binV_mul, binV_eql, binV_neq, binV_lss, binV_leq, binV_gtr, binV_geq, unV_not, ncV_ptr, reduceIte, Nat.reduceEqDiff, Nat.reduceAdd, Nat.one_ne_zero, Nat.zero_ne_one, NK_at, NK_ptr, List.getElem?_cons_zero, List.getElem?_cons_succ]
  refine nan76 (nan76 ?_)
  simp only [bd_some, bd2_some, bdB_some, byV_bool, byT_true, byT_false, KX_val, KX_new, kX_nx, kX_ex, kX_rt, kXB_nx, kXB_ex, kXB_rt, cells_byte, cells_bool, cells_int, cells_str, cells_ptr, cells_nils, cells_sl, cells_agg, XW_skip, XW_ret, XW_exit, E.get_cons, args, only, intX_int, tupX_tup, byte_neq, byte_eql, binV_add, binV_sub, binV_mul, binV_eql, binV_neq, binV_lss, binV_leq, binV_gtr, binV_geq, unV_not, ncV_ptr, reduceIte, Nat.reduceEqDiff, Nat.reduceAdd, Nat.one_ne_zero, Nat.zero_ne_one, NK_at, NK_ptr, List.getElem?_cons_zero, List.getElem?_cons_succ, q61_4, q61_6]
  refine byT_dec (fun g => ?_) (fun g => ?_)
  · rw [if_pos g] at hk
    simp only [bd_some, bd2_some, bdB_some, byV_bool, byT_true, byT_false, KX_val, KX_new, kX_nx, kX_ex, kX_rt, kXB_nx, kXB_ex, kXB_rt, cells_byte, cells_bool, cells_int, cells_str, cells_ptr, cells_nils, cells_sl, cells_agg, XW_skip, XW_ret, XW_exit, E.get_cons, args, only, intX_int, tupX_tup, byte_neq, byte_eql, binV_add, binV_sub, binV_mul, binV_eql, binV_neq, binV_lss, binV_leq, binV_gtr, binV_geq, unV_not, ncV_ptr, reduceIte, Nat.reduceEqDiff, Nat.reduceAdd, Nat.one_ne_zero, Nat.zero_ne_one, NK_at, NK_ptr, List.getElem?_cons_zero, List.getElem?_cons_succ, q61_7, e61_rt]
    exact hk
  · rw [if_neg g] at hk
    simp only [bd_some, bd2_some, bdB_some, byV_bool, byT_true, byT_false, KX_val, KX_new, kX_nx, kX_ex, kX_rt, kXB_nx, kXB_ex, kXB_rt, cells_byte, cells_bool, cells_int, cells_str, cells_ptr, cells_nils, cells_sl, cells_agg, XW_skip, XW_ret, XW_exit, E.get_cons, args, only, intX_int, tupX_tup, byte_neq, byte_eql, binV_add, binV_sub, binV_mul, binV_eql, binV_neq, binV_lss, binV_leq, binV_gtr, binV_geq, unV_not, ncV_ptr, reduceIte, Nat.reduceEqDiff, Nat.reduceAdd, Nat.one_ne_zero, Nat.zero_ne_one, NK_at, NK_ptr, List.getElem?_cons_zero, List.getElem?_cons_succ, q61_8]
    refine byT_dec (fun g => ?_) (fun g => ?_)
    · rw [if_pos g] at hk
      simp only [bd_some, bd2_some, bdB_some, byV_bool, byT_true, byT_false, KX_val, KX_new, kX_nx, kX_ex, kX_rt, kXB_nx, kXB_ex, kXB_rt, cells_byte, cells_bool, cells_int, cells_str, cells_ptr, cells_nils, cells_sl, cells_agg, XW_skip, XW_ret, XW_exit, E.get_cons, args, only, intX_int, tupX_tup, byte_neq, byte_eql, binV_add, binV_sub, binV_mul, binV_eql, binV_neq, binV_lss, binV_leq, binV_gtr, binV_geq, unV_not, ncV_ptr, reduceIte, Nat.reduceEqDiff, Nat.reduceAdd, Nat.one_ne_zero, Nat.zero_ne_one, NK_at, NK_ptr, List.getElem?_cons_zero, List.getElem?_cons_succ, q61_9, e61_rt]
      exact hk
    · rw [if_neg g] at hk
      simp only [bd_some, bd2_some, bdB_some, byV_bool, byT_true, byT_false, KX_val, KX_new, kX_nx, kX_ex, kX_rt, kXB_nx, kXB_ex, kXB_rt, cells_byte, cells_bool, cells_int, cells_str, cells_ptr, cells_nils, cells_sl, cells_agg, XW_skip, XW_ret, XW_exit, E.get_cons, args, only, intX_int, tupX_tup, byte_neq, byte_eql, binV_add, binV_sub, binV_mul, binV_eql, binV_neq, binV_lss, binV_leq, binV_gtr, binV_geq, unV_not, ncV_ptr, reduceIte, Nat.reduceEqDiff, Nat.reduceAdd, Nat.one_ne_zero, Nat.zero_ne_one, NK_at, NK_ptr, List.getElem?_cons_zero, List.getElem?_cons_succ, q61_10, e61_rt]
      exact hk
theorem cmp62 {a b : List UInt8} {K : V → H → Prop} (hk : K (.int .i64 (Lib.compareBytes a b)) h) : CW C 62 [.str a, .str b] lo h K := by
  refine enter62 rfl ?_
  simp only [q62_0, bd_some, bd2_some, bdB_some, byV_bool, byT_true, byT_false, KX_val, KX_new, kX_nx, kX_ex, kX_rt, kXB_nx, kXB_ex, kXB_rt, cells_byte, cells_bool, cells_int, cells_str, cells_ptr, cells_nils, cells_sl, cells_agg, XW_skip, XW_ret, XW_exit, E.get_cons, args, only, intX_int, tupX_tup, byte_neq, byte_eql, binV_add, binV_sub, binV_mul, binV_eql, binV_neq, binV_lss, binV_leq, binV_gtr, binV_geq, unV_not, ncV_ptr, reduceIte, Nat.reduceEqDiff, Nat.reduceAdd, Nat.one_ne_zero, Nat.zero_ne_one, NK_at, NK_ptr, List.getElem?_cons_zero, List.getElem?_cons_succ]
  refine cmp_CW rfl (elems_str _ a) (elems_str _ b) ?_
  simp only [bd_some, bd2_some, bdB_some, byV_bool, byT_true, byT_false, KX_val, KX_new, kX_nx, kX_ex, kX_rt, kXB_nx, kXB_ex, kXB_rt, cells_byte, cells_bool, cells_int, cells_str, cells_ptr, cells_nils, cells_sl, cells_agg, XW_skip, XW_ret, XW_exit, E.get_cons, args, only, intX_int, tupX_tup, byte_neq, byte_eql, binV_add, binV_sub, binV_mul, binV_eql, binV_neq, binV_lss, binV_leq, binV_gtr, binV_geq, unV_not, ncV_ptr, reduceIte, Nat.reduceEqDiff, Nat.reduceAdd, Nat.one_ne_zero, Nat.zero_ne_one, NK_at, NK_ptr, List.getElem?_cons_zero, List.getElem?_cons_succ, e62_rt, e62_nx]
  exact hk
theorem order {x y : Vl} (wf : HWF h) : CW C 34 [.agg (vlC x), .agg (vlC y)] lo h fun v h' => v = .int .i64 (ordV x y) ∧ Ch None_ None_ h h' := by
  refine enter34 rfl ?_
  have c1 := ch_alloc wf (vlC x)
  have c2' := ch_alloc c1.wf (vlC y)
  have a1 : At ((h.alloc (vlC x)).alloc (vlC y)).read h.next 0 (vlC x) := ((at_owned c1.wf (owned_alloc_new (Nat.le_refl _)) None_ id).mono (c2'.rb (None_sub None_))).mono (rb_le _ _)
  have a2 : At ((h.alloc (vlC x)).alloc (vlC y)).read (h.alloc (vlC x)).next 0 (vlC y) := at_new c1.wf (vlC y)
  have c12 := c1.trans c2'
  generalize hh : (h.alloc (vlC x)).alloc (vlC y) = h2 at *
  have lk1 : loadV Try.prog 58 (.ptr h.next 0) h2.read = some (.int .u8 (x.k.toNat : Int)) := a1.cell0 c58 rfl
  have lk2 : loadV Try.prog 58 (.ptr (h.alloc (vlC x)).next 0) h2.read = some (.int .u8 (y.k.toNat : Int)) := a2.cell0 c58 rfl
  have ln1 : loadV Try.prog 2 (.ptr h.next (0 + 1)) h2.read = some (.int .i64 x.n) := a1.cell c2 rfl
  have ln2 : loadV Try.prog 2 (.ptr (h.alloc (vlC x)).next (0 + 1)) h2.read = some (.int .i64 y.n) := a2.cell c2 rfl
  have ls1 : loadV Try.prog 9 (.ptr h.next (0 + 2)) h2.read = some (.str x.s) := a1.cell c9 rfl
  have ls2 : loadV Try.prog 9 (.ptr (h.alloc (vlC x)).next (0 + 2)) h2.read = some (.str y.s) := a2.cell c9 rfl
  simp only [q34_0, bd_some, bd2_some, bdB_some, byV_bool, byT_true, byT_false, KX_val, KX_new, kX_nx, kX_ex, kX_rt, kXB_nx, kXB_ex, kXB_rt, cells_byte, cells_bool, cells_int, cells_str, cells_ptr, cells_nils, cells_sl, cells_agg, XW_skip, XW_ret, XW_exit, E.get_cons, args, only, intX_int, tupX_tup, byte_neq, byte_eql, binV_add, binV_sub, binV_mul, binV_eql, binV_neq, binV_lss, binV_leq, binV_gtr, binV_geq, unV_not, ncV_ptr, reduceIte, Nat.reduceEqDiff, Nat.reduceAdd, Nat.one_ne_zero, Nat.zero_ne_one, NK_at, NK_ptr, List.getElem?_cons_zero, List.getElem?_cons_succ, hh, fa60_0, lk1, lk2]
  refine cmp60 ?_
  simp only [bd_some, bd2_some, bdB_some, byV_bool, byT_true, byT_false, KX_val, KX_new, kX_nx, kX_ex, kX_rt, kXB_nx, kXB_ex, kXB_rt, cells_byte, cells_bool, cells_int, cells_str, cells_ptr, cells_nils, cells_sl, cells_agg, XW_skip, XW_ret, XW_exit, E.get_cons, args, only, intX_int, tupX_tup, byte_neq, byte_eql, binV_add, binV_sub, binV_mul, binV_eql, binV_neq, binV_lss, binV_leq, binV_gtr, binV_geq, unV_not, ncV_ptr, reduceIte, Nat.reduceEqDiff, Nat.reduceAdd, Nat.one_ne_zero, Nat.zero_ne_one, NK_at, NK_ptr, List.getElem?_cons_zero, List.getElem?_cons_succ]
  refine byT_mk (fun g => ?_) (fun g => ?_)
  · have g : ordI x.k.toNat y.k.toNat ≠ 0 := by simpa using g
    have e : ordV x y = ordI x.k.toNat y.k.toNat := by unfold ordV; rw [if_pos g]
    simp only [bd_some, bd2_some, bdB_some, byV_bool, byT_true, byT_false, KX_val, KX_new, kX_nx, kX_ex, kX_rt, kXB_nx, kXB_ex, kXB_rt, cells_byte, cells_bool, cells_int, cells_str, cells_ptr, cells_nils, cells_sl, cells_agg, XW_skip, XW_ret, XW_exit, E.get_cons, args, only, intX_int, tupX_tup, byte_neq, byte_eql, binV_add, binV_sub, binV_mul, binV_eql, binV_neq, binV_lss, binV_leq, binV_gtr, binV_geq, unV_not, ncV_ptr, reduceIte, Nat.reduceEqDiff, Nat.reduceAdd, Nat.one_ne_zero, Nat.zero_ne_one, NK_at, NK_ptr, List.getElem?_cons_zero, List.getElem?_cons_succ, q34_1, e34_rt, e]
    exact ⟨trivial, c12⟩
  · have g : ¬ ordI x.k.toNat y.k.toNat ≠ 0 := by simpa using g
    simp only [bd_some, bd2_some, bdB_some, byV_bool, byT_true, byT_false, KX_val, KX_new, kX_nx, kX_ex, kX_rt, kXB_nx, kXB_ex, kXB_rt, cells_byte, cells_bool, cells_int, cells_str, cells_ptr, cells_nils, cells_sl, cells_agg, XW_skip, XW_ret, XW_exit, E.get_cons, args, only, intX_int, tupX_tup, byte_neq, byte_eql, binV_add, binV_sub, binV_mul, binV_eql, binV_neq, binV_lss, binV_leq, binV_gtr, binV_geq, unV_not, ncV_ptr, reduceIte, Nat.reduceEqDiff, Nat.reduceAdd, Nat.one_ne_zero, Nat.zero_ne_one, NK_at, NK_ptr, List.getElem?_cons_zero, List.getElem?_cons_succ, q34_2, fa60_1, ln1, ln2]
    refine cmp61 ?_
    simp only [bd_some, bd2_some, bdB_some, byV_bool, byT_true, byT_false, KX_val, KX_new, kX_nx, kX_ex, kX_rt, kXB_nx, kXB_ex, kXB_rt, cells_byte, cells_bool, cells_int, cells_str, cells_ptr, cells_nils, cells_sl, cells_agg, XW_skip, XW_ret, XW_exit, E.get_cons, args, only, intX_int, tupX_tup, byte_neq, byte_eql, binV_add, binV_sub, binV_mul, binV_eql, binV_neq, binV_lss, binV_leq, binV_gtr, binV_geq, unV_not, ncV_ptr, reduceIte, Nat.reduceEqDiff, Nat.reduceAdd, Nat.one_ne_zero, Nat.zero_ne_one, NK_at, NK_ptr, List.getElem?_cons_zero, List.getElem?_cons_succ]
    refine byT_mk (fun g' => ?_) (fun g' => ?_)
    · have g' : ordI x.n y.n ≠ 0 := by simpa using g'
      have e : ordV x y = ordI x.n y.n := by unfold ordV; rw [if_neg g, if_pos g']
      simp only [bd_some, bd2_some, bdB_some, byV_bool, byT_true, byT_false, KX_val, KX_new, kX_nx, kX_ex, kX_rt, kXB_nx, kXB_ex, kXB_rt, cells_byte, cells_bool, cells_int, cells_str, cells_ptr, cells_nils, cells_sl, cells_agg, XW_skip, XW_ret, XW_exit, E.get_cons, args, only, intX_int, tupX_tup, byte_neq, byte_eql, binV_add, binV_sub, binV_mul, binV_eql, binV_neq, binV_lss, binV_leq, binV_gtr, binV_geq, unV_not, ncV_ptr, reduceIte, Nat.reduceEqDiff, Nat.reduceAdd, Nat.one_ne_zero, Nat.zero_ne_one, NK_at, NK_ptr, List.getElem?_cons_zero, List.getElem?_cons_succ, q34_3, e34_rt, e]
      exact ⟨trivial, c12⟩
    · have g' : ¬ ordI x.n y.n ≠ 0 := by simpa using g'
      have e : ordV x y = Lib.compareBytes x.s y.s := by unfold ordV; rw [if_neg g, if_neg g']
      simp only [bd_some, bd2_some, bdB_some, byV_bool, byT_true, byT_false, KX_val, KX_new, kX_nx, kX_ex, kX_rt, kXB_nx, kXB_ex, kXB_rt, cells_byte, cells_bool, cells_int, cells_str, cells_ptr, cells_nils, cells_sl, cells_agg, XW_skip, XW_ret, XW_exit, E.get_cons, args, only, intX_int, tupX_tup, byte_neq, byte_eql, binV_add, binV_sub, binV_mul, binV_eql, binV_neq, binV_lss, binV_leq, binV_gtr, binV_geq, unV_not, ncV_ptr, reduceIte, Nat.reduceEqDiff, Nat.reduceAdd, Nat.one_ne_zero, Nat.zero_ne_one, NK_at, NK_ptr, List.getElem?_cons_zero, List.getElem?_cons_succ, q34_4, fa60_2, ls1, ls2]
      refine cmp62 ?_
      simp only [bd_some, bd2_some, bdB_some, byV_bool, byT_true, byT_false, KX_val, KX_new, kX_nx, kX_ex, kX_rt, kXB_nx, kXB_ex, kXB_rt, cells_byte, cells_bool, cells_int, cells_str, cells_ptr, cells_nils, cells_sl, cells_agg, XW_skip, XW_ret, XW_exit, E.get_cons, args, only, intX_int, tupX_tup, byte_neq, byte_eql, binV_add, binV_sub, binV_mul, binV_eql, binV_neq, binV_lss, binV_leq, binV_gtr, binV_geq, unV_not, ncV_ptr, reduceIte, Nat.reduceEqDiff, Nat.reduceAdd, Nat.one_ne_zero, Nat.zero_ne_one, NK_at, NK_ptr, List.getElem?_cons_zero, List.getElem?_cons_succ, e34_rt, e]
      exact ⟨trivial, c12⟩
theorem equal58 {a b : V} {xs ys : List UInt8} {K : V → H → Prop} (ha : Bytes h.read a xs) (hb : Bytes h.read b ys) (hk : K (.bool (decide (xs = ys))) h) : CW C 58 [a, b] lo h K := by
  refine enter58 rfl ?_
  simp only [q58_0, bd_some, bd2_some, bdB_some, byV_bool, byT_true, byT_false, KX_val, KX_new, kX_nx, kX_ex, kX_rt, kXB_nx, kXB_ex, kXB_rt, cells_byte, cells_bool, cells_int, cells_str, cells_ptr, cells_nils, cells_sl, cells_agg, XW_skip, XW_ret, XW_exit, E.get_cons, args, only, intX_int, tupX_tup, byte_neq, byte_eql, binV_add, binV_sub, binV_mul, binV_eql, binV_neq, binV_lss, binV_leq, binV_gtr, binV_geq, unV_not, ncV_ptr, reduceIte, Nat.reduceEqDiff, Nat.reduceAdd, Nat.one_ne_zero, Nat.zero_ne_one, NK_at, NK_ptr, List.getElem?_cons_zero, List.getElem?_cons_succ, conv_str ha, conv_str hb, strEq, e58_rt, e58_nx]
  exact hk
theorem hasPrefix {a b : V} {xs ys : List UInt8} {K : V → H → Prop} (ha : Bytes h.read a xs) (hb : Bytes h.read b ys) (hk : K (.bool (decide (xs.take ys.length = ys))) h) : CW C 30 [a, b] lo h K := by
  refine enter30 rfl ?_
  simp only [q30_0, bd_some, bd2_some, bdB_some, byV_bool, byT_true, byT_false, KX_val, KX_new, kX_nx, kX_ex, kX_rt, kXB_nx, kXB_ex, kXB_rt, cells_byte, cells_bool, cells_int, cells_str, cells_ptr, cells_nils, cells_sl, cells_agg, XW_skip, XW_ret, XW_exit, E.get_cons, args, only, intX_int, tupX_tup, byte_neq, byte_eql, binV_add, binV_sub, binV_mul, binV_eql, binV_neq, binV_lss, binV_leq, binV_gtr, binV_geq, unV_not, ncV_ptr, reduceIte, Nat.reduceEqDiff, Nat.reduceAdd, Nat.one_ne_zero, Nat.zero_ne_one, NK_at, NK_ptr, List.getElem?_cons_zero, List.getElem?_cons_succ, ha.len t22, hb.len t22]
  refine byT_dec (fun g => ?_) (fun g => ?_)
  · have hle : ys.length ≤ xs.length := by omega
    obtain ⟨w, w1, w2⟩ := Bytes.to (rd' := h.read) t22 ha (hi := ys.length) (k := .i64) hle
    simp only [bd_some, bd2_some, bdB_some, byV_bool, byT_true, byT_false, KX_val, KX_new, kX_nx, kX_ex, kX_rt, kXB_nx, kXB_ex, kXB_rt, cells_byte, cells_bool, cells_int, cells_str, cells_ptr, cells_nils, cells_sl, cells_agg, XW_skip, XW_ret, XW_exit, E.get_cons, args, only, intX_int, tupX_tup, byte_neq, byte_eql, binV_add, binV_sub, binV_mul, binV_eql, binV_neq, binV_lss, binV_leq, binV_gtr, binV_geq, unV_not, ncV_ptr, reduceIte, Nat.reduceEqDiff, Nat.reduceAdd, Nat.one_ne_zero, Nat.zero_ne_one, NK_at, NK_ptr, List.getElem?_cons_zero, List.getElem?_cons_succ, w1]
    refine equal58 w2 hb ?_
    simp only [bd_some, bd2_some, bdB_some, byV_bool, byT_true, byT_false, KX_val, KX_new, kX_nx, kX_ex, kX_rt, kXB_nx, kXB_ex, kXB_rt, cells_byte, cells_bool, cells_int, cells_str, cells_ptr, cells_nils, cells_sl, cells_agg, XW_skip, XW_ret, XW_exit, E.get_cons, args, only, intX_int, tupX_tup, byte_neq, byte_eql, binV_add, binV_sub, binV_mul, binV_eql, binV_neq, binV_lss, binV_leq, binV_gtr, binV_geq, unV_not, ncV_ptr, reduceIte, Nat.reduceEqDiff, Nat.reduceAdd, Nat.one_ne_zero, Nat.zero_ne_one, NK_at, NK_ptr, List.getElem?_cons_zero, List.getElem?_cons_succ, e30_rt, e30_nx]
    exact hk
  · have e : decide (xs.take ys.length = ys) = false := by
      rw [decide_eq_false_iff_not]
      intro g'
      have := congrArg List.length g'
      rw [List.length_take] at this
      omega
    simp only [bd_some, bd2_some, bdB_some, byV_bool, byT_true, byT_false, KX_val, KX_new, kX_nx, kX_ex, kX_rt, kXB_nx, kXB_ex, kXB_rt, cells_byte, cells_bool, cells_int, cells_str, cells_ptr, cells_nils, cells_sl, cells_agg, XW_skip, XW_ret, XW_exit, E.get_cons, args, only, intX_int, tupX_tup, byte_neq, byte_eql, binV_add, binV_sub, binV_mul, binV_eql, binV_neq, binV_lss, binV_leq, binV_gtr, binV_geq, unV_not, ncV_ptr, reduceIte, Nat.reduceEqDiff, Nat.reduceAdd, Nat.one_ne_zero, Nat.zero_ne_one, NK_at, NK_ptr, List.getElem?_cons_zero, List.getElem?_cons_succ, e30_rt, e30_nx]
    rw [e] at hk
    exact hk
end
theorem val_ok {rd : Rd} {N : Nat} {v : V} (o : OkA Try.prog rd 1048576 N 60 v) : ∃ x : Vl, v = .agg (vlC x) ∧ x.ok := by
  unfold OkA at o
  simp only [Try.underlying60] at o
  obtain ⟨vs, rfl, o⟩ := o
  obtain ⟨x, hx, h2⟩ := vl_ok (Nat.le_refl _) o
  exact ⟨x, by rw [show vs = vlC x from hx], h2⟩
theorem cellOrder {h : H} {av bv : V} (wf : HWF h) (_ : AllRo h) {N : Nat} (o0 : OkA Try.prog h.read 1048576 N 60 av) (o1 : OkA Try.prog h.read 1048576 N 60 bv) : CW C 8 [av, bv] h.next h fun v _ => v = .bool true := by
  obtain ⟨x, rfl, hx⟩ := val_ok o0
  obtain ⟨y, rfl, hy⟩ := val_ok o1
  refine enter8 rfl ?_
  have cc1 := ch_alloc wf (vlC x)
  have cc2 := ch_alloc cc1.wf (vlC y)
  have a1 : At ((h.alloc (vlC x)).alloc (vlC y)).read h.next 0 (vlC x) := ((at_owned cc1.wf (owned_alloc_new (Nat.le_refl _)) None_ id).mono (cc2.rb (None_sub None_))).mono (rb_le _ _)
  have a2 : At ((h.alloc (vlC x)).alloc (vlC y)).read (h.alloc (vlC x)).next 0 (vlC y) := at_new cc1.wf (vlC y)
  have cc12 := cc1.trans cc2
  generalize hh : (h.alloc (vlC x)).alloc (vlC y) = h2 at *
  have l1 : ∀ {h' : H}, Le h2.read h'.read → loadV Try.prog 60 (.ptr h.next 0) h'.read = some (.agg (vlC x)) := fun l => (a1.mono l).agg agg60 siz60 rfl (by decide)
  have l2 : ∀ {h' : H}, Le h2.read h'.read → loadV Try.prog 60 (.ptr (h.alloc (vlC x)).next 0) h'.read = some (.agg (vlC y)) := fun l => (a2.mono l).agg agg60 siz60 rfl (by decide)
  simp only [q8_0, bd_some, bd2_some, bdB_some, byV_bool, byT_true, byT_false, KX_val, KX_new, kX_nx, kX_ex, kX_rt, kXB_nx, kXB_ex, kXB_rt, cells_byte, cells_bool, cells_int, cells_str, cells_ptr, cells_nils, cells_sl, cells_agg, XW_skip, XW_ret, XW_exit, E.get_cons, args, only, intX_int, tupX_tup, byte_neq, byte_eql, binV_add, binV_sub, binV_mul, binV_eql, binV_neq, binV_lss, binV_leq, binV_gtr, binV_geq, unV_not, ncV_ptr, reduceIte, Nat.reduceEqDiff, Nat.reduceAdd, Nat.one_ne_zero, Nat.zero_ne_one, NK_at, NK_ptr, List.getElem?_cons_zero, List.getElem?_cons_succ, hh, l1 (Le.refl _)]
  refine (key cc12.wf cc12.next hx).mono ?_
  rintro _ h3 ⟨k1, rfl, hk1, c3⟩
  have le3 := Ch.le c3
  simp only [bd_some, bd2_some, bdB_some, byV_bool, byT_true, byT_false, KX_val, KX_new, kX_nx, kX_ex, kX_rt, kXB_nx, kXB_ex, kXB_rt, cells_byte, cells_bool, cells_int, cells_str, cells_ptr, cells_nils, cells_sl, cells_agg, XW_skip, XW_ret, XW_exit, E.get_cons, args, only, intX_int, tupX_tup, byte_neq, byte_eql, binV_add, binV_sub, binV_mul, binV_eql, binV_neq, binV_lss, binV_leq, binV_gtr, binV_geq, unV_not, ncV_ptr, reduceIte, Nat.reduceEqDiff, Nat.reduceAdd, Nat.one_ne_zero, Nat.zero_ne_one, NK_at, NK_ptr, List.getElem?_cons_zero, List.getElem?_cons_succ, l2 le3]
  refine (key c3.wf (Nat.le_trans cc12.next c3.next) hy).mono ?_
  rintro _ h4 ⟨k2, rfl, hk2, c4⟩
  have le4 := Ch.le c4
  simp only [bd_some, bd2_some, bdB_some, byV_bool, byT_true, byT_false, KX_val, KX_new, kX_nx, kX_ex, kX_rt, kXB_nx, kXB_ex, kXB_rt, cells_byte, cells_bool, cells_int, cells_str, cells_ptr, cells_nils, cells_sl, cells_agg, XW_skip, XW_ret, XW_exit, E.get_cons, args, only, intX_int, tupX_tup, byte_neq, byte_eql, binV_add, binV_sub, binV_mul, binV_eql, binV_neq, binV_lss, binV_leq, binV_gtr, binV_geq, unV_not, ncV_ptr, reduceIte, Nat.reduceEqDiff, Nat.reduceAdd, Nat.one_ne_zero, Nat.zero_ne_one, NK_at, NK_ptr, List.getElem?_cons_zero, List.getElem?_cons_succ]
  refine byT_mk (fun g => ?_) (fun g => ?_)
  · simp only [bd_some, bd2_some, bdB_some, byV_bool, byT_true, byT_false, KX_val, KX_new, kX_nx, kX_ex, kX_rt, kXB_nx, kXB_ex, kXB_rt, cells_byte, cells_bool, cells_int, cells_str, cells_ptr, cells_nils, cells_sl, cells_agg, XW_skip, XW_ret, XW_exit, E.get_cons, args, only, intX_int, tupX_tup, byte_neq, byte_eql, binV_add, binV_sub, binV_mul, binV_eql, binV_neq, binV_lss, binV_leq, binV_gtr, binV_geq, unV_not, ncV_ptr, reduceIte, Nat.reduceEqDiff, Nat.reduceAdd, Nat.one_ne_zero, Nat.zero_ne_one, NK_at, NK_ptr, List.getElem?_cons_zero, List.getElem?_cons_succ, q8_2]
    refine aw26 ?_
    simp only [bd_some, bd2_some, bdB_some, byV_bool, byT_true, byT_false, KX_val, KX_new, kX_nx, kX_ex, kX_rt, kXB_nx, kXB_ex, kXB_rt, cells_byte, cells_bool, cells_int, cells_str, cells_ptr, cells_nils, cells_sl, cells_agg, XW_skip, XW_ret, XW_exit, E.get_cons, args, only, intX_int, tupX_tup, byte_neq, byte_eql, binV_add, binV_sub, binV_mul, binV_eql, binV_neq, binV_lss, binV_leq, binV_gtr, binV_geq, unV_not, ncV_ptr, reduceIte, Nat.reduceEqDiff, Nat.reduceAdd, Nat.one_ne_zero, Nat.zero_ne_one, NK_at, NK_ptr, List.getElem?_cons_zero, List.getElem?_cons_succ, e8_rt]
  · have ex : keyErr x = 0 := by simpa using g
    refine byT_mk (fun g => ?_) (fun g => ?_)
    · simp only [bd_some, bd2_some, bdB_some, byV_bool, byT_true, byT_false, KX_val, KX_new, kX_nx, kX_ex, kX_rt, kXB_nx, kXB_ex, kXB_rt, cells_byte, cells_bool, cells_int, cells_str, cells_ptr, cells_nils, cells_sl, cells_agg, XW_skip, XW_ret, XW_exit, E.get_cons, args, only, intX_int, tupX_tup, byte_neq, byte_eql, binV_add, binV_sub, binV_mul, binV_eql, binV_neq, binV_lss, binV_leq, binV_gtr, binV_geq, unV_not, ncV_ptr, reduceIte, Nat.reduceEqDiff, Nat.reduceAdd, Nat.one_ne_zero, Nat.zero_ne_one, NK_at, NK_ptr, List.getElem?_cons_zero, List.getElem?_cons_succ, q8_2]
      refine aw26 ?_
      simp only [bd_some, bd2_some, bdB_some, byV_bool, byT_true, byT_false, KX_val, KX_new, kX_nx, kX_ex, kX_rt, kXB_nx, kXB_ex, kXB_rt, cells_byte, cells_bool, cells_int, cells_str, cells_ptr, cells_nils, cells_sl, cells_agg, XW_skip, XW_ret, XW_exit, E.get_cons, args, only, intX_int, tupX_tup, byte_neq, byte_eql, binV_add, binV_sub, binV_mul, binV_eql, binV_neq, binV_lss, binV_leq, binV_gtr, binV_geq, unV_not, ncV_ptr, reduceIte, Nat.reduceEqDiff, Nat.reduceAdd, Nat.one_ne_zero, Nat.zero_ne_one, NK_at, NK_ptr, List.getElem?_cons_zero, List.getElem?_cons_succ, e8_rt]
    · have ey : keyErr y = 0 := by simpa using g
      rw [if_pos ex] at hk1
      rw [if_pos ey] at hk2
      have b1 : Bytes h4.read k1 (keyB x) := (hk1.rd c3.wf).mono le4
      have b2 : Bytes h4.read k2 (keyB y) := hk2.rd c4.wf
      simp only [bd_some, bd2_some, bdB_some, byV_bool, byT_true, byT_false, KX_val, KX_new, kX_nx, kX_ex, kX_rt, kXB_nx, kXB_ex, kXB_rt, cells_byte, cells_bool, cells_int, cells_str, cells_ptr, cells_nils, cells_sl, cells_agg, XW_skip, XW_ret, XW_exit, E.get_cons, args, only, intX_int, tupX_tup, byte_neq, byte_eql, binV_add, binV_sub, binV_mul, binV_eql, binV_neq, binV_lss, binV_leq, binV_gtr, binV_geq, unV_not, ncV_ptr, reduceIte, Nat.reduceEqDiff, Nat.reduceAdd, Nat.one_ne_zero, Nat.zero_ne_one, NK_at, NK_ptr, List.getElem?_cons_zero, List.getElem?_cons_succ, q8_3]
      refine cmp_CW rfl b1.elems b2.elems ?_
      have le := le3.trans le4
      simp only [bd_some, bd2_some, bdB_some, byV_bool, byT_true, byT_false, KX_val, KX_new, kX_nx, kX_ex, kX_rt, kXB_nx, kXB_ex, kXB_rt, cells_byte, cells_bool, cells_int, cells_str, cells_ptr, cells_nils, cells_sl, cells_agg, XW_skip, XW_ret, XW_exit, E.get_cons, args, only, intX_int, tupX_tup, byte_neq, byte_eql, binV_add, binV_sub, binV_mul, binV_eql, binV_neq, binV_lss, binV_leq, binV_gtr, binV_geq, unV_not, ncV_ptr, reduceIte, Nat.reduceEqDiff, Nat.reduceAdd, Nat.one_ne_zero, Nat.zero_ne_one, NK_at, NK_ptr, List.getElem?_cons_zero, List.getElem?_cons_succ, l1 le, l2 le, key_cmp hx hy ex ey]
      refine (order c4.wf).mono ?_
      rintro _ h5 ⟨rfl, c5⟩
      have e0 : (ordV x y != ordV x y) = false := by simp
      have le5 := Ch.le c5
      simp only [bd_some, bd2_some, bdB_some, byV_bool, byT_true, byT_false, KX_val, KX_new, kX_nx, kX_ex, kX_rt, kXB_nx, kXB_ex, kXB_rt, cells_byte, cells_bool, cells_int, cells_str, cells_ptr, cells_nils, cells_sl, cells_agg, XW_skip, XW_ret, XW_exit, E.get_cons, args, only, intX_int, tupX_tup, byte_neq, byte_eql, binV_add, binV_sub, binV_mul, binV_eql, binV_neq, binV_lss, binV_leq, binV_gtr, binV_geq, unV_not, ncV_ptr, reduceIte, Nat.reduceEqDiff, Nat.reduceAdd, Nat.one_ne_zero, Nat.zero_ne_one, NK_at, NK_ptr, List.getElem?_cons_zero, List.getElem?_cons_succ, e0, q8_5, l1 (le.trans le5), l2 (le.trans le5), eqlVl]
      refine byT_dec (fun g => ?_) (fun g => ?_)
      · refine aw26 ?_
        simp only [bd_some, bd2_some, bdB_some, byV_bool, byT_true, byT_false, KX_val, KX_new, kX_nx, kX_ex, kX_rt, kXB_nx, kXB_ex, kXB_rt, cells_byte, cells_bool, cells_int, cells_str, cells_ptr, cells_nils, cells_sl, cells_agg, XW_skip, XW_ret, XW_exit, E.get_cons, args, only, intX_int, tupX_tup, byte_neq, byte_eql, binV_add, binV_sub, binV_mul, binV_eql, binV_neq, binV_lss, binV_leq, binV_gtr, binV_geq, unV_not, ncV_ptr, reduceIte, Nat.reduceEqDiff, Nat.reduceAdd, Nat.one_ne_zero, Nat.zero_ne_one, NK_at, NK_ptr, List.getElem?_cons_zero, List.getElem?_cons_succ, e8_rt]
      · refine hasPrefix (b1.mono le5) (b2.mono le5) ?_
        have e1 := key_npre hx hy ex ey g
        simp only [bd_some, bd2_some, bdB_some, byV_bool, byT_true, byT_false, KX_val, KX_new, kX_nx, kX_ex, kX_rt, kXB_nx, kXB_ex, kXB_rt, cells_byte, cells_bool, cells_int, cells_str, cells_ptr, cells_nils, cells_sl, cells_agg, XW_skip, XW_ret, XW_exit, E.get_cons, args, only, intX_int, tupX_tup, byte_neq, byte_eql, binV_add, binV_sub, binV_mul, binV_eql, binV_neq, binV_lss, binV_leq, binV_gtr, binV_geq, unV_not, ncV_ptr, reduceIte, Nat.reduceEqDiff, Nat.reduceAdd, Nat.one_ne_zero, Nat.zero_ne_one, NK_at, NK_ptr, List.getElem?_cons_zero, List.getElem?_cons_succ, e1, decide_false, Bool.not_false]
        refine aw26 ?_
        simp only [bd_some, bd2_some, bdB_some, byV_bool, byT_true, byT_false, KX_val, KX_new, kX_nx, kX_ex, kX_rt, kXB_nx, kXB_ex, kXB_rt, cells_byte, cells_bool, cells_int, cells_str, cells_ptr, cells_nils, cells_sl, cells_agg, XW_skip, XW_ret, XW_exit, E.get_cons, args, only, intX_int, tupX_tup, byte_neq, byte_eql, binV_add, binV_sub, binV_mul, binV_eql, binV_neq, binV_lss, binV_leq, binV_gtr, binV_geq, unV_not, ncV_ptr, reduceIte, Nat.reduceEqDiff, Nat.reduceAdd, Nat.one_ne_zero, Nat.zero_ne_one, NK_at, NK_ptr, List.getElem?_cons_zero, List.getElem?_cons_succ, e8_rt]
end Go.Proofs.Ytghmbmblhdgabaa
