/- The law 'CellApart' on the machine, whole. -/
import Derived.Test.YtghmbmblhdgabaaK22
set_option linter.all false
namespace Go.Proofs.Ytghmbmblhdgabaa
open Go Go.Den Code
set_option maxRecDepth 100000
theorem pl_ok {rd : Rd} {N : Nat} {v : V} (o : OkA Try.prog rd 1048576 N 57 v) : ∃ p : Pl, v = .agg (plC p) ∧ p.ok := by
  unfold OkA at o
  simp only [Try.underlying57] at o
  obtain ⟨cs, rfl, ho⟩ := o
  cases N with
  | zero => exact ho.elim
  | succ n =>
    unfold OkV at ho
    simp only [Try.underlying57] at ho
    obtain ⟨h1, h2⟩ := ho
    have hc57 : Try.prog.cellsOf 57 = 4 := by kernel_rfl
    have hc3 : Try.prog.cellsOf 3 = 1 := by kernel_rfl
    have hc5 : Try.prog.cellsOf 5 = 1 := by kernel_rfl
    have hc9 : Try.prog.cellsOf 9 = 1 := by kernel_rfl
    rw [hc57] at h1
    match cs, h1 with
    | [a, b, c, d], _ =>
      have g0 := h2 _ (List.mem_cons_self)
      have g1 := h2 _ (List.mem_cons_of_mem _ List.mem_cons_self)
      have g2 := h2 _ (List.mem_cons_of_mem _ (List.mem_cons_of_mem _ List.mem_cons_self))
      have g3 := h2 _ (List.mem_cons_of_mem _ (List.mem_cons_of_mem _ (List.mem_cons_of_mem _ List.mem_cons_self)))
      simp only [hc3, hc5, hc9, List.drop_zero, List.take_succ_cons, List.take_zero, List.drop_succ_cons] at g0 g1 g2 g3
      obtain ⟨m, hm, hw⟩ := int_ok Try.underlying3 g0
      obtain ⟨k, hk⟩ := byte_ok Try.underlying5 g1
      obtain ⟨s, hs, hl⟩ := str_ok Try.underlying9 g2
      obtain ⟨s', hs', hl'⟩ := str_ok Try.underlying9 g3
      unfold byteE at hk
      simp at hk hm hs hs'
      subst hk
      subst hm
      subst hs
      subst hs'
      exact ⟨⟨m, k, s, s'⟩, rfl, by show s.length ≤ _; omega, by show s'.length ≤ _; omega⟩
theorem two_ok {rd : Rd} {N : Nat} {v : V} (o : OkA Try.prog rd 1048576 N 62 v) : ∃ x y : Vl, v = .agg (vlC x ++ vlC y) ∧ x.ok ∧ y.ok := by
  unfold OkA at o
  simp only [Try.underlying62] at o
  obtain ⟨cs, rfl, ho⟩ := o
  cases N with
  | zero => exact ho.elim
  | succ n =>
    unfold OkV at ho
    simp only [Try.underlying62] at ho
    obtain ⟨h1, h2⟩ := ho
    have hc62 : Try.prog.cellsOf 62 = 6 := by kernel_rfl
    have hc60 : Try.prog.cellsOf 60 = 3 := by kernel_rfl
    rw [hc62] at h1
    match cs, h1 with
    | [a, b, c, d, e, f], _ =>
      have g0 := h2 _ (List.mem_cons_self)
      have g1 := h2 _ (List.mem_cons_of_mem _ List.mem_cons_self)
      simp only [hc60, List.drop_zero, List.take_succ_cons, List.take_zero, List.drop_succ_cons] at g0 g1
      obtain ⟨x, hx, ox⟩ := vl_ok (Nat.le_refl _) g0
      obtain ⟨y, hy, oy⟩ := vl_ok (Nat.le_refl _) g1
      have hx : [a, b, c] = vlC x := hx
      have hy : [d, e, f] = vlC y := hy
      refine ⟨x, y, ?_, ox, oy⟩
      rw [← hx, ← hy]
      rfl
theorem cellApart {h : H} {pv qv tv : V} (wf : HWF h) (_ : AllRo h) {N : Nat} (o0 : OkA Try.prog h.read 1048576 N 57 pv) (o1 : OkA Try.prog h.read 1048576 N 57 qv) (o2 : OkA Try.prog h.read 1048576 N 62 tv) :
    CW C 7 [pv, qv, tv] h.next h fun v _ => v = .bool true := by
  obtain ⟨p, rfl, hp⟩ := pl_ok o0
  obtain ⟨q, rfl, hq⟩ := pl_ok o1
  obtain ⟨x, y, rfl, hx, hy⟩ := two_ok o2
  refine enter7 rfl ?_
  have k1 := ch_alloc wf (plC p)
  have k2 := ch_alloc k1.wf (plC q)
  have k3 := ch_alloc k2.wf (vlC x ++ vlC y)
  have P1 : Own (h.alloc (plC p)) h.next h.next h.next (plC p) := Own.new (Nat.le_refl _)
  have Q2 : Own ((h.alloc (plC p)).alloc (plC q)) h.next _ _ (plC q) := Own.new k1.next
  have rT := read_alloc k2.wf (vlC x ++ vlC y) (h.alloc (plC p) |>.alloc (plC q)).next
  rw [if_pos rfl] at rT
  have n1 : (h.alloc (plC p)).next = h.next + 1 := rfl
  have n2 : ((h.alloc (plC p)).alloc (plC q)).next = (h.alloc (plC p)).next + 1 := rfl
  have n3 : (((h.alloc (plC p)).alloc (plC q)).alloc (vlC x ++ vlC y)).next = ((h.alloc (plC p)).alloc (plC q)).next + 1 := rfl
  simp only [q7_0, bd_some, bd2_some, bdB_some, byV_bool, byT_true, byT_false, KX_val, KX_new, kX_nx, kX_ex, kX_rt, kXB_nx, kXB_ex, kXB_rt, cells_byte, cells_bool, cells_int, cells_str, cells_ptr, cells_nils, cells_sl, cells_agg, XW_skip, XW_ret, XW_exit, E.get_cons, args, only, intX_int, tupX_tup, byte_neq, byte_eql, binV_add, binV_sub, binV_mul, binV_eql, binV_neq, binV_lss, binV_leq, binV_gtr, binV_geq, unV_not, ncV_ptr, reduceIte, Nat.reduceEqDiff, Nat.reduceAdd, Nat.one_ne_zero, Nat.zero_ne_one, NK_at, NK_ptr, List.getElem?_cons_zero, List.getElem?_cons_succ, z60, fa62_0, fa62_1, fa57_0, fa57_2, fa57_3]
  generalize hh1 : h.alloc (plC p) = h1 at *
  generalize hh2 : h1.alloc (plC q) = h2 at *
  generalize hh3 : h2.alloc (vlC x ++ vlC y) = h3 at *
  have rd3 : rdOf true h3.next h3 h2.next = some (vlC x ++ vlC y) := by
    unfold rdOf
    rw [if_neg (by simp; omega)]
    exact rT
  have lA : loadV Try.prog 60 (.ptr h2.next 0) (rdOf true h3.next h3) = some (.agg (vlC x)) := At.agg ⟨_, rd3, rfl⟩ agg60 siz60 rfl (by decide)
  have lB : loadV Try.prog 60 (.ptr h2.next 3) (rdOf true h3.next h3) = some (.agg (vlC y)) := At.agg ⟨_, rd3, rfl⟩ agg60 siz60 rfl (by decide)
  have k4 := ch_alloc k3.wf [V.int .u8 0, .int .i64 0, .str []]
  have n4 : (h3.alloc [V.int .u8 0, .int .i64 0, .str []]).next = h3.next + 1 := rfl
  have X4 : Own (h3.alloc [V.int .u8 0, .int .i64 0, .str []]) (max h.next h3.next) h3.next h3.next [V.int .u8 0, .int .i64 0, .str []] := Own.new (by omega)
  have k5 := ch_alloc k4.wf [V.int .u8 0, .int .i64 0, .str []]
  have Y5 : Own ((h3.alloc [V.int .u8 0, .int .i64 0, .str []]).alloc [V.int .u8 0, .int .i64 0, .str []]) h.next (h3.alloc [V.int .u8 0, .int .i64 0, .str []]).next (h3.alloc [V.int .u8 0, .int .i64 0, .str []]).next [V.int .u8 0, .int .i64 0, .str []] := Own.new (by omega)
  have X5 := X4.ch k5 id
  have n5 : ((h3.alloc [V.int .u8 0, .int .i64 0, .str []]).alloc [V.int .u8 0, .int .i64 0, .str []]).next = (h3.alloc [V.int .u8 0, .int .i64 0, .str []]).next + 1 := rfl
  have P5 := (((P1.ch k2 id).ch k3 id).ch k4 id).ch k5 id
  have Q5 := ((Q2.ch k3 id).ch k4 id).ch k5 id
  simp only [lA, lB, bd_some, bd2_some, bdB_some, byV_bool, byT_true, byT_false, KX_val, KX_new, kX_nx, kX_ex, kX_rt, kXB_nx, kXB_ex, kXB_rt, cells_byte, cells_bool, cells_int, cells_str, cells_ptr, cells_nils, cells_sl, cells_agg, XW_skip, XW_ret, XW_exit, E.get_cons, args, only, intX_int, tupX_tup, byte_neq, byte_eql, binV_add, binV_sub, binV_mul, binV_eql, binV_neq, binV_lss, binV_leq, binV_gtr, binV_geq, unV_not, ncV_ptr, reduceIte, Nat.reduceEqDiff, Nat.reduceAdd, Nat.one_ne_zero, Nat.zero_ne_one, NK_at, NK_ptr, List.getElem?_cons_zero, List.getElem?_cons_succ]
  generalize hh4 : h3.alloc [V.int .u8 0, .int .i64 0, .str []] = h4 at *
  generalize hh5 : h4.alloc [V.int .u8 0, .int .i64 0, .str []] = h5 at *
  obtain ⟨h6, s6, X6, k6, n6⟩ := X5.fill k5.wf siz60 (c := vlC x) rfl rfl rfl
  have Y6 := Y5.ch k6 (by omega)
  obtain ⟨h7, s7, Y7, k7, n7⟩ := Y6.fill k6.wf siz60 (c := vlC y) rfl rfl rfl
  have X7 := X6.ch k7 (by omega)
  have P7 := (P5.ch k6 (by omega)).ch k7 (by omega)
  have Q7 := (Q5.ch k6 (by omega)).ch k7 (by omega)
  have hlo : h.next ≤ h7.next := by omega
  have wf7 := k7.wf
  have aP := P7.at wf7
  have aQ := Q7.at wf7
  have aX := X7.at wf7
  have aY := Y7.at wf7
  simp only [s6, s7, bd_some, bd2_some, bdB_some, byV_bool, byT_true, byT_false, KX_val, KX_new, kX_nx, kX_ex, kX_rt, kXB_nx, kXB_ex, kXB_rt, cells_byte, cells_bool, cells_int, cells_str, cells_ptr, cells_nils, cells_sl, cells_agg, XW_skip, XW_ret, XW_exit, E.get_cons, args, only, intX_int, tupX_tup, byte_neq, byte_eql, binV_add, binV_sub, binV_mul, binV_eql, binV_neq, binV_lss, binV_leq, binV_gtr, binV_geq, unV_not, ncV_ptr, reduceIte, Nat.reduceEqDiff, Nat.reduceAdd, Nat.one_ne_zero, Nat.zero_ne_one, NK_at, NK_ptr, List.getElem?_cons_zero, List.getElem?_cons_succ]
  clear s6 s7 X4 X5 X6 X7 Y5 Y6 Y7 P1 P5 P7 Q2 Q5 Q7 lA lB rd3 rT
  have lp1 : ∀ {h' : H}, Le h7.read h'.read → loadV Try.prog 3 (.ptr h.next 0) h'.read = some (.int .i64 p.t) := fun l => (aP.mono l).cell0 c3' rfl
  have lp2 : ∀ {h' : H}, Le h7.read h'.read → loadV Try.prog 9 (.ptr h.next (0 + 2)) h'.read = some (.str p.T) := fun l => (aP.mono l).cell c9 rfl
  have lp3 : ∀ {h' : H}, Le h7.read h'.read → loadV Try.prog 9 (.ptr h.next (0 + 3)) h'.read = some (.str p.N) := fun l => (aP.mono l).cell c9 rfl
  have lq1 : ∀ {h' : H}, Le h7.read h'.read → loadV Try.prog 3 (.ptr h1.next 0) h'.read = some (.int .i64 q.t) := fun l => (aQ.mono l).cell0 c3' rfl
  have lq2 : ∀ {h' : H}, Le h7.read h'.read → loadV Try.prog 9 (.ptr h1.next (0 + 2)) h'.read = some (.str q.T) := fun l => (aQ.mono l).cell c9 rfl
  have lq3 : ∀ {h' : H}, Le h7.read h'.read → loadV Try.prog 9 (.ptr h1.next (0 + 3)) h'.read = some (.str q.N) := fun l => (aQ.mono l).cell c9 rfl
  have lx : ∀ {h' : H}, Le h7.read h'.read → loadV Try.prog 60 (.ptr h3.next 0) h'.read = some (.agg (vlC x)) := fun l => (aX.mono l).agg agg60 siz60 rfl (by decide)
  have ly : ∀ {h' : H}, Le h7.read h'.read → loadV Try.prog 60 (.ptr h4.next 0) h'.read = some (.agg (vlC y)) := fun l => (aY.mono l).agg agg60 siz60 rfl (by decide)
  simp only [lp1 (Le.refl _), lp2 (Le.refl _), lx (Le.refl _), bd_some, bd2_some, bdB_some, byV_bool, byT_true, byT_false, KX_val, KX_new, kX_nx, kX_ex, kX_rt, kXB_nx, kXB_ex, kXB_rt, cells_byte, cells_bool, cells_int, cells_str, cells_ptr, cells_nils, cells_sl, cells_agg, XW_skip, XW_ret, XW_exit, E.get_cons, args, only, intX_int, tupX_tup, byte_neq, byte_eql, binV_add, binV_sub, binV_mul, binV_eql, binV_neq, binV_lss, binV_leq, binV_gtr, binV_geq, unV_not, ncV_ptr, reduceIte, Nat.reduceEqDiff, Nat.reduceAdd, Nat.one_ne_zero, Nat.zero_ne_one, NK_at, NK_ptr, List.getElem?_cons_zero, List.getElem?_cons_succ]
  refine (rowKey wf7 hlo hx hp.1).mono ?_
  rintro _ g1 ⟨av, e1, rfl, a1, a2, d1⟩
  have L1 := Ch.le d1
  simp only [bd_some, bd2_some, bdB_some, byV_bool, byT_true, byT_false, KX_val, KX_new, kX_nx, kX_ex, kX_rt, kXB_nx, kXB_ex, kXB_rt, cells_byte, cells_bool, cells_int, cells_str, cells_ptr, cells_nils, cells_sl, cells_agg, XW_skip, XW_ret, XW_exit, E.get_cons, args, only, intX_int, tupX_tup, byte_neq, byte_eql, binV_add, binV_sub, binV_mul, binV_eql, binV_neq, binV_lss, binV_leq, binV_gtr, binV_geq, unV_not, ncV_ptr, reduceIte, Nat.reduceEqDiff, Nat.reduceAdd, Nat.one_ne_zero, Nat.zero_ne_one, NK_at, NK_ptr, List.getElem?_cons_zero, List.getElem?_cons_succ, lq1 L1, lq2 L1, ly L1]
  refine (rowKey d1.wf (Nat.le_trans hlo d1.next) hy hq.1).mono ?_
  rintro _ g2 ⟨bv, e2, rfl, b1, b2, d2⟩
  have L2 := L1.trans (Ch.le d2)
  have hlo2 := Nat.le_trans hlo (Nat.le_trans d1.next d2.next)
  simp only [bd_some, bd2_some, bdB_some, byV_bool, byT_true, byT_false, KX_val, KX_new, kX_nx, kX_ex, kX_rt, kXB_nx, kXB_ex, kXB_rt, cells_byte, cells_bool, cells_int, cells_str, cells_ptr, cells_nils, cells_sl, cells_agg, XW_skip, XW_ret, XW_exit, E.get_cons, args, only, intX_int, tupX_tup, byte_neq, byte_eql, binV_add, binV_sub, binV_mul, binV_eql, binV_neq, binV_lss, binV_leq, binV_gtr, binV_geq, unV_not, ncV_ptr, reduceIte, Nat.reduceEqDiff, Nat.reduceAdd, Nat.one_ne_zero, Nat.zero_ne_one, NK_at, NK_ptr, List.getElem?_cons_zero, List.getElem?_cons_succ, lp1 L2, lp2 L2, lp3 L2, lx L2]
  refine (uniqueKey d2.wf hlo2 hx hp.1 hp.2).mono ?_
  rintro _ g3 ⟨cv, e3, rfl, c1, c2', d3⟩
  have L3 := L2.trans (Ch.le d3)
  simp only [bd_some, bd2_some, bdB_some, byV_bool, byT_true, byT_false, KX_val, KX_new, kX_nx, kX_ex, kX_rt, kXB_nx, kXB_ex, kXB_rt, cells_byte, cells_bool, cells_int, cells_str, cells_ptr, cells_nils, cells_sl, cells_agg, XW_skip, XW_ret, XW_exit, E.get_cons, args, only, intX_int, tupX_tup, byte_neq, byte_eql, binV_add, binV_sub, binV_mul, binV_eql, binV_neq, binV_lss, binV_leq, binV_gtr, binV_geq, unV_not, ncV_ptr, reduceIte, Nat.reduceEqDiff, Nat.reduceAdd, Nat.one_ne_zero, Nat.zero_ne_one, NK_at, NK_ptr, List.getElem?_cons_zero, List.getElem?_cons_succ, lq1 L3, lq2 L3, lq3 L3, ly L3]
  refine (uniqueKey d3.wf (Nat.le_trans hlo2 d3.next) hy hq.1 hq.2).mono ?_
  rintro _ g4 ⟨dv, e4, rfl, f1, f2, d4⟩
  have L4 := L3.trans (Ch.le d4)
  have hlo4 := Nat.le_trans hlo2 (Nat.le_trans d3.next d4.next)
  simp only [bd_some, bd2_some, bdB_some, byV_bool, byT_true, byT_false, KX_val, KX_new, kX_nx, kX_ex, kX_rt, kXB_nx, kXB_ex, kXB_rt, cells_byte, cells_bool, cells_int, cells_str, cells_ptr, cells_nils, cells_sl, cells_agg, XW_skip, XW_ret, XW_exit, E.get_cons, args, only, intX_int, tupX_tup, byte_neq, byte_eql, binV_add, binV_sub, binV_mul, binV_eql, binV_neq, binV_lss, binV_leq, binV_gtr, binV_geq, unV_not, ncV_ptr, reduceIte, Nat.reduceEqDiff, Nat.reduceAdd, Nat.one_ne_zero, Nat.zero_ne_one, NK_at, NK_ptr, List.getElem?_cons_zero, List.getElem?_cons_succ]
  refine byT_mk (fun g => ?_) (fun g => ?_)
  · simp only [bd_some, bd2_some, bdB_some, byV_bool, byT_true, byT_false, KX_val, KX_new, kX_nx, kX_ex, kX_rt, kXB_nx, kXB_ex, kXB_rt, cells_byte, cells_bool, cells_int, cells_str, cells_ptr, cells_nils, cells_sl, cells_agg, XW_skip, XW_ret, XW_exit, E.get_cons, args, only, intX_int, tupX_tup, byte_neq, byte_eql, binV_add, binV_sub, binV_mul, binV_eql, binV_neq, binV_lss, binV_leq, binV_gtr, binV_geq, unV_not, ncV_ptr, reduceIte, Nat.reduceEqDiff, Nat.reduceAdd, Nat.one_ne_zero, Nat.zero_ne_one, NK_at, NK_ptr, List.getElem?_cons_zero, List.getElem?_cons_succ, q7_2]
    refine aw26 ?_
    simp only [bd_some, bd2_some, bdB_some, byV_bool, byT_true, byT_false, KX_val, KX_new, kX_nx, kX_ex, kX_rt, kXB_nx, kXB_ex, kXB_rt, cells_byte, cells_bool, cells_int, cells_str, cells_ptr, cells_nils, cells_sl, cells_agg, XW_skip, XW_ret, XW_exit, E.get_cons, args, only, intX_int, tupX_tup, byte_neq, byte_eql, binV_add, binV_sub, binV_mul, binV_eql, binV_neq, binV_lss, binV_leq, binV_gtr, binV_geq, unV_not, ncV_ptr, reduceIte, Nat.reduceEqDiff, Nat.reduceAdd, Nat.one_ne_zero, Nat.zero_ne_one, NK_at, NK_ptr, List.getElem?_cons_zero, List.getElem?_cons_succ, e7_rt]
  refine byT_mk (fun g' => ?_) (fun g' => ?_)
  · simp only [bd_some, bd2_some, bdB_some, byV_bool, byT_true, byT_false, KX_val, KX_new, kX_nx, kX_ex, kX_rt, kXB_nx, kXB_ex, kXB_rt, cells_byte, cells_bool, cells_int, cells_str, cells_ptr, cells_nils, cells_sl, cells_agg, XW_skip, XW_ret, XW_exit, E.get_cons, args, only, intX_int, tupX_tup, byte_neq, byte_eql, binV_add, binV_sub, binV_mul, binV_eql, binV_neq, binV_lss, binV_leq, binV_gtr, binV_geq, unV_not, ncV_ptr, reduceIte, Nat.reduceEqDiff, Nat.reduceAdd, Nat.one_ne_zero, Nat.zero_ne_one, NK_at, NK_ptr, List.getElem?_cons_zero, List.getElem?_cons_succ, q7_2]
    refine aw26 ?_
    simp only [bd_some, bd2_some, bdB_some, byV_bool, byT_true, byT_false, KX_val, KX_new, kX_nx, kX_ex, kX_rt, kXB_nx, kXB_ex, kXB_rt, cells_byte, cells_bool, cells_int, cells_str, cells_ptr, cells_nils, cells_sl, cells_agg, XW_skip, XW_ret, XW_exit, E.get_cons, args, only, intX_int, tupX_tup, byte_neq, byte_eql, binV_add, binV_sub, binV_mul, binV_eql, binV_neq, binV_lss, binV_leq, binV_gtr, binV_geq, unV_not, ncV_ptr, reduceIte, Nat.reduceEqDiff, Nat.reduceAdd, Nat.one_ne_zero, Nat.zero_ne_one, NK_at, NK_ptr, List.getElem?_cons_zero, List.getElem?_cons_succ, e7_rt]
  refine byT_mk (fun g'' => ?_) (fun g'' => ?_)
  · simp only [bd_some, bd2_some, bdB_some, byV_bool, byT_true, byT_false, KX_val, KX_new, kX_nx, kX_ex, kX_rt, kXB_nx, kXB_ex, kXB_rt, cells_byte, cells_bool, cells_int, cells_str, cells_ptr, cells_nils, cells_sl, cells_agg, XW_skip, XW_ret, XW_exit, E.get_cons, args, only, intX_int, tupX_tup, byte_neq, byte_eql, binV_add, binV_sub, binV_mul, binV_eql, binV_neq, binV_lss, binV_leq, binV_gtr, binV_geq, unV_not, ncV_ptr, reduceIte, Nat.reduceEqDiff, Nat.reduceAdd, Nat.one_ne_zero, Nat.zero_ne_one, NK_at, NK_ptr, List.getElem?_cons_zero, List.getElem?_cons_succ, q7_2]
    refine aw26 ?_
    simp only [bd_some, bd2_some, bdB_some, byV_bool, byT_true, byT_false, KX_val, KX_new, kX_nx, kX_ex, kX_rt, kXB_nx, kXB_ex, kXB_rt, cells_byte, cells_bool, cells_int, cells_str, cells_ptr, cells_nils, cells_sl, cells_agg, XW_skip, XW_ret, XW_exit, E.get_cons, args, only, intX_int, tupX_tup, byte_neq, byte_eql, binV_add, binV_sub, binV_mul, binV_eql, binV_neq, binV_lss, binV_leq, binV_gtr, binV_geq, unV_not, ncV_ptr, reduceIte, Nat.reduceEqDiff, Nat.reduceAdd, Nat.one_ne_zero, Nat.zero_ne_one, NK_at, NK_ptr, List.getElem?_cons_zero, List.getElem?_cons_succ, e7_rt]
  refine byT_mk (fun g''' => ?_) (fun g''' => ?_)
  · simp only [bd_some, bd2_some, bdB_some, byV_bool, byT_true, byT_false, KX_val, KX_new, kX_nx, kX_ex, kX_rt, kXB_nx, kXB_ex, kXB_rt, cells_byte, cells_bool, cells_int, cells_str, cells_ptr, cells_nils, cells_sl, cells_agg, XW_skip, XW_ret, XW_exit, E.get_cons, args, only, intX_int, tupX_tup, byte_neq, byte_eql, binV_add, binV_sub, binV_mul, binV_eql, binV_neq, binV_lss, binV_leq, binV_gtr, binV_geq, unV_not, ncV_ptr, reduceIte, Nat.reduceEqDiff, Nat.reduceAdd, Nat.one_ne_zero, Nat.zero_ne_one, NK_at, NK_ptr, List.getElem?_cons_zero, List.getElem?_cons_succ, q7_2]
    refine aw26 ?_
    simp only [bd_some, bd2_some, bdB_some, byV_bool, byT_true, byT_false, KX_val, KX_new, kX_nx, kX_ex, kX_rt, kXB_nx, kXB_ex, kXB_rt, cells_byte, cells_bool, cells_int, cells_str, cells_ptr, cells_nils, cells_sl, cells_agg, XW_skip, XW_ret, XW_exit, E.get_cons, args, only, intX_int, tupX_tup, byte_neq, byte_eql, binV_add, binV_sub, binV_mul, binV_eql, binV_neq, binV_lss, binV_leq, binV_gtr, binV_geq, unV_not, ncV_ptr, reduceIte, Nat.reduceEqDiff, Nat.reduceAdd, Nat.one_ne_zero, Nat.zero_ne_one, NK_at, NK_ptr, List.getElem?_cons_zero, List.getElem?_cons_succ, e7_rt]
  have o1 : PlaceOk p.t [p.T] ∧ keyErr x = 0 := Classical.byContradiction fun n => a2 n (by simpa using g)
  have o2 : PlaceOk q.t [q.T] ∧ keyErr y = 0 := Classical.byContradiction fun n => b2 n (by simpa using g')
  have o3 : PlaceOk p.t [p.T, p.N] ∧ keyErr x = 0 := Classical.byContradiction fun n => c2' n (by simpa using g'')
  have o4 : PlaceOk q.t [q.T, q.N] ∧ keyErr y = 0 := Classical.byContradiction fun n => f2 n (by simpa using g''')
  have A : Ap h.next g4 p q x y h.next h1.next h3.next h4.next av bv cv dv := {
    wf := d4.wf
    hlo := hlo4
    fp := aP.mono L4
    fq := aQ.mono L4
    fx := aX.mono L4
    fy := aY.mono L4
    fa := (((a1 o1).2.rd d1.wf).mono ((Ch.le d2).trans (Ch.le d3))).mono (Ch.le d4)
    fb := (((b1 o2).2.rd d2.wf).mono (Ch.le d3)).mono (Ch.le d4)
    fc := ((c1 o3).2.rd d3.wf).mono (Ch.le d4)
    fd := (f1 o4).2.rd d4.wf
    p1 := o1.1
    q1 := o2.1
    p2 := o3.1
    q2 := o4.1
    xo := hx
    yo := hy
    xe := o1.2
    ye := o2.2 }
  exact apart3 A (by simp only [bd_some, bd2_some, bdB_some, byV_bool, byT_true, byT_false, KX_val, KX_new, kX_nx, kX_ex, kX_rt, kXB_nx, kXB_ex, kXB_rt, cells_byte, cells_bool, cells_int, cells_str, cells_ptr, cells_nils, cells_sl, cells_agg, XW_skip, XW_ret, XW_exit, E.get_cons, args, only, intX_int, tupX_tup, byte_neq, byte_eql, binV_add, binV_sub, binV_mul, binV_eql, binV_neq, binV_lss, binV_leq, binV_gtr, binV_geq, unV_not, ncV_ptr, reduceIte, Nat.reduceEqDiff, Nat.reduceAdd, Nat.one_ne_zero, Nat.zero_ne_one, NK_at, NK_ptr, List.getElem?_cons_zero, List.getElem?_cons_succ]) (by simp only [bd_some, bd2_some, bdB_some, byV_bool, byT_true, byT_false, KX_val, KX_new, kX_nx, kX_ex, kX_rt, kXB_nx, kXB_ex, kXB_rt, cells_byte, cells_bool, cells_int, cells_str, cells_ptr, cells_nils, cells_sl, cells_agg, XW_skip, XW_ret, XW_exit, E.get_cons, args, only, intX_int, tupX_tup, byte_neq, byte_eql, binV_add, binV_sub, binV_mul, binV_eql, binV_neq, binV_lss, binV_leq, binV_gtr, binV_geq, unV_not, ncV_ptr, reduceIte, Nat.reduceEqDiff, Nat.reduceAdd, Nat.one_ne_zero, Nat.zero_ne_one, NK_at, NK_ptr, List.getElem?_cons_zero, List.getElem?_cons_succ]) (by simp only [bd_some, bd2_some, bdB_some, byV_bool, byT_true, byT_false, KX_val, KX_new, kX_nx, kX_ex, kX_rt, kXB_nx, kXB_ex, kXB_rt, cells_byte, cells_bool, cells_int, cells_str, cells_ptr, cells_nils, cells_sl, cells_agg, XW_skip, XW_ret, XW_exit, E.get_cons, args, only, intX_int, tupX_tup, byte_neq, byte_eql, binV_add, binV_sub, binV_mul, binV_eql, binV_neq, binV_lss, binV_leq, binV_gtr, binV_geq, unV_not, ncV_ptr, reduceIte, Nat.reduceEqDiff, Nat.reduceAdd, Nat.one_ne_zero, Nat.zero_ne_one, NK_at, NK_ptr, List.getElem?_cons_zero, List.getElem?_cons_succ]) (by simp only [bd_some, bd2_some, bdB_some, byV_bool, byT_true, byT_false, KX_val, KX_new, kX_nx, kX_ex, kX_rt, kXB_nx, kXB_ex, kXB_rt, cells_byte, cells_bool, cells_int, cells_str, cells_ptr, cells_nils, cells_sl, cells_agg, XW_skip, XW_ret, XW_exit, E.get_cons, args, only, intX_int, tupX_tup, byte_neq, byte_eql, binV_add, binV_sub, binV_mul, binV_eql, binV_neq, binV_lss, binV_leq, binV_gtr, binV_geq, unV_not, ncV_ptr, reduceIte, Nat.reduceEqDiff, Nat.reduceAdd, Nat.one_ne_zero, Nat.zero_ne_one, NK_at, NK_ptr, List.getElem?_cons_zero, List.getElem?_cons_succ]) (by simp only [bd_some, bd2_some, bdB_some, byV_bool, byT_true, byT_false, KX_val, KX_new, kX_nx, kX_ex, kX_rt, kXB_nx, kXB_ex, kXB_rt, cells_byte, cells_bool, cells_int, cells_str, cells_ptr, cells_nils, cells_sl, cells_agg, XW_skip, XW_ret, XW_exit, E.get_cons, args, only, intX_int, tupX_tup, byte_neq, byte_eql, binV_add, binV_sub, binV_mul, binV_eql, binV_neq, binV_lss, binV_leq, binV_gtr, binV_geq, unV_not, ncV_ptr, reduceIte, Nat.reduceEqDiff, Nat.reduceAdd, Nat.one_ne_zero, Nat.zero_ne_one, NK_at, NK_ptr, List.getElem?_cons_zero, List.getElem?_cons_succ]) (by simp only [bd_some, bd2_some, bdB_some, byV_bool, byT_true, byT_false, KX_val, KX_new, kX_nx, kX_ex, kX_rt, kXB_nx, kXB_ex, kXB_rt, cells_byte, cells_bool, cells_int, cells_str, cells_ptr, cells_nils, cells_sl, cells_agg, XW_skip, XW_ret, XW_exit, E.get_cons, args, only, intX_int, tupX_tup, byte_neq, byte_eql, binV_add, binV_sub, binV_mul, binV_eql, binV_neq, binV_lss, binV_leq, binV_gtr, binV_geq, unV_not, ncV_ptr, reduceIte, Nat.reduceEqDiff, Nat.reduceAdd, Nat.one_ne_zero, Nat.zero_ne_one, NK_at, NK_ptr, List.getElem?_cons_zero, List.getElem?_cons_succ]) (by simp only [bd_some, bd2_some, bdB_some, byV_bool, byT_true, byT_false, KX_val, KX_new, kX_nx, kX_ex, kX_rt, kXB_nx, kXB_ex, kXB_rt, cells_byte, cells_bool, cells_int, cells_str, cells_ptr, cells_nils, cells_sl, cells_agg, XW_skip, XW_ret, XW_exit, E.get_cons, args, only, intX_int, tupX_tup, byte_neq, byte_eql, binV_add, binV_sub, binV_mul, binV_eql, binV_neq, binV_lss, binV_leq, binV_gtr, binV_geq, unV_not, ncV_ptr, reduceIte, Nat.reduceEqDiff, Nat.reduceAdd, Nat.one_ne_zero, Nat.zero_ne_one, NK_at, NK_ptr, List.getElem?_cons_zero, List.getElem?_cons_succ]) (by simp only [bd_some, bd2_some, bdB_some, byV_bool, byT_true, byT_false, KX_val, KX_new, kX_nx, kX_ex, kX_rt, kXB_nx, kXB_ex, kXB_rt, cells_byte, cells_bool, cells_int, cells_str, cells_ptr, cells_nils, cells_sl, cells_agg, XW_skip, XW_ret, XW_exit, E.get_cons, args, only, intX_int, tupX_tup, byte_neq, byte_eql, binV_add, binV_sub, binV_mul, binV_eql, binV_neq, binV_lss, binV_leq, binV_gtr, binV_geq, unV_not, ncV_ptr, reduceIte, Nat.reduceEqDiff, Nat.reduceAdd, Nat.one_ne_zero, Nat.zero_ne_one, NK_at, NK_ptr, List.getElem?_cons_zero, List.getElem?_cons_succ])
end Go.Proofs.Ytghmbmblhdgabaa
