/- The law 'WireBack' on the machine. -/
import Derived.Test.YtghmbmblhdgabaaW5
import Derived.Test.YtghmbmblhdgabaaU7
set_option linter.all false
namespace Go.Proofs.Ytghmbmblhdgabaa
open Go Go.Den Code
set_option maxRecDepth 100000
theorem SlOf.split {α : Type} {E : Rd → List V → α → Prop} {Q : α → Prop} {es : Nat} {rd : Rd} {v : V} {xs : List α} (h : SlOf (fun rd c x => E rd c x ∧ Q x) es rd v xs) : SlOf E es rd v xs ∧ ∀ x ∈ xs, Q x := by
  obtain ⟨cs, q1, q2, q3⟩ := h
  refine ⟨⟨cs, q1, q2, q3.mono fun c x h => h.1⟩, fun x hx => ?_⟩
  obtain ⟨i, hi⟩ := List.getElem?_of_mem hx
  have hlt := (List.getElem?_eq_some_iff.1 hi).1
  have hlen := q3.1
  exact (q3.2 i _ x (List.getElem?_eq_getElem (by omega)) hi).2
theorem fr_ok {rd : Rd} {n : Nat} {cs : List V} (ho : OkV Try.prog rd 1048576 n 42 cs) : ∃ f : Fm, frE rd cs f ∧ f.2.length ≤ 1048576 := by
  cases n with
  | zero => exact ho.elim
  | succ n =>
    unfold OkV at ho
    simp only [Try.underlying42] at ho
    obtain ⟨h1, h2⟩ := ho
    have hc42 : Try.prog.cellsOf 42 = 2 := by kernel_rfl
    have hc40 : Try.prog.cellsOf 40 = 1 := by kernel_rfl
    have hc22 : Try.prog.cellsOf 22 = 1 := by kernel_rfl
    rw [hc42] at h1
    match cs, h1 with
    | [a, b], _ =>
      have g0 := h2 _ (List.mem_cons_self)
      have g1 := h2 _ (List.mem_cons_of_mem _ List.mem_cons_self)
      simp only [hc40, hc22, List.drop_zero, List.take_succ_cons, List.take_zero, List.drop_succ_cons] at g0 g1
      obtain ⟨k, hk⟩ := byte_ok Try.underlying40 g0
      obtain ⟨bs, hb, hl⟩ := bytes_ok Try.underlying22 Try.underlying5 (by kernel_rfl) g1
      unfold byteE at hk
      simp at hk
      subst hk
      exact ⟨(k, bs), ⟨b, rfl, hb⟩, hl⟩
theorem frames_ok {rd : Rd} {n : Nat} {v : V} (ho : OkV Try.prog rd 1048576 n 26 [v]) : ∃ fs, Frames rd v fs ∧ (∀ f ∈ fs, f.2.length ≤ 1048576) ∧ fs.length ≤ 1048576 := by
  cases n with
  | zero => exact ho.elim
  | succ n =>
    obtain ⟨xs, h1, h2⟩ := sl_ok (Er := fun rd c x => frE rd c x ∧ x.2.length ≤ 1048576) Try.underlying26 (by kernel_rfl) (fun cs hc _ => fr_ok hc) ho
    exact ⟨xs, (SlOf.split h1).1, (SlOf.split h1).2, h2⟩
theorem texts_ok {rd : Rd} {n : Nat} {v : V} (ho : OkV Try.prog rd 1048576 n 72 [v]) : ∃ xs, Texts rd v xs ∧ (∀ s ∈ xs, s.length ≤ 1048576) ∧ xs.length ≤ 1048576 := by
  cases n with
  | zero => exact ho.elim
  | succ n =>
    obtain ⟨xs, h1, h2⟩ := sl_ok (Er := fun rd c x => txE rd c x ∧ x.length ≤ 1048576) Try.underlying72 (by kernel_rfl) (fun cs hc _ => by
      obtain ⟨s, h1, h2⟩ := str_ok Try.underlying9 hc
      exact ⟨s, h1, h2⟩) ho
    exact ⟨xs, (SlOf.split h1).1, (SlOf.split h1).2, h2⟩
theorem rows_ok {rd : Rd} {n : Nat} {v : V} (ho : OkV Try.prog rd 1048576 n 73 [v]) : ∃ xs, RowsOf rd v xs ∧ (∀ r ∈ xs, (∀ x ∈ r, x.ok) ∧ r.length ≤ 1048576) ∧ xs.length ≤ 1048576 := by
  cases n with
  | zero => exact ho.elim
  | succ n =>
    obtain ⟨xs, h1, h2⟩ := sl_ok (Er := fun rd c x => rowE rd c x ∧ ((∀ y ∈ x, y.ok) ∧ x.length ≤ 1048576)) Try.underlying73 (by kernel_rfl) (fun cs hc hl => by
      have hl1 : cs.length = 1 := hl
      match cs, hl1 with
      | [w], _ =>
        obtain ⟨r, h1, h2, h3⟩ := vals_ok Try.underlying48 hc
        exact ⟨r, ⟨w, rfl, h1⟩, h2, h3⟩) ho
    exact ⟨xs, (SlOf.split h1).1, (SlOf.split h1).2, h2⟩
theorem an_ok {rd : Rd} {N : Nat} {v : V} (o : OkA Try.prog rd 1048576 N 75 v) : ∃ c a, v = .agg c ∧ AnC rd c a ∧ AnOk a ∧ c.all scal = true := by
  unfold OkA at o
  simp only [Try.underlying75] at o
  obtain ⟨vs, rfl, o⟩ := o
  cases N with
  | zero => exact o.elim
  | succ n =>
    unfold OkV at o
    simp only [Try.underlying75] at o
    obtain ⟨h1, h2⟩ := o
    have hc75 : Try.prog.cellsOf 75 = 3 := by kernel_rfl
    have hc72 : Try.prog.cellsOf 72 = 1 := by kernel_rfl
    have hc73 : Try.prog.cellsOf 73 = 1 := by kernel_rfl
    have hc3 : Try.prog.cellsOf 3 = 1 := by kernel_rfl
    rw [hc75] at h1
    match vs, h1 with
    | [a, b, c], _ =>
      have g0 := h2 _ (List.mem_cons_self)
      have g1 := h2 _ (List.mem_cons_of_mem _ List.mem_cons_self)
      have g2 := h2 _ (List.mem_cons_of_mem _ (List.mem_cons_of_mem _ List.mem_cons_self))
      simp only [hc72, hc73, hc3, List.drop_zero, List.take_succ_cons, List.take_zero, List.drop_succ_cons] at g0 g1 g2
      obtain ⟨ns, n1, n2, n3⟩ := texts_ok g0
      obtain ⟨rs, r1, r2, r3⟩ := rows_ok g1
      obtain ⟨m, hm, hw⟩ := int_ok Try.underlying3 g2
      simp at hm
      subst hm
      refine ⟨[a, b, .int .i64 m], ⟨ns, rs, m⟩, rfl, ⟨a, b, rfl, n1, r1⟩, ⟨n3, n2, r3, fun r hr => (r2 r hr).2, fun r hr => (r2 r hr).1⟩, ?_⟩
      show (scal a && (scal b && true)) = true
      rw [n1.isSl.scal, r1.isSl.scal]
      rfl
/-! ### the law -/
def sentF (l : List Fm) : List Fm := l.filter fun f => decide (putErr f = 0)
theorem sent_ok {l : List Fm} : ∀ f ∈ sentF l, putErr f = 0 := fun f hf => by simpa using (List.mem_filter.1 hf).2
theorem sent_short {f : Fm} (h : putErr f = 0) : f.2.length < 8192 := by
  unfold putErr at h
  split at h
  · cases h
  · split at h
    · cases h
    · omega
theorem puts_len {l : List Fm} (h : ∀ f ∈ l, putErr f = 0) : (l.flatMap putB).length ≤ l.length * 8200 := by
  induction l with
  | nil => simp
  | cons f r ih =>
    have h1 := sent_short (h f List.mem_cons_self)
    have h2 := ih fun g hg => h g (List.mem_cons_of_mem _ hg)
    simp only [List.flatMap_cons, List.length_append, List.length_cons, putB_len]
    omega
section
variable {h0 h : H} {fv : V} {ca : List V} {fs ss : List Fm} {a : An}
structure BS (h0 h : H) (fv : V) (ca : List V) (fs : List Fm) (a : An) (bv wv : V) (ss : List Fm) (F1 F2 : Option Nat) : Prop where
  ch : Ch None_ (fun g => h0.next ≤ g) h0 h
  at3 : At h.read h0.next 0 ca
  an : AnC h.read ca a
  fr : Frames h.read fv fs
  b1 : BufB h h0.next bv (ss.flatMap putB) F1
  b2 : BufOf frE 2 h0.next h h.read wv ss F2
  n1 : ∀ g, F1 = some g → h0.next ≤ g
  n2 : ∀ g, F2 = some g → h0.next ≤ g
  ne : ∀ g, F1 = some g → F2 ≠ some g
theorem back_end {wv bv : V} {F1 F2 : Option Nat} (wf : HWF h0) (S : BS h0 h fv ca fs a bv wv ss F1 F2) (hs : ∀ f ∈ ss, putErr f = 0) (hl : ss.length ≤ 50) (hca : ca.all scal = true) (ok : AnOk a) {e : E} (g3 : E.get e 3 = .ptr h0.next 0) (g5 : E.get e 5 = bv) (g6 : E.get e 6 = wv) :
    XW C h0.next x10_9 (kF10 fun v _ => v = .bool true) e h := by
  have hbl := puts_len hs
  have cN := ch_alloc S.ch.wf [V.nils, .bool false, .bool true]
  have rd0 : Rdr (h.alloc [V.nils, .bool false, .bool true]) h0.next h.next h.next .nils false := ⟨_, owned_alloc_new S.ch.next⟩
  have up : Le h.read ((h.alloc [V.nils, .bool false, .bool true]).rb (· = h.next)) := ((rb_none h).trans ((rb_new S.ch.wf None_).trans (rb_mono fun g hg => .inr (by omega)))).trans (cN.rb (None_sub _))
  have hX : ∀ g, g = h.next → g < (h.alloc [V.nils, .bool false, .bool true]).next := fun g hg => by show g < h.next + 1; omega
  have hb := (Go.Proofs.Ytghmbmblhdgabaa.BufB.rd S.ch.wf S.b1).mono up
  have hw : Frames h.read wv ss := ((S.b2.imp fun c x he => frE_mono _ _ c x (rb_none h) he).sl (X := None_) S.ch.wf fun _ _ h => h).mono frE_mono (rb_le _ _)
  have hc := cut_puts hs
  simp only [q10_9, bd_some, bd2_some, bdB_some, byV_bool, byT_true, byT_false, KX_val, KX_new, kX_nx, kX_ex, kX_rt, kXB_nx, kXB_ex, kXB_rt, cells_byte, cells_bool, cells_int, cells_str, cells_ptr, cells_nils, cells_sl, cells_agg, XW_skip, XW_ret, XW_exit, E.get_cons, args, only, intX_int, tupX_tup, byte_neq, byte_eql, binV_add, binV_sub, binV_mul, binV_eql, binV_neq, binV_lss, binV_leq, binV_gtr, binV_geq, unV_not, ncV_ptr, reduceIte, Nat.reduceEqDiff, Nat.reduceAdd, Nat.one_ne_zero, Nat.zero_ne_one, NK_at, NK_ptr, List.getElem?_cons_zero, List.getElem?_cons_succ]
  refine newReader.mono ?_
  rintro _ _ ⟨rfl, rfl⟩
  simp only [g5]
  refine (feed (ls := []) cN.wf rd0 (.inl ⟨rfl, rfl, rfl⟩) hb rfl hX (by rw [List.nil_append]; omega)).mono ?_
  intro v h2 hf
  obtain ⟨gv, lv, rfl, e2, e3, e4, c2⟩ := hf.out hX
  rw [List.nil_append, hc] at e2 e3 e4
  have le2 : Le h.read h2.read := (up.trans (c2.rb fun _ h => h)).trans (rb_le _ _)
  have c02 : Ch None_ None_ h0 h2 := (((S.ch.mono (None_sub (fun g => h0.next ≤ g)) fun _ h => h).trans (cN.mono (None_sub _) (None_sub _))).trans (c2.mono (fun g hg => by have := S.ch.next; show h0.next ≤ g; omega) fun g hg => by have := S.ch.next; show h0.next ≤ g; omega)).old wf
    (fun g h1 h2 => by have : h0.next ≤ g := h1; omega) fun g h1 h2 => by have : h0.next ≤ g := h1; omega
  have er : errOf (cut ([] ++ ss.flatMap putB)).2 = 0 := by rw [List.nil_append, hc]; rfl
  have n0 : ((0 : Int) != 0) = false := by decide
  simp only [bd_some, bd2_some, bdB_some, byV_bool, byT_true, byT_false, KX_val, KX_new, kX_nx, kX_ex, kX_rt, kXB_nx, kXB_ex, kXB_rt, cells_byte, cells_bool, cells_int, cells_str, cells_ptr, cells_nils, cells_sl, cells_agg, XW_skip, XW_ret, XW_exit, E.get_cons, args, only, intX_int, tupX_tup, byte_neq, byte_eql, binV_add, binV_sub, binV_mul, binV_eql, binV_neq, binV_lss, binV_leq, binV_gtr, binV_geq, unV_not, ncV_ptr, reduceIte, Nat.reduceEqDiff, Nat.reduceAdd, Nat.one_ne_zero, Nat.zero_ne_one, NK_at, NK_ptr, List.getElem?_cons_zero, List.getElem?_cons_succ, er, n0]
  refine (leftLen (e3.read c2.wf) (e4.mono (rb_le _ _))).mono ?_
  rintro _ h2 ⟨rfl, rfl⟩
  have n1 : ((([] : List UInt8).length : Int) != 0) = false := by decide
  simp only [bd_some, bd2_some, bdB_some, byV_bool, byT_true, byT_false, KX_val, KX_new, kX_nx, kX_ex, kX_rt, kXB_nx, kXB_ex, kXB_rt, cells_byte, cells_bool, cells_int, cells_str, cells_ptr, cells_nils, cells_sl, cells_agg, XW_skip, XW_ret, XW_exit, E.get_cons, args, only, intX_int, tupX_tup, byte_neq, byte_eql, binV_add, binV_sub, binV_mul, binV_eql, binV_neq, binV_lss, binV_leq, binV_gtr, binV_geq, unV_not, ncV_ptr, reduceIte, Nat.reduceEqDiff, Nat.reduceAdd, Nat.one_ne_zero, Nat.zero_ne_one, NK_at, NK_ptr, List.getElem?_cons_zero, List.getElem?_cons_succ, Option.getD_some, n1, g6]
  refine (sameFrames (e2.mono frE_mono (rb_le _ _)) (hw.mono frE_mono le2) (by show ss.length < _; omega) (fun f hf => by have := sent_short (hs f hf); omega)).mono ?_
  rintro _ h2 ⟨rfl, rfl⟩
  have l3 : loadV Try.prog 75 (.ptr h0.next 0) h2.read = some (.agg ca) := by
    obtain ⟨nv, rv, rfl, _⟩ := S.an
    exact (S.at3.mono le2).agg agg75 siz75 rfl (by decide)
  have an2 := S.an.mono le2
  obtain ⟨nv, rv, rfl, an3, an4⟩ := an2
  simp only [bd_some, bd2_some, bdB_some, byV_bool, byT_true, byT_false, KX_val, KX_new, kX_nx, kX_ex, kX_rt, kXB_nx, kXB_ex, kXB_rt, cells_byte, cells_bool, cells_int, cells_str, cells_ptr, cells_nils, cells_sl, cells_agg, XW_skip, XW_ret, XW_exit, E.get_cons, args, only, intX_int, tupX_tup, byte_neq, byte_eql, binV_add, binV_sub, binV_mul, binV_eql, binV_neq, binV_lss, binV_leq, binV_gtr, binV_geq, unV_not, ncV_ptr, reduceIte, Nat.reduceEqDiff, Nat.reduceAdd, Nat.one_ne_zero, Nat.zero_ne_one, NK_at, NK_ptr, List.getElem?_cons_zero, List.getElem?_cons_succ, decide_true, Bool.not_true, q10_12, g3, l3]
  refine (answer c2.wf c02.next an3 an4 ok).mono ?_
  rintro _ h3 ⟨xv, rfl, hx, c3⟩
  simp only [bd_some, bd2_some, bdB_some, byV_bool, byT_true, byT_false, KX_val, KX_new, kX_nx, kX_ex, kX_rt, kXB_nx, kXB_ex, kXB_rt, cells_byte, cells_bool, cells_int, cells_str, cells_ptr, cells_nils, cells_sl, cells_agg, XW_skip, XW_ret, XW_exit, E.get_cons, args, only, intX_int, tupX_tup, byte_neq, byte_eql, binV_add, binV_sub, binV_mul, binV_eql, binV_neq, binV_lss, binV_leq, binV_gtr, binV_geq, unV_not, ncV_ptr, reduceIte, Nat.reduceEqDiff, Nat.reduceAdd, Nat.one_ne_zero, Nat.zero_ne_one, NK_at, NK_ptr, List.getElem?_cons_zero, List.getElem?_cons_succ]
  refine byT_mk (fun g => ?_) (fun g => ?_)
  · have g : ansErr a ≠ 0 := by simpa using g
    rw [if_neg g] at hx
    subst hx
    have hl0 : lenV Try.prog [26] .nils = some (.int .i64 0) := by
      have : Frames h3.read .nils [] := ⟨[], fun _ h => (by cases h), .inl ⟨rfl, rfl, rfl⟩, Each.nil _⟩
      exact this.len s26
    have n2 : ((0 : Int) == 0) = true := by decide
    simp only [q10_13, bd_some, bd2_some, bdB_some, byV_bool, byT_true, byT_false, KX_val, KX_new, kX_nx, kX_ex, kX_rt, kXB_nx, kXB_ex, kXB_rt, cells_byte, cells_bool, cells_int, cells_str, cells_ptr, cells_nils, cells_sl, cells_agg, XW_skip, XW_ret, XW_exit, E.get_cons, args, only, intX_int, tupX_tup, byte_neq, byte_eql, binV_add, binV_sub, binV_mul, binV_eql, binV_neq, binV_lss, binV_leq, binV_gtr, binV_geq, unV_not, ncV_ptr, reduceIte, Nat.reduceEqDiff, Nat.reduceAdd, Nat.one_ne_zero, Nat.zero_ne_one, NK_at, NK_ptr, List.getElem?_cons_zero, List.getElem?_cons_succ, hl0, n2]
    refine aw15 ?_
    simp only [bd_some, bd2_some, bdB_some, byV_bool, byT_true, byT_false, KX_val, KX_new, kX_nx, kX_ex, kX_rt, kXB_nx, kXB_ex, kXB_rt, cells_byte, cells_bool, cells_int, cells_str, cells_ptr, cells_nils, cells_sl, cells_agg, XW_skip, XW_ret, XW_exit, E.get_cons, args, only, intX_int, tupX_tup, byte_neq, byte_eql, binV_add, binV_sub, binV_mul, binV_eql, binV_neq, binV_lss, binV_leq, binV_gtr, binV_geq, unV_not, ncV_ptr, reduceIte, Nat.reduceEqDiff, Nat.reduceAdd, Nat.one_ne_zero, Nat.zero_ne_one, NK_at, NK_ptr, List.getElem?_cons_zero, List.getElem?_cons_succ, e10_rt]
  · have g : ansErr a = 0 := by simpa using g
    rw [if_pos g] at hx
    have hal : (ansFs a).length ≤ 1048580 := by
      have h1 := ok.r1
      have h2 : (headFs a.names).length ≤ 1 := by unfold headFs; split <;> simp
      simp only [ansFs, rowFs, List.length_append, List.length_map, List.length_singleton]
      omega
    simp only [q10_14, bd_some, bd2_some, bdB_some, byV_bool, byT_true, byT_false, KX_val, KX_new, kX_nx, kX_ex, kX_rt, kXB_nx, kXB_ex, kXB_rt, cells_byte, cells_bool, cells_int, cells_str, cells_ptr, cells_nils, cells_sl, cells_agg, XW_skip, XW_ret, XW_exit, E.get_cons, args, only, intX_int, tupX_tup, byte_neq, byte_eql, binV_add, binV_sub, binV_mul, binV_eql, binV_neq, binV_lss, binV_leq, binV_gtr, binV_geq, unV_not, ncV_ptr, reduceIte, Nat.reduceEqDiff, Nat.reduceAdd, Nat.one_ne_zero, Nat.zero_ne_one, NK_at, NK_ptr, List.getElem?_cons_zero, List.getElem?_cons_succ]
    refine (readA c3.wf (Nat.le_trans c02.next c3.next) hx hal).mono ?_
    rintro _ h4 ⟨cc, rfl, hcc, c4⟩
    have hback := ans_back ok.r3 g
    rw [hback, Option.getD_some] at hcc
    obtain ⟨nv', rv', rfl, p1, p2⟩ := hcc
    have cA := ch_alloc c4.wf [V.nils, .nils, .int .i64 0]
    have c04 := (c02.trans c3).trans c4
    obtain ⟨h5, s5, o5, c5', n5⟩ := (Own.new (h := h4) (lo := h0.next) (cs := [V.nils, .nils, .int .i64 0]) c04.next).fill (P := Try.prog) (t := 75) (c := [nv', rv', .int .i64 a.count]) cA.wf siz75 rfl (by show (scal nv' && (scal rv' && true)) = true; rw [p1.isSl.scal, p2.isSl.scal]; rfl) rfl
    have cF : Ch None_ None_ h4 h5 := ((cA.mono (None_sub (· = h4.next)) (None_sub (· = h4.next))).trans c5').old c4.wf (fun g h1 h2 => by omega) fun g h1 h2 => by omega
    have le5 := ((Ch.le c3).trans (Ch.le c4)).trans (Ch.le cF)
    have l6 : loadV Try.prog 75 (.ptr h0.next 0) h5.read = some (.agg [nv, rv, .int .i64 a.count]) := (S.at3.mono (le2.trans le5)).agg agg75 siz75 rfl (by decide)
    have l7 : loadV Try.prog 75 (.ptr h4.next 0) h5.read = some (.agg [nv', rv', .int .i64 a.count]) := (o5.at c5'.wf).agg agg75 siz75 rfl (by decide)
    have cz : (V.agg [V.nils, .nils, .int .i64 0]).cells = [V.nils, .nils, .int .i64 0] := rfl
    have n3 : ((0 : Int) == 0) = true := by decide
    simp only [bd_some, bd2_some, bdB_some, byV_bool, byT_true, byT_false, KX_val, KX_new, kX_nx, kX_ex, kX_rt, kXB_nx, kXB_ex, kXB_rt, cells_byte, cells_bool, cells_int, cells_str, cells_ptr, cells_nils, cells_sl, cells_agg, XW_skip, XW_ret, XW_exit, E.get_cons, args, only, intX_int, tupX_tup, byte_neq, byte_eql, binV_add, binV_sub, binV_mul, binV_eql, binV_neq, binV_lss, binV_leq, binV_gtr, binV_geq, unV_not, ncV_ptr, reduceIte, Nat.reduceEqDiff, Nat.reduceAdd, Nat.one_ne_zero, Nat.zero_ne_one, NK_at, NK_ptr, List.getElem?_cons_zero, List.getElem?_cons_succ, hback, z75, cz, s5, n3, g3, l6, l7]
    refine (sameAnswer (a := a) (b := a) c5'.wf ⟨nv, rv, rfl, an3.mono txE_mono le5, an4.mono rowE_mono le5⟩ ⟨nv', rv', rfl, p1.mono txE_mono (Ch.le cF), p2.mono rowE_mono (Ch.le cF)⟩ (by have := ok.n1; omega) (by have := ok.r1; omega) (fun r hr => by have := ok.r2 r hr; omega)).mono ?_
    rintro _ h6 ⟨rfl, c6⟩
    simp only [bd_some, bd2_some, bdB_some, byV_bool, byT_true, byT_false, KX_val, KX_new, kX_nx, kX_ex, kX_rt, kXB_nx, kXB_ex, kXB_rt, cells_byte, cells_bool, cells_int, cells_str, cells_ptr, cells_nils, cells_sl, cells_agg, XW_skip, XW_ret, XW_exit, E.get_cons, args, only, intX_int, tupX_tup, byte_neq, byte_eql, binV_add, binV_sub, binV_mul, binV_eql, binV_neq, binV_lss, binV_leq, binV_gtr, binV_geq, unV_not, ncV_ptr, reduceIte, Nat.reduceEqDiff, Nat.reduceAdd, Nat.one_ne_zero, Nat.zero_ne_one, NK_at, NK_ptr, List.getElem?_cons_zero, List.getElem?_cons_succ, decide_true]
    refine aw15 ?_
    simp only [bd_some, bd2_some, bdB_some, byV_bool, byT_true, byT_false, KX_val, KX_new, kX_nx, kX_ex, kX_rt, kXB_nx, kXB_ex, kXB_rt, cells_byte, cells_bool, cells_int, cells_str, cells_ptr, cells_nils, cells_sl, cells_agg, XW_skip, XW_ret, XW_exit, E.get_cons, args, only, intX_int, tupX_tup, byte_neq, byte_eql, binV_add, binV_sub, binV_mul, binV_eql, binV_neq, binV_lss, binV_leq, binV_gtr, binV_geq, unV_not, ncV_ptr, reduceIte, Nat.reduceEqDiff, Nat.reduceAdd, Nat.one_ne_zero, Nat.zero_ne_one, NK_at, NK_ptr, List.getElem?_cons_zero, List.getElem?_cons_succ, e10_rt]
theorem sent_snoc {l : List Fm} {i : Nat} {f : Fm} (h : l[i]? = some f) : sentF (l.take (i + 1)) = sentF (l.take i) ++ if putErr f = 0 then [f] else [] := by
  unfold sentF
  rw [List.take_add_one, h, List.filter_append]
  simp only [Option.toList, List.filter_cons, List.filter_nil]
  split <;> simp_all
theorem back_round (wf : HWF h0) (hfl : fs.length ≤ 1048576) (hfb : ∀ f ∈ fs, f.2.length ≤ 1048576) (hca : ca.all scal = true) (ok : AnOk a) {m : Nat} {e : E}
    (I : ∃ (i : Nat) (bv wv : V) (F1 F2 : Option Nat), e = [(0, fv), (3, .ptr h0.next 0), (5, bv), (6, wv), (7, .int .i64 (i : Int))] ∧ i ≤ fs.length ∧ i ≤ 50 ∧ m = fs.length - i ∧ BS h0 h fv ca fs a bv wv (sentF (fs.take i)) F1 F2) :
    XW C h0.next x10_2 (kX (fun e' h' => ∃ m', m' < m ∧ ∃ (i : Nat) (bv wv : V) (F1 F2 : Option Nat), only [0, 3, 5, 6, 7] e' = [(0, fv), (3, .ptr h0.next 0), (5, bv), (6, wv), (7, .int .i64 (i : Int))] ∧ i ≤ fs.length ∧ i ≤ 50 ∧ m' = fs.length - i ∧ BS h0 h' fv ca fs a bv wv (sentF (fs.take i)) F1 F2)
      (kXB 0 (XW C h0.next x10_9 (kF10 fun v _ => v = .bool true)) (kF10 fun v _ => v = .bool true))) e h := by
  obtain ⟨i, bv, wv, F1, F2, rfl, hi, hi50, rfl, S⟩ := I
  have hsl : (sentF (fs.take i)).length ≤ 50 := by
    have h1 : (sentF (fs.take i)).length ≤ (fs.take i).length := List.length_filter_le _ _
    rw [List.length_take] at h1
    omega
  simp only [q10_2, bd_some, bd2_some, bdB_some, byV_bool, byT_true, byT_false, KX_val, KX_new, kX_nx, kX_ex, kX_rt, kXB_nx, kXB_ex, kXB_rt, cells_byte, cells_bool, cells_int, cells_str, cells_ptr, cells_nils, cells_sl, cells_agg, XW_skip, XW_ret, XW_exit, E.get_cons, args, only, intX_int, tupX_tup, byte_neq, byte_eql, binV_add, binV_sub, binV_mul, binV_eql, binV_neq, binV_lss, binV_leq, binV_gtr, binV_geq, unV_not, ncV_ptr, reduceIte, Nat.reduceEqDiff, Nat.reduceAdd, Nat.one_ne_zero, Nat.zero_ne_one, NK_at, NK_ptr, List.getElem?_cons_zero, List.getElem?_cons_succ, S.fr.len s26]
  refine byT_dec (fun hlt => ?_) (fun hge => ?_)
  · have hlt : i < fs.length := by omega
    refine byT_dec (fun h5 => ?_) (fun h5 => ?_)
    · obtain ⟨b, o, w, p1, p2, p3⟩ := S.fr.at2 (List.getElem?_eq_getElem hlt)
      have hget : fs[i]? = some fs[i] := List.getElem?_eq_getElem hlt
      have hbl := hfb _ (List.getElem_mem hlt)
      have hss := sent_snoc hget
      generalize hf : fs[i] = f at *
      have l42 : ∀ {h' : H}, Le h.read h'.read → loadV Try.prog 42 (.ptr b o) h'.read = some (.agg [byteV f.1, w]) := fun le => (p2.mono le).agg agg42 siz42 rfl (by decide)
      have e5 := add64 (a := i) (b := 1) (by omega)
      simp only [Int.cast_ofNat_Int] at e5
      simp only [q10_4, q10_5, bd_some, bd2_some, bdB_some, byV_bool, byT_true, byT_false, KX_val, KX_new, kX_nx, kX_ex, kX_rt, kXB_nx, kXB_ex, kXB_rt, cells_byte, cells_bool, cells_int, cells_str, cells_ptr, cells_nils, cells_sl, cells_agg, XW_skip, XW_ret, XW_exit, E.get_cons, args, only, intX_int, tupX_tup, byte_neq, byte_eql, binV_add, binV_sub, binV_mul, binV_eql, binV_neq, binV_lss, binV_leq, binV_gtr, binV_geq, unV_not, ncV_ptr, reduceIte, Nat.reduceEqDiff, Nat.reduceAdd, Nat.one_ne_zero, Nat.zero_ne_one, NK_at, NK_ptr, List.getElem?_cons_zero, List.getElem?_cons_succ, p1, l42 (Le.refl _)]
      refine (put (k := f.1) (bs := f.2) S.ch.wf S.ch.next p3 (by omega)).mono ?_
      rintro _ h2 ⟨pv, rfl, hp, c2⟩
      have le2 := Ch.le c2
      have S2 : BS h0 h2 fv ca fs a bv wv (sentF (fs.take i)) F1 F2 := {
        ch := S.ch.trans (c2.mono (fun _ h => h) (None_sub _))
        at3 := S.at3.mono le2
        an := S.an.mono le2
        fr := S.fr.mono frE_mono le2
        b1 := Buf.ch S.b1 c2 fun _ _ h => h
        b2 := S.b2.ch frE_mono c2 le2 fun _ _ h => h
        n1 := S.n1
        n2 := S.n2
        ne := S.ne }
      simp only [bd_some, bd2_some, bdB_some, byV_bool, byT_true, byT_false, KX_val, KX_new, kX_nx, kX_ex, kX_rt, kXB_nx, kXB_ex, kXB_rt, cells_byte, cells_bool, cells_int, cells_str, cells_ptr, cells_nils, cells_sl, cells_agg, XW_skip, XW_ret, XW_exit, E.get_cons, args, only, intX_int, tupX_tup, byte_neq, byte_eql, binV_add, binV_sub, binV_mul, binV_eql, binV_neq, binV_lss, binV_leq, binV_gtr, binV_geq, unV_not, ncV_ptr, reduceIte, Nat.reduceEqDiff, Nat.reduceAdd, Nat.one_ne_zero, Nat.zero_ne_one, NK_at, NK_ptr, List.getElem?_cons_zero, List.getElem?_cons_succ]
      refine byT_mk (fun g => ?_) (fun g => ?_)
      · have g : putErr f = 0 := by simpa using g
        rw [if_pos g] at hp
        rw [if_pos g] at hss
        have hpl := puts_len (l := sentF (fs.take i)) sent_ok
        have hsh := sent_short g
        obtain ⟨v3, h3, F3, x1, x2, x3⟩ := append_bytes a22 c2.wf S2.ch.next S2.b1 (hp.rd c2.wf).elems (by rw [show putB (f.1, f.2) = putB f from rfl, putB_len]; omega)
        have b2' : BufOf frE 2 h0.next h3 h3.read wv (sentF (fs.take i)) F2 := S2.b2.ch frE_mono x3.ch (Ch.le x3.ch) fun g hg h => by
          rcases h with h | h
          · exact S.ne g h hg
          · have := BufOf.lt S2.ch.wf S2.b2 hg
            omega
        have lt1 : ∀ g, F3 = some g → g < h3.next := fun g hg => Buf.lt x3.ch.wf x2 hg
        obtain ⟨v4, h4, F4, y1, y2, y3⟩ := out_add (k := f.1) (w := w) (bs := f.2) x3.ch.wf (Nat.le_trans S2.ch.next x3.ch.next) b2' ((p3.mono le2).mono (Ch.le x3.ch)) (by omega)
        have le4 := (Ch.le x3.ch).trans (Ch.le y3.ch)
        simp only [q10_6, bd_some, bd2_some, bdB_some, byV_bool, byT_true, byT_false, KX_val, KX_new, kX_nx, kX_ex, kX_rt, kXB_nx, kXB_ex, kXB_rt, cells_byte, cells_bool, cells_int, cells_str, cells_ptr, cells_nils, cells_sl, cells_agg, XW_skip, XW_ret, XW_exit, E.get_cons, args, only, intX_int, tupX_tup, byte_neq, byte_eql, binV_add, binV_sub, binV_mul, binV_eql, binV_neq, binV_lss, binV_leq, binV_gtr, binV_geq, unV_not, ncV_ptr, reduceIte, Nat.reduceEqDiff, Nat.reduceAdd, Nat.one_ne_zero, Nat.zero_ne_one, NK_at, NK_ptr, List.getElem?_cons_zero, List.getElem?_cons_succ, x1, p1, l42 (le2.trans (Ch.le x3.ch)), buildSlice_one b26 (v := .agg [byteV f.1, w]) rfl, y1, q10_7, q10_8, e5]
        have hn3 : ∀ g, F3 = some g → h0.next ≤ g := fun g hg => by
          rcases x3.F g hg with h | h
          · exact S.n1 g h
          · have := S2.ch.next; omega
        have hn4 : ∀ g, F4 = some g → h0.next ≤ g := fun g hg => by
          rcases y3.F g hg with h | h
          · exact S.n2 g h
          · have := S2.ch.next; have := x3.ch.next; omega
        have ne3 : ∀ g, F3 = some g → F2 ≠ some g := fun g hg h2 => by
          rcases x3.F g hg with h | h
          · exact S.ne g h h2
          · have := BufOf.lt S2.ch.wf S2.b2 h2; omega
        refine ⟨fs.length - (i + 1), by omega, i + 1, v3, v4, F3, F4, rfl, by omega, by omega, rfl, {
          ch := (S2.ch.trans (x3.ch.mono (fun _ h => h) fun g hg => ?_)).trans (y3.ch.mono (fun _ h => h) fun g hg => ?_)
          at3 := S2.at3.mono le4
          an := S2.an.mono le4
          fr := S2.fr.mono frE_mono le4
          b1 := ?_
          b2 := by rw [hss]; exact y2
          n1 := hn3
          n2 := hn4
          ne := fun g hg h4 => ?_ }⟩
        · rcases hg with h | h
          · exact S.n1 g h
          · exact Nat.le_trans S2.ch.next h
        · rcases hg with h | h
          · exact S.n2 g h
          · exact Nat.le_trans S2.ch.next (Nat.le_trans x3.ch.next h)
        · have e6 : (sentF (fs.take (i + 1))).flatMap putB = (sentF (fs.take i)).flatMap putB ++ putB f := by rw [hss, List.flatMap_append]; simp
          rw [e6]
          exact Buf.ch x2 y3.ch fun g hg h => by
            rcases h with h | h
            · exact ne3 g hg h
            · have := lt1 g hg; omega
        · rcases y3.F g h4 with h | h
          · exact ne3 g hg h
          · have := lt1 g hg; omega
      · have g : ¬ putErr f = 0 := by simpa using g
        rw [if_neg g, List.append_nil] at hss
        simp only [bd_some, bd2_some, bdB_some, byV_bool, byT_true, byT_false, KX_val, KX_new, kX_nx, kX_ex, kX_rt, kXB_nx, kXB_ex, kXB_rt, cells_byte, cells_bool, cells_int, cells_str, cells_ptr, cells_nils, cells_sl, cells_agg, XW_skip, XW_ret, XW_exit, E.get_cons, args, only, intX_int, tupX_tup, byte_neq, byte_eql, binV_add, binV_sub, binV_mul, binV_eql, binV_neq, binV_lss, binV_leq, binV_gtr, binV_geq, unV_not, ncV_ptr, reduceIte, Nat.reduceEqDiff, Nat.reduceAdd, Nat.one_ne_zero, Nat.zero_ne_one, NK_at, NK_ptr, List.getElem?_cons_zero, List.getElem?_cons_succ, q10_7, q10_8, e5]
        exact ⟨fs.length - (i + 1), by omega, i + 1, bv, wv, F1, F2, rfl, by omega, by omega, rfl, by rw [hss]; exact S2⟩
    · exact back_end wf S sent_ok hsl hca ok (by simp only [bd_some, bd2_some, bdB_some, byV_bool, byT_true, byT_false, KX_val, KX_new, kX_nx, kX_ex, kX_rt, kXB_nx, kXB_ex, kXB_rt, cells_byte, cells_bool, cells_int, cells_str, cells_ptr, cells_nils, cells_sl, cells_agg, XW_skip, XW_ret, XW_exit, E.get_cons, args, only, intX_int, tupX_tup, byte_neq, byte_eql, binV_add, binV_sub, binV_mul, binV_eql, binV_neq, binV_lss, binV_leq, binV_gtr, binV_geq, unV_not, ncV_ptr, reduceIte, Nat.reduceEqDiff, Nat.reduceAdd, Nat.one_ne_zero, Nat.zero_ne_one, NK_at, NK_ptr, List.getElem?_cons_zero, List.getElem?_cons_succ]) (by simp only [bd_some, bd2_some, bdB_some, byV_bool, byT_true, byT_false, KX_val, KX_new, kX_nx, kX_ex, kX_rt, kXB_nx, kXB_ex, kXB_rt, cells_byte, cells_bool, cells_int, cells_str, cells_ptr, cells_nils, cells_sl, cells_agg, XW_skip, XW_ret, XW_exit, E.get_cons, args, only, intX_int, tupX_tup, byte_neq, byte_eql, binV_add, binV_sub, binV_mul, binV_eql, binV_neq, binV_lss, binV_leq, binV_gtr, binV_geq, unV_not, ncV_ptr, reduceIte, Nat.reduceEqDiff, Nat.reduceAdd, Nat.one_ne_zero, Nat.zero_ne_one, NK_at, NK_ptr, List.getElem?_cons_zero, List.getElem?_cons_succ]) (by simp only [bd_some, bd2_some, bdB_some, byV_bool, byT_true, byT_false, KX_val, KX_new, kX_nx, kX_ex, kX_rt, kXB_nx, kXB_ex, kXB_rt, cells_byte, cells_bool, cells_int, cells_str, cells_ptr, cells_nils, cells_sl, cells_agg, XW_skip, XW_ret, XW_exit, E.get_cons, args, only, intX_int, tupX_tup, byte_neq, byte_eql, binV_add, binV_sub, binV_mul, binV_eql, binV_neq, binV_lss, binV_leq, binV_gtr, binV_geq, unV_not, ncV_ptr, reduceIte, Nat.reduceEqDiff, Nat.reduceAdd, Nat.one_ne_zero, Nat.zero_ne_one, NK_at, NK_ptr, List.getElem?_cons_zero, List.getElem?_cons_succ])
  · exact back_end wf S sent_ok hsl hca ok (by simp only [bd_some, bd2_some, bdB_some, byV_bool, byT_true, byT_false, KX_val, KX_new, kX_nx, kX_ex, kX_rt, kXB_nx, kXB_ex, kXB_rt, cells_byte, cells_bool, cells_int, cells_str, cells_ptr, cells_nils, cells_sl, cells_agg, XW_skip, XW_ret, XW_exit, E.get_cons, args, only, intX_int, tupX_tup, byte_neq, byte_eql, binV_add, binV_sub, binV_mul, binV_eql, binV_neq, binV_lss, binV_leq, binV_gtr, binV_geq, unV_not, ncV_ptr, reduceIte, Nat.reduceEqDiff, Nat.reduceAdd, Nat.one_ne_zero, Nat.zero_ne_one, NK_at, NK_ptr, List.getElem?_cons_zero, List.getElem?_cons_succ]) (by simp only [bd_some, bd2_some, bdB_some, byV_bool, byT_true, byT_false, KX_val, KX_new, kX_nx, kX_ex, kX_rt, kXB_nx, kXB_ex, kXB_rt, cells_byte, cells_bool, cells_int, cells_str, cells_ptr, cells_nils, cells_sl, cells_agg, XW_skip, XW_ret, XW_exit, E.get_cons, args, only, intX_int, tupX_tup, byte_neq, byte_eql, binV_add, binV_sub, binV_mul, binV_eql, binV_neq, binV_lss, binV_leq, binV_gtr, binV_geq, unV_not, ncV_ptr, reduceIte, Nat.reduceEqDiff, Nat.reduceAdd, Nat.one_ne_zero, Nat.zero_ne_one, NK_at, NK_ptr, List.getElem?_cons_zero, List.getElem?_cons_succ]) (by simp only [bd_some, bd2_some, bdB_some, byV_bool, byT_true, byT_false, KX_val, KX_new, kX_nx, kX_ex, kX_rt, kXB_nx, kXB_ex, kXB_rt, cells_byte, cells_bool, cells_int, cells_str, cells_ptr, cells_nils, cells_sl, cells_agg, XW_skip, XW_ret, XW_exit, E.get_cons, args, only, intX_int, tupX_tup, byte_neq, byte_eql, binV_add, binV_sub, binV_mul, binV_eql, binV_neq, binV_lss, binV_leq, binV_gtr, binV_geq, unV_not, ncV_ptr, reduceIte, Nat.reduceEqDiff, Nat.reduceAdd, Nat.one_ne_zero, Nat.zero_ne_one, NK_at, NK_ptr, List.getElem?_cons_zero, List.getElem?_cons_succ])
end
theorem wireBack {h : H} {fv av : V} (wf : HWF h) (_ : AllRo h) {N : Nat} (o0 : OkA Try.prog h.read 1048576 N 26 fv) (o1 : OkA Try.prog h.read 1048576 N 75 av) : CW C 10 [fv, av] h.next h fun v _ => v = .bool true := by
  obtain ⟨fs, f1, f2, f3⟩ := frames_ok (okA_slice Try.underlying26 o0)
  obtain ⟨ca, a, rfl, a1, a2, a3⟩ := an_ok o1
  refine enter10 rfl ?_
  have cA := ch_alloc wf ca
  have eC : (V.agg ca).cells = ca := rfl
  simp only [q10_0, bd_some, bd2_some, bdB_some, byV_bool, byT_true, byT_false, KX_val, KX_new, kX_nx, kX_ex, kX_rt, kXB_nx, kXB_ex, kXB_rt, cells_byte, cells_bool, cells_int, cells_str, cells_ptr, cells_nils, cells_sl, cells_agg, XW_skip, XW_ret, XW_exit, E.get_cons, args, only, intX_int, tupX_tup, byte_neq, byte_eql, binV_add, binV_sub, binV_mul, binV_eql, binV_neq, binV_lss, binV_leq, binV_gtr, binV_geq, unV_not, ncV_ptr, reduceIte, Nat.reduceEqDiff, Nat.reduceAdd, Nat.one_ne_zero, Nat.zero_ne_one, NK_at, NK_ptr, List.getElem?_cons_zero, List.getElem?_cons_succ, eC, q10_1]
  refine rounds (fun m e h' => ∃ (i : Nat) (bv wv : V) (F1 F2 : Option Nat), e = [(0, fv), (3, .ptr h.next 0), (5, bv), (6, wv), (7, .int .i64 (i : Int))] ∧ i ≤ fs.length ∧ i ≤ 50 ∧ m = fs.length - i ∧ BS h h' fv ca fs a bv wv (sentF (fs.take i)) F1 F2)
    (fun m e h' I => back_round wf f3 f2 a3 a2 I) fs.length ⟨0, .nils, .nils, none, none, by simp only [bd_some, bd2_some, bdB_some, byV_bool, byT_true, byT_false, KX_val, KX_new, kX_nx, kX_ex, kX_rt, kXB_nx, kXB_ex, kXB_rt, cells_byte, cells_bool, cells_int, cells_str, cells_ptr, cells_nils, cells_sl, cells_agg, XW_skip, XW_ret, XW_exit, E.get_cons, args, only, intX_int, tupX_tup, byte_neq, byte_eql, binV_add, binV_sub, binV_mul, binV_eql, binV_neq, binV_lss, binV_leq, binV_gtr, binV_geq, unV_not, ncV_ptr, reduceIte, Nat.reduceEqDiff, Nat.reduceAdd, Nat.one_ne_zero, Nat.zero_ne_one, NK_at, NK_ptr, List.getElem?_cons_zero, List.getElem?_cons_succ]; rfl, Nat.zero_le _, by omega, rfl, ?_⟩
  exact {
    ch := cA.mono (fun _ h => h) (None_sub _)
    at3 := at_new wf ca
    an := a1.mono (Ch.le cA)
    fr := f1.mono frE_mono (Ch.le cA)
    b1 := Buf.nil 1
    b2 := BufOf.nil
    n1 := fun _ h => by cases h
    n2 := fun _ h => by cases h
    ne := fun _ h => by cases h }
end Go.Proofs.Ytghmbmblhdgabaa
