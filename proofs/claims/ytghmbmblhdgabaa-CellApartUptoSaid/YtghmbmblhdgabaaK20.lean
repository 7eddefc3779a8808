/- The keys of rows, of unique values, and those between which a table's rows stand. -/
import Derived.Test.YtghmbmblhdgabaaK19
set_option linter.all false
namespace Go.Proofs.Ytghmbmblhdgabaa
open Go Go.Den Code
set_option maxRecDepth 100000
section
variable {lo : Nat} {h : H}
theorem str_new {l : List (List UInt8)} (wf : HWF h) : SlOf strE 1 ((h.alloc (l.map V.str)).rb None_) (.sl h.next 0 l.length (some l.length) 1) l := by
  refine ⟨l.map fun s => [.str s], fun c hc => ?_, .inr ⟨h.next, 0, some l.length, l.map V.str, rfl, rb_owned (ch_alloc wf _).wf (owned_alloc_new (Nat.le_refl _)) id, by simp, ?_⟩, by simp, fun i c x h1 h2 => ?_⟩
  · obtain ⟨s, _, rfl⟩ := List.mem_map.1 hc
    rfl
  · rw [List.drop_zero, List.take_of_length_le (by simp)]
    induction l with
    | nil => rfl
    | cons s r ih => simp only [List.map_cons, List.flatten_cons, List.singleton_append]; rw [ih]
  · rw [List.getElem?_map, h2] at h1
    cases h1
    rfl
def KeyedPost (lo : Nat) (h : H) (F : Option Nat) (pre : List UInt8) (ev : Int) (x : Vl) (v : V) (h' : H) : Prop :=
  ∃ kv er F', v = .tup [kv, .int .i64 er] ∧ (ev = 0 ∧ keyErr x = 0 → er = 0 ∧ BufB h' lo kv (pre ++ keyB x) F') ∧ (¬ (ev = 0 ∧ keyErr x = 0) → er ≠ 0) ∧ Gr h F h' F'
theorem key_len {x : Vl} (he : keyErr x = 0) : (keyB x).length ≤ 75 := by
  unfold keyB keyBody
  simp only [List.length_cons]
  split
  · simp
  · split
    · simp [eightB]
    · split
      · rename_i h4
        have h36 : x.s.length ≤ 36 := by
          unfold keyErr at he
          split at he
          · cases he
          · split at he
            · cases he
            · rename_i h5
              have : ¬ 36 < x.s.length := fun g => h5 ⟨h4, g⟩
              omega
        have := esc_len x.s
        simp only [List.length_append, List.length_cons, List.length_nil]
        omega
      · simp
theorem keyed {bv : V} {ev : Int} {pre : List UInt8} {F : Option Nat} {x : Vl} (wf : HWF h) (hlo : lo ≤ h.next) (hb : ev = 0 → BufB h lo bv pre F) (hpre : pre.length ≤ 1000) (hx : x.ok) : CW C 57 [bv, .int .i64 ev, .agg (vlC x)] lo h (KeyedPost lo h F pre ev x) := by
  refine enter57 rfl ?_
  have cc1 := ch_alloc wf (vlC x)
  have hA1 : At ((h.alloc (vlC x)).rb None_) h.next 0 (vlC x) := at_owned cc1.wf (owned_alloc_new (Nat.le_refl _)) None_ id
  have l60 : loadV Try.prog 60 (.ptr h.next 0) (h.alloc (vlC x)).read = some (.agg (vlC x)) := (at_new wf (vlC x)).agg agg60 siz60 rfl (by decide)
  simp only [q57_0, bd_some, bd2_some, bdB_some, byV_bool, byT_true, byT_false, KX_val, KX_new, kX_nx, kX_ex, kX_rt, kXB_nx, kXB_ex, kXB_rt, cells_byte, cells_bool, cells_int, cells_str, cells_ptr, cells_nils, cells_sl, cells_agg, XW_skip, XW_ret, XW_exit, E.get_cons, args, only, intX_int, tupX_tup, byte_neq, byte_eql, binV_add, binV_sub, binV_mul, binV_eql, binV_neq, binV_lss, binV_leq, binV_gtr, binV_geq, unV_not, ncV_ptr, reduceIte, Nat.reduceEqDiff, Nat.reduceAdd, Nat.one_ne_zero, Nat.zero_ne_one, NK_at, NK_ptr, List.getElem?_cons_zero, List.getElem?_cons_succ]
  refine byT_mk (fun g => ?_) (fun g => ?_)
  · have g : ev ≠ 0 := by simpa using g
    simp only [bd_some, bd2_some, bdB_some, byV_bool, byT_true, byT_false, KX_val, KX_new, kX_nx, kX_ex, kX_rt, kXB_nx, kXB_ex, kXB_rt, cells_byte, cells_bool, cells_int, cells_str, cells_ptr, cells_nils, cells_sl, cells_agg, XW_skip, XW_ret, XW_exit, E.get_cons, args, only, intX_int, tupX_tup, byte_neq, byte_eql, binV_add, binV_sub, binV_mul, binV_eql, binV_neq, binV_lss, binV_leq, binV_gtr, binV_geq, unV_not, ncV_ptr, reduceIte, Nat.reduceEqDiff, Nat.reduceAdd, Nat.one_ne_zero, Nat.zero_ne_one, NK_at, NK_ptr, List.getElem?_cons_zero, List.getElem?_cons_succ, q57_1, e57_rt]
    exact ⟨_, _, F, rfl, fun g' => absurd g'.1 g, fun _ => g, Gr.of cc1⟩
  · have g : ev = 0 := by simpa using g
    subst g
    have hb := hb rfl
    simp only [bd_some, bd2_some, bdB_some, byV_bool, byT_true, byT_false, KX_val, KX_new, kX_nx, kX_ex, kX_rt, kXB_nx, kXB_ex, kXB_rt, cells_byte, cells_bool, cells_int, cells_str, cells_ptr, cells_nils, cells_sl, cells_agg, XW_skip, XW_ret, XW_exit, E.get_cons, args, only, intX_int, tupX_tup, byte_neq, byte_eql, binV_add, binV_sub, binV_mul, binV_eql, binV_neq, binV_lss, binV_leq, binV_gtr, binV_geq, unV_not, ncV_ptr, reduceIte, Nat.reduceEqDiff, Nat.reduceAdd, Nat.one_ne_zero, Nat.zero_ne_one, NK_at, NK_ptr, List.getElem?_cons_zero, List.getElem?_cons_succ, q57_2, l60]
    refine (key cc1.wf (Nat.le_trans hlo cc1.next) hx).mono ?_
    rintro _ h2 ⟨kv, rfl, hk, cc2⟩
    have cc12 := cc1.trans cc2
    simp only [bd_some, bd2_some, bdB_some, byV_bool, byT_true, byT_false, KX_val, KX_new, kX_nx, kX_ex, kX_rt, kXB_nx, kXB_ex, kXB_rt, cells_byte, cells_bool, cells_int, cells_str, cells_ptr, cells_nils, cells_sl, cells_agg, XW_skip, XW_ret, XW_exit, E.get_cons, args, only, intX_int, tupX_tup, byte_neq, byte_eql, binV_add, binV_sub, binV_mul, binV_eql, binV_neq, binV_lss, binV_leq, binV_gtr, binV_geq, unV_not, ncV_ptr, reduceIte, Nat.reduceEqDiff, Nat.reduceAdd, Nat.one_ne_zero, Nat.zero_ne_one, NK_at, NK_ptr, List.getElem?_cons_zero, List.getElem?_cons_succ]
    refine byT_mk (fun g => ?_) (fun g => ?_)
    · have g : keyErr x ≠ 0 := by simpa using g
      simp only [bd_some, bd2_some, bdB_some, byV_bool, byT_true, byT_false, KX_val, KX_new, kX_nx, kX_ex, kX_rt, kXB_nx, kXB_ex, kXB_rt, cells_byte, cells_bool, cells_int, cells_str, cells_ptr, cells_nils, cells_sl, cells_agg, XW_skip, XW_ret, XW_exit, E.get_cons, args, only, intX_int, tupX_tup, byte_neq, byte_eql, binV_add, binV_sub, binV_mul, binV_eql, binV_neq, binV_lss, binV_leq, binV_gtr, binV_geq, unV_not, ncV_ptr, reduceIte, Nat.reduceEqDiff, Nat.reduceAdd, Nat.one_ne_zero, Nat.zero_ne_one, NK_at, NK_ptr, List.getElem?_cons_zero, List.getElem?_cons_succ, q57_3, e57_rt]
      exact ⟨_, _, F, rfl, fun g' => absurd g'.2 g, fun _ => g, Gr.of cc12⟩
    · have g : keyErr x = 0 := by simpa using g
      rw [if_pos g] at hk
      have hkl := key_len g
      obtain ⟨v2, h3, F2, x1, x2, x3⟩ := append_bytes (x := kv) (ys := keyB x) a22 cc2.wf (Nat.le_trans hlo cc12.next) (Buf.ch hb cc12 fun _ _ h => h) (hk.rd cc2.wf).elems (by omega)
      simp only [bd_some, bd2_some, bdB_some, byV_bool, byT_true, byT_false, KX_val, KX_new, kX_nx, kX_ex, kX_rt, kXB_nx, kXB_ex, kXB_rt, cells_byte, cells_bool, cells_int, cells_str, cells_ptr, cells_nils, cells_sl, cells_agg, XW_skip, XW_ret, XW_exit, E.get_cons, args, only, intX_int, tupX_tup, byte_neq, byte_eql, binV_add, binV_sub, binV_mul, binV_eql, binV_neq, binV_lss, binV_leq, binV_gtr, binV_geq, unV_not, ncV_ptr, reduceIte, Nat.reduceEqDiff, Nat.reduceAdd, Nat.one_ne_zero, Nat.zero_ne_one, NK_at, NK_ptr, List.getElem?_cons_zero, List.getElem?_cons_succ, q57_4, x1, e57_rt]
      exact ⟨_, _, F2, rfl, fun _ => ⟨rfl, x2⟩, fun g' => absurd ⟨rfl, g⟩ g', (Gr.of cc12).trans x3⟩
/-- a key that is told, or an error -/
def AtPost (h : H) (ok : Prop) (bs : List UInt8) (v : V) (h' : H) : Prop :=
  ∃ kv er, v = .tup [kv, .int .i64 er] ∧ (ok → er = 0 ∧ NewBytes h h' kv bs) ∧ (¬ ok → er ≠ 0) ∧ Ch None_ None_ h h'
theorem Gr.new {h1 h' : H} {F F' : Option Nat} (wf : HWF h) (c : Ch None_ None_ h h1) (hF : ∀ g, F = some g → h.next ≤ g) (g : Gr h1 F h' F') : Ch None_ None_ h h' ∧ ∀ g, F' = some g → h.next ≤ g := by
  refine ⟨(c.mono (fun _ h => h) (None_sub fun g => F = some g ∨ h1.next ≤ g) |>.trans g.ch).old wf (fun _ h _ => h) fun f h1' h2' => ?_, fun f hf => ?_⟩
  · rcases h1' with h1' | h1'
    · have := hF f h1'; omega
    · have := Nat.le_trans c.next h1'; omega
  · rcases g.F f hf with h1' | h1'
    · exact hF f h1'
    · exact Nat.le_trans c.next h1'
def rowB (t : Int) (table : List UInt8) (x : Vl) : List UInt8 := [114, lowB t] ++ placeB [table] ++ keyB x
def uniB (t : Int) (table column : List UInt8) (x : Vl) : List UInt8 := [117, lowB t] ++ placeB [table, column] ++ keyB x
theorem placeB_len {t : Int} {names : List (List UInt8)} (h : PlaceOk t names) : (placeB names).length ≤ names.length * 25 := place_len h.2
theorem rowKey {t : Int} {table : List UInt8} {x : Vl} (wf : HWF h) (hlo : lo ≤ h.next) (hx : x.ok) (hs : table.length ≤ 1048576) : CW C 28 [.int .i64 t, .str table, .agg (vlC x)] lo h (AtPost h (PlaceOk t [table] ∧ keyErr x = 0) (rowB t table x)) := by
  refine CW.low hS hlo (enter28 rfl ?_)
  have cc1 := ch_alloc wf (vlC x)
  have hA1 : At ((h.alloc (vlC x)).rb None_) h.next 0 (vlC x) := at_owned cc1.wf (owned_alloc_new (Nat.le_refl _)) None_ id
  have e4 := conv_int (P := Try.prog) (rd := (h.alloc (vlC x)).read) Try.underlying3 Try.underlying5 .i64 t
  rw [byteV_low] at e4
  have cc2 := ch_alloc cc1.wf [byteV 114, byteV (lowB t)]
  have cc3 := ch_alloc cc2.wf [V.str table]
  have hn := str_new (l := [table]) cc2.wf
  have c123 := (cc1.trans cc2).trans cc3
  have hb : BufB ((h.alloc (vlC x)).alloc [byteV 114, byteV (lowB t)]) h.next (.sl (h.alloc (vlC x)).next 0 2 (some 2) 1) [114, lowB t] (some (h.alloc (vlC x)).next) := Buf.new cc1.next rfl
  have hb3 := Buf.ch hb cc3 fun _ _ h => h
  have hA3 := (hA1.mono (cc2.rb (None_sub None_))).mono (cc3.rb (None_sub None_))
  have eb : buildSliceV Try.prog 22 2 [(0, .int .u8 114), (1, byteV (lowB t))] = some (.new [byteV 114, byteV (lowB t)] (.sl 2 (some 2) 1)) := build22_2 _ _
  simp only [q28_0, bd_some, bd2_some, bdB_some, byV_bool, byT_true, byT_false, KX_val, KX_new, kX_nx, kX_ex, kX_rt, kXB_nx, kXB_ex, kXB_rt, cells_byte, cells_bool, cells_int, cells_str, cells_ptr, cells_nils, cells_sl, cells_agg, XW_skip, XW_ret, XW_exit, E.get_cons, args, only, intX_int, tupX_tup, byte_neq, byte_eql, binV_add, binV_sub, binV_mul, binV_eql, binV_neq, binV_lss, binV_leq, binV_gtr, binV_geq, unV_not, ncV_ptr, reduceIte, Nat.reduceEqDiff, Nat.reduceAdd, Nat.one_ne_zero, Nat.zero_ne_one, NK_at, NK_ptr, List.getElem?_cons_zero, List.getElem?_cons_succ, e4, eb, build72_1]
  generalize hh2 : (h.alloc (vlC x)).alloc [byteV 114, byteV (lowB t)] = h2 at *
  have hn' : SlOf strE 1 ((h2.alloc [V.str table]).rb None_) (.sl h2.next 0 1 (some 1) 1) [table] := hn
  generalize hh3 : h2.alloc [V.str table] = h3 at *
  refine (place cc3.wf c123.next hb3 (by simp) hn' (by simp) (by intro s hs'; rw [List.mem_singleton.1 hs']; exact hs)).mono ?_
  rintro _ h4 ⟨pv, ev, F4, rfl, p1, p2, g4⟩
  have hF : ∀ g, some (h.alloc (vlC x)).next = some g → h.next ≤ g := fun g hg => by cases hg; exact cc1.next
  have l60 : loadV Try.prog 60 (.ptr h.next 0) h4.read = some (.agg (vlC x)) := ((hA3.mono (g4.ch.rb (None_sub _))).mono (rb_le _ None_)).agg agg60 siz60 rfl (by decide)
  simp only [bd_some, bd2_some, bdB_some, byV_bool, byT_true, byT_false, KX_val, KX_new, kX_nx, kX_ex, kX_rt, kXB_nx, kXB_ex, kXB_rt, cells_byte, cells_bool, cells_int, cells_str, cells_ptr, cells_nils, cells_sl, cells_agg, XW_skip, XW_ret, XW_exit, E.get_cons, args, only, intX_int, tupX_tup, byte_neq, byte_eql, binV_add, binV_sub, binV_mul, binV_eql, binV_neq, binV_lss, binV_leq, binV_gtr, binV_geq, unV_not, ncV_ptr, reduceIte, Nat.reduceEqDiff, Nat.reduceAdd, Nat.one_ne_zero, Nat.zero_ne_one, NK_at, NK_ptr, List.getElem?_cons_zero, List.getElem?_cons_succ, l60]
  have pe : ev = 0 ↔ PlaceOk t [table] := by
    by_cases g : PlaceOk t [table]
    · exact ⟨fun _ => g, fun _ => (p1 g).1⟩
    · rw [p2 g]; exact ⟨fun g' => (by cases g'), fun g' => absurd g' g⟩
  by_cases g : PlaceOk t [table]
  · have hpl := placeB_len g
    simp only [List.length_singleton] at hpl
    refine (keyed (pre := [114, lowB t] ++ placeB [table]) g4.ch.wf (Nat.le_trans c123.next g4.ch.next) (fun _ => (p1 g).2) (by simp only [List.length_append, List.length_cons, List.length_nil]; omega) hx).mono ?_
    rintro _ h5 ⟨kv, er, F5, rfl, k1, k2, g5⟩
    obtain ⟨z1, z2⟩ := Gr.new wf c123 hF (g4.trans g5)
    simp only [bd_some, bd2_some, bdB_some, byV_bool, byT_true, byT_false, KX_val, KX_new, kX_nx, kX_ex, kX_rt, kXB_nx, kXB_ex, kXB_rt, cells_byte, cells_bool, cells_int, cells_str, cells_ptr, cells_nils, cells_sl, cells_agg, XW_skip, XW_ret, XW_exit, E.get_cons, args, only, intX_int, tupX_tup, byte_neq, byte_eql, binV_add, binV_sub, binV_mul, binV_eql, binV_neq, binV_lss, binV_leq, binV_gtr, binV_geq, unV_not, ncV_ptr, reduceIte, Nat.reduceEqDiff, Nat.reduceAdd, Nat.one_ne_zero, Nat.zero_ne_one, NK_at, NK_ptr, List.getElem?_cons_zero, List.getElem?_cons_succ, e28_rt]
    refine ⟨_, _, rfl, fun gg => ?_, fun gg => k2 fun g' => gg ⟨g, g'.2⟩, z1⟩
    obtain ⟨y1, y2⟩ := k1 ⟨pe.2 g, gg.2⟩
    exact ⟨y1, F5, y2, z2⟩
  · have hev : ev = 2 := p2 g
    refine (keyed (pre := []) (F := F4) g4.ch.wf (Nat.le_trans c123.next g4.ch.next) (fun g' => by rw [hev] at g'; cases g') (by simp) hx).mono ?_
    rintro _ h5 ⟨kv, er, F5, rfl, k1, k2, g5⟩
    obtain ⟨z1, z2⟩ := Gr.new wf c123 hF (g4.trans g5)
    simp only [bd_some, bd2_some, bdB_some, byV_bool, byT_true, byT_false, KX_val, KX_new, kX_nx, kX_ex, kX_rt, kXB_nx, kXB_ex, kXB_rt, cells_byte, cells_bool, cells_int, cells_str, cells_ptr, cells_nils, cells_sl, cells_agg, XW_skip, XW_ret, XW_exit, E.get_cons, args, only, intX_int, tupX_tup, byte_neq, byte_eql, binV_add, binV_sub, binV_mul, binV_eql, binV_neq, binV_lss, binV_leq, binV_gtr, binV_geq, unV_not, ncV_ptr, reduceIte, Nat.reduceEqDiff, Nat.reduceAdd, Nat.one_ne_zero, Nat.zero_ne_one, NK_at, NK_ptr, List.getElem?_cons_zero, List.getElem?_cons_succ, e28_rt]
    exact ⟨_, _, rfl, fun gg => absurd gg.1 g, fun gg => k2 fun g' => g (pe.1 g'.1), z1⟩
theorem uniqueKey {t : Int} {table column : List UInt8} {x : Vl} (wf : HWF h) (hlo : lo ≤ h.next) (hx : x.ok) (hs : table.length ≤ 1048576) (hs2 : column.length ≤ 1048576) :
    CW C 29 [.int .i64 t, .str table, .str column, .agg (vlC x)] lo h (AtPost h (PlaceOk t [table, column] ∧ keyErr x = 0) (uniB t table column x)) := by
  refine CW.low hS hlo (enter29 rfl ?_)
  have cc1 := ch_alloc wf (vlC x)
  have hA1 : At ((h.alloc (vlC x)).rb None_) h.next 0 (vlC x) := at_owned cc1.wf (owned_alloc_new (Nat.le_refl _)) None_ id
  have e4 := conv_int (P := Try.prog) (rd := (h.alloc (vlC x)).read) Try.underlying3 Try.underlying5 .i64 t
  rw [byteV_low] at e4
  have cc2 := ch_alloc cc1.wf [byteV 117, byteV (lowB t)]
  have cc3 := ch_alloc cc2.wf [V.str table, V.str column]
  have hn := str_new (l := [table, column]) cc2.wf
  have c123 := (cc1.trans cc2).trans cc3
  have hb : BufB ((h.alloc (vlC x)).alloc [byteV 117, byteV (lowB t)]) h.next (.sl (h.alloc (vlC x)).next 0 2 (some 2) 1) [117, lowB t] (some (h.alloc (vlC x)).next) := Buf.new cc1.next rfl
  have hb3 := Buf.ch hb cc3 fun _ _ h => h
  have hA3 := (hA1.mono (cc2.rb (None_sub None_))).mono (cc3.rb (None_sub None_))
  have eb : buildSliceV Try.prog 22 2 [(0, .int .u8 117), (1, byteV (lowB t))] = some (.new [byteV 117, byteV (lowB t)] (.sl 2 (some 2) 1)) := build22_2 _ _
  simp only [q29_0, bd_some, bd2_some, bdB_some, byV_bool, byT_true, byT_false, KX_val, KX_new, kX_nx, kX_ex, kX_rt, kXB_nx, kXB_ex, kXB_rt, cells_byte, cells_bool, cells_int, cells_str, cells_ptr, cells_nils, cells_sl, cells_agg, XW_skip, XW_ret, XW_exit, E.get_cons, args, only, intX_int, tupX_tup, byte_neq, byte_eql, binV_add, binV_sub, binV_mul, binV_eql, binV_neq, binV_lss, binV_leq, binV_gtr, binV_geq, unV_not, ncV_ptr, reduceIte, Nat.reduceEqDiff, Nat.reduceAdd, Nat.one_ne_zero, Nat.zero_ne_one, NK_at, NK_ptr, List.getElem?_cons_zero, List.getElem?_cons_succ, e4, eb, build72_2]
  generalize hh2 : (h.alloc (vlC x)).alloc [byteV 117, byteV (lowB t)] = h2 at *
  have hn' : SlOf strE 1 ((h2.alloc [V.str table, V.str column]).rb None_) (.sl h2.next 0 2 (some 2) 1) [table, column] := hn
  generalize hh3 : h2.alloc [V.str table, V.str column] = h3 at *
  refine (place cc3.wf c123.next hb3 (by simp) hn' (by simp) (by
    intro s hs'
    rcases List.mem_cons.1 hs' with rfl | hs'
    · exact hs
    · rw [List.mem_singleton.1 hs']; exact hs2)).mono ?_
  rintro _ h4 ⟨pv, ev, F4, rfl, p1, p2, g4⟩
  have hF : ∀ g, some (h.alloc (vlC x)).next = some g → h.next ≤ g := fun g hg => by cases hg; exact cc1.next
  have l60 : loadV Try.prog 60 (.ptr h.next 0) h4.read = some (.agg (vlC x)) := ((hA3.mono (g4.ch.rb (None_sub _))).mono (rb_le _ None_)).agg agg60 siz60 rfl (by decide)
  simp only [bd_some, bd2_some, bdB_some, byV_bool, byT_true, byT_false, KX_val, KX_new, kX_nx, kX_ex, kX_rt, kXB_nx, kXB_ex, kXB_rt, cells_byte, cells_bool, cells_int, cells_str, cells_ptr, cells_nils, cells_sl, cells_agg, XW_skip, XW_ret, XW_exit, E.get_cons, args, only, intX_int, tupX_tup, byte_neq, byte_eql, binV_add, binV_sub, binV_mul, binV_eql, binV_neq, binV_lss, binV_leq, binV_gtr, binV_geq, unV_not, ncV_ptr, reduceIte, Nat.reduceEqDiff, Nat.reduceAdd, Nat.one_ne_zero, Nat.zero_ne_one, NK_at, NK_ptr, List.getElem?_cons_zero, List.getElem?_cons_succ, l60]
  have pe : ev = 0 ↔ PlaceOk t [table, column] := by
    by_cases g : PlaceOk t [table, column]
    · exact ⟨fun _ => g, fun _ => (p1 g).1⟩
    · rw [p2 g]; exact ⟨fun g' => (by cases g'), fun g' => absurd g' g⟩
  by_cases g : PlaceOk t [table, column]
  · have hpl := placeB_len g
    simp only [List.length_cons, List.length_nil] at hpl
    refine (keyed (pre := [117, lowB t] ++ placeB [table, column]) g4.ch.wf (Nat.le_trans c123.next g4.ch.next) (fun _ => (p1 g).2) (by simp only [List.length_append, List.length_cons, List.length_nil]; omega) hx).mono ?_
    rintro _ h5 ⟨kv, er, F5, rfl, k1, k2, g5⟩
    obtain ⟨z1, z2⟩ := Gr.new wf c123 hF (g4.trans g5)
    simp only [bd_some, bd2_some, bdB_some, byV_bool, byT_true, byT_false, KX_val, KX_new, kX_nx, kX_ex, kX_rt, kXB_nx, kXB_ex, kXB_rt, cells_byte, cells_bool, cells_int, cells_str, cells_ptr, cells_nils, cells_sl, cells_agg, XW_skip, XW_ret, XW_exit, E.get_cons, args, only, intX_int, tupX_tup, byte_neq, byte_eql, binV_add, binV_sub, binV_mul, binV_eql, binV_neq, binV_lss, binV_leq, binV_gtr, binV_geq, unV_not, ncV_ptr, reduceIte, Nat.reduceEqDiff, Nat.reduceAdd, Nat.one_ne_zero, Nat.zero_ne_one, NK_at, NK_ptr, List.getElem?_cons_zero, List.getElem?_cons_succ, e29_rt]
    refine ⟨_, _, rfl, fun gg => ?_, fun gg => k2 fun g' => gg ⟨g, g'.2⟩, z1⟩
    obtain ⟨y1, y2⟩ := k1 ⟨pe.2 g, gg.2⟩
    exact ⟨y1, F5, y2, z2⟩
  · have hev : ev = 2 := p2 g
    refine (keyed (pre := []) (F := F4) g4.ch.wf (Nat.le_trans c123.next g4.ch.next) (fun g' => by rw [hev] at g'; cases g') (by simp) hx).mono ?_
    rintro _ h5 ⟨kv, er, F5, rfl, k1, k2, g5⟩
    obtain ⟨z1, z2⟩ := Gr.new wf c123 hF (g4.trans g5)
    simp only [bd_some, bd2_some, bdB_some, byV_bool, byT_true, byT_false, KX_val, KX_new, kX_nx, kX_ex, kX_rt, kXB_nx, kXB_ex, kXB_rt, cells_byte, cells_bool, cells_int, cells_str, cells_ptr, cells_nils, cells_sl, cells_agg, XW_skip, XW_ret, XW_exit, E.get_cons, args, only, intX_int, tupX_tup, byte_neq, byte_eql, binV_add, binV_sub, binV_mul, binV_eql, binV_neq, binV_lss, binV_leq, binV_gtr, binV_geq, unV_not, ncV_ptr, reduceIte, Nat.reduceEqDiff, Nat.reduceAdd, Nat.one_ne_zero, Nat.zero_ne_one, NK_at, NK_ptr, List.getElem?_cons_zero, List.getElem?_cons_succ, e29_rt]
    exact ⟨_, _, rfl, fun gg => absurd gg.1 g, fun gg => k2 fun g' => g (pe.1 g'.1), z1⟩
theorem buf_set {u t e : Nat} {v : V} {xs : List UInt8} {F : Option Nat} {i : Nat} {k : IntKind} (T : SlT Try.prog u e 1) (hs : size? Try.prog t = some 1) (wf : HWF h) (hb : BufB h lo v xs F) (hi : i < xs.length) (y : UInt8) :
    ∃ p h' f, addrV Try.prog u v (.int k (i : Int)) = some p ∧ storeV Try.prog lo t p (byteV y) h = some h' ∧ BufB h' lo v (xs.set i y) F ∧ Ch (· = f) (· = f) h h' ∧ F = some f := by
  rcases hb with ⟨_, h2, _⟩ | ⟨b, c, f, low, rfl, h2, h3, h4⟩
  · omega
  · refine ⟨.ptr b i, _, f, ?_, store_cell hs h2 rfl rfl (by simpa using hi), ?_, ch_put wf h2, h4⟩
    · unfold addrV
      simp only [T.u]
      rw [if_pos (by omega), if_pos T.s]
      simp
    · refine .inr ⟨b, c, f, b, by simp, ?_, by simp, h4⟩
      rw [owned_put_same h2]
      congr 2
      rw [List.map_set, List.set_eq_take_append_cons_drop, if_pos (by simpa using hi)]
      simp
/-- the keys between which a table's rows stand -/
def fromB (t : Int) (table : List UInt8) : List UInt8 := [114, lowB t] ++ table ++ [0]
def toB (t : Int) (table : List UInt8) : List UInt8 := [114, lowB t] ++ table ++ [1]
theorem rows {t : Int} {table : List UInt8} (wf : HWF h) (hlo : lo ≤ h.next) (hok : PlaceOk t [table]) : CW C 31 [.int .i64 t, .str table] lo h fun v h' =>
    ∃ av bv, v = .tup [av, bv, .int .i64 0] ∧ Bytes h'.read av (fromB t table) ∧ Bytes h'.read bv (toB t table) ∧ Ch None_ None_ h h' := by
  refine CW.low hS hlo (enter31 rfl ?_)
  have e4 := conv_int (P := Try.prog) (rd := h.read) Try.underlying3 Try.underlying5 .i64 t
  rw [byteV_low] at e4
  have cc2 := ch_alloc wf [byteV 114, byteV (lowB t)]
  have cc3 := ch_alloc cc2.wf [V.str table]
  have hn := str_new (l := [table]) cc2.wf
  have c123 := cc2.trans cc3
  have hb : BufB (h.alloc [byteV 114, byteV (lowB t)]) h.next (.sl h.next 0 2 (some 2) 1) [114, lowB t] (some h.next) := Buf.new (Nat.le_refl _) rfl
  have hb3 := Buf.ch hb cc3 fun _ _ h => h
  have eb : buildSliceV Try.prog 22 2 [(0, .int .u8 114), (1, byteV (lowB t))] = some (.new [byteV 114, byteV (lowB t)] (.sl 2 (some 2) 1)) := build22_2 _ _
  simp only [q31_0, bd_some, bd2_some, bdB_some, byV_bool, byT_true, byT_false, KX_val, KX_new, kX_nx, kX_ex, kX_rt, kXB_nx, kXB_ex, kXB_rt, cells_byte, cells_bool, cells_int, cells_str, cells_ptr, cells_nils, cells_sl, cells_agg, XW_skip, XW_ret, XW_exit, E.get_cons, args, only, intX_int, tupX_tup, byte_neq, byte_eql, binV_add, binV_sub, binV_mul, binV_eql, binV_neq, binV_lss, binV_leq, binV_gtr, binV_geq, unV_not, ncV_ptr, reduceIte, Nat.reduceEqDiff, Nat.reduceAdd, Nat.one_ne_zero, Nat.zero_ne_one, NK_at, NK_ptr, List.getElem?_cons_zero, List.getElem?_cons_succ, e4, eb, build72_1]
  generalize hh2 : h.alloc [byteV 114, byteV (lowB t)] = h2 at *
  have hn' : SlOf strE 1 ((h2.alloc [V.str table]).rb None_) (.sl h2.next 0 1 (some 1) 1) [table] := hn
  generalize hh3 : h2.alloc [V.str table] = h3 at *
  have hN := hok.2 table List.mem_cons_self
  have hN2 := hN.2.2
  refine (place cc3.wf c123.next hb3 (by simp) hn' (by simp) (by intro s hs'; rw [List.mem_singleton.1 hs']; omega)).mono ?_
  rintro _ h4 ⟨pv, ev, F4, rfl, p1, _, g4⟩
  obtain ⟨rfl, hp⟩ := p1 hok
  have hF : ∀ g, some h.next = some g → h.next ≤ g := fun g hg => by cases hg; exact Nat.le_refl _
  obtain ⟨z1, z2⟩ := Gr.new wf c123 hF g4
  have e1 : [114, lowB t] ++ placeB [table] = fromB t table := by simp [placeB, fromB]
  rw [e1] at hp
  have e0 : ((0 : Int) != 0) = false := by decide
  simp only [bd_some, bd2_some, bdB_some, byV_bool, byT_true, byT_false, KX_val, KX_new, kX_nx, kX_ex, kX_rt, kXB_nx, kXB_ex, kXB_rt, cells_byte, cells_bool, cells_int, cells_str, cells_ptr, cells_nils, cells_sl, cells_agg, XW_skip, XW_ret, XW_exit, E.get_cons, args, only, intX_int, tupX_tup, byte_neq, byte_eql, binV_add, binV_sub, binV_mul, binV_eql, binV_neq, binV_lss, binV_leq, binV_gtr, binV_geq, unV_not, ncV_ptr, reduceIte, Nat.reduceEqDiff, Nat.reduceAdd, Nat.one_ne_zero, Nat.zero_ne_one, NK_at, NK_ptr, List.getElem?_cons_zero, List.getElem?_cons_succ, e0, q31_2]
  have hfl : (fromB t table).length = table.length + 3 := by simp [fromB]
  refine (clone g4.ch.wf z1.next (NewBytes.rd (h0 := h) g4.ch.wf ⟨F4, hp, z2⟩) (by omega)).mono ?_
  rintro tv h5 ⟨⟨F5, hb5, hF5⟩, c5'⟩
  have hb5' := BufB.lower z1.next hb5
  obtain ⟨p, h6, f, a1, a2, a3, a4, a5⟩ := buf_set (k := .i64) (i := table.length + 2) t22 c5.s c5'.wf hb5' (by omega) 1
  have el := (Buf.bytes (X := None_) c5'.wf hb5' (fun _ _ h => h)).len t22
  have e6 : IntKind.wrap .i64 (((fromB t table).length : Int) - 1) = ((table.length + 2 : Nat) : Int) := by
    rw [hfl]
    simp [IntKind.wrap, IntKind.bits, IntKind.signed]
    omega
  have ebv : V.int .u8 1 = byteV 1 := rfl
  simp only [el, bd_some, bd2_some, bdB_some, byV_bool, byT_true, byT_false, KX_val, KX_new, kX_nx, kX_ex, kX_rt, kXB_nx, kXB_ex, kXB_rt, cells_byte, cells_bool, cells_int, cells_str, cells_ptr, cells_nils, cells_sl, cells_agg, XW_skip, XW_ret, XW_exit, E.get_cons, args, only, intX_int, tupX_tup, byte_neq, byte_eql, binV_add, binV_sub, binV_mul, binV_eql, binV_neq, binV_lss, binV_leq, binV_gtr, binV_geq, unV_not, ncV_ptr, reduceIte, Nat.reduceEqDiff, Nat.reduceAdd, Nat.one_ne_zero, Nat.zero_ne_one, NK_at, NK_ptr, List.getElem?_cons_zero, List.getElem?_cons_succ, e6, a1, ebv, a2, e31_rt]
  have hf5 := hF5 f a5
  have e7 : (fromB t table).set (table.length + 2) 1 = toB t table := by
    unfold fromB toB
    rw [List.set_append_right _ _ (by simp)]
    simp
  rw [e7] at a3
  have hp5 := Buf.ch hp c5' fun _ _ h => h
  have hp6 := Buf.ch hp5 a4 fun g hg hgf => by
    have := hp.lt g4.ch.wf hg
    omega
  refine ⟨_, _, rfl, (Buf.bytes (X := None_) a4.wf hp6 fun _ _ h => h).mono (rb_le _ _), (Buf.bytes (X := None_) a4.wf a3 fun _ _ h => h).mono (rb_le _ _), ?_⟩
  refine ((z1.trans c5').mono (None_sub fun g => g = f) (None_sub fun g => g = f) |>.trans a4).old wf (fun g hg hg' => ?_) (fun g hg hg' => ?_)
  · have := z1.next; omega
  · have := z1.next; omega
end
end Go.Proofs.Ytghmbmblhdgabaa
