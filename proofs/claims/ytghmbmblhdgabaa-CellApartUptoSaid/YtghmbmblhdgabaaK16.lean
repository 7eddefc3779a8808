/- A value's key. -/
import Derived.Test.YtghmbmblhdgabaaCodeO
import Derived.Test.YtghmbmblhdgabaaK4
set_option linter.all false
namespace Go.Proofs.Ytghmbmblhdgabaa
open Go Go.Den Code
set_option maxRecDepth 100000
def esc (s : List UInt8) : List UInt8 := s.flatMap fun c => if c = 0 then [0, 255] else [c]
def topX (u : Int) : Int := IntKind.wrap .u64 ((BitVec.ofInt 64 u ^^^ BitVec.ofInt 64 9223372036854775808).toNat : Int)
def keyBody (x : Vl) : List UInt8 :=
  if x.k.toNat = 1 then [lowB x.n]
  else if x.k.toNat = 2 ∨ x.k.toNat = 3 then eightB (topX (IntKind.wrap .u64 x.n))
  else if x.k.toNat = 4 ∨ x.k.toNat = 5 then esc x.s ++ [0, 0]
  else []
def keyB (x : Vl) : List UInt8 := x.k :: keyBody x
def keyErr (x : Vl) : Int := if rightV x = false then 2 else if (x.k.toNat = 4 ∨ x.k.toNat = 5) ∧ 36 < x.s.length then 3 else 0
theorem index_str {P : Program} {t : Nat} (hu : P.underlying t = some .string) {s : List UInt8} {i : Nat} (hi : i < s.length) : indexV P t (.str s) (.int .i64 (i : Int)) = some (byteV s[i]) := by
  simp only [indexV, hu]
  rw [if_pos (by omega)]
  simp only [Int.toNat_natCast, List.getElem?_eq_getElem hi]
  rfl
theorem esc_len (s : List UInt8) : (esc s).length ≤ 2 * s.length := by
  unfold esc
  induction s with
  | nil => simp
  | cons c r ih =>
    simp only [List.flatMap_cons, List.length_append, List.length_cons]
    split <;> simp only [List.length_cons, List.length_nil] <;> omega
theorem build2 : buildSliceV Try.prog 22 2 [(0, .int .u8 0), (1, .int .u8 0)] = some (.new [byteV 0, byteV 0] (.sl 2 (some 2) 1)) := by kernel_rfl
section
variable {x : Vl} {lo : Nat}
/-- the text's bytes -/
theorem key_text {h : H} {bv : Nat} {v : V} {pre : List UInt8} {F : Option Nat} (wf : HWF h) (hlo : lo ≤ h.next) (hb : BufB h lo v pre F) (hpre : pre.length ≤ 1000) (hs : x.s.length ≤ 36) (hA : At (h.rb None_) bv 0 (vlC x)) {Q : XQ} {e : E}
    (g1 : E.get e 1 = .ptr bv 0) (g4 : E.get e 4 = v)
    (hQ : ∀ v' h' F' e', BufB h' lo v' (pre ++ (esc x.s ++ [0, 0])) F' → Gr h F h' F' → E.get e' 4 = v' → Q .nx e' h') : XW C lo x33_14 Q e h := by
  have l2 : ∀ {h' : H} {F' : Option Nat}, Gr h F h' F' → loadV Try.prog 9 (.ptr bv (0 + 2)) h'.read = some (.str x.s) := fun g => ((hA.mono (g.ch.rb (None_sub _))).mono (rb_le _ None_)).cell c9 rfl
  simp only [q33_14, bd_some, bd2_some, bdB_some, byV_bool, byT_true, byT_false, KX_val, KX_new, kX_nx, kX_ex, kX_rt, kXB_nx, kXB_ex, kXB_rt, cells_byte, cells_bool, cells_int, cells_str, cells_ptr, cells_nils, cells_sl, cells_agg, XW_skip, XW_ret, XW_exit, E.get_cons, args, only, intX_int, tupX_tup, byte_neq, byte_eql, binV_add, binV_sub, binV_mul, binV_eql, binV_neq, binV_lss, binV_leq, binV_gtr, binV_geq, unV_not, ncV_ptr, reduceIte, Nat.reduceEqDiff, Nat.reduceAdd, Nat.one_ne_zero, Nat.zero_ne_one, NK_at, NK_ptr, List.getElem?_cons_zero, List.getElem?_cons_succ, g1, fa60_2, l2 (Gr.refl wf F), strLen Try.underlying9, q33_15]
  refine rounds (fun m e' h' => ∃ (i : Nat) (v' : V) (F' : Option Nat), e' = [(1, .ptr bv 0), (4, v'), (40, .int .i64 (x.s.length : Int)), (41, .int .i64 (i : Int))] ∧ i ≤ x.s.length ∧ m = x.s.length - i ∧ BufB h' lo v' (pre ++ esc (x.s.take i)) F' ∧ Gr h F h' F') ?_ x.s.length
    ⟨0, v, F, by simp only [bd_some, bd2_some, bdB_some, byV_bool, byT_true, byT_false, KX_val, KX_new, kX_nx, kX_ex, kX_rt, kXB_nx, kXB_ex, kXB_rt, cells_byte, cells_bool, cells_int, cells_str, cells_ptr, cells_nils, cells_sl, cells_agg, XW_skip, XW_ret, XW_exit, E.get_cons, args, only, intX_int, tupX_tup, byte_neq, byte_eql, binV_add, binV_sub, binV_mul, binV_eql, binV_neq, binV_lss, binV_leq, binV_gtr, binV_geq, unV_not, ncV_ptr, reduceIte, Nat.reduceEqDiff, Nat.reduceAdd, Nat.one_ne_zero, Nat.zero_ne_one, NK_at, NK_ptr, List.getElem?_cons_zero, List.getElem?_cons_succ, g1, g4]; rfl, Nat.zero_le _, rfl, by simpa [esc] using hb, Gr.refl wf F⟩
  rintro m e' h' ⟨i, v', F', rfl, hi, rfl, hb', g⟩
  simp only [q33_16, bd_some, bd2_some, bdB_some, byV_bool, byT_true, byT_false, KX_val, KX_new, kX_nx, kX_ex, kX_rt, kXB_nx, kXB_ex, kXB_rt, cells_byte, cells_bool, cells_int, cells_str, cells_ptr, cells_nils, cells_sl, cells_agg, XW_skip, XW_ret, XW_exit, E.get_cons, args, only, intX_int, tupX_tup, byte_neq, byte_eql, binV_add, binV_sub, binV_mul, binV_eql, binV_neq, binV_lss, binV_leq, binV_gtr, binV_geq, unV_not, ncV_ptr, reduceIte, Nat.reduceEqDiff, Nat.reduceAdd, Nat.one_ne_zero, Nat.zero_ne_one, NK_at, NK_ptr, List.getElem?_cons_zero, List.getElem?_cons_succ]
  refine byT_dec (fun hlt => ?_) (fun hge => ?_)
  · have hlt : i < x.s.length := by omega
    have hel := esc_len (x.s.take i)
    have htl : (x.s.take i).length ≤ x.s.length := by simp; omega
    have hpl : (pre ++ esc (x.s.take i)).length ≤ 2000 := by simp only [List.length_append]; omega
    obtain ⟨v2, h2, F2, x1, x2, x3⟩ := append_byte a22 g.ch.wf (Nat.le_trans hlo g.ch.next) hb' x.s[i] (by omega)
    have e5 := add64 (a := i) (b := 1) (by omega)
    simp only [Int.cast_ofNat_Int] at e5
    have elit : ∀ c : UInt8, binV Try.prog .eql 5 (byteV c) (.int .u8 0) = some (.bool (decide (c = 0))) := fun c => byte_eql 5 c 0
    simp only [q33_17, q33_18, bd_some, bd2_some, bdB_some, byV_bool, byT_true, byT_false, KX_val, KX_new, kX_nx, kX_ex, kX_rt, kXB_nx, kXB_ex, kXB_rt, cells_byte, cells_bool, cells_int, cells_str, cells_ptr, cells_nils, cells_sl, cells_agg, XW_skip, XW_ret, XW_exit, E.get_cons, args, only, intX_int, tupX_tup, byte_neq, byte_eql, binV_add, binV_sub, binV_mul, binV_eql, binV_neq, binV_lss, binV_leq, binV_gtr, binV_geq, unV_not, ncV_ptr, reduceIte, Nat.reduceEqDiff, Nat.reduceAdd, Nat.one_ne_zero, Nat.zero_ne_one, NK_at, NK_ptr, List.getElem?_cons_zero, List.getElem?_cons_succ, fa60_2, l2 g, index_str Try.underlying9 hlt, buildSlice_one b22 (v := byteV x.s[i]) rfl, x1, l2 (g.trans x3), elit]
    have etk : esc (x.s.take (i + 1)) = esc (x.s.take i) ++ (if x.s[i] = 0 then [0, 255] else [x.s[i]]) := by
      unfold esc
      rw [List.take_add_one, List.getElem?_eq_getElem hlt, List.flatMap_append]
      simp
    refine byT_dec (fun h0 => ?_) (fun h0 => ?_)
    · obtain ⟨v3, h3, F3, y1, y2, y3⟩ := append_byte a22 x3.ch.wf (Nat.le_trans hlo (Nat.le_trans g.ch.next x3.ch.next)) x2 255 (by simp only [List.length_append, List.length_cons, List.length_nil] at *; omega)
      have eb : V.int .u8 255 = byteV 255 := rfl
      simp only [q33_19, bd_some, bd2_some, bdB_some, byV_bool, byT_true, byT_false, KX_val, KX_new, kX_nx, kX_ex, kX_rt, kXB_nx, kXB_ex, kXB_rt, cells_byte, cells_bool, cells_int, cells_str, cells_ptr, cells_nils, cells_sl, cells_agg, XW_skip, XW_ret, XW_exit, E.get_cons, args, only, intX_int, tupX_tup, byte_neq, byte_eql, binV_add, binV_sub, binV_mul, binV_eql, binV_neq, binV_lss, binV_leq, binV_gtr, binV_geq, unV_not, ncV_ptr, reduceIte, Nat.reduceEqDiff, Nat.reduceAdd, Nat.one_ne_zero, Nat.zero_ne_one, NK_at, NK_ptr, List.getElem?_cons_zero, List.getElem?_cons_succ, eb, buildSlice_one b22 (v := byteV 255) rfl, y1, q33_20, q33_21, e5]
      refine ⟨x.s.length - (i + 1), by omega, i + 1, v3, F3, rfl, by omega, rfl, ?_, (g.trans x3).trans y3⟩
      rw [etk, if_pos h0]
      rw [h0] at y2
      have e6 : pre ++ (esc (x.s.take i) ++ [0, 255]) = pre ++ esc (x.s.take i) ++ [0] ++ [255] := by simp
      rw [e6]
      exact y2
    · simp only [bd_some, bd2_some, bdB_some, byV_bool, byT_true, byT_false, KX_val, KX_new, kX_nx, kX_ex, kX_rt, kXB_nx, kXB_ex, kXB_rt, cells_byte, cells_bool, cells_int, cells_str, cells_ptr, cells_nils, cells_sl, cells_agg, XW_skip, XW_ret, XW_exit, E.get_cons, args, only, intX_int, tupX_tup, byte_neq, byte_eql, binV_add, binV_sub, binV_mul, binV_eql, binV_neq, binV_lss, binV_leq, binV_gtr, binV_geq, unV_not, ncV_ptr, reduceIte, Nat.reduceEqDiff, Nat.reduceAdd, Nat.one_ne_zero, Nat.zero_ne_one, NK_at, NK_ptr, List.getElem?_cons_zero, List.getElem?_cons_succ, q33_20, q33_21, e5]
      refine ⟨x.s.length - (i + 1), by omega, i + 1, v2, F2, rfl, by omega, rfl, ?_, g.trans x3⟩
      rw [etk, if_neg h0, ← List.append_assoc]
      exact x2
  · have hil : i = x.s.length := by omega
    subst hil
    rw [List.take_length] at hb'
    have hel := esc_len x.s
    have c1 := ch_alloc g.ch.wf [byteV 0, byteV 0]
    obtain ⟨v3, h3, F3, y1, y2, y3⟩ := append_bytes (ys := [0, 0]) a22 c1.wf (Nat.le_trans hlo (Nat.le_trans g.ch.next c1.next)) (Buf.ch hb' c1 fun _ _ h => h) (elems_new (c := some 2) g.ch.wf (n := 2) (es := 1) rfl) (by simp only [List.length_append, List.length_cons, List.length_nil]; omega)
    simp only [bd_some, bd2_some, bdB_some, byV_bool, byT_true, byT_false, KX_val, KX_new, kX_nx, kX_ex, kX_rt, kXB_nx, kXB_ex, kXB_rt, cells_byte, cells_bool, cells_int, cells_str, cells_ptr, cells_nils, cells_sl, cells_agg, XW_skip, XW_ret, XW_exit, E.get_cons, args, only, intX_int, tupX_tup, byte_neq, byte_eql, binV_add, binV_sub, binV_mul, binV_eql, binV_neq, binV_lss, binV_leq, binV_gtr, binV_geq, unV_not, ncV_ptr, reduceIte, Nat.reduceEqDiff, Nat.reduceAdd, Nat.one_ne_zero, Nat.zero_ne_one, NK_at, NK_ptr, List.getElem?_cons_zero, List.getElem?_cons_succ, q33_22, build2, y1]
    refine hQ v3 h3 F3 _ ?_ ((g.trans (Gr.of c1)).trans y3) (by simp only [bd_some, bd2_some, bdB_some, byV_bool, byT_true, byT_false, KX_val, KX_new, kX_nx, kX_ex, kX_rt, kXB_nx, kXB_ex, kXB_rt, cells_byte, cells_bool, cells_int, cells_str, cells_ptr, cells_nils, cells_sl, cells_agg, XW_skip, XW_ret, XW_exit, E.get_cons, args, only, intX_int, tupX_tup, byte_neq, byte_eql, binV_add, binV_sub, binV_mul, binV_eql, binV_neq, binV_lss, binV_leq, binV_gtr, binV_geq, unV_not, ncV_ptr, reduceIte, Nat.reduceEqDiff, Nat.reduceAdd, Nat.one_ne_zero, Nat.zero_ne_one, NK_at, NK_ptr, List.getElem?_cons_zero, List.getElem?_cons_succ])
    rw [← List.append_assoc]
    exact y2
/-- what a key is told as -/
def KeyPost (h : H) (x : Vl) (v : V) (h' : H) : Prop := ∃ kv, v = .tup [kv, .int .i64 (keyErr x)] ∧ (if keyErr x = 0 then NewBytes h h' kv (keyB x) else kv = .nils) ∧ Ch None_ None_ h h'
theorem key {h : H} (wf : HWF h) (hlo : lo ≤ h.next) (hx : x.ok) : CW C 33 [.agg (vlC x)] lo h (KeyPost h x) := by
  refine CW.low hS hlo (enter33 rfl ?_)
  have cc1 := ch_alloc wf (vlC x)
  have hA1 : At ((h.alloc (vlC x)).rb None_) h.next 0 (vlC x) := at_owned cc1.wf (owned_alloc_new (Nat.le_refl _)) None_ id
  have l60 : loadV Try.prog 60 (.ptr h.next 0) (h.alloc (vlC x)).read = some (.agg (vlC x)) := (at_new wf (vlC x)).agg agg60 siz60 rfl (by decide)
  simp only [q33_0, bd_some, bd2_some, bdB_some, byV_bool, byT_true, byT_false, KX_val, KX_new, kX_nx, kX_ex, kX_rt, kXB_nx, kXB_ex, kXB_rt, cells_byte, cells_bool, cells_int, cells_str, cells_ptr, cells_nils, cells_sl, cells_agg, XW_skip, XW_ret, XW_exit, E.get_cons, args, only, intX_int, tupX_tup, byte_neq, byte_eql, binV_add, binV_sub, binV_mul, binV_eql, binV_neq, binV_lss, binV_leq, binV_gtr, binV_geq, unV_not, ncV_ptr, reduceIte, Nat.reduceEqDiff, Nat.reduceAdd, Nat.one_ne_zero, Nat.zero_ne_one, NK_at, NK_ptr, List.getElem?_cons_zero, List.getElem?_cons_succ, l60]
  refine (rightOf cc1.wf hx).mono ?_
  rintro _ h2 ⟨rfl, cc2⟩
  have cc12 := cc1.trans cc2
  have hA2 := hA1.mono (cc2.rb (None_sub None_))
  simp only [bd_some, bd2_some, bdB_some, byV_bool, byT_true, byT_false, KX_val, KX_new, kX_nx, kX_ex, kX_rt, kXB_nx, kXB_ex, kXB_rt, cells_byte, cells_bool, cells_int, cells_str, cells_ptr, cells_nils, cells_sl, cells_agg, XW_skip, XW_ret, XW_exit, E.get_cons, args, only, intX_int, tupX_tup, byte_neq, byte_eql, binV_add, binV_sub, binV_mul, binV_eql, binV_neq, binV_lss, binV_leq, binV_gtr, binV_geq, unV_not, ncV_ptr, reduceIte, Nat.reduceEqDiff, Nat.reduceAdd, Nat.one_ne_zero, Nat.zero_ne_one, NK_at, NK_ptr, List.getElem?_cons_zero, List.getElem?_cons_succ]
  refine byT_mk (fun hn => ?_) (fun hn => ?_)
  · have hn : rightV x = false := by simpa using hn
    have e : keyErr x = 2 := by unfold keyErr; rw [if_pos hn]
    simp only [q33_1, bd_some, bd2_some, bdB_some, byV_bool, byT_true, byT_false, KX_val, KX_new, kX_nx, kX_ex, kX_rt, kXB_nx, kXB_ex, kXB_rt, cells_byte, cells_bool, cells_int, cells_str, cells_ptr, cells_nils, cells_sl, cells_agg, XW_skip, XW_ret, XW_exit, E.get_cons, args, only, intX_int, tupX_tup, byte_neq, byte_eql, binV_add, binV_sub, binV_mul, binV_eql, binV_neq, binV_lss, binV_leq, binV_gtr, binV_geq, unV_not, ncV_ptr, reduceIte, Nat.reduceEqDiff, Nat.reduceAdd, Nat.one_ne_zero, Nat.zero_ne_one, NK_at, NK_ptr, List.getElem?_cons_zero, List.getElem?_cons_succ, e33_rt]
    unfold KeyPost
    rw [e]
    exact ⟨.nils, rfl, rfl, cc12⟩
  · have hn : rightV x = true := by simpa using hn
    have l0 : loadV Try.prog 58 (.ptr h.next 0) h2.read = some (byteV x.k) := (hA2.mono (rb_le _ _)).cell0 c58 rfl
    have cc3 := ch_alloc cc2.wf [byteV x.k]
    have hA3 := hA2.mono (cc3.rb (None_sub None_))
    have l03 : loadV Try.prog 58 (.ptr h.next 0) (h2.alloc [byteV x.k]).read = some (byteV x.k) := (hA3.mono (rb_le _ _)).cell0 c58 rfl
    have l1 : loadV Try.prog 2 (.ptr h.next (0 + 1)) (h2.alloc [byteV x.k]).read = some (.int .i64 x.n) := (hA3.mono (rb_le _ _)).cell c2 rfl
    have l2 : loadV Try.prog 9 (.ptr h.next (0 + 2)) (h2.alloc [byteV x.k]).read = some (.str x.s) := (hA3.mono (rb_le _ _)).cell c9 rfl
    have hb : BufB (h2.alloc [byteV x.k]) h.next (.sl h2.next 0 1 (some 1) 1) [x.k] (some h2.next) := Buf.new cc12.next rfl
    have hlo3 : h.next ≤ (h2.alloc [byteV x.k]).next := Nat.le_trans cc12.next cc3.next
    have cc123 := cc12.trans cc3
    -- the end
    have fin : ∀ {v h' F'}, keyErr x = 0 → BufB h' h.next v (keyB x) F' → Gr (h2.alloc [byteV x.k]) (some h2.next) h' F' → KeyPost h x (.tup [v, .int .i64 0]) h' := by
      intro v h' F' he hb' g
      unfold KeyPost
      rw [he]
      refine ⟨v, rfl, ?_, (cc123.mono (fun _ h => h) (None_sub fun g => some h2.next = some g ∨ (h2.alloc [byteV x.k]).next ≤ g)).trans g.ch |>.old wf (fun _ h _ => h) fun f h1 h2' => ?_⟩
      · rw [if_pos rfl]
        refine ⟨F', hb', fun f hf => ?_⟩
        rcases g.F f hf with h1 | h1
        · cases h1; exact cc12.next
        · exact Nat.le_trans hlo3 h1
      · rcases h1 with h1 | h1
        · cases h1; have := cc12.next; omega
        · have := Nat.le_trans hlo3 h1; omega
    have hk : ∀ n, binV Try.prog .eql 58 (byteV x.k) (.int .u8 n) = some (.bool ((x.k.toNat : Int) == n)) := fun n => binV_eql 58 .u8 _ _
    have wf3 := cc3.wf
    simp only [q33_2, bd_some, bd2_some, bdB_some, byV_bool, byT_true, byT_false, KX_val, KX_new, kX_nx, kX_ex, kX_rt, kXB_nx, kXB_ex, kXB_rt, cells_byte, cells_bool, cells_int, cells_str, cells_ptr, cells_nils, cells_sl, cells_agg, XW_skip, XW_ret, XW_exit, E.get_cons, args, only, intX_int, tupX_tup, byte_neq, byte_eql, binV_add, binV_sub, binV_mul, binV_eql, binV_neq, binV_lss, binV_leq, binV_gtr, binV_geq, unV_not, ncV_ptr, reduceIte, Nat.reduceEqDiff, Nat.reduceAdd, Nat.one_ne_zero, Nat.zero_ne_one, NK_at, NK_ptr, List.getElem?_cons_zero, List.getElem?_cons_succ, fa60_0, l0, buildSlice_one b22 (v := byteV x.k) rfl, l03, q33_3, hk]
    generalize h2.alloc [byteV x.k] = h3 at *
    generalize V.sl h2.next 0 1 (some 1) 1 = v0 at *
    refine byT_mk (fun h1 => ?_) (fun h1 => ?_)
    · have k1 : x.k.toNat = 1 := by simp only [beqI] at h1; omega
      have e : keyErr x = 0 := by unfold keyErr; rw [if_neg (by simp [hn]), if_neg (by omega)]
      have eb : keyB x = [x.k] ++ [lowB x.n] := by simp [keyB, keyBody, k1]
      have e4 := conv_int (P := Try.prog) (rd := h3.read) Try.underlying2 Try.underlying5 .i64 x.n
      rw [byteV_low] at e4
      obtain ⟨v2, h4, F2, x1, x2, x3⟩ := append_byte a22 wf3 hlo3 hb (lowB x.n) (by simp)
      simp only [q33_4, bd_some, bd2_some, bdB_some, byV_bool, byT_true, byT_false, KX_val, KX_new, kX_nx, kX_ex, kX_rt, kXB_nx, kXB_ex, kXB_rt, cells_byte, cells_bool, cells_int, cells_str, cells_ptr, cells_nils, cells_sl, cells_agg, XW_skip, XW_ret, XW_exit, E.get_cons, args, only, intX_int, tupX_tup, byte_neq, byte_eql, binV_add, binV_sub, binV_mul, binV_eql, binV_neq, binV_lss, binV_leq, binV_gtr, binV_geq, unV_not, ncV_ptr, reduceIte, Nat.reduceEqDiff, Nat.reduceAdd, Nat.one_ne_zero, Nat.zero_ne_one, NK_at, NK_ptr, List.getElem?_cons_zero, List.getElem?_cons_succ, fa60_1, l1, e4, buildSlice_one b22 (v := byteV (lowB x.n)) rfl, x1, q33_25, q33_26, e33_rt]
      exact fin e (by rw [eb]; exact x2) x3
    · have k1 : ¬ x.k.toNat = 1 := by simp only [beqIf] at h1; omega
      have end8 : ∀ {Q' : XQ} {e : E}, E.get e 4 = v0 → E.get e 1 = .ptr h.next 0 → (x.k.toNat = 2 ∨ x.k.toNat = 3) → (∀ v' h' e', E.get e' 4 = v' → KeyPost h x (.tup [v', .int .i64 0]) h' → Q' .nx e' h') → XW C h.next x33_8 Q' e h3 := by
        intro Q' e g4 g1 hk2 hQ'
        have e : keyErr x = 0 := by unfold keyErr; rw [if_neg (by simp [hn]), if_neg (by omega)]
        have eb : keyB x = [x.k] ++ eightB (topX (IntKind.wrap .u64 x.n)) := by simp [keyB, keyBody, k1, hk2]
        have e4 := conv_int (P := Try.prog) (rd := h3.read) Try.underlying2 Try.underlying92 .i64 x.n
        have ex : binV Try.prog .xor 92 (.int .u64 (IntKind.wrap .u64 x.n)) (.int .u64 9223372036854775808) = some (.int .u64 (topX (IntKind.wrap .u64 x.n))) := by
          simp only [binV, intOp, if_true]
          rfl
        simp only [q33_8, bd_some, bd2_some, bdB_some, byV_bool, byT_true, byT_false, KX_val, KX_new, kX_nx, kX_ex, kX_rt, kXB_nx, kXB_ex, kXB_rt, cells_byte, cells_bool, cells_int, cells_str, cells_ptr, cells_nils, cells_sl, cells_agg, XW_skip, XW_ret, XW_exit, E.get_cons, args, only, intX_int, tupX_tup, byte_neq, byte_eql, binV_add, binV_sub, binV_mul, binV_eql, binV_neq, binV_lss, binV_leq, binV_gtr, binV_geq, unV_not, ncV_ptr, reduceIte, Nat.reduceEqDiff, Nat.reduceAdd, Nat.one_ne_zero, Nat.zero_ne_one, NK_at, NK_ptr, List.getElem?_cons_zero, List.getElem?_cons_succ, g1, g4, fa60_1, l1, e4, ex]
        refine (eight wf3 hlo3 hb (by simp)).mono ?_
        rintro v' h' ⟨F', y1, y2⟩
        exact hQ' v' h' _ (by simp only [bd_some, bd2_some, bdB_some, byV_bool, byT_true, byT_false, KX_val, KX_new, kX_nx, kX_ex, kX_rt, kXB_nx, kXB_ex, kXB_rt, cells_byte, cells_bool, cells_int, cells_str, cells_ptr, cells_nils, cells_sl, cells_agg, XW_skip, XW_ret, XW_exit, E.get_cons, args, only, intX_int, tupX_tup, byte_neq, byte_eql, binV_add, binV_sub, binV_mul, binV_eql, binV_neq, binV_lss, binV_leq, binV_gtr, binV_geq, unV_not, ncV_ptr, reduceIte, Nat.reduceEqDiff, Nat.reduceAdd, Nat.one_ne_zero, Nat.zero_ne_one, NK_at, NK_ptr, List.getElem?_cons_zero, List.getElem?_cons_succ]) (fin e (by rw [eb]; exact y1) y2)
      have end12 : ∀ {Q' : XQ} {e : E}, E.get e 4 = v0 → E.get e 1 = .ptr h.next 0 → ¬ (x.k.toNat = 2 ∨ x.k.toNat = 3) → (x.k.toNat = 4 ∨ x.k.toNat = 5) → (∀ v' h' e', E.get e' 4 = v' → KeyPost h x (.tup [v', .int .i64 0]) h' → Q' .nx e' h') →
          (∀ e', E.get e' 2 = .nils → E.get e' 3 = .int .i64 3 → KeyPost h x (.tup [.nils, .int .i64 3]) h3 → Q' .rt e' h3) → XW C h.next x33_12 Q' e h3 := by
        intro Q' e g4 g1 k23 hk4 hQ' hR'
        simp only [q33_12, bd_some, bd2_some, bdB_some, byV_bool, byT_true, byT_false, KX_val, KX_new, kX_nx, kX_ex, kX_rt, kXB_nx, kXB_ex, kXB_rt, cells_byte, cells_bool, cells_int, cells_str, cells_ptr, cells_nils, cells_sl, cells_agg, XW_skip, XW_ret, XW_exit, E.get_cons, args, only, intX_int, tupX_tup, byte_neq, byte_eql, binV_add, binV_sub, binV_mul, binV_eql, binV_neq, binV_lss, binV_leq, binV_gtr, binV_geq, unV_not, ncV_ptr, reduceIte, Nat.reduceEqDiff, Nat.reduceAdd, Nat.one_ne_zero, Nat.zero_ne_one, NK_at, NK_ptr, List.getElem?_cons_zero, List.getElem?_cons_succ, g1, fa60_2, l2, strLen Try.underlying9]
        refine byT_dec (fun h36 => ?_) (fun h36 => ?_)
        · have e : keyErr x = 3 := by unfold keyErr; rw [if_neg (by simp [hn]), if_pos ⟨hk4, by omega⟩]
          simp only [q33_13, bd_some, bd2_some, bdB_some, byV_bool, byT_true, byT_false, KX_val, KX_new, kX_nx, kX_ex, kX_rt, kXB_nx, kXB_ex, kXB_rt, cells_byte, cells_bool, cells_int, cells_str, cells_ptr, cells_nils, cells_sl, cells_agg, XW_skip, XW_ret, XW_exit, E.get_cons, args, only, intX_int, tupX_tup, byte_neq, byte_eql, binV_add, binV_sub, binV_mul, binV_eql, binV_neq, binV_lss, binV_leq, binV_gtr, binV_geq, unV_not, ncV_ptr, reduceIte, Nat.reduceEqDiff, Nat.reduceAdd, Nat.one_ne_zero, Nat.zero_ne_one, NK_at, NK_ptr, List.getElem?_cons_zero, List.getElem?_cons_succ]
          refine hR' _ (by simp only [bd_some, bd2_some, bdB_some, byV_bool, byT_true, byT_false, KX_val, KX_new, kX_nx, kX_ex, kX_rt, kXB_nx, kXB_ex, kXB_rt, cells_byte, cells_bool, cells_int, cells_str, cells_ptr, cells_nils, cells_sl, cells_agg, XW_skip, XW_ret, XW_exit, E.get_cons, args, only, intX_int, tupX_tup, byte_neq, byte_eql, binV_add, binV_sub, binV_mul, binV_eql, binV_neq, binV_lss, binV_leq, binV_gtr, binV_geq, unV_not, ncV_ptr, reduceIte, Nat.reduceEqDiff, Nat.reduceAdd, Nat.one_ne_zero, Nat.zero_ne_one, NK_at, NK_ptr, List.getElem?_cons_zero, List.getElem?_cons_succ]) (by simp only [bd_some, bd2_some, bdB_some, byV_bool, byT_true, byT_false, KX_val, KX_new, kX_nx, kX_ex, kX_rt, kXB_nx, kXB_ex, kXB_rt, cells_byte, cells_bool, cells_int, cells_str, cells_ptr, cells_nils, cells_sl, cells_agg, XW_skip, XW_ret, XW_exit, E.get_cons, args, only, intX_int, tupX_tup, byte_neq, byte_eql, binV_add, binV_sub, binV_mul, binV_eql, binV_neq, binV_lss, binV_leq, binV_gtr, binV_geq, unV_not, ncV_ptr, reduceIte, Nat.reduceEqDiff, Nat.reduceAdd, Nat.one_ne_zero, Nat.zero_ne_one, NK_at, NK_ptr, List.getElem?_cons_zero, List.getElem?_cons_succ]) ?_
          unfold KeyPost
          rw [e]
          exact ⟨.nils, rfl, rfl, cc123⟩
        · have e : keyErr x = 0 := by unfold keyErr; rw [if_neg (by simp [hn]), if_neg (by omega)]
          have eb : keyB x = [x.k] ++ (esc x.s ++ [0, 0]) := by simp [keyB, keyBody, k1, k23, hk4]
          refine key_text wf3 hlo3 hb (by simp) (by omega) hA3 (by simp only [bd_some, bd2_some, bdB_some, byV_bool, byT_true, byT_false, KX_val, KX_new, kX_nx, kX_ex, kX_rt, kXB_nx, kXB_ex, kXB_rt, cells_byte, cells_bool, cells_int, cells_str, cells_ptr, cells_nils, cells_sl, cells_agg, XW_skip, XW_ret, XW_exit, E.get_cons, args, only, intX_int, tupX_tup, byte_neq, byte_eql, binV_add, binV_sub, binV_mul, binV_eql, binV_neq, binV_lss, binV_leq, binV_gtr, binV_geq, unV_not, ncV_ptr, reduceIte, Nat.reduceEqDiff, Nat.reduceAdd, Nat.one_ne_zero, Nat.zero_ne_one, NK_at, NK_ptr, List.getElem?_cons_zero, List.getElem?_cons_succ, g1]) (by simp only [bd_some, bd2_some, bdB_some, byV_bool, byT_true, byT_false, KX_val, KX_new, kX_nx, kX_ex, kX_rt, kXB_nx, kXB_ex, kXB_rt, cells_byte, cells_bool, cells_int, cells_str, cells_ptr, cells_nils, cells_sl, cells_agg, XW_skip, XW_ret, XW_exit, E.get_cons, args, only, intX_int, tupX_tup, byte_neq, byte_eql, binV_add, binV_sub, binV_mul, binV_eql, binV_neq, binV_lss, binV_leq, binV_gtr, binV_geq, unV_not, ncV_ptr, reduceIte, Nat.reduceEqDiff, Nat.reduceAdd, Nat.one_ne_zero, Nat.zero_ne_one, NK_at, NK_ptr, List.getElem?_cons_zero, List.getElem?_cons_succ, g4]) fun v' h' F' e' y1 y2 q4 => ?_
          exact hQ' v' h' _ q4 (fin e (by rw [eb]; exact y1) y2)
      simp only [q33_5, bd_some, bd2_some, bdB_some, byV_bool, byT_true, byT_false, KX_val, KX_new, kX_nx, kX_ex, kX_rt, kXB_nx, kXB_ex, kXB_rt, cells_byte, cells_bool, cells_int, cells_str, cells_ptr, cells_nils, cells_sl, cells_agg, XW_skip, XW_ret, XW_exit, E.get_cons, args, only, intX_int, tupX_tup, byte_neq, byte_eql, binV_add, binV_sub, binV_mul, binV_eql, binV_neq, binV_lss, binV_leq, binV_gtr, binV_geq, unV_not, ncV_ptr, reduceIte, Nat.reduceEqDiff, Nat.reduceAdd, Nat.one_ne_zero, Nat.zero_ne_one, NK_at, NK_ptr, List.getElem?_cons_zero, List.getElem?_cons_succ, hk]
      refine byT_mk (fun h2' => ?_) (fun h2' => ?_)
      · have k2 : x.k.toNat = 2 := by simp only [beqI] at h2'; omega
        simp only [q33_7, bd_some, bd2_some, bdB_some, byV_bool, byT_true, byT_false, KX_val, KX_new, kX_nx, kX_ex, kX_rt, kXB_nx, kXB_ex, kXB_rt, cells_byte, cells_bool, cells_int, cells_str, cells_ptr, cells_nils, cells_sl, cells_agg, XW_skip, XW_ret, XW_exit, E.get_cons, args, only, intX_int, tupX_tup, byte_neq, byte_eql, binV_add, binV_sub, binV_mul, binV_eql, binV_neq, binV_lss, binV_leq, binV_gtr, binV_geq, unV_not, ncV_ptr, reduceIte, Nat.reduceEqDiff, Nat.reduceAdd, Nat.one_ne_zero, Nat.zero_ne_one, NK_at, NK_ptr, List.getElem?_cons_zero, List.getElem?_cons_succ, h2']
        refine end8 (by simp only [bd_some, bd2_some, bdB_some, byV_bool, byT_true, byT_false, KX_val, KX_new, kX_nx, kX_ex, kX_rt, kXB_nx, kXB_ex, kXB_rt, cells_byte, cells_bool, cells_int, cells_str, cells_ptr, cells_nils, cells_sl, cells_agg, XW_skip, XW_ret, XW_exit, E.get_cons, args, only, intX_int, tupX_tup, byte_neq, byte_eql, binV_add, binV_sub, binV_mul, binV_eql, binV_neq, binV_lss, binV_leq, binV_gtr, binV_geq, unV_not, ncV_ptr, reduceIte, Nat.reduceEqDiff, Nat.reduceAdd, Nat.one_ne_zero, Nat.zero_ne_one, NK_at, NK_ptr, List.getElem?_cons_zero, List.getElem?_cons_succ]) (by simp only [bd_some, bd2_some, bdB_some, byV_bool, byT_true, byT_false, KX_val, KX_new, kX_nx, kX_ex, kX_rt, kXB_nx, kXB_ex, kXB_rt, cells_byte, cells_bool, cells_int, cells_str, cells_ptr, cells_nils, cells_sl, cells_agg, XW_skip, XW_ret, XW_exit, E.get_cons, args, only, intX_int, tupX_tup, byte_neq, byte_eql, binV_add, binV_sub, binV_mul, binV_eql, binV_neq, binV_lss, binV_leq, binV_gtr, binV_geq, unV_not, ncV_ptr, reduceIte, Nat.reduceEqDiff, Nat.reduceAdd, Nat.one_ne_zero, Nat.zero_ne_one, NK_at, NK_ptr, List.getElem?_cons_zero, List.getElem?_cons_succ]) (.inl k2) fun v' h' e' q4 hp => ?_
        simp only [bd_some, bd2_some, bdB_some, byV_bool, byT_true, byT_false, KX_val, KX_new, kX_nx, kX_ex, kX_rt, kXB_nx, kXB_ex, kXB_rt, cells_byte, cells_bool, cells_int, cells_str, cells_ptr, cells_nils, cells_sl, cells_agg, XW_skip, XW_ret, XW_exit, E.get_cons, args, only, intX_int, tupX_tup, byte_neq, byte_eql, binV_add, binV_sub, binV_mul, binV_eql, binV_neq, binV_lss, binV_leq, binV_gtr, binV_geq, unV_not, ncV_ptr, reduceIte, Nat.reduceEqDiff, Nat.reduceAdd, Nat.one_ne_zero, Nat.zero_ne_one, NK_at, NK_ptr, List.getElem?_cons_zero, List.getElem?_cons_succ, q33_24, q33_25, q33_26, q4, e33_rt]
        exact hp
      · have k2 : ¬ x.k.toNat = 2 := by simp only [beqIf] at h2'; omega
        simp only [q33_6, q33_7, bd_some, bd2_some, bdB_some, byV_bool, byT_true, byT_false, KX_val, KX_new, kX_nx, kX_ex, kX_rt, kXB_nx, kXB_ex, kXB_rt, cells_byte, cells_bool, cells_int, cells_str, cells_ptr, cells_nils, cells_sl, cells_agg, XW_skip, XW_ret, XW_exit, E.get_cons, args, only, intX_int, tupX_tup, byte_neq, byte_eql, binV_add, binV_sub, binV_mul, binV_eql, binV_neq, binV_lss, binV_leq, binV_gtr, binV_geq, unV_not, ncV_ptr, reduceIte, Nat.reduceEqDiff, Nat.reduceAdd, Nat.one_ne_zero, Nat.zero_ne_one, NK_at, NK_ptr, List.getElem?_cons_zero, List.getElem?_cons_succ, hk]
        refine byT_mk (fun h3' => ?_) (fun h3' => ?_)
        · have k3 : x.k.toNat = 3 := by simp only [beqI] at h3'; omega
          refine end8 (by simp only [bd_some, bd2_some, bdB_some, byV_bool, byT_true, byT_false, KX_val, KX_new, kX_nx, kX_ex, kX_rt, kXB_nx, kXB_ex, kXB_rt, cells_byte, cells_bool, cells_int, cells_str, cells_ptr, cells_nils, cells_sl, cells_agg, XW_skip, XW_ret, XW_exit, E.get_cons, args, only, intX_int, tupX_tup, byte_neq, byte_eql, binV_add, binV_sub, binV_mul, binV_eql, binV_neq, binV_lss, binV_leq, binV_gtr, binV_geq, unV_not, ncV_ptr, reduceIte, Nat.reduceEqDiff, Nat.reduceAdd, Nat.one_ne_zero, Nat.zero_ne_one, NK_at, NK_ptr, List.getElem?_cons_zero, List.getElem?_cons_succ]) (by simp only [bd_some, bd2_some, bdB_some, byV_bool, byT_true, byT_false, KX_val, KX_new, kX_nx, kX_ex, kX_rt, kXB_nx, kXB_ex, kXB_rt, cells_byte, cells_bool, cells_int, cells_str, cells_ptr, cells_nils, cells_sl, cells_agg, XW_skip, XW_ret, XW_exit, E.get_cons, args, only, intX_int, tupX_tup, byte_neq, byte_eql, binV_add, binV_sub, binV_mul, binV_eql, binV_neq, binV_lss, binV_leq, binV_gtr, binV_geq, unV_not, ncV_ptr, reduceIte, Nat.reduceEqDiff, Nat.reduceAdd, Nat.one_ne_zero, Nat.zero_ne_one, NK_at, NK_ptr, List.getElem?_cons_zero, List.getElem?_cons_succ]) (.inr k3) fun v' h' e' q4 hp => ?_
          simp only [bd_some, bd2_some, bdB_some, byV_bool, byT_true, byT_false, KX_val, KX_new, kX_nx, kX_ex, kX_rt, kXB_nx, kXB_ex, kXB_rt, cells_byte, cells_bool, cells_int, cells_str, cells_ptr, cells_nils, cells_sl, cells_agg, XW_skip, XW_ret, XW_exit, E.get_cons, args, only, intX_int, tupX_tup, byte_neq, byte_eql, binV_add, binV_sub, binV_mul, binV_eql, binV_neq, binV_lss, binV_leq, binV_gtr, binV_geq, unV_not, ncV_ptr, reduceIte, Nat.reduceEqDiff, Nat.reduceAdd, Nat.one_ne_zero, Nat.zero_ne_one, NK_at, NK_ptr, List.getElem?_cons_zero, List.getElem?_cons_succ, q33_24, q33_25, q33_26, q4, e33_rt]
          exact hp
        · have k3 : ¬ x.k.toNat = 3 := by simp only [beqIf] at h3'; omega
          have k23 : ¬ (x.k.toNat = 2 ∨ x.k.toNat = 3) := by omega
          simp only [q33_9, bd_some, bd2_some, bdB_some, byV_bool, byT_true, byT_false, KX_val, KX_new, kX_nx, kX_ex, kX_rt, kXB_nx, kXB_ex, kXB_rt, cells_byte, cells_bool, cells_int, cells_str, cells_ptr, cells_nils, cells_sl, cells_agg, XW_skip, XW_ret, XW_exit, E.get_cons, args, only, intX_int, tupX_tup, byte_neq, byte_eql, binV_add, binV_sub, binV_mul, binV_eql, binV_neq, binV_lss, binV_leq, binV_gtr, binV_geq, unV_not, ncV_ptr, reduceIte, Nat.reduceEqDiff, Nat.reduceAdd, Nat.one_ne_zero, Nat.zero_ne_one, NK_at, NK_ptr, List.getElem?_cons_zero, List.getElem?_cons_succ, hk]
          refine byT_mk (fun h4' => ?_) (fun h4' => ?_)
          · have k4 : x.k.toNat = 4 := by simp only [beqI] at h4'; omega
            simp only [q33_11, bd_some, bd2_some, bdB_some, byV_bool, byT_true, byT_false, KX_val, KX_new, kX_nx, kX_ex, kX_rt, kXB_nx, kXB_ex, kXB_rt, cells_byte, cells_bool, cells_int, cells_str, cells_ptr, cells_nils, cells_sl, cells_agg, XW_skip, XW_ret, XW_exit, E.get_cons, args, only, intX_int, tupX_tup, byte_neq, byte_eql, binV_add, binV_sub, binV_mul, binV_eql, binV_neq, binV_lss, binV_leq, binV_gtr, binV_geq, unV_not, ncV_ptr, reduceIte, Nat.reduceEqDiff, Nat.reduceAdd, Nat.one_ne_zero, Nat.zero_ne_one, NK_at, NK_ptr, List.getElem?_cons_zero, List.getElem?_cons_succ, h4']
            refine end12 (by simp only [bd_some, bd2_some, bdB_some, byV_bool, byT_true, byT_false, KX_val, KX_new, kX_nx, kX_ex, kX_rt, kXB_nx, kXB_ex, kXB_rt, cells_byte, cells_bool, cells_int, cells_str, cells_ptr, cells_nils, cells_sl, cells_agg, XW_skip, XW_ret, XW_exit, E.get_cons, args, only, intX_int, tupX_tup, byte_neq, byte_eql, binV_add, binV_sub, binV_mul, binV_eql, binV_neq, binV_lss, binV_leq, binV_gtr, binV_geq, unV_not, ncV_ptr, reduceIte, Nat.reduceEqDiff, Nat.reduceAdd, Nat.one_ne_zero, Nat.zero_ne_one, NK_at, NK_ptr, List.getElem?_cons_zero, List.getElem?_cons_succ]) (by simp only [bd_some, bd2_some, bdB_some, byV_bool, byT_true, byT_false, KX_val, KX_new, kX_nx, kX_ex, kX_rt, kXB_nx, kXB_ex, kXB_rt, cells_byte, cells_bool, cells_int, cells_str, cells_ptr, cells_nils, cells_sl, cells_agg, XW_skip, XW_ret, XW_exit, E.get_cons, args, only, intX_int, tupX_tup, byte_neq, byte_eql, binV_add, binV_sub, binV_mul, binV_eql, binV_neq, binV_lss, binV_leq, binV_gtr, binV_geq, unV_not, ncV_ptr, reduceIte, Nat.reduceEqDiff, Nat.reduceAdd, Nat.one_ne_zero, Nat.zero_ne_one, NK_at, NK_ptr, List.getElem?_cons_zero, List.getElem?_cons_succ]) k23 (.inl k4) (fun v' h' e' q4 hp => ?_) fun e' q2 q3 hp => ?_
            · simp only [bd_some, bd2_some, bdB_some, byV_bool, byT_true, byT_false, KX_val, KX_new, kX_nx, kX_ex, kX_rt, kXB_nx, kXB_ex, kXB_rt, cells_byte, cells_bool, cells_int, cells_str, cells_ptr, cells_nils, cells_sl, cells_agg, XW_skip, XW_ret, XW_exit, E.get_cons, args, only, intX_int, tupX_tup, byte_neq, byte_eql, binV_add, binV_sub, binV_mul, binV_eql, binV_neq, binV_lss, binV_leq, binV_gtr, binV_geq, unV_not, ncV_ptr, reduceIte, Nat.reduceEqDiff, Nat.reduceAdd, Nat.one_ne_zero, Nat.zero_ne_one, NK_at, NK_ptr, List.getElem?_cons_zero, List.getElem?_cons_succ, q33_23, q33_24, q33_25, q33_26, q4, e33_rt]
              exact hp
            · simp only [bd_some, bd2_some, bdB_some, byV_bool, byT_true, byT_false, KX_val, KX_new, kX_nx, kX_ex, kX_rt, kXB_nx, kXB_ex, kXB_rt, cells_byte, cells_bool, cells_int, cells_str, cells_ptr, cells_nils, cells_sl, cells_agg, XW_skip, XW_ret, XW_exit, E.get_cons, args, only, intX_int, tupX_tup, byte_neq, byte_eql, binV_add, binV_sub, binV_mul, binV_eql, binV_neq, binV_lss, binV_leq, binV_gtr, binV_geq, unV_not, ncV_ptr, reduceIte, Nat.reduceEqDiff, Nat.reduceAdd, Nat.one_ne_zero, Nat.zero_ne_one, NK_at, NK_ptr, List.getElem?_cons_zero, List.getElem?_cons_succ, e33_rt, q2, q3]
              exact hp
          · have k4 : ¬ x.k.toNat = 4 := by simp only [beqIf] at h4'; omega
            simp only [q33_10, q33_11, bd_some, bd2_some, bdB_some, byV_bool, byT_true, byT_false, KX_val, KX_new, kX_nx, kX_ex, kX_rt, kXB_nx, kXB_ex, kXB_rt, cells_byte, cells_bool, cells_int, cells_str, cells_ptr, cells_nils, cells_sl, cells_agg, XW_skip, XW_ret, XW_exit, E.get_cons, args, only, intX_int, tupX_tup, byte_neq, byte_eql, binV_add, binV_sub, binV_mul, binV_eql, binV_neq, binV_lss, binV_leq, binV_gtr, binV_geq, unV_not, ncV_ptr, reduceIte, Nat.reduceEqDiff, Nat.reduceAdd, Nat.one_ne_zero, Nat.zero_ne_one, NK_at, NK_ptr, List.getElem?_cons_zero, List.getElem?_cons_succ, hk]
            refine byT_mk (fun h5' => ?_) (fun h5' => ?_)
            · have k5 : x.k.toNat = 5 := by simp only [beqI] at h5'; omega
              refine end12 (by simp only [bd_some, bd2_some, bdB_some, byV_bool, byT_true, byT_false, KX_val, KX_new, kX_nx, kX_ex, kX_rt, kXB_nx, kXB_ex, kXB_rt, cells_byte, cells_bool, cells_int, cells_str, cells_ptr, cells_nils, cells_sl, cells_agg, XW_skip, XW_ret, XW_exit, E.get_cons, args, only, intX_int, tupX_tup, byte_neq, byte_eql, binV_add, binV_sub, binV_mul, binV_eql, binV_neq, binV_lss, binV_leq, binV_gtr, binV_geq, unV_not, ncV_ptr, reduceIte, Nat.reduceEqDiff, Nat.reduceAdd, Nat.one_ne_zero, Nat.zero_ne_one, NK_at, NK_ptr, List.getElem?_cons_zero, List.getElem?_cons_succ]) (by simp only [bd_some, bd2_some, bdB_some, byV_bool, byT_true, byT_false, KX_val, KX_new, kX_nx, kX_ex, kX_rt, kXB_nx, kXB_ex, kXB_rt, cells_byte, cells_bool, cells_int, cells_str, cells_ptr, cells_nils, cells_sl, cells_agg, XW_skip, XW_ret, XW_exit, E.get_cons, args, only, intX_int, tupX_tup, byte_neq, byte_eql, binV_add, binV_sub, binV_mul, binV_eql, binV_neq, binV_lss, binV_leq, binV_gtr, binV_geq, unV_not, ncV_ptr, reduceIte, Nat.reduceEqDiff, Nat.reduceAdd, Nat.one_ne_zero, Nat.zero_ne_one, NK_at, NK_ptr, List.getElem?_cons_zero, List.getElem?_cons_succ]) k23 (.inr k5) (fun v' h' e' q4 hp => ?_) fun e' q2 q3 hp => ?_
              · simp only [bd_some, bd2_some, bdB_some, byV_bool, byT_true, byT_false, KX_val, KX_new, kX_nx, kX_ex, kX_rt, kXB_nx, kXB_ex, kXB_rt, cells_byte, cells_bool, cells_int, cells_str, cells_ptr, cells_nils, cells_sl, cells_agg, XW_skip, XW_ret, XW_exit, E.get_cons, args, only, intX_int, tupX_tup, byte_neq, byte_eql, binV_add, binV_sub, binV_mul, binV_eql, binV_neq, binV_lss, binV_leq, binV_gtr, binV_geq, unV_not, ncV_ptr, reduceIte, Nat.reduceEqDiff, Nat.reduceAdd, Nat.one_ne_zero, Nat.zero_ne_one, NK_at, NK_ptr, List.getElem?_cons_zero, List.getElem?_cons_succ, q33_23, q33_24, q33_25, q33_26, q4, e33_rt]
                exact hp
              · simp only [bd_some, bd2_some, bdB_some, byV_bool, byT_true, byT_false, KX_val, KX_new, kX_nx, kX_ex, kX_rt, kXB_nx, kXB_ex, kXB_rt, cells_byte, cells_bool, cells_int, cells_str, cells_ptr, cells_nils, cells_sl, cells_agg, XW_skip, XW_ret, XW_exit, E.get_cons, args, only, intX_int, tupX_tup, byte_neq, byte_eql, binV_add, binV_sub, binV_mul, binV_eql, binV_neq, binV_lss, binV_leq, binV_gtr, binV_geq, unV_not, ncV_ptr, reduceIte, Nat.reduceEqDiff, Nat.reduceAdd, Nat.one_ne_zero, Nat.zero_ne_one, NK_at, NK_ptr, List.getElem?_cons_zero, List.getElem?_cons_succ, e33_rt, q2, q3]
                exact hp
            · have k5 : ¬ x.k.toNat = 5 := by simp only [beqIf] at h5'; omega
              have e : keyErr x = 0 := by unfold keyErr; rw [if_neg (by simp [hn]), if_neg (by omega)]
              have eb : keyB x = [x.k] := by simp [keyB, keyBody, k1, k2, k3, k4, k5]
              simp only [bd_some, bd2_some, bdB_some, byV_bool, byT_true, byT_false, KX_val, KX_new, kX_nx, kX_ex, kX_rt, kXB_nx, kXB_ex, kXB_rt, cells_byte, cells_bool, cells_int, cells_str, cells_ptr, cells_nils, cells_sl, cells_agg, XW_skip, XW_ret, XW_exit, E.get_cons, args, only, intX_int, tupX_tup, byte_neq, byte_eql, binV_add, binV_sub, binV_mul, binV_eql, binV_neq, binV_lss, binV_leq, binV_gtr, binV_geq, unV_not, ncV_ptr, reduceIte, Nat.reduceEqDiff, Nat.reduceAdd, Nat.one_ne_zero, Nat.zero_ne_one, NK_at, NK_ptr, List.getElem?_cons_zero, List.getElem?_cons_succ, q33_23, q33_24, q33_25, q33_26, e33_rt]
              exact fin e (by rw [eb]; exact hb) (Gr.refl wf3 _)
end
end Go.Proofs.Ytghmbmblhdgabaa
