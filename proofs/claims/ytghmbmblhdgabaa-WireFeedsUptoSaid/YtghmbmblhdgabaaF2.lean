/- The reference's cutting of bytes into frames: the walk. -/
import Derived.Test.YtghmbmblhdgabaaF1
set_option linter.all false
namespace Go.Proofs.Ytghmbmblhdgabaa
open Go Go.Den Code
set_option maxRecDepth 100000
theorem kind48 {k : UInt8} {h : H} {lo : Nat} : CW C 48 [byteV k] lo h fun v h' => v = .bool (kindOk k) ∧ h' = h := by
  refine enter48 rfl ?_
  have k1 : binV Try.prog .geq 40 (byteV k) (.int .u8 1) = some (.bool (decide ((k.toNat : Int) ≥ 1))) := binV_geq 40 .u8 _ _
  have k2 : binV Try.prog .leq 40 (byteV k) (.int .u8 9) = some (.bool (decide ((k.toNat : Int) ≤ 9))) := binV_leq 40 .u8 _ _
  simp only [q48_0, sx, reduceIte, Nat.reduceEqDiff, Nat.reduceAdd, k1, k2]
  unfold kindOk
  refine byT_dec (fun h1 => ?_) (fun h1 => ?_)
  · simp only [sx, reduceIte, Nat.reduceEqDiff, Nat.reduceAdd, e48_rt]
    refine ⟨?_, trivial⟩
    congr 1
    exact decide_eq_decide.2 ⟨fun h => ⟨by omega, by omega⟩, fun h => by omega⟩
  · simp only [sx, reduceIte, Nat.reduceEqDiff, Nat.reduceAdd, e48_rt]
    refine ⟨?_, trivial⟩
    congr 1
    exact (decide_eq_false (by omega)).symm
section
variable {h0 h : H} {xs : List UInt8} {Z : Nat → Prop}
def CutPost (h0 : H) (Z : Nat → Prop) (xs : List UInt8) (v : V) (h' : H) : Prop :=
  ∃ fv rv, v = .tup [fv, rv, .bool (cut xs).2.isNone] ∧ Frames h'.read fv (cut xs).1 ∧ Bytes (h'.rb Z) rv ((cut xs).2.getD []) ∧ Ch None_ None_ h0 h'
def CutI (h0 : H) (Z : Nat → Prop) (xs : List UInt8) (m : Nat) (e : E) (h : H) : Prop :=
  ∃ (cv fv : V) (cur : List UInt8) (done : List Fm) (F : Option Nat), e = [(0, cv), (5, fv)] ∧ m = cur.length ∧ cur.length ≤ xs.length ∧ done.length ≤ xs.length ∧ Bytes (h.rb Z) cv cur ∧ BufOf frE 2 h0.next h h.read fv done F ∧ (∀ g, F = some g → h0.next ≤ g) ∧
    Ch None_ (fun g => h0.next ≤ g) h0 h ∧ cut xs = (done ++ (cut cur).1, (cut cur).2) ∧ done.length + cur.length ≤ xs.length
theorem frames_of {F : Option Nat} {fv : V} {done : List Fm} (wf : HWF h) (ho : BufOf frE 2 h0.next h h.read fv done F) : Frames h.read fv done :=
  ((ho.imp fun c x he => frE_mono _ _ c x (rb_none h) he).sl (X := None_) wf fun _ _ h => h).mono frE_mono (rb_le _ _)
theorem num4_get {l : List UInt8} (h : 4 ≤ l.length) : num4 l = l[0].toNat * 16777216 + l[1].toNat * 65536 + l[2].toNat * 256 + l[3].toNat := by
  match l, h with
  | x :: y :: z :: w :: r, _ => rfl
theorem wrong_no {ls : List UInt8} (n1 : 1 ≤ num4 ls) (n2 : num4 ls ≤ 8192) (hk : 4 < ls.length → kindOk (ls.getD 4 0) = true) : wrongB ls = false := by
  unfold wrongB
  generalize num4 ls = n at *
  have e1 : decide (n < 1) = false := decide_eq_false (by omega)
  have e2 : decide (8192 < n) = false := decide_eq_false (by omega)
  rw [e1, e2]
  by_cases h : 4 < ls.length
  · rw [hk h]; simp
  · rw [decide_eq_false h]; simp
theorem wrong_yes {ls : List UInt8} (h4 : 4 ≤ ls.length) (h : num4 ls < 1 ∨ 8192 < num4 ls ∨ (4 < ls.length ∧ kindOk (ls.getD 4 0) = false)) : wrongB ls = true := by
  unfold wrongB
  generalize num4 ls = n at *
  rw [decide_eq_true h4]
  rcases h with h | h | ⟨h, hk⟩
  · rw [decide_eq_true h]; rfl
  · rw [decide_eq_true h]; simp
  · rw [decide_eq_true h, hk]; simp
/-- a whole frame is taken, or nothing -/
theorem cut_take {lo : Nat} {cv fv : V} {cur : List UInt8} {done : List Fm} {F : Option Nat} {K1 : XQ} {e : E} (wf : HWF h) (hlo : lo ≤ h.next) (hb : Bytes (h.rb Z) cv cur) (hcl : cur.length ≤ 1000000000) (hdl : done.length ≤ 1000000000) (ho : BufOf frE 2 lo h h.read fv done F)
    (n1 : 1 ≤ num4 cur) (n2 : num4 cur ≤ 8192) (g0 : E.get e 0 = cv) (g5 : E.get e 5 = fv) (g6 : E.get e 6 = .int .i64 (num4 cur : Int))
    (hexit : cur.length < 4 + num4 cur → ∀ e, E.get e 0 = cv → E.get e 5 = fv → K1 (.ex 0) e h)
    (hnext : 4 + num4 cur ≤ cur.length → ∀ w v h2 F2, Bytes (h2.rb Z) w (cur.drop (4 + num4 cur)) → BufOf frE 2 lo h2 h2.read v (done ++ [(cur.getD 4 0, (cur.drop 5).take (4 + num4 cur - 5))]) F2 → Gr h F h2 F2 → K1 .nx [(0, w), (5, v)] h2) :
    XW C lo x21_7 (kXB 1 (XW C lo x21_9 K1) K1) e h := by
  have hb' := hb.mono (rb_le _ _)
  have e4 := add64 (a := 4) (b := num4 cur) (by omega)
  simp only [Int.cast_ofNat_Int] at e4
  simp only [q21_7, sx, reduceIte, Nat.reduceEqDiff, Nat.reduceAdd, g0, g6, hb'.len t22, e4]
  refine byT_dec (fun g3 => ?_) (fun g3 => ?_)
  · exact hexit (by omega) _ (by simp only [sx, reduceIte, Nat.reduceEqDiff, Nat.reduceAdd, g0]) (by simp only [sx, reduceIte, Nat.reduceEqDiff, Nat.reduceAdd, g5])
  · have hle : 4 + num4 cur ≤ cur.length := by omega
    obtain ⟨p, p1, p2⟩ := hb'.at t22 c5 (i := 4) (by omega) (k := .i64)
    simp only [Int.cast_ofNat_Int] at p1
    obtain ⟨w, w1, w2⟩ := hb'.slice (rd' := h.read) t22 (lo := 5) (hi := 4 + num4 cur) (k := .i64) (k' := .i64) (by omega) (by omega)
    simp only [Int.cast_ofNat_Int] at w1
    have eg : cur.getD 4 0 = cur[4] := by rw [List.getD_eq_getElem?_getD, List.getElem?_eq_getElem (by omega)]; rfl
    rw [eg] at hnext
    simp only [q21_8, sx, reduceIte, Nat.reduceEqDiff, Nat.reduceAdd, g0, g5, g6, p1, p2, e4, w1]
    refine (copyBytes wf (Nat.le_refl _) w2 (by simp; omega)).mono ?_
    rintro v1 h1 ⟨nb, c1⟩
    have hv := nb.rd c1.wf
    obtain ⟨v2, h2, F2, x1, x2, x3⟩ := out_add (k := cur[4]) c1.wf (Nat.le_trans hlo c1.next) (ho.ch frE_mono c1 (Ch.le c1) fun _ _ h => h) hv hdl
    have hb2 := (hb.mono (c1.rb (None_sub _))).mono (x3.ch.rb (None_sub _))
    obtain ⟨w3, y1, y2⟩ := hb2.from (rd' := h2.read) t22 (lo := 4 + num4 cur) (k := .i64) (by omega)
    simp only [sx, reduceIte, Nat.reduceEqDiff, Nat.reduceAdd, build42 cur[4] hv.isSl, buildSlice_one b26 (v := .agg [byteV cur[4], v1]) rfl, x1, y1, q21_9]
    exact hnext hle w3 v2 h2 F2 y2 x2 ((Gr.of c1).trans x3)
/-- what a round comes to -/
theorem cut_body {lo : Nat} {cv fv : V} {cur : List UInt8} {done : List Fm} {F : Option Nat} {K1 : XQ} {e : E} (wf : HWF h) (hlo : lo ≤ h.next) (hb : Bytes (h.rb Z) cv cur) (h4 : 4 ≤ cur.length) (hcl : cur.length ≤ 1000000000) (hdl : done.length ≤ 1000000000) (ho : BufOf frE 2 lo h h.read fv done F)
    (g0 : E.get e 0 = cv) (g5 : E.get e 5 = fv)
    (hbad : wrongB cur = true → ∀ e, K1 .rt ((2, fv) :: (3, .nils) :: (4, .bool true) :: e) h)
    (hexit : wrongB cur = false → cur.length < 4 + num4 cur → ∀ e, E.get e 0 = cv → E.get e 5 = fv → K1 (.ex 0) e h)
    (hnext : wrongB cur = false → 4 + num4 cur ≤ cur.length → ∀ w v h2 F2, Bytes (h2.rb Z) w (cur.drop (4 + num4 cur)) → BufOf frE 2 lo h2 h2.read v (done ++ [(cur.getD 4 0, (cur.drop 5).take (4 + num4 cur - 5))]) F2 → Gr h F h2 F2 → K1 .nx [(0, w), (5, v)] h2) :
    XW C lo x21_4 (kXB 1 (XW C lo x21_9 K1) K1) e h := by
  have hb' := hb.mono (rb_le _ _)
  obtain ⟨a0, u0, t0⟩ := hb'.at t22 c5 (i := 0) (by omega) (k := .i64)
  obtain ⟨a1, u1, t1⟩ := hb'.at t22 c5 (i := 1) (by omega) (k := .i64)
  obtain ⟨a2, u2, t2⟩ := hb'.at t22 c5 (i := 2) (by omega) (k := .i64)
  obtain ⟨a3, u3, t3⟩ := hb'.at t22 c5 (i := 3) (by omega) (k := .i64)
  simp only [Int.cast_ofNat_Int] at u0 u1 u2 u3
  have b0 := cur[0].toNat_lt
  have b1 := cur[1].toNat_lt
  have b2 := cur[2].toNat_lt
  have b3 := cur[3].toNat_lt
  have m0 : IntKind.wrap .i64 ((cur[0].toNat : Int) * 16777216) = ((cur[0].toNat * 16777216 : Nat) : Int) := by rw [wrap64 (by omega) (by omega)]; omega
  have m1 : IntKind.wrap .i64 ((cur[1].toNat : Int) * 65536) = ((cur[1].toNat * 65536 : Nat) : Int) := by rw [wrap64 (by omega) (by omega)]; omega
  have m2 : IntKind.wrap .i64 ((cur[2].toNat : Int) * 256) = ((cur[2].toNat * 256 : Nat) : Int) := by rw [wrap64 (by omega) (by omega)]; omega
  have s01 := add64 (a := cur[0].toNat * 16777216) (b := cur[1].toNat * 65536) (by omega)
  have s02 := add64 (a := cur[0].toNat * 16777216 + cur[1].toNat * 65536) (b := cur[2].toNat * 256) (by omega)
  have s03 := add64 (a := cur[0].toNat * 16777216 + cur[1].toNat * 65536 + cur[2].toNat * 256) (b := cur[3].toNat) (by omega)
  rw [← num4_get h4] at s03
  simp only [q21_4, sx, reduceIte, Nat.reduceEqDiff, Nat.reduceAdd, g0, u0, u1, u2, u3, t0, t1, t2, t3, conv_byte Try.underlying3, m0, m1, m2, s01, s02, s03]
  refine byT_dec (fun g1 => ?_) (fun g1 => ?_)
  · simp only [q21_6, sx, reduceIte, Nat.reduceEqDiff, Nat.reduceAdd, g5]
    exact hbad (wrong_yes h4 (.inl (by omega))) _
  refine byT_dec (fun g2 => ?_) (fun g2 => ?_)
  · simp only [q21_6, sx, reduceIte, Nat.reduceEqDiff, Nat.reduceAdd, g5]
    exact hbad (wrong_yes h4 (.inr (.inl (by omega)))) _
  clear m0 m1 m2 s01 s02 s03
  have n1 : 1 ≤ num4 cur := by omega
  have n2 : num4 cur ≤ 8192 := by omega
  simp only [hb'.len t22, sx, reduceIte, Nat.reduceEqDiff, Nat.reduceAdd]
  refine byT_dec (fun g5' => ?_) (fun g5' => ?_)
  · obtain ⟨p, p1, p2⟩ := hb'.at t22 c5 (i := 4) (by omega) (k := .i64)
    simp only [Int.cast_ofNat_Int] at p1
    have eg : cur.getD 4 0 = cur[4] := by rw [List.getD_eq_getElem?_getD, List.getElem?_eq_getElem (by omega)]; rfl
    simp only [sx, reduceIte, Nat.reduceEqDiff, Nat.reduceAdd, p1, p2]
    refine kind48.mono ?_
    rintro _ h ⟨rfl, rfl⟩
    simp only [sx, reduceIte, Nat.reduceEqDiff, Nat.reduceAdd]
    refine byT_mk (fun gk => ?_) (fun gk => ?_)
    · have gk : kindOk cur[4] = false := by simpa using gk
      simp only [q21_6, sx, reduceIte, Nat.reduceEqDiff, Nat.reduceAdd, g5]
      exact hbad (wrong_yes h4 (.inr (.inr ⟨by omega, by rw [eg]; exact gk⟩))) _
    · have gk : kindOk cur[4] = true := by simpa using gk
      have hw : wrongB cur = false := wrong_no n1 n2 fun _ => by rw [eg]; exact gk
      exact cut_take wf hlo hb hcl hdl ho n1 n2 (by simp only [sx, reduceIte, Nat.reduceEqDiff, Nat.reduceAdd, g0]) (by simp only [sx, reduceIte, Nat.reduceEqDiff, Nat.reduceAdd, g5]) (by simp only [sx, reduceIte, Nat.reduceEqDiff, Nat.reduceAdd]) (hexit hw) (hnext hw)
  · have hw : wrongB cur = false := wrong_no n1 n2 fun h => by omega
    exact cut_take wf hlo hb hcl hdl ho n1 n2 (by simp only [sx, reduceIte, Nat.reduceEqDiff, Nat.reduceAdd, g0]) (by simp only [sx, reduceIte, Nat.reduceEqDiff, Nat.reduceAdd, g5]) (by simp only [sx, reduceIte, Nat.reduceEqDiff, Nat.reduceAdd]) (hexit hw) (hnext hw)
theorem cut_round (wf : HWF h0) (hx : xs.length ≤ 1000000000) {m : Nat} {e : E} (I : CutI h0 Z xs m e h) :
    XW C h0.next x21_2 (kX (fun e' h' => ∃ m', m' < m ∧ CutI h0 Z xs m' (only [0, 5] e') h') (kXB 0 (XW C h0.next x21_10 (kF21 (CutPost h0 Z xs))) (kF21 (CutPost h0 Z xs)))) e h := by
  obtain ⟨cv, fv, cur, done, F, rfl, rfl, hcl, hdl, hb, ho, hF, ch, hcut, hsum⟩ := I
  have hb' := hb.mono (rb_le _ _)
  have old : Ch None_ None_ h0 h := ch.old wf (fun _ h _ => h) fun g h1 h2 => by have : h0.next ≤ g := h1; omega
  have stop : (cut cur).1 = [] → (cut cur).2 = some cur → ∀ e, E.get e 0 = cv → E.get e 5 = fv → XW C h0.next x21_10 (kF21 (CutPost h0 Z xs)) e h := by
    intro h1 h2 e g0 g5
    simp only [q21_10, sx, reduceIte, Nat.reduceEqDiff, Nat.reduceAdd, g0, g5, e21_rt]
    refine ⟨fv, cv, by rw [hcut, h2]; rfl, ?_, ?_, old⟩
    · rw [hcut, h1, List.append_nil]
      exact frames_of ch.wf ho
    · rw [hcut, h2]
      exact hb
  simp only [q21_2, sx, reduceIte, Nat.reduceEqDiff, Nat.reduceAdd, hb'.len t22]
  refine byT_dec (fun h4 => ?_) (fun h4 => ?_)
  · have h4 : 4 ≤ cur.length := by omega
    simp only [q21_3]
    refine cut_body ch.wf ch.next hb h4 (by omega) (by omega) ho (by simp only [sx, reduceIte, Nat.reduceEqDiff, Nat.reduceAdd]) (by simp only [sx, reduceIte, Nat.reduceEqDiff, Nat.reduceAdd]) (fun hw e => ?_) (fun hw hlt e g0 g5 => ?_) (fun hw hle w v h2 F2 y1 y2 y3 => ?_)
    · have hc := cut_none hw
      simp only [sx, reduceIte, Nat.reduceEqDiff, Nat.reduceAdd, e21_rt]
      refine ⟨fv, .nils, by rw [hcut, hc]; rfl, ?_, ?_, old⟩
      · rw [hcut, hc, List.append_nil]
        exact frames_of ch.wf ho
      · rw [hcut, hc]
        exact .inl ⟨rfl, rfl, rfl⟩
    · have hc := cut_stop hw (.inr hlt)
      simp only [sx, reduceIte, Nat.reduceEqDiff, Nat.reduceAdd]
      exact stop (by rw [hc]) (by rw [hc]) _ g0 g5
    · have hc := cut_go hw (by omega : ¬ (cur.length < 4 ∨ cur.length < 4 + num4 cur))
      have hlen : (cur.drop (4 + num4 cur)).length + 4 ≤ cur.length := by simp; omega
      simp only [sx, reduceIte, Nat.reduceEqDiff, Nat.reduceAdd]
      refine ⟨(cur.drop (4 + num4 cur)).length, by omega, w, v, cur.drop (4 + num4 cur), _, F2, rfl, rfl, by omega, by simp only [List.length_append, List.length_singleton]; omega, y1, y2, fun g hg => ?_, ch.trans (y3.ch.mono (fun _ h => h) fun g hg => ?_), ?_, by simp only [List.length_append, List.length_singleton]; omega⟩
      · rcases y3.F g hg with h | h
        · exact hF g h
        · exact Nat.le_trans ch.next h
      · rcases hg with h | h
        · exact hF g h
        · exact Nat.le_trans ch.next h
      · rw [hcut, hc]
        simp
  · have hw : wrongB cur = false := by unfold wrongB; rw [decide_eq_false (by omega)]; rfl
    have hc := cut_stop hw (.inl (by omega : cur.length < 4))
    exact stop (by rw [hc]) (by rw [hc]) _ (by simp only [sx, reduceIte, Nat.reduceEqDiff, Nat.reduceAdd]) (by simp only [sx, reduceIte, Nat.reduceEqDiff, Nat.reduceAdd])
end
theorem cut21 {v : V} {h : H} {xs : List UInt8} {lo : Nat} {Z : Nat → Prop} (wf : HWF h) (hlo : lo ≤ h.next) (hb : Bytes (h.rb Z) v xs) (hx : xs.length ≤ 1000000000) : CW C 21 [v] lo h (CutPost h Z xs) := by
  refine CW.low hS hlo (enter21 rfl ?_)
  simp only [q21_0, sx, reduceIte, Nat.reduceEqDiff, Nat.reduceAdd, q21_1]
  exact rounds (CutI h Z xs) (fun m e h' I => cut_round wf hx I) xs.length ⟨v, .nils, xs, [], none, by simp only [sx, reduceIte, Nat.reduceEqDiff, Nat.reduceAdd], rfl, Nat.le_refl _, Nat.zero_le _, hb, BufOf.nil, (fun _ h => by cases h), Ch.refl _ _ wf, by simp, by simp⟩
end Go.Proofs.Ytghmbmblhdgabaa
