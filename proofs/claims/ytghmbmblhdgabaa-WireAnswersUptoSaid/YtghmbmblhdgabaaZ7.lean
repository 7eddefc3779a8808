/- The law 'WireAnswers' on the machine. -/
import Derived.Test.YtghmbmblhdgabaaZ6
set_option linter.all false
namespace Go.Proofs.Ytghmbmblhdgabaa
open Go Go.Den Code
set_option maxRecDepth 100000
theorem ansFs_short {a : An} (he : ansErr a = 0) : (∀ f ∈ ansFs a, f.2.length < 1000000000000000) ∧ a.names.length ≤ 255 ∧ ∀ r ∈ a.rows, r.length ≤ 12 := by
  unfold ansErr at he
  split at he
  · cases he
  split at he
  · cases he
  rename_i h2
  split at he
  · cases he
  rename_i h3
  have hs : ∀ s ∈ a.names, s.length ≤ 24 := fun s hm => by
    rcases Nat.lt_or_ge 24 s.length with h | h
    · exact (h3 (List.any_eq_true.2 ⟨s, hm, decide_eq_true h⟩)).elim
    · exact h
  have hr := rows_fine he
  refine ⟨fun f hf => ?_, by omega, fun r hq => (row_right (hr r hq)).2.1⟩
  unfold ansFs at hf
  rcases List.mem_append.1 hf with hf | hf
  · rcases List.mem_append.1 hf with hf | hf
    · unfold headFs at hf
      split at hf
      · simp at hf
        subst hf
        have := names_len hs
        simp only [namesB, List.length_cons]
        omega
      · cases hf
    · obtain ⟨r, hq, rfl⟩ := List.mem_map.1 hf
      have := (row_right (hr r hq)).2.2
      show (rowBytes r).length < _
      omega
  · simp at hf
    subst hf
    show (4 : Nat) < _
    omega
theorem Frames.nil {rd : Rd} : Frames rd .nils [] := ⟨[], fun _ h => (by cases h), .inl ⟨rfl, rfl, rfl⟩, Each.nil _⟩
theorem ansBox {h : H} {c : List V} {a : An} (wf : HWF h) (hc : AnC h.read c a) {lo : Nat} (hlo : lo ≤ h.next) :
    ∃ h', storeV Try.prog lo 75 (.ptr h.next 0) (.agg c) (h.alloc [V.nils, .nils, .int .i64 0]) = some h' ∧ Ch None_ None_ h h' ∧ ∀ {h2 : H}, Le h'.read h2.read → loadV Try.prog 75 (.ptr h.next 0) h2.read = some (.agg c) := by
  obtain ⟨nv, rv, rfl, p1, p2⟩ := hc
  have cA := ch_alloc wf [V.nils, .nils, .int .i64 0]
  obtain ⟨h5, s5, o5, c5', n5⟩ := (Own.new (h := h) (lo := lo) (cs := [V.nils, .nils, .int .i64 0]) hlo).fill (P := Try.prog) (t := 75) (c := [nv, rv, .int .i64 a.count]) cA.wf siz75 rfl (by show (scal nv && (scal rv && true)) = true; rw [p1.isSl.scal, p2.isSl.scal]; rfl) rfl
  have cF : Ch None_ None_ h h5 := ((cA.mono (None_sub (· = h.next)) (None_sub (· = h.next))).trans c5').old wf (fun g h1 h2 => by omega) fun g h1 h2 => by omega
  exact ⟨h5, s5, cF, fun le => ((o5.at c5'.wf).mono le).agg agg75 siz75 rfl (by decide)⟩
theorem err_in {rd : Rd} {N : Nat} {v : V} (o : OkA Try.prog rd 1048576 N 27 v) : ∃ x : Int, v = .int .i64 x ∧ -9223372036854775808 ≤ x ∧ x ≤ 9223372036854775807 := by
  unfold OkA at o
  simp only [Try.underlying27] at o
  obtain ⟨x, hx, hw⟩ := int_ok Try.underlying27 o
  simp [Lit.wf, IntKind.min, IntKind.max, IntKind.signed, IntKind.bits] at hw hx
  exact ⟨x, hx, hw.1, hw.2⟩
section
variable {h0 h : H} {lv : V} {l : List Fm} {x : Int}
theorem ans_end (wf : HWF h0) (ch : Ch None_ None_ h0 h) (hx : -9223372036854775808 ≤ x ∧ x ≤ 9223372036854775807) {e : E} (g2 : E.get e 2 = .int .i64 x) : XW C h0.next x9_17 (kF9 fun v _ => v = .bool true) e h := by
  simp only [q9_17, sx, reduceIte, Nat.reduceEqDiff, Nat.reduceAdd, g2]
  refine (error ch.wf ch.next).mono ?_
  rintro _ h2 ⟨w, rfl, hw, c2⟩
  refine (errno c2.wf hw).mono ?_
  rintro _ h4 ⟨rfl, c4⟩
  have ok : errOk ((8 : UInt8), [lowB (x / 256), lowB x]) = true := rfl
  have en : (errNum ((8 : UInt8), [lowB (x / 256), lowB x]) : Int) = x % 65536 := by
    have e1 : errNum ((8 : UInt8), [lowB (x / 256), lowB x]) = (lowB (x / 256)).toNat * 256 + (lowB x).toNat := rfl
    have h1 := low_nat (x / 256)
    have h2 := low_nat x
    rw [e1]
    omega
  have w16 : ∀ y : Int, IntKind.wrap .u16 y = y % 65536 := fun y => by simp [IntKind.wrap, IntKind.bits, IntKind.signed]
  have cv : ∀ y : Int, convV Try.prog h4.read 27 84 (.int .i64 y) = some (.val (.int .u16 (y % 65536))) := fun y => by
    have h := conv_int (P := Try.prog) (rd := h4.read) Try.underlying27 Try.underlying84 .i64 y
    rwa [w16] at h
  have b1 : ((x % 65536 % 65536 : Int) == x % 65536) = true := by rw [beqI]; omega
  have b2 : decide ((x % 65536 : Int) ≥ 0) = true := decide_eq_true (by omega)
  have b3 : decide ((x % 65536 : Int) < 65536) = true := decide_eq_true (by omega)
  simp only [sx, reduceIte, Nat.reduceEqDiff, Nat.reduceAdd, ok, en, cv, b1, b2, b3]
  refine aw15 ?_
  simp only [sx, reduceIte, Nat.reduceEqDiff, Nat.reduceAdd, e9_rt]
theorem ans9_round (wf : HWF h0) (hl : Frames h0.read lv l) (hll : l.length ≤ 1048576) (hlb : ∀ f ∈ l, f.2.length ≤ 1048576) (hx : -9223372036854775808 ≤ x ∧ x ≤ 9223372036854775807) {m : Nat} {e : E}
    (I : ∃ i : Nat, e = [(1, lv), (2, .int .i64 x), (15, .int .i64 (i : Int))] ∧ i ≤ l.length ∧ m = l.length - i ∧ Ch None_ None_ h0 h) :
    XW C h0.next x9_5 (kX (fun e' h' => ∃ m', m' < m ∧ ∃ i : Nat, only [1, 2, 15] e' = [(1, lv), (2, .int .i64 x), (15, .int .i64 (i : Int))] ∧ i ≤ l.length ∧ m' = l.length - i ∧ Ch None_ None_ h0 h')
      (kXB 0 (XW C h0.next x9_17 (kF9 fun v _ => v = .bool true)) (kF9 fun v _ => v = .bool true))) e h := by
  obtain ⟨i, rfl, hi, rfl, ch⟩ := I
  have hl1 := hl.mono frE_mono (Ch.le ch)
  simp only [q9_5, sx, reduceIte, Nat.reduceEqDiff, Nat.reduceAdd, hl1.len s26]
  refine byT_dec (fun hlt => ?_) (fun hge => ?_)
  · have hlt : i < l.length := by omega
    obtain ⟨b, o, w, p1, p2, p3⟩ := Frames.at2 hl1 (List.getElem?_eq_getElem hlt)
    have hfb := hlb _ (List.getElem_mem hlt)
    generalize hf : l[i] = f at *
    obtain ⟨k, bs⟩ := f
    simp only at p2 p3 hfb
    have l42 : ∀ {h' : H}, Le h.read h'.read → loadV Try.prog 42 (.ptr b o) h'.read = some (.agg [byteV k, w]) := fun le => (p2.mono le).agg agg42 siz42 rfl (by decide)
    have l40 : ∀ {h' : H}, Le h.read h'.read → loadV Try.prog 40 (.ptr b o) h'.read = some (byteV k) := fun le => (p2.mono le).cell0 c40 rfl
    have l22 : ∀ {h' : H}, Le h.read h'.read → loadV Try.prog 22 (.ptr b (o + 1)) h'.read = some w := fun le => (p2.mono le).cell c22 rfl
    have e5 := add64 (a := i) (b := 1) (by omega)
    simp only [Int.cast_ofNat_Int] at e5
    simp only [q9_6, q9_7, sx, reduceIte, Nat.reduceEqDiff, Nat.reduceAdd, p1, l42 (Le.refl _)]
    refine (put (k := k) (bs := bs) ch.wf ch.next p3 (by omega)).mono ?_
    rintro _ h2 ⟨pv, rfl, hp, c2⟩
    have le2 := Ch.le c2
    simp only [q9_8, sx, reduceIte, Nat.reduceEqDiff, Nat.reduceAdd, p1, l42 le2]
    refine (put41 (k := k) (bs := bs) c2.wf (Nat.le_trans ch.next c2.next) (p3.mono le2) (by omega)).mono ?_
    rintro _ h3 ⟨qv, rfl, hq, c3⟩
    have le3 := le2.trans (Ch.le c3)
    simp only [q9_9, sx, reduceIte, Nat.reduceEqDiff, Nat.reduceAdd, p1, l42 le3]
    refine (errno c3.wf (p3.mono le3)).mono ?_
    rintro _ h4 ⟨rfl, c4⟩
    have le4 := le3.trans (Ch.le c4)
    have c04 := ((ch.trans c2).trans c3).trans c4
    have hpb : Bytes h4.read pv (if putErr (k, bs) = 0 then putB (k, bs) else []) := by
      by_cases g : putErr (k, bs) = 0
      · rw [if_pos g] at hp ⊢
        exact ((hp.rd c2.wf).mono (Ch.le c3)).mono (Ch.le c4)
      · rw [if_neg g] at hp ⊢
        subst hp
        exact .inl ⟨rfl, rfl, rfl⟩
    have hqb : Bytes h4.read qv (if putErr (k, bs) = 0 then putB (k, bs) else []) := by
      by_cases g : putErr (k, bs) = 0
      · rw [if_pos g] at hq ⊢
        exact (hq.rd c3.wf).mono (Ch.le c4)
      · rw [if_neg g] at hq ⊢
        subst hq
        exact .inl ⟨rfl, rfl, rfl⟩
    have hpl : (if putErr (k, bs) = 0 then putB (k, bs) else []).length < 1000000000000000 := by
      split
      · rw [putB_len]; show bs.length + 5 < _; omega
      · simp
    have nn : ∀ y : Int, (y != y) = false := fun y => by simp
    -- the tests behind
    have tests : ∀ (n : Int), n = (errNum (k, bs) : Int) → ∀ e, E.get e 1 = lv → E.get e 2 = .int .i64 x → E.get e 15 = .int .i64 (i : Int) → E.get e 16 = pv → E.get e 17 = .int .i64 (putErr (k, bs)) → E.get e 18 = qv → E.get e 19 = .int .i64 (putErr (k, bs)) →
        E.get e 20 = .int .i64 (errNum (k, bs) : Int) → E.get e 21 = .bool (errOk (k, bs)) → E.get e 22 = .bool (errOk (k, bs)) → E.get e 23 = .int .i64 n → ∀ {Q : XQ}, (∀ e', E.get e' 1 = lv → E.get e' 2 = .int .i64 x → E.get e' 15 = .int .i64 (i : Int) → Q .nx e' h4) → XW C h0.next x9_13 Q e h4 := by
      rintro n rfl e g1 g2 g15 g16 g17 g18 g19 g20 g21 g22 g23 Q hQ
      have nb : binV Try.prog .neq 4 (.bool (errOk (k, bs))) (.bool (errOk (k, bs))) = some (.bool false) := by
        have : ∀ b : Bool, binV Try.prog .neq 4 (.bool b) (.bool b) = some (.bool false) := fun b => by cases b <;> kernel_rfl
        exact this _
      simp only [q9_13, sx, reduceIte, Nat.reduceEqDiff, Nat.reduceAdd, g1, g2, g15, g16, g17, g18, g19, g20, g21, g22, g23, nn]
      refine (sameBytes hpb hqb hpl).mono ?_
      rintro _ h4 ⟨rfl, rfl⟩
      simp only [sx, reduceIte, Nat.reduceEqDiff, Nat.reduceAdd, decide_true, Bool.not_true, nb, nn]
      exact hQ _ (by simp only [sx, reduceIte, Nat.reduceEqDiff, Nat.reduceAdd]) (by simp only [sx, reduceIte, Nat.reduceEqDiff, Nat.reduceAdd]) (by simp only [sx, reduceIte, Nat.reduceEqDiff, Nat.reduceAdd])
    have fin : ∀ e', E.get e' 1 = lv → E.get e' 2 = .int .i64 x → E.get e' 15 = .int .i64 (i : Int) → ∃ m', m' < l.length - i ∧ ∃ j : Nat, only [1, 2, 15] [(15, .int .i64 ((i + 1 : Nat) : Int)), (1, E.get e' 1), (2, E.get e' 2), (15, E.get e' 15)] = [(1, lv), (2, .int .i64 x), (15, .int .i64 (j : Int))] ∧ j ≤ l.length ∧ m' = l.length - j ∧ Ch None_ None_ h0 h4 := by
      intro e' g1 g2 g15
      refine ⟨l.length - (i + 1), by omega, i + 1, ?_, by omega, rfl, c04⟩
      simp only [sx, reduceIte, Nat.reduceEqDiff, Nat.reduceAdd, g1, g2]
    have k8 : binV Try.prog .eql 40 (byteV k) (.int .u8 8) = some (.bool (decide (k = 8))) := byte_eql 40 k 8
    have bad : errOk (k, bs) = false → ∀ e, E.get e 1 = lv → E.get e 2 = .int .i64 x → E.get e 15 = .int .i64 (i : Int) → E.get e 16 = pv → E.get e 17 = .int .i64 (putErr (k, bs)) → E.get e 18 = qv → E.get e 19 = .int .i64 (putErr (k, bs)) →
        E.get e 20 = .int .i64 (errNum (k, bs) : Int) → E.get e 21 = .bool (errOk (k, bs)) → E.get e 22 = .bool false → ∀ {Q : XQ}, (∀ e', E.get e' 1 = lv → E.get e' 2 = .int .i64 x → E.get e' 15 = .int .i64 (i : Int) → Q .nx e' h4) → XW C h0.next x9_11 Q e h4 := by
      intro hb e g1 g2 g15 g16 g17 g18 g19 g20 g21 g22 Q hQ
      simp only [q9_11, sx, reduceIte, Nat.reduceEqDiff, Nat.reduceAdd, g22]
      refine tests 0 (by unfold errNum; rw [if_neg (by simp [hb])]; rfl) _ (by simp only [sx, reduceIte, Nat.reduceEqDiff, Nat.reduceAdd, g1]) (by simp only [sx, reduceIte, Nat.reduceEqDiff, Nat.reduceAdd, g2]) (by simp only [sx, reduceIte, Nat.reduceEqDiff, Nat.reduceAdd, g15]) (by simp only [sx, reduceIte, Nat.reduceEqDiff, Nat.reduceAdd, g16]) (by simp only [sx, reduceIte, Nat.reduceEqDiff, Nat.reduceAdd, g17]) (by simp only [sx, reduceIte, Nat.reduceEqDiff, Nat.reduceAdd, g18]) (by simp only [sx, reduceIte, Nat.reduceEqDiff, Nat.reduceAdd, g19]) (by simp only [sx, reduceIte, Nat.reduceEqDiff, Nat.reduceAdd, g20]) (by simp only [sx, reduceIte, Nat.reduceEqDiff, Nat.reduceAdd, g21]) (by simp only [sx, reduceIte, Nat.reduceEqDiff, Nat.reduceAdd, g22, hb]) (by simp only [sx, reduceIte, Nat.reduceEqDiff, Nat.reduceAdd]) hQ
    simp only [q9_10, sx, reduceIte, Nat.reduceEqDiff, Nat.reduceAdd, p1, fa42_0, l40 le4, k8]
    refine byT_dec (fun g8 => ?_) (fun g8 => ?_)
    · simp only [sx, reduceIte, Nat.reduceEqDiff, Nat.reduceAdd, fa42_1, l22 le4, (p3.mono le4).len t22]
      cases g2 : ((bs.length : Int) == 2) with
      | true =>
        have g2 : bs.length = 2 := by rw [beqI] at g2; omega
        have hok : errOk (k, bs) = true := by unfold errOk; simp [g8, g2]
        have hb := p3.mono le4
        obtain ⟨q0, u0, t0⟩ := hb.at t22 c5 (i := 0) (by omega) (k := .i64)
        obtain ⟨q1, u1, t1⟩ := hb.at t22 c5 (i := 1) (by omega) (k := .i64)
        simp only [Int.cast_ofNat_Int] at u0 u1
        have hb0 := bs[0].toNat_lt
        have hb1 := bs[1].toNat_lt
        have m0 : IntKind.wrap .i64 ((bs[0].toNat : Int) * 256) = ((bs[0].toNat * 256 : Nat) : Int) := by rw [wrap64 (by omega) (by omega)]; omega
        have s0 := add64 (a := bs[0].toNat * 256) (b := bs[1].toNat) (by omega)
        have en : ((bs[0].toNat * 256 + bs[1].toNat : Nat) : Int) = (errNum (k, bs) : Int) := by
          have : errNum (k, bs) = bs[0].toNat * 256 + bs[1].toNat := by
            show (if errOk (k, bs) = true then (bs.getD 0 0).toNat * 256 + (bs.getD 1 0).toNat else 0) = _
            rw [if_pos hok, List.getD_eq_getElem?_getD, List.getD_eq_getElem?_getD, List.getElem?_eq_getElem (by omega), List.getElem?_eq_getElem (by omega)]
            rfl
          rw [this]
        simp only [q9_11, sx, reduceIte, Nat.reduceEqDiff, Nat.reduceAdd, q9_12, p1, fa42_1, l22 le4, u0, u1, t0, t1, conv_byte Try.underlying3, m0, s0]
        refine tests _ en _ (by simp only [sx, reduceIte, Nat.reduceEqDiff, Nat.reduceAdd]) (by simp only [sx, reduceIte, Nat.reduceEqDiff, Nat.reduceAdd]) (by simp only [sx, reduceIte, Nat.reduceEqDiff, Nat.reduceAdd]) (by simp only [sx, reduceIte, Nat.reduceEqDiff, Nat.reduceAdd]) (by simp only [sx, reduceIte, Nat.reduceEqDiff, Nat.reduceAdd]) (by simp only [sx, reduceIte, Nat.reduceEqDiff, Nat.reduceAdd]) (by simp only [sx, reduceIte, Nat.reduceEqDiff, Nat.reduceAdd]) (by simp only [sx, reduceIte, Nat.reduceEqDiff, Nat.reduceAdd]) (by simp only [sx, reduceIte, Nat.reduceEqDiff, Nat.reduceAdd]) (by simp only [sx, reduceIte, Nat.reduceEqDiff, Nat.reduceAdd, hok]) (by simp only [sx, reduceIte, Nat.reduceEqDiff, Nat.reduceAdd]) fun e' r1 r2 r15 => ?_
        simp only [sx, reduceIte, Nat.reduceEqDiff, Nat.reduceAdd, q9_16, r15, e5]
        exact fin e' r1 r2 r15
      | false =>
        have g2 : bs.length ≠ 2 := by rw [beqIf] at g2; omega
        refine bad (by unfold errOk; simp [g2]) _ (by simp only [sx, reduceIte, Nat.reduceEqDiff, Nat.reduceAdd]) (by simp only [sx, reduceIte, Nat.reduceEqDiff, Nat.reduceAdd]) (by simp only [sx, reduceIte, Nat.reduceEqDiff, Nat.reduceAdd]) (by simp only [sx, reduceIte, Nat.reduceEqDiff, Nat.reduceAdd]) (by simp only [sx, reduceIte, Nat.reduceEqDiff, Nat.reduceAdd]) (by simp only [sx, reduceIte, Nat.reduceEqDiff, Nat.reduceAdd]) (by simp only [sx, reduceIte, Nat.reduceEqDiff, Nat.reduceAdd]) (by simp only [sx, reduceIte, Nat.reduceEqDiff, Nat.reduceAdd]) (by simp only [sx, reduceIte, Nat.reduceEqDiff, Nat.reduceAdd]) (by simp only [sx, reduceIte, Nat.reduceEqDiff, Nat.reduceAdd]) fun e' r1 r2 r15 => ?_
        simp only [sx, reduceIte, Nat.reduceEqDiff, Nat.reduceAdd, q9_16, r15, e5]
        exact fin e' r1 r2 r15
    · refine bad (by unfold errOk; simp [g8]) _ (by simp only [sx, reduceIte, Nat.reduceEqDiff, Nat.reduceAdd]) (by simp only [sx, reduceIte, Nat.reduceEqDiff, Nat.reduceAdd]) (by simp only [sx, reduceIte, Nat.reduceEqDiff, Nat.reduceAdd]) (by simp only [sx, reduceIte, Nat.reduceEqDiff, Nat.reduceAdd]) (by simp only [sx, reduceIte, Nat.reduceEqDiff, Nat.reduceAdd]) (by simp only [sx, reduceIte, Nat.reduceEqDiff, Nat.reduceAdd]) (by simp only [sx, reduceIte, Nat.reduceEqDiff, Nat.reduceAdd]) (by simp only [sx, reduceIte, Nat.reduceEqDiff, Nat.reduceAdd]) (by simp only [sx, reduceIte, Nat.reduceEqDiff, Nat.reduceAdd]) (by simp only [sx, reduceIte, Nat.reduceEqDiff, Nat.reduceAdd]) fun e' r1 r2 r15 => ?_
      simp only [sx, reduceIte, Nat.reduceEqDiff, Nat.reduceAdd, q9_16, r15, e5]
      exact fin e' r1 r2 r15
  · exact ans_end wf ch hx (by simp only [sx, reduceIte, Nat.reduceEqDiff, Nat.reduceAdd])
end
theorem wireAnswers {h : H} {av lv ev : V} (wf : HWF h) (_ : AllRo h) {N : Nat} (o0 : OkA Try.prog h.read 1048576 N 75 av) (o1 : OkA Try.prog h.read 1048576 N 26 lv) (o2 : OkA Try.prog h.read 1048576 N 27 ev) :
    CW C 9 [av, lv, ev] h.next h fun v _ => v = .bool true := by
  obtain ⟨ca, a, rfl, a1, ok, _⟩ := an_ok o0
  obtain ⟨l, l1, l2, l3⟩ := frames_ok (okA_slice Try.underlying26 o1)
  obtain ⟨x, rfl, hx⟩ := err_in o2
  obtain ⟨nv, rv, rfl, n1, r1⟩ := a1
  refine enter9 rfl ?_
  have cA := ch_alloc wf [nv, rv, .int .i64 a.count]
  have at0 := at_new wf [nv, rv, .int .i64 a.count]
  have eC : (V.agg [nv, rv, .int .i64 a.count]).cells = [nv, rv, .int .i64 a.count] := rfl
  have cz : (V.agg [V.nils, .nils, .int .i64 0]).cells = [V.nils, .nils, .int .i64 0] := rfl
  have l0 : ∀ {h' : H}, Le (h.alloc [nv, rv, .int .i64 a.count]).read h'.read → loadV Try.prog 75 (.ptr h.next 0) h'.read = some (.agg [nv, rv, .int .i64 a.count]) := fun le => (at0.mono le).agg agg75 siz75 rfl (by decide)
  have leA := Ch.le cA
  have nn : ∀ y : Int, (y != y) = false := fun y => by simp
  simp only [q9_0, sx, reduceIte, Nat.reduceEqDiff, Nat.reduceAdd, eC, l0 (Le.refl _)]
  refine (answer cA.wf cA.next (n1.mono txE_mono leA) (r1.mono rowE_mono leA) ok).mono ?_
  rintro _ h3 ⟨xv, rfl, hxv, c3⟩
  have le3 := Ch.le c3
  simp only [sx, reduceIte, Nat.reduceEqDiff, Nat.reduceAdd, l0 le3]
  refine (answer36 c3.wf (Nat.le_trans cA.next c3.next) (n1.mono txE_mono (leA.trans le3)) (r1.mono rowE_mono (leA.trans le3)) ok).mono ?_
  rintro _ h4 ⟨yv, rfl, hyv, c4⟩
  have c04 := (cA.trans c3).trans c4
  simp only [sx, reduceIte, Nat.reduceEqDiff, Nat.reduceAdd]
  refine (readA c4.wf c04.next (l1.mono frE_mono (Ch.le c04)) (by omega)).mono ?_
  rintro _ h5 ⟨cb, rfl, hcb, c5'⟩
  obtain ⟨h6, s6, c6, l6⟩ := ansBox c5'.wf hcb (lo := h.next) (Nat.le_trans c04.next c5'.next)
  have c06 := (c04.trans c5').trans c6
  simp only [sx, reduceIte, Nat.reduceEqDiff, Nat.reduceAdd, z75, cz, s6]
  refine (readA38 c6.wf c06.next (l1.mono frE_mono (Ch.le c06)) l3 l2).mono ?_
  rintro _ h7 ⟨cc, rfl, hcc, c7⟩
  obtain ⟨h8, s8, c8, l8⟩ := ansBox c7.wf hcc (lo := h.next) (Nat.le_trans c06.next c7.next)
  have c08 := (c06.trans c7).trans c8
  have le48 : Le h4.read h8.read := (((Ch.le c5').trans (Ch.le c6)).trans (Ch.le c7)).trans (Ch.le c8)
  have fx : Frames h8.read xv (if ansErr a = 0 then ansFs a else []) := by
    by_cases g : ansErr a = 0
    · rw [if_pos g] at hxv ⊢
      exact (hxv.mono frE_mono (Ch.le c4)).mono frE_mono le48
    · rw [if_neg g] at hxv ⊢
      subst hxv
      exact Frames.nil
  have fy : Frames h8.read yv (if ansErr a = 0 then ansFs a else []) := by
    by_cases g : ansErr a = 0
    · rw [if_pos g] at hyv ⊢
      exact hyv.mono frE_mono le48
    · rw [if_neg g] at hyv ⊢
      subst hyv
      exact Frames.nil
  have fl : (if ansErr a = 0 then ansFs a else []).length < 1000000000000000 ∧ ∀ f ∈ (if ansErr a = 0 then ansFs a else []), f.2.length < 1000000000000000 := by
    by_cases g : ansErr a = 0
    · rw [if_pos g]
      refine ⟨?_, (ansFs_short g).1⟩
      have h1 := ok.r1
      have h2 : (headFs a.names).length ≤ 1 := by unfold headFs; split <;> simp
      simp only [ansFs, rowFs, List.length_append, List.length_map, List.length_singleton]
      omega
    · rw [if_neg g]
      exact ⟨by simp, fun f hf => by cases hf⟩
  simp only [sx, reduceIte, Nat.reduceEqDiff, Nat.reduceAdd, z75, cz, s8, nn]
  refine (sameFrames fx fy fl.1 fl.2).mono ?_
  rintro _ h8 ⟨rfl, rfl⟩
  have le78 := Ch.le c8
  have ll6 := l6 ((Ch.le c7).trans le78)
  have ll8 := l8 (Le.refl _)
  have bA : ((rdAns l).getD nilAn).names.length < 1000000000000000 ∧ ((rdAns l).getD nilAn).rows.length < 1000000000000000 ∧ ∀ r ∈ ((rdAns l).getD nilAn).rows, r.length < 1000000000000000 := by
    cases hp : rdAns l with
    | none => exact ⟨by simp [nilAn], by simp [nilAn], fun r hr => by simp [nilAn] at hr⟩
    | some q =>
      obtain ⟨q1, q2, q3⟩ := ans_inv hp
      obtain ⟨s1, s2, s3⟩ := ansFs_short q1
      have hql : q.rows.length ≤ l.length := by
        rw [← q2]
        simp only [ansFs, rowFs, List.length_append, List.length_map, List.length_singleton]
        omega
      exact ⟨by show q.names.length < _; omega, by show q.rows.length < _; omega, fun r hr => by have := s3 r hr; omega⟩
  simp only [sx, reduceIte, Nat.reduceEqDiff, Nat.reduceAdd, decide_true, Bool.not_true, ll6, ll8]
  refine (sameAnswer (a := (rdAns l).getD nilAn) (b := (rdAns l).getD nilAn) c8.wf (hcb.mono (((Ch.le c6).trans (Ch.le c7)).trans le78)) (hcc.mono le78) bA.1 bA.2.1 bA.2.2).mono ?_
  rintro _ h9 ⟨rfl, c9'⟩
  have c09 := c08.trans c9'
  simp only [sx, reduceIte, Nat.reduceEqDiff, Nat.reduceAdd, decide_true, Bool.not_true, q9_3, q9_4]
  exact rounds (fun m e h' => ∃ i : Nat, e = [(1, lv), (2, .int .i64 x), (15, .int .i64 (i : Int))] ∧ i ≤ l.length ∧ m = l.length - i ∧ Ch None_ None_ h h')
    (fun m e h' I => ans9_round wf l1 l3 l2 hx I) l.length ⟨0, by simp only [sx, reduceIte, Nat.reduceEqDiff, Nat.reduceAdd]; rfl, Nat.zero_le _, rfl, c09⟩
end Go.Proofs.Ytghmbmblhdgabaa
