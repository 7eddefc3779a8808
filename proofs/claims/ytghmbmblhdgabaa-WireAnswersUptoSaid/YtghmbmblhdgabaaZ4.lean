/- The reference's reading of a row: the walk. -/
import Derived.Test.YtghmbmblhdgabaaZ3
set_option linter.all false
namespace Go.Proofs.Ytghmbmblhdgabaa
open Go Go.Den Code
set_option maxRecDepth 100000
section
variable {bv ov nv : V} {b : List UInt8} {h h2 : H} {lo : Nat} {xs : List Vl} {F : Option Nat}
def refVal (k : UInt8) (p : List UInt8) : Vl := if k.toNat = 4 ∨ k.toNat = 5 then ⟨k, 0, p⟩ else ⟨k, numU p, []⟩
/-- the value is put behind the others -/
theorem ref_put (wf : HWF h) (hlo : lo ≤ h.next) (ho : BufOf vlE 3 lo h (fun _ => none) ov xs F) (hxs : xs.length ≤ 1000) {x : Vl} (own : Own h2 lo h.next h.next (vlC x)) (ch : Ch (fun g => h.next ≤ g) (fun g => h.next ≤ g) h h2) {i3 : Nat} {Q : XQ} {e : E}
    (g0 : E.get e 0 = bv) (g4 : E.get e 4 = ov) (g5 : E.get e 5 = .int .i64 (i3 : Int)) (g6 : E.get e 6 = nv) (g7 : E.get e 7 = .ptr h.next 0)
    (hQ : ∀ v' h' F' e', BufOf vlE 3 lo h' (fun _ => none) v' (xs ++ [x]) F' → Gr h F h' F' → E.get e' 0 = bv → E.get e' 4 = v' → E.get e' 5 = .int .i64 (i3 : Int) → E.get e' 6 = nv → Q .nx e' h') : XW C lo x68_36 Q e h2 := by
  have cN : Ch None_ None_ h h2 := ch.old wf (fun g h1 h2 => by have : h.next ≤ g := h1; omega) fun g h1 h2 => by have : h.next ≤ g := h1; omega
  have l := (own.at ch.wf).agg agg60 siz60 rfl (by decide)
  have cA := ch_alloc ch.wf (vlC x)
  have bA := BufOf.own (BufOf.own ho cN fun _ _ h => h) cA fun _ _ h => h
  obtain ⟨v', h', F', x1, x2, x3, x4⟩ := append_one (Er := vlE) (y := x) a48 cA.wf (Nat.le_trans hlo (Nat.le_trans ch.next cA.next)) bA (elems_new (c := some 1) ch.wf (n := 1) (es := 3) rfl) rfl rfl rfl (by omega) (by omega)
  simp only [q68_36, sx, reduceIte, Nat.reduceEqDiff, Nat.reduceAdd, g0, g4, g5, g6, g7, l, buildSlice_one b48 (v := .agg (vlC x)) rfl, x1]
  refine hQ v' h' F' _ x2 ((Gr.of (cN.trans cA)).trans ?_) (by simp only [sx, reduceIte, Nat.reduceEqDiff, Nat.reduceAdd]) (by simp only [sx, reduceIte, Nat.reduceEqDiff, Nat.reduceAdd]) (by simp only [sx, reduceIte, Nat.reduceEqDiff, Nat.reduceAdd]) (by simp only [sx, reduceIte, Nat.reduceEqDiff, Nat.reduceAdd])
  exact Gr.app x3 x4
theorem ref_value {k : UInt8} {i2 s : Nat} (wf : HWF h) (hlo : lo ≤ h.next) (hb : Bytes h.read bv b) (hl : b.length ≤ 1048576) (hi2 : i2 ≤ b.length) (hs : s ≤ 255) (ho : BufOf vlE 3 lo h (fun _ => none) ov xs F) (hxs : xs.length ≤ 1000)
    (own : Own h2 lo h.next h.next (vlC ⟨k, 0, []⟩)) (ch : Ch (fun g => h.next ≤ g) (fun g => h.next ≤ g) h h2) {Q : XQ} {e : E}
    (g0 : E.get e 0 = bv) (g4 : E.get e 4 = ov) (g5 : E.get e 5 = .int .i64 (i2 : Int)) (g6 : E.get e 6 = nv) (g7 : E.get e 7 = .ptr h.next 0) (g8 : E.get e 8 = .int .i64 (s : Int))
    (herr : b.length < i2 + s → ∀ e, Q .rt ((2, .nils) :: (3, .int .i64 280) :: e) h2)
    (hQ : i2 + s ≤ b.length → ∀ v' h' F' e', BufOf vlE 3 lo h' (fun _ => none) v' (xs ++ [refVal k ((b.drop i2).take s)]) F' → Gr h F h' F' → E.get e' 0 = bv → E.get e' 4 = v' → E.get e' 5 = .int .i64 ((i2 + s : Nat) : Int) → E.get e' 6 = nv → Q .nx e' h') :
    XW C lo x68_24 Q e h2 := by
  have cN : Ch None_ None_ h h2 := ch.old wf (fun g h1 h2 => by have : h.next ≤ g := h1; omega) fun g h1 h2 => by have : h.next ≤ g := h1; omega
  have hb2 := hb.mono (Ch.le cN)
  have ea := add64 (a := i2) (b := s) (by omega)
  simp only [q68_24, sx, reduceIte, Nat.reduceEqDiff, Nat.reduceAdd, g0, g4, g5, g6, g7, g8, ea, hb2.len t22]
  refine byT_dec (fun g => ?_) (fun g => ?_)
  · simp only [q68_25, sx, reduceIte, Nat.reduceEqDiff, Nat.reduceAdd]
    exact herr (by omega) _
  · have hle : i2 + s ≤ b.length := by omega
    obtain ⟨w, w1, w2⟩ := hb2.slice (rd' := h2.read) t22 (lo := i2) (hi := i2 + s) (k := .i64) (k' := .i64) (by omega) hle
    rw [show i2 + s - i2 = s by omega] at w2
    have hpl : ((b.drop i2).take s).length = s := by simp; omega
    have lk : loadV Try.prog 58 (.ptr h.next 0) h2.read = some (.int .u8 (k.toNat : Int)) := (own.at ch.wf).cell0 c58 rfl
    have txt : ∀ {e : E}, E.get e 0 = bv → E.get e 4 = ov → E.get e 5 = .int .i64 ((i2 + s : Nat) : Int) → E.get e 6 = nv → E.get e 7 = .ptr h.next 0 → E.get e 9 = w → (k.toNat = 4 ∨ k.toNat = 5) → XW C lo x68_28 (kX (XW C lo x68_36 Q) Q) e h2 := by
      intro e g0 g4 g5 g6 g7 g9 hk
      obtain ⟨h3, s3, o3, c3, n3⟩ := own.set (P := Try.prog) (t := 9) (o := 0 + 2) (w := .str ((b.drop i2).take s)) ch.wf c9.s rfl rfl (by simp [vlC])
      simp only [q68_28, sx, reduceIte, Nat.reduceEqDiff, Nat.reduceAdd, g9, conv_str w2, g7, fa60_2, s3]
      have ev : refVal k ((b.drop i2).take s) = ⟨k, 0, (b.drop i2).take s⟩ := by unfold refVal; rw [if_pos hk]
      rw [ev] at hQ
      exact ref_put wf hlo ho hxs (x := ⟨k, 0, (b.drop i2).take s⟩) o3 (ch.trans (c3.mono (fun g h => by show _ ≤ g; omega) fun g h => by show _ ≤ g; omega)) g0 g4 g5 g6 g7 (hQ hle)
    simp only [q68_26, sx, reduceIte, Nat.reduceEqDiff, Nat.reduceAdd, ea, w1, fa60_0, lk]
    refine byT_mk (fun h4 => ?_) (fun h4 => ?_)
    · exact txt (by simp only [sx, reduceIte, Nat.reduceEqDiff, Nat.reduceAdd]) (by simp only [sx, reduceIte, Nat.reduceEqDiff, Nat.reduceAdd]) (by simp only [sx, reduceIte, Nat.reduceEqDiff, Nat.reduceAdd]) (by simp only [sx, reduceIte, Nat.reduceEqDiff, Nat.reduceAdd]) (by simp only [sx, reduceIte, Nat.reduceEqDiff, Nat.reduceAdd]) (by simp only [sx, reduceIte, Nat.reduceEqDiff, Nat.reduceAdd]) (.inl (by simp only [beqI] at h4; omega))
    · have k4 : ¬ k.toNat = 4 := by simp only [beqIf] at h4; omega
      refine byT_mk (fun h5 => ?_) (fun h5 => ?_)
      · exact txt (by simp only [sx, reduceIte, Nat.reduceEqDiff, Nat.reduceAdd]) (by simp only [sx, reduceIte, Nat.reduceEqDiff, Nat.reduceAdd]) (by simp only [sx, reduceIte, Nat.reduceEqDiff, Nat.reduceAdd]) (by simp only [sx, reduceIte, Nat.reduceEqDiff, Nat.reduceAdd]) (by simp only [sx, reduceIte, Nat.reduceEqDiff, Nat.reduceAdd]) (by simp only [sx, reduceIte, Nat.reduceEqDiff, Nat.reduceAdd]) (.inr (by simp only [beqI] at h5; omega))
      · have k5 : ¬ k.toNat = 5 := by simp only [beqIf] at h5; omega
        have ev : refVal k ((b.drop i2).take s) = ⟨k, numU ((b.drop i2).take s), []⟩ := by unfold refVal; rw [if_neg (by omega)]
        rw [ev] at hQ
        generalize hp : (b.drop i2).take s = p at *
        simp only [q68_29, sx, reduceIte, Nat.reduceEqDiff, Nat.reduceAdd, q68_30]
        refine rounds (fun m e' h' => ∃ j : Nat, e' = [(0, bv), (4, ov), (5, .int .i64 ((i2 + s : Nat) : Int)), (6, nv), (7, .ptr h.next 0), (9, w), (10, .int .u64 ((p.take j).foldl accU 0)), (11, .int .i64 (j : Int))] ∧ j ≤ p.length ∧ m = p.length - j ∧ h' = h2) ?_ p.length
          ⟨0, by simp only [sx, reduceIte, Nat.reduceEqDiff, Nat.reduceAdd]; rfl, Nat.zero_le _, rfl, rfl⟩
        rintro m e' h' ⟨j, rfl, hj, rfl, rfl⟩
        simp only [q68_31, sx, reduceIte, Nat.reduceEqDiff, Nat.reduceAdd, w2.len t22]
        refine byT_dec (fun hlt => ?_) (fun hge => ?_)
        · have hlt : j < p.length := by omega
          obtain ⟨q, q1, q2⟩ := w2.at t22 c5 hlt (k := .i64)
          have cb : convV Try.prog h'.read 5 92 (byteV p[j]) = some (.val (.int .u64 (p[j].toNat : Int))) := by
            have hx := p[j].toNat_lt
            have h := conv_int (P := Try.prog) (rd := h'.read) Try.underlying5 Try.underlying92 .u8 (p[j].toNat : Int)
            rw [wrap_u64, Int.emod_eq_of_lt (by omega) (by omega)] at h
            exact h
          have e5 := add64 (a := j) (b := 1) (by omega)
          simp only [Int.cast_ofNat_Int] at e5
          simp only [q68_32, q68_33, sx, reduceIte, Nat.reduceEqDiff, Nat.reduceAdd, q1, q2, cb, q68_34, e5]
          refine ⟨p.length - (j + 1), by omega, j + 1, ?_, by omega, rfl, trivial⟩
          rw [List.take_add_one, List.getElem?_eq_getElem hlt, List.foldl_append]
          rfl
        · have hjl : j = p.length := by omega
          subst hjl
          have cv : convV Try.prog h'.read 92 2 (.int .u64 ((p.take p.length).foldl accU 0)) = some (.val (.int .i64 (numU p))) := by
            rw [List.take_length]
            exact conv_int (P := Try.prog) (rd := h'.read) Try.underlying92 Try.underlying2 .u64 _
          obtain ⟨h3, s3, o3, c3, n3⟩ := own.set (P := Try.prog) (t := 2) (o := 0 + 1) (w := .int .i64 (numU p)) ch.wf c2.s rfl rfl (by simp [vlC])
          simp only [sx, reduceIte, Nat.reduceEqDiff, Nat.reduceAdd, q68_35, cv, fa60_1, s3]
          exact ref_put wf hlo ho hxs (x := ⟨k, numU p, []⟩) o3 (ch.trans (c3.mono (fun g h => by show _ ≤ g; omega) fun g h => by show _ ≤ g; omega)) (by simp only [sx, reduceIte, Nat.reduceEqDiff, Nat.reduceAdd]) (by simp only [sx, reduceIte, Nat.reduceEqDiff, Nat.reduceAdd]) (by simp only [sx, reduceIte, Nat.reduceEqDiff, Nat.reduceAdd]) (by simp only [sx, reduceIte, Nat.reduceEqDiff, Nat.reduceAdd]) (by simp only [sx, reduceIte, Nat.reduceEqDiff, Nat.reduceAdd]) (hQ hle)
end
theorem refMany_succ {n : Nat} {l : List UInt8} : refMany (n + 1) l = match refOne l with
    | none => none
    | some (x, r) => match refMany n r with
      | none => none
      | some xs => some (x :: xs) := rfl
section
variable {bv : V} {b : List UInt8} {h0 h : H} {N : Nat}
/-- what holds at each round's start -/
def R18 (h0 : H) (bv : V) (b : List UInt8) (N : Nat) (m : Nat) (e : E) (h : H) : Prop :=
  ∃ (n i : Nat) (ov : V) (xs : List Vl) (F : Option Nat), e = [(0, bv), (4, ov), (5, .int .i64 (i : Int)), (6, .int .i64 (n : Int))] ∧ m = n ∧ i ≤ b.length ∧ xs.length + n = N ∧ BufOf vlE 3 h0.next h (fun _ => none) ov xs F ∧ (∀ g, F = some g → h0.next ≤ g) ∧
    Ch None_ (fun g => h0.next ≤ g) h0 h ∧ refMany N (b.drop 1) = match refMany n (b.drop i) with
      | none => none
      | some ys => some (xs ++ ys)
theorem r18_round (wf : HWF h0) (hb : Bytes h0.read bv b) (hl : b.length ≤ 1048576) (hN : N ≤ 255) {m : Nat} {e : E} (I : R18 h0 bv b N m e h) {Q : XQ}
    (herr : refMany N (b.drop 1) = none → ∀ e h', Ch None_ None_ h0 h' → Q .rt ((2, .nils) :: (3, .int .i64 280) :: e) h')
    (hQ : ∀ e h ov xs F, E.get e 0 = bv → E.get e 4 = ov → BufOf vlE 3 h0.next h (fun _ => none) ov xs F → (∀ g, F = some g → h0.next ≤ g) → Ch None_ (fun g => h0.next ≤ g) h0 h → refMany N (b.drop 1) = some xs → Q (.ex 0) e h) :
    XW C h0.next x68_4 (kX (fun e' h' => ∃ m', m' < m ∧ R18 h0 bv b N m' (only [0, 4, 5, 6] e') h') Q) e h := by
  obtain ⟨n, i, ov, xs, F, rfl, rfl, hi, hxn, ho, hF, ch, hr⟩ := I
  have old : ∀ {h' : H}, Ch None_ (fun g => h0.next ≤ g) h0 h' → Ch None_ None_ h0 h' := fun c => c.old wf (fun _ h _ => h) fun g h1 h2 => by have : h0.next ≤ g := h1; omega
  have hb1 := hb.mono (Ch.le ch)
  simp only [q68_4, sx, reduceIte, Nat.reduceEqDiff, Nat.reduceAdd]
  refine byT_dec (fun hpos => ?_) (fun hz => ?_)
  · have hpos : 0 < m := by omega
    obtain ⟨n, rfl⟩ : ∃ n, m = n + 1 := ⟨m - 1, by omega⟩
    rw [refMany_succ] at hr
    simp only [q68_5, q68_6, sx, reduceIte, Nat.reduceEqDiff, Nat.reduceAdd, hb1.len t22]
    refine byT_dec (fun g => ?_) (fun g => ?_)
    · rw [List.drop_of_length_le (by omega : b.length ≤ i)] at hr
      simp only [q68_7, sx, reduceIte, Nat.reduceEqDiff, Nat.reduceAdd]
      exact herr hr _ _ (old ch)
    · have hlt : i < b.length := by omega
      obtain ⟨p, p1, p2⟩ := hb1.at t22 c5 hlt (k := .i64)
      rw [refOne_at hlt] at hr
      generalize hk : b[i] = k at *
      have cA := ch_alloc ch.wf [V.int .u8 0, .int .i64 0, .str []]
      have cz : (V.agg [V.int .u8 0, .int .i64 0, .str []]).cells = [V.int .u8 0, .int .i64 0, .str []] := rfl
      obtain ⟨h2, s2, o2, c2, n2⟩ := (Own.new (h := h) (lo := h0.next) (cs := [V.int .u8 0, .int .i64 0, .str []]) ch.next).fill (P := Try.prog) (t := 60) (c := vlC ⟨k, 0, []⟩) cA.wf siz60 rfl rfl rfl
      have l58 : loadV Try.prog 58 (.ptr h.next 0) h2.read = some (byteV k) := (o2.at c2.wf).cell0 c58 rfl
      have c12 : Ch (fun g => h.next ≤ g) (fun g => h.next ≤ g) h h2 := (cA.mono (None_sub _) (None_sub _)).trans (c2.mono (fun g h => by show _ ≤ g; omega) fun g h => by show _ ≤ g; omega)
      have cN : Ch None_ None_ h h2 := c12.old ch.wf (fun g h1 h2 => by have : h.next ≤ g := h1; omega) fun g h1 h2 => by have : h.next ≤ g := h1; omega
      have chN : Ch None_ (fun g => h0.next ≤ g) h0 h2 := ch.trans (cN.mono (fun _ h => h) (None_sub _))
      have hb2 := hb1.mono (Ch.le cN)
      have e5 := add64 (a := i) (b := 1) (by omega)
      simp only [Int.cast_ofNat_Int] at e5
      have esub : IntKind.wrap .i64 (((n + 1 : Nat) : Int) - 1) = (n : Int) := by rw [wrap64 (by omega) (by omega)]; omega
      have hsz : szK k ≤ 8 := by unfold szK; split; · omega
                                 · split <;> omega
      have hbd : (b.getD (i + 1) 0).toNat ≤ 255 := by have := (b.getD (i + 1) 0).toNat_lt; omega
      simp only [q68_8, sx, reduceIte, Nat.reduceEqDiff, Nat.reduceAdd, p1, p2, b60k, z60, cz, s2, e5, fa60_0, l58]
      refine ref_switch (k := k) (bf := h.next) (i1 := i + 1) (ov := ov) (nv := .int .i64 ((n + 1 : Nat) : Int)) hb2 hl (by omega) (by simp only [sx, reduceIte, Nat.reduceEqDiff, Nat.reduceAdd]) (by simp only [sx, reduceIte, Nat.reduceEqDiff, Nat.reduceAdd]) (by simp only [sx, reduceIte, Nat.reduceEqDiff, Nat.reduceAdd]) (by simp only [sx, reduceIte, Nat.reduceEqDiff, Nat.reduceAdd]) (by simp only [sx, reduceIte, Nat.reduceEqDiff, Nat.reduceAdd]) (by simp only [sx, reduceIte, Nat.reduceEqDiff, Nat.reduceAdd]) (by simp only [sx, reduceIte, Nat.reduceEqDiff, Nat.reduceAdd]; rfl) (fun hk4 hle e => ?_) (fun i2 s hcase => ?_)
      · rw [if_pos hk4, if_pos hle] at hr
        simp only [sx, reduceIte, Nat.reduceEqDiff, Nat.reduceAdd]
        exact herr hr _ _ (old chN)
      · have hs : s ≤ 255 := by rcases hcase with ⟨_, _, _, h⟩ | ⟨_, _, h⟩ <;> omega
        have hi2 : i2 ≤ b.length := by rcases hcase with ⟨_, _, h, _⟩ | ⟨_, h, _⟩ <;> omega
        refine ref_value (k := k) (ov := ov) (nv := .int .i64 ((n + 1 : Nat) : Int)) ch.wf ch.next hb1 hl hi2 hs ho (by omega) o2 c12 (by simp only [sx, reduceIte, Nat.reduceEqDiff, Nat.reduceAdd]) (by simp only [sx, reduceIte, Nat.reduceEqDiff, Nat.reduceAdd]) (by simp only [sx, reduceIte, Nat.reduceEqDiff, Nat.reduceAdd]) (by simp only [sx, reduceIte, Nat.reduceEqDiff, Nat.reduceAdd]) (by simp only [sx, reduceIte, Nat.reduceEqDiff, Nat.reduceAdd]) (by simp only [sx, reduceIte, Nat.reduceEqDiff, Nat.reduceAdd]) (fun hgt e => ?_) (fun hle v' h' F' e' y1 y2 y3 y4 y5 y6 => ?_)
        · have hr : refMany N (b.drop 1) = none := by
            rw [hr]
            rcases hcase with ⟨q1, q2, q3, q4⟩ | ⟨q1, q2, q3⟩
            · subst q3; subst q4
              rw [if_pos q1, if_neg (by omega), if_pos (by omega)]
            · subst q2; subst q3
              rw [if_neg q1, if_pos (by omega)]
          simp only [sx, reduceIte, Nat.reduceEqDiff, Nat.reduceAdd]
          exact herr hr _ _ (old chN)
        · simp only [sx, reduceIte, Nat.reduceEqDiff, Nat.reduceAdd, q68_37, y3, y4, y5, y6, esub]
          refine ⟨n, by omega, n, i2 + s, v', xs ++ [refVal k ((b.drop i2).take s)], F', rfl, rfl, hle, by simp; omega, y1, fun g hg => ?_, ch.trans (y2.ch.mono (fun _ h => h) fun g hg => ?_), ?_⟩
          · rcases y2.F g hg with h | h
            · exact hF g h
            · exact Nat.le_trans ch.next h
          · rcases hg with h | h
            · exact hF g h
            · exact Nat.le_trans ch.next h
          · rw [hr]
            rcases hcase with ⟨q1, q2, q3, q4⟩ | ⟨q1, q2, q3⟩
            · subst q3; subst q4
              rw [if_pos q1, if_neg (by omega), if_neg (by omega)]
              have ev : refVal k ((b.drop (i + 1 + 1)).take (b.getD (i + 1) 0).toNat) = ⟨k, 0, (b.drop (i + 1 + 1)).take (b.getD (i + 1) 0).toNat⟩ := by unfold refVal; rw [if_pos q1]
              rw [ev]
              simp only
              cases refMany n (b.drop (i + 1 + 1 + (b.getD (i + 1) 0).toNat)) with
              | none => rfl
              | some ys => simp
            · subst q2; subst q3
              rw [if_neg q1, if_neg (by omega)]
              have ev : refVal k ((b.drop (i + 1)).take (szK k)) = ⟨k, numU ((b.drop (i + 1)).take (szK k)), []⟩ := by unfold refVal; rw [if_neg q1]
              rw [ev]
              simp only
              cases refMany n (b.drop (i + 1 + szK k)) with
              | none => rfl
              | some ys => simp
  · have hz : m = 0 := by omega
    subst hz
    have hr : refMany N (b.drop 1) = some xs := by rw [hr]; simp [refMany]
    exact hQ _ _ ov xs F (by simp only [sx, reduceIte, Nat.reduceEqDiff, Nat.reduceAdd]) (by simp only [sx, reduceIte, Nat.reduceEqDiff, Nat.reduceAdd]) ho hF ch hr
end
theorem neqStr (t : Nat) (x y : List UInt8) : binV Try.prog .neq t (.str x) (.str y) = some (.bool (!decide (x = y))) := rfl
theorem read68 {a : V} {h : H} {b : List UInt8} {lo : Nat} (wf : HWF h) (hlo : lo ≤ h.next) (ha : Bytes h.read a b) (hl : b.length ≤ 1048576) : CW C 68 [a] lo h (ReadPost h b) := by
  refine CW.low hS hlo (enter68 rfl ?_)
  have err : ∀ {h' : H}, readP b = none → Ch None_ None_ h h' → ReadPost h b (.tup [.nils, .int .i64 280]) h' := fun hp c => by
    unfold ReadPost
    rw [hp]
    exact ⟨.nils, rfl, rfl, c⟩
  have hrr := refRead_eq b
  simp only [q68_0, sx, reduceIte, Nat.reduceEqDiff, Nat.reduceAdd, ha.len t22]
  refine byT_mk (fun g => ?_) (fun g => ?_)
  · have h0 : b = [] := by rw [beqI] at g; exact List.eq_nil_of_length_eq_zero (by omega)
    simp only [q68_1, sx, reduceIte, Nat.reduceEqDiff, Nat.reduceAdd, e68_rt]
    exact err (by rw [← hrr, h0]; rfl) (Ch.refl _ _ wf)
  · have hpos : 0 < b.length := by rw [beqIf] at g; omega
    obtain ⟨n0, r0, rfl⟩ : ∃ n0 r0, b = n0 :: r0 := ⟨b[0], b.drop 1, by
      have := List.drop_eq_getElem_cons hpos
      rwa [List.drop_zero] at this⟩
    obtain ⟨p, p1, p2⟩ := ha.at t22 c5 hpos (k := .i64)
    simp only [Int.cast_ofNat_Int, List.getElem_cons_zero] at p1 p2
    have hN := n0.toNat_lt
    have hrr' : readP (n0 :: r0) = match refMany n0.toNat ((n0 :: r0).drop 1) with
        | none => none
        | some xs => if rowErr xs = 0 ∧ rowBytes xs = n0 :: r0 then some xs else none := by
      rw [← hrr]
      rfl
    generalize hbb : n0 :: r0 = b at *
    simp only [q68_2, sx, reduceIte, Nat.reduceEqDiff, Nat.reduceAdd, p1, p2, conv_byte Try.underlying3, q68_3]
    refine rounds (R18 h a b n0.toNat) (fun m e h' I => r18_round wf ha hl (by omega) I ?_ ?_) n0.toNat ⟨n0.toNat, 1, .nils, [], none, by simp only [sx, reduceIte, Nat.reduceEqDiff, Nat.reduceAdd]; rfl, rfl, hpos, by simp, BufOf.nil, (fun _ h => by cases h), Ch.refl _ _ wf, ?_⟩
    · intro hn e h' c
      simp only [sx, reduceIte, Nat.reduceEqDiff, Nat.reduceAdd, e68_rt]
      exact err (by rw [hrr', hn]) c
    · intro e h1 ov xs F g0 g4 ho hF ch hm
      rw [hm] at hrr'
      simp only at hrr'
      have cN : Ch None_ None_ h h1 := ch.old wf (fun _ h _ => h) fun g h1 h2 => by have : h.next ≤ g := h1; omega
      obtain ⟨q1, q2⟩ := refMany_ok hm
      have nv : NewVals h h1 ov xs := ⟨F, ho, hF⟩
      simp only [sx, reduceIte, Nat.reduceEqDiff, Nat.reduceAdd, q68_38, g0, g4]
      refine (row64 ch.wf ch.next (nv.rd ch.wf) q1 (by omega)).mono ?_
      rintro _ h3 ⟨rv, rfl, hrv, c3⟩
      simp only [sx, reduceIte, Nat.reduceEqDiff, Nat.reduceAdd]
      refine byT_mk (fun g => ?_) (fun g => ?_)
      · have g : rowErr xs ≠ 0 := by simpa using g
        simp only [q68_40, sx, reduceIte, Nat.reduceEqDiff, Nat.reduceAdd, e68_rt]
        exact err (by rw [hrr', if_neg fun h => g h.1]) (cN.trans c3)
      · have g : rowErr xs = 0 := by simpa using g
        rw [if_pos g] at hrv
        simp only [conv_str (hrv.rd c3.wf), conv_str ((ha.mono (Ch.le cN)).mono (Ch.le c3)), sx, reduceIte, Nat.reduceEqDiff, Nat.reduceAdd, neqStr]
        refine byT_mk (fun g2 => ?_) (fun g2 => ?_)
        · have g2 : rowBytes xs ≠ b := by simpa using g2
          simp only [q68_40, sx, reduceIte, Nat.reduceEqDiff, Nat.reduceAdd, e68_rt]
          exact err (by rw [hrr', if_neg fun h => g2 h.2]) (cN.trans c3)
        · have g2 : rowBytes xs = b := by simpa using g2
          rw [if_pos ⟨g, g2⟩] at hrr'
          simp only [q68_41, sx, reduceIte, Nat.reduceEqDiff, Nat.reduceAdd, e68_rt]
          unfold ReadPost
          rw [hrr']
          exact ⟨ov, rfl, ⟨F, BufOf.own ho c3 fun _ _ h => h, hF⟩, cN.trans c3⟩
    · cases refMany n0.toNat (b.drop 1) with
      | none => rfl
      | some ys => rfl
end Go.Proofs.Ytghmbmblhdgabaa
