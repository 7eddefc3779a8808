/- The reference's reading of a row: the plain law, the walk. -/
import Derived.Test.YtghmbmblhdgabaaZ2
set_option linter.all false
namespace Go.Proofs.Ytghmbmblhdgabaa
open Go Go.Den Code
set_option maxRecDepth 100000
def accU (u : Int) (x : UInt8) : Int := IntKind.wrap .u64 (IntKind.wrap .u64 (u * 256) + (x.toNat : Int))
def numU (p : List UInt8) : Int := IntKind.wrap .i64 (p.foldl accU 0)
theorem accU_wrap (u : Int) (x : UInt8) : IntKind.wrap .i64 (accU u x) = accP (IntKind.wrap .i64 u) x := by
  unfold accU accP
  rw [wrap_i64, wrap_i64, wrap_i64, wrap_u64, wrap_u64]
  omega
theorem numU_eq (p : List UInt8) : numU p = num8 p := by
  have key : ∀ (p : List UInt8) (u : Int), IntKind.wrap .i64 (p.foldl accU u) = p.foldl accP (IntKind.wrap .i64 u) := by
    intro p
    induction p with
    | nil => intro u; rfl
    | cons x r ih => intro u; rw [List.foldl_cons, List.foldl_cons, ih, accU_wrap]
  exact key p 0
theorem accU_ok {p : List UInt8} : 0 ≤ p.foldl accU 0 ∧ p.foldl accU 0 < 18446744073709551616 := by
  have key : ∀ (p : List UInt8) (u : Int), 0 ≤ u ∧ u < 18446744073709551616 → 0 ≤ p.foldl accU u ∧ p.foldl accU u < 18446744073709551616 := by
    intro p
    induction p with
    | nil => intro u h; exact h
    | cons x r ih =>
      intro u h
      refine ih _ ?_
      unfold accU
      rw [wrap_u64, wrap_u64]
      omega
  exact key p 0 (by omega)
def szK (k : UInt8) : Nat := if k.toNat = 1 then 1 else if k.toNat = 2 ∨ k.toNat = 3 then 8 else 0
def refOne : List UInt8 → Option (Vl × List UInt8)
  | [] => none
  | k :: r =>
    if k.toNat = 4 ∨ k.toNat = 5 then match r with
      | [] => none
      | s :: r' => if r'.length < s.toNat then none else some (⟨k, 0, r'.take s.toNat⟩, r'.drop s.toNat)
    else if r.length < szK k then none else some (⟨k, numU (r.take (szK k)), []⟩, r.drop (szK k))
def refMany : Nat → List UInt8 → Option (List Vl)
  | 0, _ => some []
  | n + 1, l => match refOne l with
    | none => none
    | some (x, r) => match refMany n r with
      | none => none
      | some xs => some (x :: xs)
def refRead (b : List UInt8) : Option (List Vl) := match b with
  | [] => none
  | n :: r => match refMany n.toNat r with
    | none => none
    | some xs => if rowErr xs = 0 ∧ rowBytes xs = b then some xs else none
theorem refOne_enc {x : Vl} {r : List UInt8} (hr : rightV x = true) (hx : x.ok) : refOne (encV x ++ r) = some (x, r) := by
  obtain ⟨k, n, s⟩ := x
  unfold rightV at hr
  simp only at hr
  show refOne (k :: (encBody ⟨k, n, s⟩ ++ r)) = _
  unfold refOne encBody
  simp only
  by_cases h1 : k.toNat = 1
  · rw [if_neg (by omega), if_pos h1] at hr
    simp only [decide_eq_true_eq] at hr
    obtain ⟨hs, hn⟩ := hr
    subst hs
    have e : szK k = 1 := by unfold szK; rw [if_pos h1]
    rw [if_neg (by omega), if_pos h1, e, if_neg (by simp)]
    have e2 : numU [lowB n] = n := by
      have := low_nat n
      rw [numU_eq]
      show accP 0 (lowB n) = n
      unfold accP
      rw [wrap_i64]
      omega
    simp [e2]
  · rw [if_neg h1]
    by_cases h2 : k.toNat = 2 ∨ k.toNat = 3
    · rw [if_neg (by omega), if_neg h1, if_pos h2] at hr
      simp only [decide_eq_true_eq] at hr
      subst hr
      have e : szK k = 8 := by unfold szK; rw [if_neg h1, if_pos h2]
      have hl : (eightB (IntKind.wrap .u64 n)).length = 8 := rfl
      rw [if_neg (by omega), if_pos h2, e, if_neg (by simp [hl])]
      rw [List.take_left' hl, List.drop_left' hl, numU_eq, num8_eight hx.1 hx.2.1]
    · rw [if_neg h2]
      by_cases h4 : k.toNat = 4 ∨ k.toNat = 5
      · rw [if_neg (by omega), if_neg h1, if_neg h2, if_pos h4] at hr
        simp only [decide_eq_true_eq] at hr
        obtain ⟨hn, hs⟩ := hr
        subst hn
        rw [if_pos h4, if_pos h4]
        have e2 : (lowB (s.length : Int)).toNat = s.length := by rw [low_n]; omega
        simp only [List.cons_append]
        rw [e2, if_neg (by simp), List.take_left' rfl, List.drop_left' rfl]
      · rw [if_neg h4, if_neg h4]
        have e : szK k = 0 := by unfold szK; rw [if_neg h1, if_neg h2]
        by_cases h0 : k.toNat = 0
        · rw [if_pos h0] at hr
          simp only [decide_eq_true_eq] at hr
          obtain ⟨hn, hs⟩ := hr
          subst hn
          subst hs
          rw [e]
          simp [numU]
          rfl
        · rw [if_neg h0, if_neg h1, if_neg h2, if_neg h4] at hr
          cases hr
theorem refMany_enc : ∀ {xs : List Vl} {r : List UInt8}, (∀ x ∈ xs, rightV x = true) → (∀ x ∈ xs, x.ok) → refMany xs.length (xs.flatMap encV ++ r) = some xs
  | [], _, _, _ => rfl
  | x :: xs, r, hr, hx => by
    have ih := refMany_enc (xs := xs) (r := r) (fun y hy => hr y (List.mem_cons_of_mem _ hy)) fun y hy => hx y (List.mem_cons_of_mem _ hy)
    show refMany (xs.length + 1) _ = _
    unfold refMany
    rw [List.flatMap_cons, List.append_assoc, refOne_enc (hr x List.mem_cons_self) (hx x List.mem_cons_self)]
    simp only [ih]
theorem refOne_ok : ∀ {l r : List UInt8} {x : Vl}, refOne l = some (x, r) → x.ok
  | [], _, _, h => by cases h
  | k :: t, r, x, h => by
    unfold refOne at h
    simp only at h
    by_cases hk : k.toNat = 4 ∨ k.toNat = 5
    · rw [if_pos hk] at h
      match t, h with
      | [], h => cases h
      | s :: r', h =>
        have h : (if r'.length < s.toNat then none else some ((⟨k, 0, r'.take s.toNat⟩ : Vl), r'.drop s.toNat)) = some (x, r) := h
        split at h
        · cases h
        · cases h
          have := s.toNat_lt
          exact ⟨by show (_ : Int) ≤ 0; omega, by show (0 : Int) ≤ _; omega, by show (List.take _ _).length ≤ _; rw [List.length_take]; omega⟩
    · rw [if_neg hk] at h
      split at h
      · cases h
      · cases h
        rw [numU_eq]
        exact ⟨(num8_ok _).1, (num8_ok _).2, by simp⟩
theorem refOne_len {l r : List UInt8} {x : Vl} (h : refOne l = some (x, r)) : r.length ≤ l.length := by
  unfold refOne at h
  split at h
  · cases h
  · split at h
    · split at h
      · cases h
      · split at h
        · cases h
        · cases h
          simp
          omega
    · split at h
      · cases h
      · cases h
        simp
        omega
theorem refMany_ok : ∀ {n : Nat} {l : List UInt8} {xs : List Vl}, refMany n l = some xs → (∀ x ∈ xs, x.ok) ∧ xs.length = n
  | 0, l, xs, h => by
    cases h
    exact ⟨fun x hx => (by cases hx), rfl⟩
  | n + 1, l, xs, h => by
    unfold refMany at h
    split at h
    · cases h
    · rename_i x r hx
      split at h
      · cases h
      · rename_i ys hy
        cases h
        obtain ⟨i1, i2⟩ := refMany_ok hy
        refine ⟨fun z hz => ?_, by simp [i2]⟩
        rcases List.mem_cons.1 hz with rfl | hz
        · exact refOne_ok hx
        · exact i1 z hz
theorem refRead_eq (b : List UInt8) : refRead b = readP b := by
  cases hp : readP b with
  | some xs =>
    obtain ⟨p1, p2⟩ := row_read hp
    obtain ⟨q1, q2⟩ := read_ok hp
    obtain ⟨r1, r2, r3⟩ := row_right p1
    have e : b = lowB (xs.length : Int) :: xs.flatMap encV := p2.symm
    have e2 : (lowB (xs.length : Int)).toNat = xs.length := by rw [low_n]; omega
    have hm := refMany_enc (r := []) r1 q1
    rw [List.append_nil] at hm
    unfold refRead
    rw [e]
    simp only [e2, hm]
    rw [if_pos ⟨p1, rfl⟩]
  | none =>
    unfold refRead
    split
    · rfl
    · rename_i n r
      split
      · rfl
      · rename_i xs hxs
        split
        · rename_i h
          have h1 := (refMany_ok hxs).1
          have := read_row h1 h.1
          rw [h.2, hp] at this
          cases this
        · rfl
theorem refOne_at {b : List UInt8} {i : Nat} (hi : i < b.length) : refOne (b.drop i) =
    if b[i].toNat = 4 ∨ b[i].toNat = 5 then (if b.length ≤ i + 1 then none else if b.length < i + 1 + 1 + (b.getD (i + 1) 0).toNat then none else some (⟨b[i], 0, (b.drop (i + 1 + 1)).take (b.getD (i + 1) 0).toNat⟩, b.drop (i + 1 + 1 + (b.getD (i + 1) 0).toNat)))
    else if b.length < i + 1 + szK b[i] then none else some (⟨b[i], numU ((b.drop (i + 1)).take (szK b[i])), []⟩, b.drop (i + 1 + szK b[i])) := by
  rw [List.drop_eq_getElem_cons hi]
  unfold refOne
  simp only
  split
  · by_cases h1 : b.length ≤ i + 1
    · rw [if_pos h1, List.drop_of_length_le h1]
    · have h2 : i + 1 < b.length := by omega
      have e : b.getD (i + 1) 0 = b[i + 1] := by rw [List.getD_eq_getElem?_getD, List.getElem?_eq_getElem h2]; rfl
      rw [if_neg h1, List.drop_eq_getElem_cons h2, e]
      simp only [List.length_drop, List.drop_drop]
      by_cases h3 : b.length - (i + 1 + 1) < b[i + 1].toNat
      · rw [if_pos h3, if_pos (by omega)]
      · rw [if_neg h3, if_neg (by omega)]
  · simp only [List.length_drop, List.drop_drop]
    by_cases h3 : b.length - (i + 1) < szK b[i]
    · rw [if_pos h3, if_pos (by omega)]
    · rw [if_neg h3, if_neg (by omega)]
/-! ### the walk -/
section
variable {bv ov nv : V} {b : List UInt8} {h0 h h2 : H}
/-- how many bytes a value has -/
theorem ref_switch {lo bf i1 : Nat} {k : UInt8} (hb : Bytes h.read bv b) (hl : b.length ≤ 1048576) (hi1 : i1 ≤ b.length) {Q : XQ} {e : E}
    (g0 : E.get e 0 = bv) (g4 : E.get e 4 = ov) (g5 : E.get e 5 = .int .i64 (i1 : Int)) (g6 : E.get e 6 = nv) (g7 : E.get e 7 = .ptr bf 0) (g8 : E.get e 8 = .int .i64 0) (g37 : E.get e 37 = .int .u8 (k.toNat : Int))
    (herr : (k.toNat = 4 ∨ k.toNat = 5) → b.length ≤ i1 → ∀ e, Q .rt ((2, .nils) :: (3, .int .i64 280) :: e) h)
    (hQ : ∀ i2 s : Nat, (((k.toNat = 4 ∨ k.toNat = 5) ∧ i1 < b.length ∧ i2 = i1 + 1 ∧ s = (b.getD i1 0).toNat) ∨ (¬ (k.toNat = 4 ∨ k.toNat = 5) ∧ i2 = i1 ∧ s = szK k)) →
      XW C lo x68_24 Q [(0, bv), (4, ov), (5, .int .i64 (i2 : Int)), (6, nv), (7, .ptr bf 0), (8, .int .i64 (s : Int))] h) :
    XW C lo x68_9 (kXB 2 (XW C lo x68_24 Q) Q) e h := by
  simp only [q68_9, sx, reduceIte, Nat.reduceEqDiff, Nat.reduceAdd, g37]
  refine byT_mk (fun h1 => ?_) (fun h1 => ?_)
  · have k1 : k.toNat = 1 := by simp only [beqI] at h1; omega
    simp only [q68_10, sx, reduceIte, Nat.reduceEqDiff, Nat.reduceAdd, q68_23, g0, g4, g5, g6, g7]
    exact hQ i1 1 (.inr ⟨by omega, rfl, by unfold szK; rw [if_pos k1]⟩)
  · have k1 : ¬ k.toNat = 1 := by simp only [beqIf] at h1; omega
    have end14 : ∀ {e : E}, E.get e 0 = bv → E.get e 4 = ov → E.get e 5 = .int .i64 (i1 : Int) → E.get e 6 = nv → E.get e 7 = .ptr bf 0 → (k.toNat = 2 ∨ k.toNat = 3) →
        XW C lo x68_14 (kX (XW C lo x68_22 (kX (XW C lo x68_23 (kXB 2 (XW C lo x68_24 Q) Q)) (kXB 2 (XW C lo x68_24 Q) Q))) (kX (XW C lo x68_23 (kXB 2 (XW C lo x68_24 Q) Q)) (kXB 2 (XW C lo x68_24 Q) Q))) e h := by
      intro e g0 g4 g5 g6 g7 hk
      simp only [q68_14, sx, reduceIte, Nat.reduceEqDiff, Nat.reduceAdd, q68_22, q68_23, g0, g4, g5, g6, g7]
      exact hQ i1 8 (.inr ⟨by omega, rfl, by unfold szK; rw [if_neg k1, if_pos hk]⟩)
    have end18 : ∀ {e : E}, E.get e 0 = bv → E.get e 4 = ov → E.get e 5 = .int .i64 (i1 : Int) → E.get e 6 = nv → E.get e 7 = .ptr bf 0 → (k.toNat = 4 ∨ k.toNat = 5) →
        XW C lo x68_18 (kX (XW C lo x68_21 (kX (XW C lo x68_22 (kX (XW C lo x68_23 (kXB 2 (XW C lo x68_24 Q) Q)) (kXB 2 (XW C lo x68_24 Q) Q))) (kX (XW C lo x68_23 (kXB 2 (XW C lo x68_24 Q) Q)) (kXB 2 (XW C lo x68_24 Q) Q)))) (kX (XW C lo x68_22 (kX (XW C lo x68_23 (kXB 2 (XW C lo x68_24 Q) Q)) (kXB 2 (XW C lo x68_24 Q) Q))) (kX (XW C lo x68_23 (kXB 2 (XW C lo x68_24 Q) Q)) (kXB 2 (XW C lo x68_24 Q) Q)))) e h := by
      intro e g0 g4 g5 g6 g7 hk
      simp only [q68_18, sx, reduceIte, Nat.reduceEqDiff, Nat.reduceAdd, g0, g5, hb.len t22]
      refine byT_dec (fun g => ?_) (fun g => ?_)
      · simp only [q68_19, sx, reduceIte, Nat.reduceEqDiff, Nat.reduceAdd]
        exact herr hk (by omega) _
      · have hlt : i1 < b.length := by omega
        obtain ⟨p, p1, p2⟩ := hb.at t22 c5 hlt (k := .i64)
        have e5 := add64 (a := i1) (b := 1) (by omega)
        simp only [Int.cast_ofNat_Int] at e5
        have eg : b.getD i1 0 = b[i1] := by rw [List.getD_eq_getElem?_getD, List.getElem?_eq_getElem hlt]; rfl
        simp only [q68_20, sx, reduceIte, Nat.reduceEqDiff, Nat.reduceAdd, g0, g5, p1, p2, conv_byte Try.underlying3, e5, q68_21, q68_22, q68_23, g4, g6, g7]
        exact hQ (i1 + 1) b[i1].toNat (.inl ⟨hk, hlt, rfl, by rw [eg]⟩)
    simp only [q68_11, sx, reduceIte, Nat.reduceEqDiff, Nat.reduceAdd, g37]
    refine byT_mk (fun h2 => ?_) (fun h2 => ?_)
    · have k2 : k.toNat = 2 := by simp only [beqI] at h2; omega
      simp only [q68_13, sx, reduceIte, Nat.reduceEqDiff, Nat.reduceAdd, h2, g0, g4, g5, g6, g7, g8, g37]
      exact end14 (by simp only [sx, reduceIte, Nat.reduceEqDiff, Nat.reduceAdd]) (by simp only [sx, reduceIte, Nat.reduceEqDiff, Nat.reduceAdd]) (by simp only [sx, reduceIte, Nat.reduceEqDiff, Nat.reduceAdd]) (by simp only [sx, reduceIte, Nat.reduceEqDiff, Nat.reduceAdd]) (by simp only [sx, reduceIte, Nat.reduceEqDiff, Nat.reduceAdd]) (.inl k2)
    · have k2 : ¬ k.toNat = 2 := by simp only [beqIf] at h2; omega
      simp only [q68_12, sx, reduceIte, Nat.reduceEqDiff, Nat.reduceAdd, g37, q68_13, g0, g4, g5, g6, g7, g8]
      refine byT_mk (fun h3 => ?_) (fun h3 => ?_)
      · have k3 : k.toNat = 3 := by simp only [beqI] at h3; omega
        exact end14 (by simp only [sx, reduceIte, Nat.reduceEqDiff, Nat.reduceAdd]) (by simp only [sx, reduceIte, Nat.reduceEqDiff, Nat.reduceAdd]) (by simp only [sx, reduceIte, Nat.reduceEqDiff, Nat.reduceAdd]) (by simp only [sx, reduceIte, Nat.reduceEqDiff, Nat.reduceAdd]) (by simp only [sx, reduceIte, Nat.reduceEqDiff, Nat.reduceAdd]) (.inr k3)
      · have k3 : ¬ k.toNat = 3 := by simp only [beqIf] at h3; omega
        simp only [q68_15, sx, reduceIte, Nat.reduceEqDiff, Nat.reduceAdd]
        refine byT_mk (fun h4 => ?_) (fun h4 => ?_)
        · have k4 : k.toNat = 4 := by simp only [beqI] at h4; omega
          simp only [q68_17, sx, reduceIte, Nat.reduceEqDiff, Nat.reduceAdd, h4]
          exact end18 (by simp only [sx, reduceIte, Nat.reduceEqDiff, Nat.reduceAdd]) (by simp only [sx, reduceIte, Nat.reduceEqDiff, Nat.reduceAdd]) (by simp only [sx, reduceIte, Nat.reduceEqDiff, Nat.reduceAdd]) (by simp only [sx, reduceIte, Nat.reduceEqDiff, Nat.reduceAdd]) (by simp only [sx, reduceIte, Nat.reduceEqDiff, Nat.reduceAdd]) (.inl k4)
        · have k4 : ¬ k.toNat = 4 := by simp only [beqIf] at h4; omega
          simp only [q68_16, sx, reduceIte, Nat.reduceEqDiff, Nat.reduceAdd, q68_17]
          refine byT_mk (fun h5 => ?_) (fun h5 => ?_)
          · have k5 : k.toNat = 5 := by simp only [beqI] at h5; omega
            exact end18 (by simp only [sx, reduceIte, Nat.reduceEqDiff, Nat.reduceAdd]) (by simp only [sx, reduceIte, Nat.reduceEqDiff, Nat.reduceAdd]) (by simp only [sx, reduceIte, Nat.reduceEqDiff, Nat.reduceAdd]) (by simp only [sx, reduceIte, Nat.reduceEqDiff, Nat.reduceAdd]) (by simp only [sx, reduceIte, Nat.reduceEqDiff, Nat.reduceAdd]) (.inr k5)
          · have k5 : ¬ k.toNat = 5 := by simp only [beqIf] at h5; omega
            simp only [sx, reduceIte, Nat.reduceEqDiff, Nat.reduceAdd, q68_21, q68_22, q68_23]
            exact hQ i1 0 (.inr ⟨by omega, rfl, by unfold szK; rw [if_neg k1, if_neg (by omega)]⟩)
end
end Go.Proofs.Ytghmbmblhdgabaa
