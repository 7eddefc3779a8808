/- The plain law of frames' bytes, of names, of answers. -/
import Derived.Test.YtghmbmblhdgabaaU5
import Derived.Test.YtghmbmblhdgabaaK13
set_option linter.all false
namespace Go.Proofs.Ytghmbmblhdgabaa
open Go Go.Den Code
/-- a number's four bytes -/
def fourB (n : Nat) : List UInt8 := [lowB ((n / 16777216 : Nat) : Int), lowB ((n / 65536 : Nat) : Int), lowB ((n / 256 : Nat) : Int), lowB (n : Int)]
theorem low_n (n : Nat) : (lowB (n : Int)).toNat = n % 256 := by
  have := low_nat (n : Int)
  omega
theorem num4_four {n : Nat} (h : n < 4294967296) (r : List UInt8) : num4 (fourB n ++ r) = n := by
  show (lowB ((n / 16777216 : Nat) : Int)).toNat * 16777216 + (lowB ((n / 65536 : Nat) : Int)).toNat * 65536 + (lowB ((n / 256 : Nat) : Int)).toNat * 256 + (lowB (n : Int)).toNat = n
  rw [low_n, low_n, low_n, low_n]
  omega
theorem four_num {b : List UInt8} (h : b.length = 4) : fourB (num4 b) = b := by
  match b, h with
  | [x, y, z, w], _ =>
    have hx := x.toNat_lt
    have hy := y.toNat_lt
    have hz := z.toNat_lt
    have hw := w.toNat_lt
    have e : num4 [x, y, z, w] = x.toNat * 16777216 + y.toNat * 65536 + z.toNat * 256 + w.toNat := rfl
    unfold fourB
    rw [e]
    rw [show lowB (((x.toNat * 16777216 + y.toNat * 65536 + z.toNat * 256 + w.toNat) / 16777216 : Nat) : Int) = x from UInt8.toNat_inj.1 ((low_n _).trans (by omega)),
      show lowB (((x.toNat * 16777216 + y.toNat * 65536 + z.toNat * 256 + w.toNat) / 65536 : Nat) : Int) = y from UInt8.toNat_inj.1 ((low_n _).trans (by omega)),
      show lowB (((x.toNat * 16777216 + y.toNat * 65536 + z.toNat * 256 + w.toNat) / 256 : Nat) : Int) = z from UInt8.toNat_inj.1 ((low_n _).trans (by omega)),
      show lowB ((x.toNat * 16777216 + y.toNat * 65536 + z.toNat * 256 + w.toNat : Nat) : Int) = w from UInt8.toNat_inj.1 ((low_n _).trans (by omega))]
def putErr (f : Fm) : Int := if kindOk f.1 = false then 2 else if 8192 ≤ f.2.length then 3 else 0
def putB (f : Fm) : List UInt8 := fourB (f.2.length + 1) ++ (f.1 :: f.2)
theorem putB_len (f : Fm) : (putB f).length = f.2.length + 5 := by
  unfold putB fourB
  simp
theorem cut_put {f : Fm} (hf : putErr f = 0) (r : List UInt8) : cut (putB f ++ r) = (f :: (cut r).1, (cut r).2) := by
  obtain ⟨k, b⟩ := f
  unfold putErr at hf
  simp only at hf
  have hk : kindOk k = true := by
    cases h : kindOk k with
    | true => rfl
    | false => rw [h] at hf; simp at hf
  have hl : b.length < 8192 := by
    rw [if_neg (by simp [hk])] at hf
    split at hf
    · cases hf
    · omega
  have e0 : putB (k, b) ++ r = fourB (b.length + 1) ++ (k :: (b ++ r)) := by unfold putB; simp
  have e1 : num4 (putB (k, b) ++ r) = b.length + 1 := by rw [e0]; exact num4_four (by omega) _
  have e2 : (putB (k, b) ++ r).getD 4 0 = k := by rw [e0]; rfl
  have e3 : (putB (k, b) ++ r).drop 5 = b ++ r := by rw [e0]; rfl
  have e5 : (putB (k, b) ++ r).length = b.length + 5 + r.length := by rw [List.length_append, putB_len]
  have hw : wrongB (putB (k, b) ++ r) = false := by
    unfold wrongB
    rw [e1, e2, hk]
    simp
    omega
  rw [cut_go hw (by rw [e1, e5]; omega), e1, e2, e3]
  have e6 : (b ++ r).take (4 + (b.length + 1) - 5) = b := by
    rw [show 4 + (b.length + 1) - 5 = b.length by omega, List.take_left']
    rfl
  have e7 : (putB (k, b) ++ r).drop (4 + (b.length + 1)) = r := by
    rw [List.drop_left']
    rw [putB_len]
    show b.length + 5 = _
    omega
  rw [e6, e7]
theorem cut_puts {fs : List Fm} (h : ∀ f ∈ fs, putErr f = 0) : cut (fs.flatMap putB) = (fs, some []) := by
  induction fs with
  | nil => exact cut_nil
  | cons f r ih =>
    rw [List.flatMap_cons, cut_put (h f List.mem_cons_self), ih fun g hg => h g (List.mem_cons_of_mem _ hg)]
/-! ### names -/
def nameB (s : List UInt8) : List UInt8 := lowB (s.length : Int) :: s
def namesB (ns : List (List UInt8)) : List UInt8 := lowB (ns.length : Int) :: ns.flatMap nameB
def nameP (l : List UInt8) (ok : Bool) : List UInt8 × List UInt8 × Bool :=
  takeP ((takeP 1 l ok).1.getD 0 0).toNat (takeP 1 l ok).2.1 ((takeP 1 l ok).2.2 && decide (((takeP 1 l ok).1.getD 0 0).toNat ≤ 24))
def iterN : Nat → List UInt8 → Bool → List (List UInt8) × List UInt8 × Bool
  | 0, l, ok => ([], l, ok)
  | n + 1, l, ok => ((iterN n l ok).1 ++ [(nameP (iterN n l ok).2.1 (iterN n l ok).2.2).1], (nameP (iterN n l ok).2.1 (iterN n l ok).2.2).2)
def namesOk (b : List UInt8) : Bool :=
  (iterN ((takeP 1 b true).1.getD 0 0).toNat (takeP 1 b true).2.1 (takeP 1 b true).2.2).2.2 && (decide (0 < ((takeP 1 b true).1.getD 0 0).toNat) &&
    decide ((iterN ((takeP 1 b true).1.getD 0 0).toNat (takeP 1 b true).2.1 (takeP 1 b true).2.2).2.1 = []))
def namesOf (b : List UInt8) : List (List UInt8) := (iterN ((takeP 1 b true).1.getD 0 0).toNat (takeP 1 b true).2.1 (takeP 1 b true).2.2).1
theorem iterN_len (l : List UInt8) (ok : Bool) : ∀ n, (iterN n l ok).1.length = n
  | 0 => rfl
  | n + 1 => by show ((iterN n l ok).1 ++ [_]).length = _; rw [List.length_append, iterN_len l ok n]; rfl
theorem name_enc {s r : List UInt8} (hs : s.length ≤ 24) : nameP (nameB s ++ r) true = (s, r, true) := by
  have e1 : takeP 1 (nameB s ++ r) true = ([lowB (s.length : Int)], s ++ r, true) := takeP_app (p := [lowB (s.length : Int)]) (r := s ++ r) rfl
  have e2 : ([lowB (s.length : Int)].getD 0 0).toNat = s.length := by
    show (lowB (s.length : Int)).toNat = s.length
    rw [low_n]
    omega
  unfold nameP
  rw [e1]
  simp only
  rw [e2, decide_eq_true hs, Bool.and_true, takeP_app rfl]
theorem iterN_enc {ns : List (List UInt8)} (hs : ∀ s ∈ ns, s.length ≤ 24) : ∀ i, i ≤ ns.length → iterN i (ns.flatMap nameB) true = (ns.take i, (ns.drop i).flatMap nameB, true)
  | 0, _ => by simp [iterN]
  | i + 1, hi => by
    have ih := iterN_enc hs i (by omega)
    unfold iterN
    rw [ih]
    have hd : ns.drop i = ns[i] :: ns.drop (i + 1) := List.drop_eq_getElem_cons (by omega)
    have hm := List.getElem_mem (l := ns) (show i < ns.length by omega)
    simp only
    rw [hd, List.flatMap_cons, name_enc (hs _ hm), List.take_add_one, List.getElem?_eq_getElem (by omega)]
    rfl
theorem names_enc {ns : List (List UInt8)} (h0 : ns ≠ []) (hl : ns.length ≤ 255) (hs : ∀ s ∈ ns, s.length ≤ 24) : namesOk (namesB ns) = true ∧ namesOf (namesB ns) = ns := by
  have e1 : takeP 1 (namesB ns) true = ([lowB (ns.length : Int)], ns.flatMap nameB, true) := takeP_app (p := [lowB (ns.length : Int)]) rfl
  have e3 : ([lowB (ns.length : Int)].getD 0 0).toNat = ns.length := by
    show (lowB (ns.length : Int)).toNat = ns.length
    rw [low_n]
    omega
  have hpos : 0 < ns.length := List.length_pos_iff.2 h0
  unfold namesOk namesOf
  rw [e1]
  simp only
  rw [e3, iterN_enc hs _ (Nat.le_refl _)]
  simp [hpos]
theorem name_inv {l l' s : List UInt8} {ok : Bool} (h : nameP l ok = (s, l', true)) : ok = true ∧ s.length ≤ 24 ∧ l = nameB s ++ l' := by
  unfold nameP at h
  obtain ⟨g1, g2, g3⟩ := takeP_inv h
  rw [Bool.and_eq_true, decide_eq_true_eq] at g1
  obtain ⟨q1, q2, q3⟩ := takeP_inv (p := (takeP 1 l ok).1) (l' := (takeP 1 l ok).2.1) (show takeP 1 l ok = _ by rw [← g1.1])
  obtain ⟨y, hy⟩ := one_of q3
  have e0 : (takeP 1 l ok).1.getD 0 0 = y := by rw [hy]; rfl
  rw [e0] at g1 g3
  refine ⟨q1, by omega, ?_⟩
  unfold nameB
  rw [g3, low_byte]
  refine q2.trans ?_
  rw [hy, g2]
  rfl
theorem iterN_inv {l : List UInt8} {ok : Bool} : ∀ n, (iterN n l ok).2.2 = true → ok = true ∧ (∀ s ∈ (iterN n l ok).1, s.length ≤ 24) ∧ l = (iterN n l ok).1.flatMap nameB ++ (iterN n l ok).2.1
  | 0, h => ⟨h, fun x hx => (by cases hx), rfl⟩
  | n + 1, h => by
    have hs : nameP (iterN n l ok).2.1 (iterN n l ok).2.2 = ((nameP (iterN n l ok).2.1 (iterN n l ok).2.2).1, (iterN (n + 1) l ok).2.1, true) := by
      rw [← h]
      rfl
    obtain ⟨s1, s2, s3⟩ := name_inv hs
    obtain ⟨i1, i2, i3⟩ := iterN_inv n s1
    have e : (iterN (n + 1) l ok).1 = (iterN n l ok).1 ++ [(nameP (iterN n l ok).2.1 (iterN n l ok).2.2).1] := rfl
    refine ⟨i1, fun x hx => ?_, ?_⟩
    · rw [e] at hx
      rcases List.mem_append.1 hx with h | h
      · exact i2 x h
      · simp at h; subst h; exact s2
    · rw [e, List.flatMap_append]
      conv => lhs; rw [i3, s3]
      simp
theorem names_inv {b : List UInt8} (h : namesOk b = true) : namesB (namesOf b) = b ∧ namesOf b ≠ [] ∧ (namesOf b).length ≤ 255 ∧ ∀ s ∈ namesOf b, s.length ≤ 24 := by
  unfold namesOk at h
  rw [Bool.and_eq_true, Bool.and_eq_true, decide_eq_true_eq, decide_eq_true_eq] at h
  obtain ⟨h1, h2, h3⟩ := h
  obtain ⟨i1, i2, i3⟩ := iterN_inv _ h1
  obtain ⟨g1, g2, g3⟩ := takeP_inv (p := (takeP 1 b true).1) (l' := (takeP 1 b true).2.1) (Prod.ext rfl (Prod.ext rfl i1))
  rw [h3, List.append_nil] at i3
  have hlen := iterN_len (takeP 1 b true).2.1 (takeP 1 b true).2.2 ((takeP 1 b true).1.getD 0 0).toNat
  have hlt := ((takeP 1 b true).1.getD 0 0).toNat_lt
  have hlen2 : (namesOf b).length = ((takeP 1 b true).1.getD 0 0).toNat := hlen
  refine ⟨?_, fun h0 => ?_, by omega, i2⟩
  · unfold namesB
    rw [hlen2]
    show _ :: (iterN _ _ _).1.flatMap nameB = b
    rw [← i3, low_byte]
    obtain ⟨y, hy⟩ := one_of g3
    refine Eq.trans ?_ g2.symm
    rw [hy]
    rfl
  · rw [h0, List.length_nil] at hlen2
    omega
/-! ### answers -/
structure An where
  names : List (List UInt8)
  rows : List (List Vl)
  count : Int
  deriving DecidableEq
def rowsErr (n : Nat) : List (List Vl) → Int
  | [] => 0
  | r :: rs => if r.length ≠ n then 330 else if rowErr r ≠ 0 then rowErr r else rowsErr n rs
def ansErr (a : An) : Int :=
  if (a.rows ≠ [] ∧ a.names = []) ∨ a.count < 0 ∨ 2147483647 < a.count then 2
  else if 255 < a.names.length then 3
  else if a.names.any (fun s => decide (24 < s.length)) = true then 3
  else rowsErr a.names.length a.rows
def rowFs (rs : List (List Vl)) : List Fm := rs.map fun r => (6, rowBytes r)
def headFs (ns : List (List UInt8)) : List Fm := if 0 < ns.length then [(6, namesB ns)] else []
def ansFs (a : An) : List Fm := headFs a.names ++ rowFs a.rows ++ [(7, fourB a.count.toNat)]
def rdRows (n : Nat) : List Fm → Option (List (List Vl))
  | [] => some []
  | f :: r => if f.1 ≠ 6 then none else match readP f.2 with
    | none => none
    | some x => if x.length ≠ n then none else match rdRows n r with
      | none => none
      | some xs => some (x :: xs)
def rdInit (c : Int) : List Fm → Option An
  | [] => some ⟨[], [], c⟩
  | f :: r => if f.1 ≠ 6 ∨ namesOk f.2 = false then none else match rdRows (namesOf f.2).length r with
    | none => none
    | some xs => some ⟨namesOf f.2, xs, c⟩
def rdLast (f : Fm) : Prop := f.1 = 7 ∧ f.2.length = 4 ∧ num4 f.2 ≤ 2147483647
instance (f : Fm) : Decidable (rdLast f) := inferInstanceAs (Decidable (_ ∧ _ ∧ _))
def rdAns (l : List Fm) : Option An := match l.getLast? with
  | none => none
  | some f => if rdLast f then rdInit (num4 f.2) l.dropLast else none
theorem rdRows_enc {n : Nat} : ∀ {rs : List (List Vl)}, (∀ r ∈ rs, ∀ x ∈ r, x.ok) → rowsErr n rs = 0 → rdRows n (rowFs rs) = some rs
  | [], _, _ => rfl
  | r :: rs, hx, he => by
    unfold rowsErr at he
    split at he
    · cases he
    · rename_i h1
      split at he
      · rename_i h2
        exact (h2 he).elim
      · rename_i h2
        have h2 : rowErr r = 0 := Classical.byContradiction h2
        have h1 : r.length = n := Classical.byContradiction h1
        have ih := rdRows_enc (fun q hq => hx q (List.mem_cons_of_mem _ hq)) he
        show rdRows n ((6, rowBytes r) :: rowFs rs) = _
        unfold rdRows
        simp only [ne_eq, not_true, if_false, read_row (hx r List.mem_cons_self) h2, h1, ih]
theorem ans_back {a : An} (hx : ∀ r ∈ a.rows, ∀ x ∈ r, x.ok) (he : ansErr a = 0) : rdAns (ansFs a) = some a := by
  obtain ⟨ns, rs, c⟩ := a
  unfold ansErr at he
  simp only at he hx
  split at he
  · cases he
  rename_i h1
  split at he
  · cases he
  rename_i h2
  split at he
  · cases he
  rename_i h3
  have hc0 : 0 ≤ c ∧ c ≤ 2147483647 := by
    constructor
    · exact Int.not_lt.1 fun h => h1 (.inr (.inl h))
    · exact Int.not_lt.1 fun h => h1 (.inr (.inr h))
  have hs : ∀ s ∈ ns, s.length ≤ 24 := fun s hm => by
    rcases Nat.lt_or_ge 24 s.length with h | h
    · exact (h3 (List.any_eq_true.2 ⟨s, hm, decide_eq_true h⟩)).elim
    · exact h
  have el : rdLast (7, fourB c.toNat) := by
    refine ⟨rfl, rfl, ?_⟩
    show num4 (fourB c.toNat) ≤ _
    have := num4_four (n := c.toNat) (by omega) []
    rw [List.append_nil] at this
    omega
  have en : (num4 (fourB c.toNat) : Int) = c := by
    have := num4_four (n := c.toNat) (by omega) []
    rw [List.append_nil] at this
    omega
  unfold rdAns ansFs
  simp only [List.getLast?_append, List.getLast?_singleton, Option.some_or, List.dropLast_concat]
  rw [if_pos el]
  simp only [en]
  by_cases h0 : ns = []
  · subst h0
    have hr : rs = [] := Classical.byContradiction fun h => h1 (.inl ⟨h, rfl⟩)
    subst hr
    rfl
  · have hpos : 0 < ns.length := List.length_pos_iff.2 h0
    obtain ⟨g1, g2⟩ := names_enc h0 (by omega) hs
    unfold headFs
    rw [if_pos hpos]
    show rdInit c ((6, namesB ns) :: rowFs rs) = _
    unfold rdInit
    simp only [ne_eq, not_true, false_or, g1, g2, rdRows_enc hx he]
    simp
theorem rdRows_inv {n : Nat} : ∀ {l : List Fm} {rs : List (List Vl)}, rdRows n l = some rs → rowsErr n rs = 0 ∧ rowFs rs = l ∧ ∀ r ∈ rs, ∀ x ∈ r, x.ok
  | [], rs, h => by
    cases h
    exact ⟨rfl, rfl, fun r hr => by cases hr⟩
  | f :: l, rs, h => by
    unfold rdRows at h
    split at h
    · cases h
    rename_i h1
    have h1 : f.1 = 6 := Classical.byContradiction h1
    split at h
    · cases h
    rename_i x hx
    split at h
    · cases h
    rename_i h2
    split at h
    · cases h
    rename_i xs hxs
    cases h
    obtain ⟨i1, i2, i3⟩ := rdRows_inv hxs
    obtain ⟨p1, p2⟩ := row_read hx
    have p3 := (read_ok hx).1
    refine ⟨?_, ?_, fun r hr => ?_⟩
    · unfold rowsErr
      rw [if_neg h2, if_neg (by simp [p1])]
      exact i1
    · show (6, rowBytes x) :: rowFs xs = _
      rw [i2, p2, ← h1]
    · rcases List.mem_cons.1 hr with rfl | hr
      · exact p3
      · exact i3 r hr
theorem ans_inv {l : List Fm} {a : An} (h : rdAns l = some a) : ansErr a = 0 ∧ ansFs a = l ∧ ∀ r ∈ a.rows, ∀ x ∈ r, x.ok := by
  unfold rdAns at h
  split at h
  · cases h
  rename_i f hf
  split at h
  · rename_i hl
    have hlast : l = l.dropLast ++ [f] := by
      have hne : l ≠ [] := fun e => by subst e; cases hf
      rw [List.getLast?_eq_some_getLast hne] at hf
      cases hf
      exact (List.dropLast_concat_getLast hne).symm
    obtain ⟨l1, l2, l3⟩ := hl
    have hfour : (7, fourB ((num4 f.2 : Int)).toNat) = f := by
      rw [Int.toNat_natCast, four_num l2, ← l1]
    generalize hd : l.dropLast = d at *
    match d, h with
    | [], h =>
      have h : some (⟨[], [], (num4 f.2 : Int)⟩ : An) = some a := h
      cases h
      refine ⟨?_, ?_, fun r hr => by cases hr⟩
      · unfold ansErr
        simp only
        rw [if_neg (by simp; omega), if_neg (by simp), if_neg (by simp)]
        rfl
      · unfold ansFs
        rw [hlast]
        simp only [hfour]
        rfl
    | g :: r, h =>
      have h : (if g.1 ≠ 6 ∨ namesOk g.2 = false then none else match rdRows (namesOf g.2).length r with
        | none => none
        | some xs => some (⟨namesOf g.2, xs, (num4 f.2 : Int)⟩ : An)) = some a := h
      split at h
      · cases h
      rename_i hg
      split at h
      · cases h
      rename_i xs hxs
      cases h
      have hg1 : g.1 = 6 := Classical.byContradiction fun e => hg (.inl e)
      have hg2 : namesOk g.2 = true := by
        cases e : namesOk g.2 with
        | true => rfl
        | false => exact (hg (.inr e)).elim
      obtain ⟨n1, n2, n3, n4⟩ := names_inv hg2
      obtain ⟨i1, i2, i3⟩ := rdRows_inv hxs
      refine ⟨?_, ?_, i3⟩
      · unfold ansErr
        simp only
        rw [if_neg, if_neg (by omega), if_neg]
        · exact i1
        · intro e
          obtain ⟨s, hs, hl⟩ := List.any_eq_true.1 e
          have := n4 s hs
          have := of_decide_eq_true hl
          omega
        · rintro (⟨_, e⟩ | e | e)
          · exact n2 e
          · omega
          · omega
      · unfold ansFs headFs
        have hpos : 0 < (namesOf g.2).length := List.length_pos_iff.2 n2
        simp only
        rw [if_pos hpos, i2, n1, hfour, hlast, ← hg1]
        rfl
  · cases h
end Go.Proofs.Ytghmbmblhdgabaa
