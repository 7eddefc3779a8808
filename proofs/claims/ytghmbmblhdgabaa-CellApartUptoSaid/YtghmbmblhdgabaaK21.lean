/- Unlike things stand at unlike places: the plain law. -/
import Derived.Test.YtghmbmblhdgabaaK20
set_option linter.all false
namespace Go.Proofs.Ytghmbmblhdgabaa
open Go Go.Den Code
set_option maxRecDepth 100000
theorem Dif.symm {xs ys : List UInt8} {o : Int} (h : Dif xs ys o) : Dif ys xs (-o) := by
  obtain ⟨p, c, d, r, t, rfl, rfl, h, rfl⟩ := h
  refine ⟨p, d, c, t, r, rfl, rfl, fun g => h g.symm, ?_⟩
  rcases u8_ne h with g | g
  · have g' : ¬ d < c := fun k => absurd (UInt8.lt_iff_toNat_lt.1 k) (by have := UInt8.lt_iff_toNat_lt.1 g; omega)
    rw [if_pos g, if_neg g']; rfl
  · have g' : ¬ c < d := fun k => absurd (UInt8.lt_iff_toNat_lt.1 k) (by have := UInt8.lt_iff_toNat_lt.1 g; omega)
    rw [if_pos g, if_neg g']
theorem Dif.sign {xs ys : List UInt8} {o : Int} (h : Dif xs ys o) : o = -1 ∨ o = 1 := by
  obtain ⟨p, c, d, r, t, rfl, rfl, h, rfl⟩ := h
  split
  · exact .inl rfl
  · exact .inr rfl
/-- names of letters -/
def Big (s : List UInt8) : Prop := ∀ c ∈ s, 1 < c.toNat
theorem Named.big {s : List UInt8} (h : Named s) : Big s := fun c hc => by
  obtain ⟨i, hi⟩ := List.getElem?_of_mem hc
  have := h.1 i c hi
  unfold okC at this
  omega
theorem name_dif : ∀ (s t : List UInt8), Big s → Big t → s ≠ t → ∃ o, ∀ u v, Dif (s ++ 0 :: u) (t ++ 0 :: v) o ∧ Dif (s ++ 1 :: u) (t ++ 0 :: v) o
  | [], [], _, _, h => absurd rfl h
  | [], d :: t, _, hb, _ => by
    have hd := hb d List.mem_cons_self
    have d0 : (0 : UInt8) ≠ d := fun g => by rw [← g] at hd; exact absurd hd (by decide)
    have d1 : (1 : UInt8) ≠ d := fun g => by rw [← g] at hd; exact absurd hd (by decide)
    refine ⟨-1, fun u v => ⟨?_, ?_⟩⟩
    · have := Dif.head u (t ++ 0 :: v) d0
      rw [if_pos (by rw [UInt8.lt_iff_toNat_lt]; show 0 < _; omega)] at this
      exact this
    · have := Dif.head u (t ++ 0 :: v) d1
      rw [if_pos (by rw [UInt8.lt_iff_toNat_lt]; show 1 < _; omega)] at this
      exact this
  | c :: s, [], ha, _, _ => by
    have hd := ha c List.mem_cons_self
    have d0 : c ≠ 0 := fun g => by rw [g] at hd; exact absurd hd (by decide)
    refine ⟨1, fun u v => ⟨?_, ?_⟩⟩
    · have := Dif.head (s ++ 0 :: u) v d0
      rw [if_neg (by rw [UInt8.lt_iff_toNat_lt]; show ¬ _ < 0; omega)] at this
      exact this
    · have := Dif.head (s ++ 1 :: u) v d0
      rw [if_neg (by rw [UInt8.lt_iff_toNat_lt]; show ¬ _ < 0; omega)] at this
      exact this
  | c :: s, d :: t, ha, hb, h => by
    by_cases hcd : c = d
    · subst hcd
      obtain ⟨o, ho⟩ := name_dif s t (fun x hx => ha x (List.mem_cons_of_mem _ hx)) (fun x hx => hb x (List.mem_cons_of_mem _ hx)) fun g => h (by rw [g])
      exact ⟨o, fun u v => ⟨(ho u v).1.cons c, (ho u v).2.cons c⟩⟩
    · exact ⟨_, fun u v => ⟨Dif.head _ _ hcd, Dif.head _ _ hcd⟩⟩
theorem low_ne {t t' : Int} (h : Tenanted t) (h' : Tenanted t') (hn : t ≠ t') : lowB t ≠ lowB t' := fun g => by
  have e1 := lowB_nat t
  have e2 := lowB_nat t'
  rw [g] at e1
  have h1 := h.1; have h2 := h.2; have h3 := h'.1; have h4 := h'.2
  exact hn (by omega)
section
variable {t t' : Int} {T T' N N' : List UInt8} {x y : Vl}
theorem rowB_eq : rowB t T x = 114 :: lowB t :: (T ++ 0 :: keyB x) := by simp [rowB, placeB]
theorem uniB_eq : uniB t T N x = 117 :: lowB t :: (T ++ 0 :: (N ++ 0 :: keyB x)) := by simp [uniB, placeB]
theorem row_pre (ok : PlaceOk t [T]) (ok' : PlaceOk t' [T']) (hx : x.ok) (hy : y.ok) (ex : keyErr x = 0) (ey : keyErr y = 0) :
    (rowB t T x).take (rowB t' T' y).length = rowB t' T' y ↔ (t = t' ∧ T = T') ∧ x = y := by
  constructor
  · intro g
    have nd : ∀ o, ¬ Dif (rowB t T x) (rowB t' T' y) o := fun o d => d.npre g
    rw [rowB_eq, rowB_eq] at nd
    by_cases h1 : t = t'
    · subst h1
      by_cases h2 : T = T'
      · subst h2
        refine ⟨⟨rfl, rfl⟩, ?_⟩
        by_cases h3 : x = y
        · exact h3
        · have := ((((key_dif hx hy (right_of ex) (right_of ey) h3).cons 0).app T).cons (lowB t)).cons 114
          exact absurd this (nd _)
      · obtain ⟨o, ho⟩ := name_dif T T' (ok.2 T List.mem_cons_self).big (ok'.2 T' List.mem_cons_self).big h2
        exact absurd (((ho _ _).1.cons (lowB t)).cons 114) (nd _)
    · exact absurd ((Dif.head _ _ (low_ne ok.1 ok'.1 h1)).cons 114) (nd _)
  · rintro ⟨⟨rfl, rfl⟩, rfl⟩
    exact List.take_length
theorem uni_pre (ok : PlaceOk t [T, N]) (ok' : PlaceOk t' [T', N']) (hx : x.ok) (hy : y.ok) (ex : keyErr x = 0) (ey : keyErr y = 0) :
    (uniB t T N x).take (uniB t' T' N' y).length = uniB t' T' N' y ↔ (t = t' ∧ T = T') ∧ N = N' ∧ x = y := by
  constructor
  · intro g
    have nd : ∀ o, ¬ Dif (uniB t T N x) (uniB t' T' N' y) o := fun o d => d.npre g
    rw [uniB_eq, uniB_eq] at nd
    by_cases h1 : t = t'
    · subst h1
      by_cases h2 : T = T'
      · subst h2
        by_cases h4 : N = N'
        · subst h4
          refine ⟨⟨rfl, rfl⟩, rfl, ?_⟩
          by_cases h3 : x = y
          · exact h3
          · have := ((((((key_dif hx hy (right_of ex) (right_of ey) h3).cons 0).app N).cons 0).app T).cons (lowB t)).cons 117
            exact absurd this (nd _)
        · obtain ⟨o, ho⟩ := name_dif N N' (ok.2 N (by simp)).big (ok'.2 N' (by simp)).big h4
          exact absurd (((((ho _ _).1.cons 0).app T).cons (lowB t)).cons 117) (nd _)
      · obtain ⟨o, ho⟩ := name_dif T T' (ok.2 T List.mem_cons_self).big (ok'.2 T' List.mem_cons_self).big h2
        exact absurd (((ho _ _).1.cons (lowB t)).cons 117) (nd _)
    · exact absurd ((Dif.head _ _ (low_ne ok.1 ok'.1 h1)).cons 117) (nd _)
  · rintro ⟨⟨rfl, rfl⟩, rfl, rfl⟩
    exact List.take_length
theorem row_uni : ¬ (rowB t T x).take (uniB t' T' N y).length = uniB t' T' N y := by
  rw [rowB_eq, uniB_eq]
  exact (Dif.head (c := 114) (d := 117) _ _ (by decide)).npre
theorem uni_row : ¬ (uniB t' T' N y).take (rowB t T x).length = rowB t T x := by
  rw [rowB_eq, uniB_eq]
  exact (Dif.head (c := 117) (d := 114) _ _ (by decide)).npre
theorem row_len (ok : PlaceOk t [T]) (ex : keyErr x = 0) : (rowB t T x).length ≤ 128 := by
  have h1 := key_len ex
  have h2 := (ok.2 T List.mem_cons_self).2.2
  rw [rowB_eq]
  simp only [List.length_cons, List.length_append]
  omega
theorem uni_len (ok : PlaceOk t [T, N]) (ex : keyErr x = 0) : (uniB t T N x).length ≤ 128 := by
  have h1 := key_len ex
  have h2 := (ok.2 T (by simp)).2.2
  have h3 := (ok.2 N (by simp)).2.2
  rw [uniB_eq]
  simp only [List.length_cons, List.length_append]
  omega
theorem fromB_eq : fromB t T = 114 :: lowB t :: (T ++ 0 :: []) := by simp [fromB]
theorem toB_eq : toB t T = 114 :: lowB t :: (T ++ 1 :: []) := by simp [toB]
theorem in_same : Lib.compareBytes (fromB t T) (rowB t T y) = -1 ∧ Lib.compareBytes (rowB t T y) (toB t T) = -1 := by
  rw [fromB_eq, toB_eq, rowB_eq]
  simp only [cb_cons, cb_app]
  exact ⟨rfl, rfl⟩
theorem in_other (ok : PlaceOk t [T]) (ok' : PlaceOk t' [T']) (hn : ¬ (t = t' ∧ T = T')) :
    (Lib.compareBytes (fromB t T) (rowB t' T' y) = 1 ∧ Lib.compareBytes (rowB t' T' y) (toB t T) = -1) ∨ (Lib.compareBytes (fromB t T) (rowB t' T' y) = -1 ∧ Lib.compareBytes (rowB t' T' y) (toB t T) = 1) := by
  have fin : ∀ o, Dif (fromB t T) (rowB t' T' y) o → Dif (toB t T) (rowB t' T' y) o → (Lib.compareBytes (fromB t T) (rowB t' T' y) = 1 ∧ Lib.compareBytes (rowB t' T' y) (toB t T) = -1) ∨ (Lib.compareBytes (fromB t T) (rowB t' T' y) = -1 ∧ Lib.compareBytes (rowB t' T' y) (toB t T) = 1) := by
    intro o d1 d2
    rw [d1.cmp, d2.symm.cmp]
    rcases d1.sign with rfl | rfl
    · exact .inr ⟨rfl, rfl⟩
    · exact .inl ⟨rfl, rfl⟩
  rw [fromB_eq, toB_eq, rowB_eq] at *
  by_cases h1 : t = t'
  · subst h1
    have h2 : T ≠ T' := fun g => hn ⟨rfl, g⟩
    obtain ⟨o, ho⟩ := name_dif T T' (ok.2 T List.mem_cons_self).big (ok'.2 T' List.mem_cons_self).big h2
    exact fin _ (((ho _ _).1.cons (lowB t)).cons 114) (((ho _ _).2.cons (lowB t)).cons 114)
  · exact fin _ ((Dif.head _ _ (low_ne ok.1 ok'.1 h1)).cons 114) ((Dif.head _ _ (low_ne ok.1 ok'.1 h1)).cons 114)
theorem uni_from : Lib.compareBytes (fromB t T) (uniB t' T' N y) = -1 := by
  rw [fromB_eq, uniB_eq]
  exact (Dif.head (c := 114) (d := 117) _ _ (by decide)).cmp
theorem uni_to : Lib.compareBytes (uniB t' T' N y) (toB t T) = 1 := by
  rw [toB_eq, uniB_eq]
  exact (Dif.head (c := 117) (d := 114) _ _ (by decide)).cmp
end
end Go.Proofs.Ytghmbmblhdgabaa
