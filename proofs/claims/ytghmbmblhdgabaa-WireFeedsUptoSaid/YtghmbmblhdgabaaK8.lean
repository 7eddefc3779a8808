/- A row out of its bytes: one value, whole. -/
import Derived.Test.YtghmbmblhdgabaaK7
set_option linter.all false
namespace Go.Proofs.Ytghmbmblhdgabaa
open Go Go.Den Code
set_option maxRecDepth 100000
section
variable {h0 h : H} {l : List UInt8} {ok : Bool} {lv v8 vn vi : V} {k : UInt8} {bv fv : Nat}
abbrev Tv (h0 : H) (fv : Nat) : Nat → Prop := fun g => g = h0.next ∨ g = h0.next + 1 ∨ g = fv
theorem tk_tv {h0 : H} {fv : Nat} : ∀ g, Tk h0 g → Tv h0 fv g := fun g h => by rcases h with h | h <;> simp [Tv, h]
theorem fv_tv {h0 : H} {fv : Nat} : ∀ g, g = fv → Tv h0 fv g := fun g h => .inr (.inr h)
theorem read_body (r : Rs h0 h l ok lv) (oV : Own h h0.next bv fv (vlC ⟨k, 0, []⟩)) (hfv : h0.next + 2 ≤ fv) {Q : XQ} {e : E}
    (g4 : E.get e 4 = .ptr h0.next 0) (g5 : E.get e 5 = .ptr (h0.next + 1) 0) (g6 : E.get e 6 = fnv h0) (g8 : E.get e 8 = v8) (g9 : E.get e 9 = .ptr bv 0) (g23 : E.get e 23 = vn) (g24 : E.get e 24 = vi) (g32 : E.get e 32 = .int .u8 (k.toNat : Int))
    (hQ : ∀ h' lv', Rs h0 h' (bodyV k l ok).2.1 (bodyV k l ok).2.2 lv' → Own h' h0.next bv fv (vlC (bodyV k l ok).1) → Ch (Tv h0 fv) (Tv h0 fv) h h' → XW C h0.next x24_28 Q (envR h0 v8 vn vi bv) h') :
    XW C h0.next x24_9 (kXB 2 (XW C h0.next x24_28 Q) Q) e h := by
  have hlv := (oV.lt r.wf).2.1
  have hXv : ∀ g, g = fv → h0.next ≤ g ∧ g < h.next := fun g hg => by omega
  have nT : ¬ Tk h0 fv := by rintro (h | h) <;> omega
  simp only [q24_9, sx, reduceIte, Nat.reduceEqDiff, Nat.reduceAdd, g32]
  refine byT_mk (fun h1 => ?_) (fun h1 => ?_)
  · have k1 : k.toNat = 1 := by simp only [beqI] at h1; omega
    have eb : bodyV k l ok = (⟨k, ((takeP 1 l ok).1.getD 0 0).toNat, []⟩, (takeP 1 l ok).2) := by unfold bodyV; rw [if_pos k1]
    rw [eb] at hQ
    have hl1 := takeP_len 1 l ok
    simp only [q24_10, sx, reduceIte, Nat.reduceEqDiff, Nat.reduceAdd, g6]
    refine callX_mono ?_ (r.take hXv (n := 1) (by omega))
    rintro pv h2 ⟨lv', hp, r2, ch2⟩
    obtain ⟨q, q1, q2⟩ := (hp.mono (rb_le _ _)).at t22 c5 (i := 0) (by omega) (k := .i64)
    simp only [Int.cast_ofNat_Int] at q1
    obtain ⟨h3, s1, o1, c1, n1⟩ := (oV.ch ch2 nT).set (P := Try.prog) (t := 2) (o := 0 + 1) (w := .int .i64 ((takeP 1 l ok).1[0].toNat : Int)) r2.wf c2.s rfl rfl (by simp [vlC])
    simp only [sx, reduceIte, Nat.reduceEqDiff, Nat.reduceAdd, q1, q2, conv_byte Try.underlying2, g9, fa60_1, s1, q24_27, g4, g5, g6, g8, g23, g24]
    rw [← getD0] at o1
    exact hQ _ _ (r2.ch c1 (fun g hg => by omega) (by omega) (by omega)) o1 ((ch2.mono tk_tv tk_tv).trans (c1.mono fv_tv fv_tv))
  · have k1 : ¬ k.toNat = 1 := by simp only [beqIf] at h1; omega
    have end14 : ∀ {Q' : XQ} {e : E}, E.get e 4 = .ptr h0.next 0 → E.get e 5 = .ptr (h0.next + 1) 0 → E.get e 6 = fnv h0 → E.get e 8 = v8 → E.get e 9 = .ptr bv 0 → E.get e 23 = vn → E.get e 24 = vi → (k.toNat = 2 ∨ k.toNat = 3) →
        (∀ h' lv', Rs h0 h' (bodyV k l ok).2.1 (bodyV k l ok).2.2 lv' → Own h' h0.next bv fv (vlC (bodyV k l ok).1) → Ch (Tv h0 fv) (Tv h0 fv) h h' → Q' .nx (envR h0 v8 vn vi bv) h') → XW C h0.next x24_14 Q' e h := by
      intro Q' e g4 g5 g6 g8 g9 g23 g24 hk hQ'
      have eb : bodyV k l ok = (⟨k, num8 (takeP 8 l ok).1, []⟩, (takeP 8 l ok).2) := by unfold bodyV; rw [if_neg k1, if_pos hk]
      rw [eb] at hQ'
      have hl8 := takeP_len 8 l ok
      simp only [q24_14, sx, reduceIte, Nat.reduceEqDiff, Nat.reduceAdd, g6]
      refine callX_mono ?_ (r.take hXv (n := 8) (by omega))
      rintro pv h2 ⟨lv', hp, r2, ch2⟩
      have hlen := (hp.mono (rb_le _ _)).len t22
      simp only [sx, reduceIte, Nat.reduceEqDiff, Nat.reduceAdd, hlen]
      refine read_eight r2 (v8 := v8) (vn := vn) (vi := vi) (x := ⟨k, 0, []⟩) rfl (oV.ch ch2 nT) hfv hp (by omega) (by simp only [sx, reduceIte, Nat.reduceEqDiff, Nat.reduceAdd, g4]) (by simp only [sx, reduceIte, Nat.reduceEqDiff, Nat.reduceAdd, g5]) (by simp only [sx, reduceIte, Nat.reduceEqDiff, Nat.reduceAdd, g6]) (by simp only [sx, reduceIte, Nat.reduceEqDiff, Nat.reduceAdd, g8]) (by simp only [sx, reduceIte, Nat.reduceEqDiff, Nat.reduceAdd, g9]) (by simp only [sx, reduceIte, Nat.reduceEqDiff, Nat.reduceAdd, g23]) (by simp only [sx, reduceIte, Nat.reduceEqDiff, Nat.reduceAdd, g24])
        (by simp only [sx, reduceIte, Nat.reduceEqDiff, Nat.reduceAdd]) (by simp only [sx, reduceIte, Nat.reduceEqDiff, Nat.reduceAdd]) (by simp only [sx, reduceIte, Nat.reduceEqDiff, Nat.reduceAdd]) fun h3 r3 o3 c3 => ?_
      exact hQ' _ _ r3 o3 ((ch2.mono tk_tv tk_tv).trans (c3.mono fv_tv fv_tv))
    have end24 : ∀ {Q' : XQ} {e : E}, E.get e 4 = .ptr h0.next 0 → E.get e 5 = .ptr (h0.next + 1) 0 → E.get e 6 = fnv h0 → E.get e 8 = v8 → E.get e 9 = .ptr bv 0 → E.get e 23 = vn → E.get e 24 = vi → ¬ (k.toNat = 2 ∨ k.toNat = 3) → (k.toNat = 4 ∨ k.toNat = 5) →
        (∀ h' lv', Rs h0 h' (bodyV k l ok).2.1 (bodyV k l ok).2.2 lv' → Own h' h0.next bv fv (vlC (bodyV k l ok).1) → Ch (Tv h0 fv) (Tv h0 fv) h h' → Q' .nx e h') → XW C h0.next x24_24 Q' e h := by
      intro Q' e g4 g5 g6 g8 g9 g23 g24 k23 hk hQ'
      have eb : bodyV k l ok = (⟨k, 0, (takeP ((takeP 1 l ok).1.getD 0 0).toNat (takeP 1 l ok).2.1 (takeP 1 l ok).2.2).1⟩, (takeP ((takeP 1 l ok).1.getD 0 0).toNat (takeP 1 l ok).2.1 (takeP 1 l ok).2.2).2) := by
        unfold bodyV; rw [if_neg k1, if_neg k23, if_pos hk]
      rw [eb] at hQ'
      have hl1 := takeP_len 1 l ok
      simp only [q24_24, sx, reduceIte, Nat.reduceEqDiff, Nat.reduceAdd, g6]
      refine callX_mono ?_ (r.take hXv (n := 1) (by omega))
      rintro pv h2 ⟨lv', hp, r2, ch2⟩
      obtain ⟨q, q1, q2⟩ := (hp.mono (rb_le _ _)).at t22 c5 (i := 0) (by omega) (k := .i64)
      simp only [Int.cast_ofNat_Int] at q1
      simp only [sx, reduceIte, Nat.reduceEqDiff, Nat.reduceAdd, q1, q2, conv_byte Try.underlying3]
      have hb := (takeP 1 l ok).1[0].toNat_lt
      have hXv2 : ∀ g, g = fv → h0.next ≤ g ∧ g < h2.next := fun g hg => by have := ch2.next; omega
      refine callX_mono ?_ (r2.take hXv2 (n := (takeP 1 l ok).1[0].toNat) (by omega))
      rintro sv h3 ⟨lv2, hs, r3, ch3⟩
      have ec := conv_str (hs.mono (rb_le _ _))
      obtain ⟨h4, s1, o1, c1, n1⟩ := ((oV.ch ch2 nT).ch ch3 nT).set (P := Try.prog) (t := 9) (o := 0 + 2) (w := .str (takeP (takeP 1 l ok).1[0].toNat (takeP 1 l ok).2.1 (takeP 1 l ok).2.2).1) r3.wf c9.s rfl rfl (by simp [vlC])
      simp only [sx, reduceIte, Nat.reduceEqDiff, Nat.reduceAdd, ec, g9, fa60_2, s1]
      rw [getD0 (by omega)] at hQ'
      exact hQ' _ _ (r3.ch c1 (fun g hg => by omega) (by omega) (by omega)) o1 ((ch2.mono tk_tv tk_tv).trans ((ch3.mono tk_tv tk_tv).trans (c1.mono fv_tv fv_tv)))
    simp only [q24_11, sx, reduceIte, Nat.reduceEqDiff, Nat.reduceAdd, g32]
    refine byT_mk (fun h2 => ?_) (fun h2 => ?_)
    · have k2 : k.toNat = 2 := by simp only [beqI] at h2; omega
      simp only [q24_13, sx, reduceIte, Nat.reduceEqDiff, Nat.reduceAdd, h2]
      refine end14 (by simp only [sx, reduceIte, Nat.reduceEqDiff, Nat.reduceAdd, g4]) (by simp only [sx, reduceIte, Nat.reduceEqDiff, Nat.reduceAdd, g5]) (by simp only [sx, reduceIte, Nat.reduceEqDiff, Nat.reduceAdd, g6]) (by simp only [sx, reduceIte, Nat.reduceEqDiff, Nat.reduceAdd, g8]) (by simp only [sx, reduceIte, Nat.reduceEqDiff, Nat.reduceAdd, g9]) (by simp only [sx, reduceIte, Nat.reduceEqDiff, Nat.reduceAdd, g23]) (by simp only [sx, reduceIte, Nat.reduceEqDiff, Nat.reduceAdd, g24]) (.inl k2) fun h' lv' a1 a2 a3 => ?_
      simp only [sx, reduceIte, Nat.reduceEqDiff, Nat.reduceAdd, q24_26, q24_27]
      exact hQ _ _ a1 a2 a3
    · have k2 : ¬ k.toNat = 2 := by simp only [beqIf] at h2; omega
      simp only [q24_12, sx, reduceIte, Nat.reduceEqDiff, Nat.reduceAdd, g32, q24_13]
      refine byT_mk (fun h3 => ?_) (fun h3 => ?_)
      · have k3 : k.toNat = 3 := by simp only [beqI] at h3; omega
        refine end14 (by simp only [sx, reduceIte, Nat.reduceEqDiff, Nat.reduceAdd, g4]) (by simp only [sx, reduceIte, Nat.reduceEqDiff, Nat.reduceAdd, g5]) (by simp only [sx, reduceIte, Nat.reduceEqDiff, Nat.reduceAdd, g6]) (by simp only [sx, reduceIte, Nat.reduceEqDiff, Nat.reduceAdd, g8]) (by simp only [sx, reduceIte, Nat.reduceEqDiff, Nat.reduceAdd, g9]) (by simp only [sx, reduceIte, Nat.reduceEqDiff, Nat.reduceAdd, g23]) (by simp only [sx, reduceIte, Nat.reduceEqDiff, Nat.reduceAdd, g24]) (.inr k3) fun h' lv' a1 a2 a3 => ?_
        simp only [sx, reduceIte, Nat.reduceEqDiff, Nat.reduceAdd, q24_26, q24_27]
        exact hQ _ _ a1 a2 a3
      · have k3 : ¬ k.toNat = 3 := by simp only [beqIf] at h3; omega
        have k23 : ¬ (k.toNat = 2 ∨ k.toNat = 3) := by omega
        simp only [q24_21, sx, reduceIte, Nat.reduceEqDiff, Nat.reduceAdd, g32]
        refine byT_mk (fun h4 => ?_) (fun h4 => ?_)
        · have k4 : k.toNat = 4 := by simp only [beqI] at h4; omega
          simp only [q24_23, sx, reduceIte, Nat.reduceEqDiff, Nat.reduceAdd, h4]
          refine end24 (by simp only [sx, reduceIte, Nat.reduceEqDiff, Nat.reduceAdd, g4]) (by simp only [sx, reduceIte, Nat.reduceEqDiff, Nat.reduceAdd, g5]) (by simp only [sx, reduceIte, Nat.reduceEqDiff, Nat.reduceAdd, g6]) (by simp only [sx, reduceIte, Nat.reduceEqDiff, Nat.reduceAdd, g8]) (by simp only [sx, reduceIte, Nat.reduceEqDiff, Nat.reduceAdd, g9]) (by simp only [sx, reduceIte, Nat.reduceEqDiff, Nat.reduceAdd, g23]) (by simp only [sx, reduceIte, Nat.reduceEqDiff, Nat.reduceAdd, g24]) k23 (.inl k4) fun h' lv' a1 a2 a3 => ?_
          simp only [sx, reduceIte, Nat.reduceEqDiff, Nat.reduceAdd, q24_25, q24_26, q24_27, g4, g5, g6, g8, g9, g23, g24]
          exact hQ _ _ a1 a2 a3
        · have k4 : ¬ k.toNat = 4 := by simp only [beqIf] at h4; omega
          simp only [q24_22, q24_23, sx, reduceIte, Nat.reduceEqDiff, Nat.reduceAdd, g32]
          refine byT_mk (fun h5 => ?_) (fun h5 => ?_)
          · have k5 : k.toNat = 5 := by simp only [beqI] at h5; omega
            refine end24 (by simp only [sx, reduceIte, Nat.reduceEqDiff, Nat.reduceAdd, g4]) (by simp only [sx, reduceIte, Nat.reduceEqDiff, Nat.reduceAdd, g5]) (by simp only [sx, reduceIte, Nat.reduceEqDiff, Nat.reduceAdd, g6]) (by simp only [sx, reduceIte, Nat.reduceEqDiff, Nat.reduceAdd, g8]) (by simp only [sx, reduceIte, Nat.reduceEqDiff, Nat.reduceAdd, g9]) (by simp only [sx, reduceIte, Nat.reduceEqDiff, Nat.reduceAdd, g23]) (by simp only [sx, reduceIte, Nat.reduceEqDiff, Nat.reduceAdd, g24]) k23 (.inr k5) fun h' lv' a1 a2 a3 => ?_
            simp only [sx, reduceIte, Nat.reduceEqDiff, Nat.reduceAdd, q24_25, q24_26, q24_27, g4, g5, g6, g8, g9, g23, g24]
            exact hQ _ _ a1 a2 a3
          · have k5 : ¬ k.toNat = 5 := by simp only [beqIf] at h5; omega
            have eb : bodyV k l ok = (⟨k, 0, []⟩, l, ok) := by unfold bodyV; rw [if_neg k1, if_neg k23, if_neg (by omega)]
            rw [eb] at hQ
            simp only [sx, reduceIte, Nat.reduceEqDiff, Nat.reduceAdd, q24_25, q24_26, q24_27, g4, g5, g6, g8, g9, g23, g24]
            exact hQ _ _ r oV (Ch.refl _ _ r.wf)
end
end Go.Proofs.Ytghmbmblhdgabaa
