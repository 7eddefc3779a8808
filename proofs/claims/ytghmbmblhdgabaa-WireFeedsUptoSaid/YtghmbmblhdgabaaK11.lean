/- A row out of its bytes. -/
import Derived.Test.YtghmbmblhdgabaaK10
set_option linter.all false
namespace Go.Proofs.Ytghmbmblhdgabaa
open Go Go.Den Code
set_option maxRecDepth 100000
theorem z22 : zero? Try.prog 22 = some .nils := by kernel_rfl
theorem z4 : zero? Try.prog 4 = some (.bool false) := by kernel_rfl
def ReadPost (h : H) (b : List UInt8) (v : V) (h' : H) : Prop := ∃ rv, v = .tup [rv, .int .i64 (match readP b with | some _ => 0 | none => 280)] ∧ (match readP b with | some xs => NewVals h h' rv xs | none => rv = .nils) ∧ Ch None_ None_ h h'
theorem read {a : V} {h : H} {b : List UInt8} {lo : Nat} (wf : HWF h) (hlo : lo ≤ h.next) (ha : Bytes h.read a b) : CW C 24 [a] lo h (ReadPost h b) := by
  refine CW.low hS hlo (enter24 rfl ?_)
  simp only [q24_0, sx, reduceIte, Nat.reduceEqDiff, Nat.reduceAdd, ha.len t22]
  refine byT_dec (fun h1 => ?_) (fun h1 => ?_)
  · have e : readP b = none := by unfold readP; rw [if_pos (by omega)]
    simp only [q24_1, sx, reduceIte, Nat.reduceEqDiff, Nat.reduceAdd, e24_rt]
    unfold ReadPost
    rw [e]
    exact ⟨.nils, rfl, rfl, Ch.refl _ _ wf⟩
  · have cA := ch_alloc wf [V.nils]
    have nA : (h.alloc [V.nils]).next = h.next + 1 := rfl
    have cB := ch_alloc cA.wf [V.bool false]
    have nB : ((h.alloc [V.nils]).alloc [V.bool false]).next = h.next + 1 + 1 := rfl
    have oL := (Own.new (h := h) (cs := [V.nils]) (Nat.le_refl _)).ch cB fun h => h
    have oK := Own.new (h := h.alloc [V.nils]) (lo := h.next) (cs := [V.bool false]) (by omega)
    have hb0 := (((ha.mono (rb_none h)).mono (rb_new wf None_)).mono (cA.rb (None_sub _))).mono (cB.rb (None_sub _))
    rw [nA] at oK
    obtain ⟨h3, s1, o1, c1, n1⟩ := oL.set (P := Try.prog) (t := 22) (o := 0) (w := a) cB.wf sz22 ha.isSl.cells ha.isSl.scal (by simp)
    obtain ⟨h4, s2, o2, c2, n2⟩ := (oK.ch c1 (by omega)).set (P := Try.prog) (t := 4) (o := 0) (w := .bool true) c1.wf sz4 rfl rfl (by simp)
    have r4 : Rs h h4 b true a := ⟨c2.wf, o1.ch c2 (by omega), o2, ((hb0.mono (rb_mono fun g hg => .inr hg)).mono (c1.rb fun g hg => by omega)).mono (c2.rb fun g hg => by omega), by omega⟩
    have ch4 : Ch (Zr h) (Zr h) h h4 := ((cA.mono (None_sub _) (None_sub _)).trans (cB.mono (None_sub _) (None_sub _))).trans ((c1.mono (fun g hg => by show h.next ≤ g; omega) fun g hg => by show h.next ≤ g; omega).trans (c2.mono (fun g hg => by show h.next ≤ g; omega) fun g hg => by show h.next ≤ g; omega))
    have hl1 := takeP_len 1 b true
    have efn : V.fn (Go.Fn.func 54) [] [.ptr h.next 0, .ptr (h.next + 1) 0] = fnv h := rfl
    simp only [q24_2, sx, reduceIte, Nat.reduceEqDiff, Nat.reduceAdd, z22, z4, nA, s1, s2, efn]
    refine callX_mono ?_ (r4.take (X := fun _ => False) (fun _ h => h.elim) (n := 1) (by omega))
    rintro pv h5 ⟨lv5, hp, r5, c5'⟩
    obtain ⟨q, q1, q2⟩ := (hp.mono (rb_le _ _)).at t22 c5 (i := 0) (by omega) (k := .i64)
    simp only [Int.cast_ofNat_Int] at q1
    rw [← getD0] at q2
    generalize hn : (takeP 1 b true).1.getD 0 0 = nb at q2
    have ch5 : Ch (Zr h) (Zr h) h h5 := ch4.trans (c5'.mono (fun g h => by show _ ≤ g; rcases h with h | h <;> omega) fun g h => by show _ ≤ g; rcases h with h | h <;> omega)
    have hgt : binV Try.prog .gtr 5 (byteV nb) (.int .u8 12) = some (.bool (decide ((nb.toNat : Int) > 12))) := binV_gtr 5 .u8 _ _
    simp only [sx, reduceIte, Nat.reduceEqDiff, Nat.reduceAdd, q1, q2, hgt]
    refine byT_dec (fun h12 => ?_) (fun h12 => ?_)
    · have e : readP b = none := by unfold readP; rw [if_neg (by omega), hn, if_pos (by omega)]
      simp only [q24_3, sx, reduceIte, Nat.reduceEqDiff, Nat.reduceAdd, e24_rt]
      unfold ReadPost
      rw [e]
      exact ⟨.nils, rfl, rfl, ch5.old wf (fun g h1 h2 => by have : h.next ≤ g := h1; omega) fun g h1 h2 => by have : h.next ≤ g := h1; omega⟩
    · have e : readP b = (let r := iterP nb.toNat (takeP 1 b true).2.1 (takeP 1 b true).2.2; if r.2.2 = true ∧ r.2.1 = [] then some r.1 else none) := by unfold readP; rw [if_neg (by omega), hn, if_neg (by omega)]
      simp only [q24_4, sx, reduceIte, Nat.reduceEqDiff, Nat.reduceAdd, q24_5]
      refine rounds (RdI h (takeP 1 b true).2.1 (takeP 1 b true).2.2 nb) (fun m ee h' I => read_round (by omega) I ?_) nb.toNat ⟨0, .nils, none, lv5, by simp only [sx, reduceIte, Nat.reduceEqDiff, Nat.reduceAdd]; rfl, Nat.zero_le _, rfl, r5, BufOf.nil, (fun g hg => by cases hg), ch5⟩
      intro ev h6 v8 F lv g4 g5 g8 r6 ho hF ch6
      have cEnd : Ch None_ None_ h h6 := ch6.old wf (fun g h1 h2 => by have : h.next ≤ g := h1; omega) fun g h1 h2 => by have : h.next ≤ g := h1; omega
      have lok : loadV Try.prog 4 (.ptr (h.next + 1) 0) h6.read = some (.bool (iterP nb.toNat (takeP 1 b true).2.1 (takeP 1 b true).2.2).2.2) := (r6.oK.at r6.wf).cell0 c4 rfl
      have lle : loadV Try.prog 22 (.ptr h.next 0) h6.read = some lv := (r6.oL.at r6.wf).cell0 c22 rfl
      simp only [sx, reduceIte, Nat.reduceEqDiff, Nat.reduceAdd, q24_31, g4, g5, g8, lok]
      refine byT_mk (fun hb => ?_) (fun hb => ?_)
      · have hb : (iterP nb.toNat (takeP 1 b true).2.1 (takeP 1 b true).2.2).2.2 = false := by simpa using hb
        simp only [q24_33, sx, reduceIte, Nat.reduceEqDiff, Nat.reduceAdd, e24_rt]
        unfold ReadPost
        rw [e]
        simp only [hb]
        exact ⟨.nils, rfl, rfl, cEnd⟩
      · have hb : (iterP nb.toNat (takeP 1 b true).2.1 (takeP 1 b true).2.2).2.2 = true := by simpa using hb
        simp only [sx, reduceIte, Nat.reduceEqDiff, Nat.reduceAdd, lle, (r6.hl.mono (rb_le _ _)).len t22]
        refine byT_dec (fun hg => ?_) (fun hg => ?_)
        · have hne : (iterP nb.toNat (takeP 1 b true).2.1 (takeP 1 b true).2.2).2.1 ≠ [] := fun h => by rw [h] at hg; simp at hg
          simp only [q24_33, sx, reduceIte, Nat.reduceEqDiff, Nat.reduceAdd, e24_rt]
          unfold ReadPost
          rw [e]
          simp only [hb, hne]
          exact ⟨.nils, rfl, rfl, cEnd⟩
        · have hnil : (iterP nb.toNat (takeP 1 b true).2.1 (takeP 1 b true).2.2).2.1 = [] := List.eq_nil_of_length_eq_zero (by omega)
          simp only [q24_34, sx, reduceIte, Nat.reduceEqDiff, Nat.reduceAdd, e24_rt]
          unfold ReadPost
          rw [e]
          simp only [hb, hnil]
          exact ⟨v8, rfl, ⟨F, ho, fun g hg => by have := hF g hg; omega⟩, cEnd⟩
end Go.Proofs.Ytghmbmblhdgabaa
