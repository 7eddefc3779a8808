/- The law 'CellBack' on the machine, whole. -/
import Derived.Test.YtghmbmblhdgabaaK14
set_option linter.all false
namespace Go.Proofs.Ytghmbmblhdgabaa
open Go Go.Den Code
set_option maxRecDepth 100000
theorem Ch.le {h h' : H} {Y : Nat → Prop} (a : Ch None_ Y h h') : Le h.read h'.read := ((rb_none h).trans (a.rb (None_sub None_))).trans (rb_le _ _)
theorem NewVals.rd {h0 h' : H} {v : V} {xs : List Vl} (wf : HWF h') (n : NewVals h0 h' v xs) : Vals h'.read v xs := (n.vals wf (X := None_) fun _ h => h.elim).mono vlE_mono (rb_le _ _)
theorem NewBytes.rd {h0 h' : H} {v : V} {xs : List UInt8} (wf : HWF h') (n : NewBytes h0 h' v xs) : Bytes h'.read v xs := by
  obtain ⟨F, h1, h2⟩ := n
  exact (h1.bytes (X := None_) wf fun _ _ h => h).mono (rb_le _ _)
theorem Vals.nil {rd : Rd} : Vals rd .nils [] := ⟨[], fun _ h => (by cases h), .inl ⟨rfl, rfl, rfl⟩, Each.nil _⟩
theorem cellBack {h : H} {rv bv : V} (wf : HWF h) (_ : AllRo h) {N : Nat} (o0 : OkA Try.prog h.read 1048576 N 48 rv) (o1 : OkA Try.prog h.read 1048576 N 22 bv) : CW C 6 [rv, bv] h.next h fun v _ => v = .bool true := by
  obtain ⟨r, hr, hrok, hrl⟩ := vals_ok Try.underlying48 (okA_slice Try.underlying48 o0)
  obtain ⟨b, hb, hbl⟩ := bytes_ok Try.underlying22 Try.underlying5 (by kernel_rfl) (okA_slice Try.underlying22 o1)
  refine enter6 rfl ?_
  have part2 : ∀ (h1 : H) (e : E), HWF h1 → h.next ≤ h1.next → Bytes h1.read bv b → E.get e 1 = bv → XW C h.next x6_4 (kF6 fun v _ => v = .bool true) e h1 := by
    intro h1 e wf1 hlo hb1 g1
    simp only [q6_4, sx, reduceIte, Nat.reduceEqDiff, Nat.reduceAdd, g1]
    refine (copyBytes wf1 hlo hb1 (by omega)).mono ?_
    rintro v1 h2 ⟨nb, c2⟩
    refine (read c2.wf (Nat.le_trans hlo c2.next) (nb.rd c2.wf)).mono ?_
    rintro _ h3 ⟨xv, rfl, hx, c3⟩
    have hb3 := (hb1.mono (Ch.le c2)).mono (Ch.le c3)
    cases hp : readP b with
    | none =>
      rw [hp] at hx
      subst hx
      have e2 : ((280 : Int) != 0) = true := by decide
      have e3 : ((0 : Int) == 0) = true := by decide
      have hl : lenV Try.prog [48] .nils = some (.int .i64 0) := Vals.nil (rd := h3.read) |>.len s48
      simp only [sx, reduceIte, Nat.reduceEqDiff, Nat.reduceAdd, e2, q6_5, hl, e3]
      refine aw26 ?_
      simp only [sx, reduceIte, Nat.reduceEqDiff, Nat.reduceAdd, e6_rt]
    | some xs =>
      rw [hp] at hx
      obtain ⟨p1, p2⟩ := row_read hp
      obtain ⟨p3, p4⟩ := read_ok hp
      have e2 : ((0 : Int) != 0) = false := by decide
      have e3 : ((0 : Int) == 0) = true := by decide
      simp only [sx, reduceIte, Nat.reduceEqDiff, Nat.reduceAdd, e2, q6_6]
      refine (row c3.wf (Nat.le_trans hlo (Nat.le_trans c2.next c3.next)) (hx.rd c3.wf) p3 (by omega)).mono ?_
      rintro _ h4 ⟨cv, rfl, hc, c4⟩
      rw [if_pos p1, p2] at hc
      simp only [sx, reduceIte, Nat.reduceEqDiff, Nat.reduceAdd, p1, e3]
      refine (sameBytes (hc.rd c4.wf) (hb3.mono (Ch.le c4)) (by omega)).mono ?_
      rintro _ h5 ⟨rfl, rfl⟩
      simp only [sx, reduceIte, Nat.reduceEqDiff, Nat.reduceAdd, decide_true]
      refine aw26 ?_
      simp only [sx, reduceIte, Nat.reduceEqDiff, Nat.reduceAdd, e6_rt]
  simp only [q6_0, sx, reduceIte, Nat.reduceEqDiff, Nat.reduceAdd]
  refine (copyRow wf (Nat.le_refl _) hr (by omega)).mono ?_
  rintro v1 h1 ⟨nv, c1⟩
  refine (row c1.wf c1.next (nv.rd c1.wf) hrok (by omega)).mono ?_
  rintro _ h2 ⟨cv, rfl, hc, c2⟩
  have hr2 := (hr.mono vlE_mono (Ch.le c1)).mono vlE_mono (Ch.le c2)
  have hb2 := (hb.mono (Ch.le c1)).mono (Ch.le c2)
  simp only [sx, reduceIte, Nat.reduceEqDiff, Nat.reduceAdd]
  refine byT_mk (fun he => ?_) (fun _ => part2 _ _ c2.wf (Nat.le_trans c1.next c2.next) hb2 (by simp only [sx, reduceIte, Nat.reduceEqDiff, Nat.reduceAdd]))
  have he : rowErr r = 0 := by simpa using he
  rw [if_pos he] at hc
  have hlen := (row_right he).2.2
  simp only [q6_1, sx, reduceIte, Nat.reduceEqDiff, Nat.reduceAdd]
  refine (read c2.wf (Nat.le_trans c1.next c2.next) (hc.rd c2.wf)).mono ?_
  rintro _ h3 ⟨xv, rfl, hx, c3⟩
  rw [read_row hrok he] at hx
  have e2 : ((0 : Int) != 0) = false := by decide
  simp only [sx, reduceIte, Nat.reduceEqDiff, Nat.reduceAdd, read_row hrok he, e2]
  refine (sameRow (hx.rd c3.wf) (hr2.mono vlE_mono (Ch.le c3)) (by omega)).mono ?_
  rintro _ h4 ⟨rfl, rfl⟩
  have hl : ((rowBytes r).length : Int) ≤ 480 := by omega
  have hgt : ¬ ((rowBytes r).length : Int) > 480 := by omega
  simp only [sx, reduceIte, Nat.reduceEqDiff, Nat.reduceAdd, decide_true, Bool.not_true, ((hc.rd c2.wf).mono (Ch.le c3)).len t22, hgt, decide_false]
  exact part2 _ _ c3.wf (Nat.le_trans c1.next (Nat.le_trans c2.next c3.next)) (hb2.mono (Ch.le c3)) (by simp only [sx, reduceIte, Nat.reduceEqDiff, Nat.reduceAdd])
end Go.Proofs.Ytghmbmblhdgabaa
