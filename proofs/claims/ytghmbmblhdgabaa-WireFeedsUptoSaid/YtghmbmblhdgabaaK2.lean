/- Is a value right? is one of them not? a number's eight bytes. -/
import Derived.Test.YtghmbmblhdgabaaK1
set_option linter.all false
namespace Go.Proofs.Ytghmbmblhdgabaa
open Go Go.Den Code
set_option maxRecDepth 100000
theorem at_new {h : H} (wf : HWF h) (c : List V) : At (h.alloc c).read h.next 0 c := ⟨c, by rw [read_alloc wf, if_pos rfl], by simp⟩
def rightV (x : Vl) : Bool :=
  if x.k.toNat = 0 then decide (x.n = 0 ∧ x.s = [])
  else if x.k.toNat = 1 then decide (x.s = [] ∧ (x.n = 0 ∨ x.n = 1))
  else if x.k.toNat = 2 ∨ x.k.toNat = 3 then decide (x.s = [])
  else if x.k.toNat = 4 ∨ x.k.toNat = 5 then decide (x.n = 0 ∧ x.s.length ≤ 200)
  else false
theorem b60 : buildV Try.prog 60 [] = some (.agg (vlC ⟨0, 0, []⟩)) := by kernel_rfl
theorem strEq (P : Program) (t : Nat) (a b : List UInt8) : binV P .eql t (.str a) (.str b) = some (.bool (decide (a = b))) := rfl
theorem strLen {P : Program} {t : Nat} (hu : P.underlying t = some .string) (s : List UInt8) : lenV P [t] (.str s) = some (.int .i64 (s.length : Int)) := by simp [lenV, hu]
theorem shr1 (P : Program) (t : Nat) (n : Int) : binV P .shr t (.int .i64 n) (.int .u64 1) = some (.int .i64 (n.fdiv 2)) := by
  simp only [binV, shiftOp]
  rw [if_neg (by omega)]
  rfl
theorem beqI {a b : Int} : ((a == b) = true) = (a = b) := by simp
theorem beqIf {a b : Int} : ((a == b) = false) = (¬ a = b) := by simp
theorem rightOf {x : Vl} {h : H} {lo : Nat} (wf : HWF h) (hx : x.ok) : CW C 51 [.agg (vlC x)] lo h fun v h' => v = .bool (rightV x) ∧ Ch None_ None_ h h' := by
  have ch := ch_alloc wf (vlC x)
  have at0 := at_new wf (vlC x)
  have l0 : loadV Try.prog 58 (.ptr h.next 0) (h.alloc (vlC x)).read = some (.int .u8 (x.k.toNat : Int)) := at0.cell0 c58 rfl
  have l1 : loadV Try.prog 2 (.ptr h.next (0 + 1)) (h.alloc (vlC x)).read = some (.int .i64 x.n) := at0.cell c2 rfl
  have l2 : loadV Try.prog 9 (.ptr h.next (0 + 2)) (h.alloc (vlC x)).read = some (.str x.s) := at0.cell c9 rfl
  have l3 : loadV Try.prog 60 (.ptr h.next 0) (h.alloc (vlC x)).read = some (.agg (vlC x)) := at0.agg agg60 siz60 rfl (by decide)
  refine enter51 rfl ?_
  simp only [q51_0, sx, reduceIte, Nat.reduceEqDiff, Nat.reduceAdd, fa60_0, l0, q51_1]
  refine byT_mk (fun h0 => ?_) (fun h0 => ?_)
  · simp only [beqI] at h0
    have h0 : x.k.toNat = 0 := by omega
    simp only [q51_2, sx, reduceIte, Nat.reduceEqDiff, Nat.reduceAdd, l3, b60, eqlVl, e51_rt]
    refine ⟨?_, ch⟩
    congr 1
    obtain ⟨k, n, s⟩ := x
    have hk : k = 0 := UInt8.toNat_inj.1 h0
    subst hk
    simp [rightV]
  · simp only [beqIf] at h0
    have h0 : ¬ x.k.toNat = 0 := by omega
    simp only [q51_3, sx, reduceIte, Nat.reduceEqDiff, Nat.reduceAdd]
    refine byT_mk (fun h1 => ?_) (fun h1 => ?_)
    · simp only [beqI] at h1
      have h1 : x.k.toNat = 1 := by omega
      simp only [q51_4, sx, reduceIte, Nat.reduceEqDiff, Nat.reduceAdd, fa60_2, l2, strEq]
      refine byT_dec (fun hs => ?_) (fun hs => ?_)
      · simp only [sx, reduceIte, Nat.reduceEqDiff, Nat.reduceAdd, fa60_1, l1, shr1, e51_rt]
        refine ⟨?_, ch⟩
        congr 1
        have e : (x.n.fdiv 2 = 0) = (x.n = 0 ∨ x.n = 1) := by
          rw [Int.fdiv_eq_ediv_of_nonneg _ (by omega)]
          exact propext (by omega)
        rw [Bool.eq_iff_iff, beqI, e]
        simp [rightV, h0, h1, hs]
      · simp only [e51_rt, sx, reduceIte, Nat.reduceEqDiff, Nat.reduceAdd]
        refine ⟨?_, ch⟩
        simp [rightV, h0, h1, hs]
    · simp only [beqIf] at h1
      have h1 : ¬ x.k.toNat = 1 := by omega
      simp only [q51_5, sx, reduceIte, Nat.reduceEqDiff, Nat.reduceAdd]
      have v23 : (x.k.toNat = 2 ∨ x.k.toNat = 3) → rightV x = decide (x.s = []) := fun h => by simp [rightV, h0, h1, h]
      refine byT_mk (fun h2 => ?_) (fun h2 => ?_)
      · have h2' : x.k.toNat = 2 := by simp only [beqI] at h2; omega
        simp only [q51_7, sx, reduceIte, Nat.reduceEqDiff, Nat.reduceAdd, h2, q51_8, fa60_2, l2, strEq, e51_rt]
        exact ⟨by rw [v23 (.inl h2')], ch⟩
      · have h2' : ¬ x.k.toNat = 2 := by simp only [beqIf] at h2; omega
        simp only [q51_6, q51_7, sx, reduceIte, Nat.reduceEqDiff, Nat.reduceAdd]
        refine byT_mk (fun h3 => ?_) (fun h3 => ?_)
        · have h3' : x.k.toNat = 3 := by simp only [beqI] at h3; omega
          simp only [sx, reduceIte, Nat.reduceEqDiff, Nat.reduceAdd, q51_8, fa60_2, l2, strEq, e51_rt]
          exact ⟨by rw [v23 (.inr h3')], ch⟩
        · have h3' : ¬ x.k.toNat = 3 := by simp only [beqIf] at h3; omega
          have v45 : (x.k.toNat = 4 ∨ x.k.toNat = 5) → rightV x = decide (x.n = 0 ∧ x.s.length ≤ 200) := fun h => by simp [rightV, h0, h1, h2', h3', h]
          have end12 : ∀ {Q : XQ} {e : E} {lo : Nat}, E.get e 1 = .ptr h.next 0 → (x.k.toNat = 4 ∨ x.k.toNat = 5) → (∀ e, Q .rt ((2, .bool (rightV x)) :: e) (h.alloc (vlC x))) → XW C lo x51_12 Q e (h.alloc (vlC x)) := by
            intro Q e lo g1 hk hQ
            have v := v45 hk
            simp only [q51_12, sx, reduceIte, Nat.reduceEqDiff, Nat.reduceAdd, g1, fa60_1, l1]
            refine byT_mk (fun hn => ?_) (fun hn => ?_)
            · simp only [beqI] at hn
              simp only [sx, reduceIte, Nat.reduceEqDiff, Nat.reduceAdd, fa60_2, l2, strLen Try.underlying9]
              have : V.bool (decide ((x.s.length : Int) ≤ 200)) = .bool (rightV x) := by
                rw [v]
                congr 1
                rw [Bool.eq_iff_iff]
                simp [hn]
                omega
              rw [this]
              exact hQ _
            · simp only [beqIf] at hn
              have : V.bool false = .bool (rightV x) := by rw [v]; simp [hn]
              rw [this]
              exact hQ _
          simp only [q51_9, sx, reduceIte, Nat.reduceEqDiff, Nat.reduceAdd]
          refine byT_mk (fun h4 => ?_) (fun h4 => ?_)
          · have h4' : x.k.toNat = 4 := by simp only [beqI] at h4; omega
            simp only [q51_11, sx, reduceIte, Nat.reduceEqDiff, Nat.reduceAdd, h4]
            refine end12 (by simp only [sx, reduceIte, Nat.reduceEqDiff, Nat.reduceAdd]) (.inl h4') fun e => ?_
            simp only [sx, reduceIte, Nat.reduceEqDiff, Nat.reduceAdd, e51_rt]
            exact ⟨trivial, ch⟩
          · have h4' : ¬ x.k.toNat = 4 := by simp only [beqIf] at h4; omega
            simp only [q51_10, q51_11, sx, reduceIte, Nat.reduceEqDiff, Nat.reduceAdd]
            refine byT_mk (fun h5 => ?_) (fun h5 => ?_)
            · have h5' : x.k.toNat = 5 := by simp only [beqI] at h5; omega
              refine end12 (by simp only [sx, reduceIte, Nat.reduceEqDiff, Nat.reduceAdd]) (.inr h5') fun e => ?_
              simp only [sx, reduceIte, Nat.reduceEqDiff, Nat.reduceAdd, e51_rt]
              exact ⟨trivial, ch⟩
            · have h5' : ¬ x.k.toNat = 5 := by simp only [beqIf] at h5; omega
              simp only [sx, reduceIte, Nat.reduceEqDiff, Nat.reduceAdd, q51_13, e51_rt]
              refine ⟨?_, ch⟩
              simp [rightV, h0, h1, h2', h3', h4', h5']
theorem row1 {x : Vl} {h : H} {lo : Nat} (wf : HWF h) (hx : x.ok) : CW C 50 [.agg (vlC x)] lo h fun v h' => v = .bool (!rightV x) ∧ Ch None_ None_ h h' := by
  have ch := ch_alloc wf (vlC x)
  have l3 : loadV Try.prog 60 (.ptr h.next 0) (h.alloc (vlC x)).read = some (.agg (vlC x)) := (at_new wf (vlC x)).agg agg60 siz60 rfl (by decide)
  refine enter50 rfl ?_
  simp only [q50_0, sx, reduceIte, Nat.reduceEqDiff, Nat.reduceAdd, l3]
  refine (rightOf ch.wf hx).mono ?_
  rintro _ h' ⟨rfl, c2⟩
  simp only [sx, reduceIte, Nat.reduceEqDiff, Nat.reduceAdd, e50_rt]
  exact ⟨trivial, ch.trans c2⟩
/-- the first value that is not right -/
theorem indexNot {a : V} {h : H} {xs : List Vl} {lo : Nat} (wf : HWF h) (ha : Vals h.read a xs) (hx : ∀ x ∈ xs, x.ok) (hl : xs.length < 100000000000) :
    CW C 72 [a, .fn (.func 50) [] []] lo h fun v h' => (∃ i : Int, v = .int .i64 i ∧ (0 ≤ i ↔ xs.any (fun x => !rightV x) = true)) ∧ Ch None_ None_ h h' := by
  refine enter72 rfl ?_
  simp only [q72_0, q72_1, sx, reduceIte, Nat.reduceEqDiff, Nat.reduceAdd, ha.len s48]
  refine rounds (fun m e' h' => Ch None_ None_ h h' ∧ ∃ i : Nat, e' = [(0, a), (1, .fn (.func 50) [] []), (7, .int .i64 (xs.length : Int)), (8, .int .i64 (i : Int))] ∧ i ≤ xs.length ∧ m = xs.length - i ∧ (xs.take i).any (fun x => !rightV x) = false) ?_ xs.length
    ⟨Ch.refl _ _ wf, 0, by simp only [sx, reduceIte, Nat.reduceEqDiff, Nat.reduceAdd]; rfl, Nat.zero_le _, rfl, by simp⟩
  rintro m e' h' ⟨hc, i, rfl, hi, hm, hno⟩
  have ha'' : Vals h'.read a xs := ((ha.mono vlE_mono (rb_none h)).mono vlE_mono (hc.rb (Z := None_) fun _ h => h)).mono vlE_mono (rb_le _ _)
  simp only [q72_2, sx, reduceIte, Nat.reduceEqDiff, Nat.reduceAdd]
  refine byT_dec (fun hlt => ?_) (fun hge => ?_)
  · have hlt : i < xs.length := by omega
    obtain ⟨b1, o1, p1, p2, _⟩ := ha''.at s48 (List.getElem?_eq_getElem hlt)
    simp only [q72_3, q72_4, sx, reduceIte, Nat.reduceEqDiff, Nat.reduceAdd, p1, p2, callX, List.nil_append, List.append_nil]
    refine (row1 hc.wf (hx _ (List.getElem_mem hlt))).mono ?_
    rintro _ h2 ⟨rfl, c2⟩
    simp only [sx, reduceIte, Nat.reduceEqDiff, Nat.reduceAdd]
    refine byT_mk (fun hr => ?_) (fun hr => ?_)
    · simp only [q72_5, sx, reduceIte, Nat.reduceEqDiff, Nat.reduceAdd, e72_rt]
      refine ⟨⟨i, rfl, ?_⟩, hc.trans c2⟩
      have : xs.any (fun x => !rightV x) = true := List.any_eq_true.2 ⟨xs[i], List.getElem_mem hlt, hr⟩
      rw [this]
      simp
    · have ha1 := add64 (a := i) (b := 1) (by omega)
      simp only [Int.cast_ofNat_Int] at ha1
      simp only [q72_6, sx, reduceIte, Nat.reduceEqDiff, Nat.reduceAdd, ha1]
      refine ⟨xs.length - (i + 1), by omega, hc.trans c2, i + 1, rfl, by omega, rfl, ?_⟩
      rw [List.take_add_one, List.any_append, hno, List.getElem?_eq_getElem hlt]
      simp only [Option.toList, List.any_cons, List.any_nil, hr]
      rfl
  · have hge : xs.length ≤ i := by omega
    simp only [q72_7, sx, reduceIte, Nat.reduceEqDiff, Nat.reduceAdd, e72_rt]
    refine ⟨⟨-1, rfl, ?_⟩, hc⟩
    rw [List.take_of_length_le hge] at hno
    rw [hno]
    simp
theorem anyNot {a : V} {h : H} {xs : List Vl} {lo : Nat} (wf : HWF h) (ha : Vals h.read a xs) (hx : ∀ x ∈ xs, x.ok) (hl : xs.length < 100000000000) :
    CW C 49 [a, .fn (.func 50) [] []] lo h fun v h' => v = .bool (xs.any fun x => !rightV x) ∧ Ch None_ None_ h h' := by
  refine enter49 rfl ?_
  simp only [q49_0, sx, reduceIte, Nat.reduceEqDiff, Nat.reduceAdd]
  refine (indexNot wf ha hx hl).mono ?_
  rintro _ h' ⟨⟨i, rfl, hi⟩, ch⟩
  simp only [sx, reduceIte, Nat.reduceEqDiff, Nat.reduceAdd, e49_rt]
  refine ⟨?_, ch⟩
  congr 1
  rw [Bool.eq_iff_iff, ← hi]
  simp
end Go.Proofs.Ytghmbmblhdgabaa
