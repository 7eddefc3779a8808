/- What the functions on values come to. -/
import Derived.Test.YtghmbmblhdgabaaCodeC
import Derived.Test.YtghmbmblhdgabaaU2
set_option linter.all false
namespace Go.Proofs.Ytghmbmblhdgabaa
open Go Go.Den Code
set_option maxRecDepth 100000
/-- a value -/
structure Vl where
  k : UInt8
  n : Int
  s : List UInt8
  deriving DecidableEq
def vlC (x : Vl) : List V := [byteV x.k, .int .i64 x.n, .str x.s]
def vlE (_ : Rd) (c : List V) (x : Vl) : Prop := c = vlC x
theorem vlE_mono : Mono vlE := fun _ _ _ _ _ h => h
theorem vlE_scal {rd : Rd} (c : List V) (x : Vl) (h : vlE rd c x) : c.all scal = true := by subst h; rfl
abbrev Vals (rd : Rd) (v : V) (xs : List Vl) : Prop := SlOf vlE 3 rd v xs
def Vl.ok (x : Vl) : Prop := -9223372036854775808 ≤ x.n ∧ x.n ≤ 9223372036854775807 ∧ x.s.length ≤ 1048576
theorem s47 : SlT Try.prog 47 60 3 := ⟨Try.underlying47, by kernel_rfl⟩
theorem s48 : SlT Try.prog 48 60 3 := ⟨Try.underlying48, by kernel_rfl⟩
theorem a47 : ApT Try.prog 47 47 60 3 32 := ⟨Try.underlying47, .inl ⟨60, Try.underlying47⟩, (Try.prog.info? 60).get (by kernel_rfl), .agg #[.int .u8 0, .int .i64 0, .string ⟨#[]⟩], by kernel_rfl, by kernel_rfl, by kernel_rfl, by kernel_rfl, by kernel_rfl⟩
theorem a48 : ApT Try.prog 48 48 60 3 32 := ⟨Try.underlying48, .inl ⟨60, Try.underlying48⟩, (Try.prog.info? 60).get (by kernel_rfl), .agg #[.int .u8 0, .int .i64 0, .string ⟨#[]⟩], by kernel_rfl, by kernel_rfl, by kernel_rfl, by kernel_rfl, by kernel_rfl⟩
theorem b47 : BsT Try.prog 47 60 3 := ⟨Try.underlying47, ⟨(Try.prog.info? 60).get (by kernel_rfl), .agg [.int .u8 0, .int .i64 0, .str []], by kernel_rfl, by kernel_rfl, by kernel_rfl, by kernel_rfl⟩, by decide⟩
theorem b48 : BsT Try.prog 48 60 3 := ⟨Try.underlying48, ⟨(Try.prog.info? 60).get (by kernel_rfl), .agg [.int .u8 0, .int .i64 0, .str []], by kernel_rfl, by kernel_rfl, by kernel_rfl, by kernel_rfl⟩, by decide⟩
theorem agg60 : agg? Try.prog 60 = some true := by kernel_rfl
theorem siz60 : size? Try.prog 60 = some 3 := by kernel_rfl
theorem z60 : zero? Try.prog 60 = some (.agg [.int .u8 0, .int .i64 0, .str []]) := by kernel_rfl
theorem fa60_0 (b o : Nat) : fieldAddrV Try.prog 60 (.ptr b o) 0 = some (.ptr b o) := by kernel_rfl
theorem fa60_1 (b o : Nat) : fieldAddrV Try.prog 60 (.ptr b o) 1 = some (.ptr b (o + 1)) := by kernel_rfl
theorem fa60_2 (b o : Nat) : fieldAddrV Try.prog 60 (.ptr b o) 2 = some (.ptr b (o + 2)) := by kernel_rfl
theorem c58 : Sc Try.prog 58 := ⟨by kernel_rfl, by kernel_rfl⟩
theorem c2 : Sc Try.prog 2 := ⟨by kernel_rfl, by kernel_rfl⟩
theorem c9 : Sc Try.prog 9 := ⟨by kernel_rfl, by kernel_rfl⟩
theorem eqOp60 (a b : Int) (c : List UInt8) (a' b' : Int) (c' : List UInt8) : eqOp Try.prog 60 (.agg [.int .u8 a, .int .i64 b, .str c]) (.agg [.int .u8 a', .int .i64 b', .str c']) =
    (match a == a' with | true => (match b == b' with | true => (match decide (c = c') with | true => some true | false => some false) | false => some false) | false => some false) := by kernel_rfl
theorem eqVl (x y : Vl) : eqOp Try.prog 60 (.agg (vlC x)) (.agg (vlC y)) = some (decide (x = y)) := by
  obtain ⟨k, n, s⟩ := x
  obtain ⟨k', n', s'⟩ := y
  refine (eqOp60 _ _ _ _ _ _).trans ?_
  by_cases h1 : k = k'
  · subst h1
    by_cases h2 : n = n'
    · subst h2
      by_cases h3 : s = s'
      · subst h3; simp
      · simp [h3]
    · have h3 : (n == n') = false := by simpa using h2
      simp [h3, h2]
  · have : ¬ ((k.toNat : Int) = (k'.toNat : Int)) := fun h => h1 (by rwa [byte_inj] at h)
    have h2 : ((k.toNat : Int) == (k'.toNat : Int)) = false := by simpa using this
    simp only [h2]
    simp [h1]
theorem neqVl (x y : Vl) : binV Try.prog .neq 60 (.agg (vlC x)) (.agg (vlC y)) = some (.bool (decide (x ≠ y))) := by
  show (eqOp Try.prog 60 (.agg (vlC x)) (.agg (vlC y))).map (fun b => V.bool (!b)) = _
  rw [eqVl]
  simp
theorem eqlVl (x y : Vl) : binV Try.prog .eql 60 (.agg (vlC x)) (.agg (vlC y)) = some (.bool (decide (x = y))) := by
  show (eqOp Try.prog 60 (.agg (vlC x)) (.agg (vlC y))).map V.bool = _
  rw [eqVl]
  rfl
/-- a value of a slice -/
theorem Vals.at {rd : Rd} {v : V} {xs : List Vl} {t : Nat} (T : SlT Try.prog t 60 3) (hs : Vals rd v xs) {i : Nat} {x : Vl} (hi : xs[i]? = some x) : ∃ b o, addrV Try.prog t v (.int .i64 (i : Int)) = some (.ptr b o) ∧ loadV Try.prog 60 (.ptr b o) rd = some (.agg (vlC x)) ∧ At rd b o (vlC x) := by
  obtain ⟨b, o, c, h1, h2, h3, rfl⟩ := SlOf.at T hs hi .i64
  exact ⟨b, o, h1, h2.agg agg60 siz60 rfl (by decide), h2⟩
theorem sameValues {a b : V} {h : H} {xs ys : List Vl} {lo : Nat} (ha : Vals h.read a xs) (hb : Vals h.read b ys) (hx : xs.length < 1000000000000000) : CW C 55 [a, b] lo h fun v h' => v = .bool (decide (xs = ys)) ∧ h' = h := by
  refine enter55 rfl ?_
  simp only [q55_0, sx, reduceIte, Nat.reduceEqDiff, Nat.reduceAdd, ha.len s47, hb.len s47]
  refine byT_mk (fun hl => ?_) (fun hl => ?_)
  · simp only [q55_1, sx, reduceIte, Nat.reduceEqDiff, Nat.reduceAdd, e55_rt]
    have : xs ≠ ys := fun e => by subst e; simp at hl
    simp [this]
  · have hlen : xs.length = ys.length := by simp at hl; omega
    simp only [q55_2, q55_3, sx, reduceIte, Nat.reduceEqDiff, Nat.reduceAdd]
    refine rounds (fun m e' h' => h' = h ∧ ∃ i : Nat, e' = [(0, a), (1, b), (5, .int .i64 (i : Int))] ∧ i ≤ xs.length ∧ m = xs.length - i ∧ xs.take i = ys.take i) ?_ xs.length ⟨rfl, 0, by simp only [sx, reduceIte, Nat.reduceEqDiff, Nat.reduceAdd]; rfl, Nat.zero_le _, rfl, by simp⟩
    rintro m e' h' ⟨rfl, i, rfl, hi, hm, heq⟩
    simp only [q55_4, sx, reduceIte, Nat.reduceEqDiff, Nat.reduceAdd, ha.len s47]
    refine byT_dec (fun hlt => ?_) (fun hge => ?_)
    · have hlt : i < xs.length := by omega
      obtain ⟨b1, o1, p1, p2, _⟩ := ha.at s47 (List.getElem?_eq_getElem hlt)
      obtain ⟨b2, o2, r1, r2, _⟩ := hb.at s47 (i := i) (List.getElem?_eq_getElem (by omega))
      simp only [q55_5, q55_6, sx, reduceIte, Nat.reduceEqDiff, Nat.reduceAdd, p1, p2, r1, r2, neqVl]
      refine byT_dec (fun hne => ?_) (fun he => ?_)
      · simp only [q55_7, sx, reduceIte, Nat.reduceEqDiff, Nat.reduceAdd, e55_rt]
        have : xs ≠ ys := fun e => by subst e; exact hne rfl
        simp [this]
      · have he : xs[i] = ys[i] := Classical.byContradiction he
        simp only [q55_8, sx, reduceIte, Nat.reduceEqDiff, Nat.reduceAdd]
        refine ⟨xs.length - (i + 1), by omega, trivial, i + 1, ?_, by omega, rfl, ?_⟩
        · rw [wrap64 (by omega) (by omega)]; rfl
        · rw [List.take_add_one, List.take_add_one, heq, List.getElem?_eq_getElem hlt, List.getElem?_eq_getElem (by omega : i < ys.length), he]
    · have hge : xs.length ≤ i := by omega
      simp only [q55_9, sx, reduceIte, Nat.reduceEqDiff, Nat.reduceAdd, e55_rt]
      have : xs = ys := by
        have h2 := heq
        rwa [List.take_of_length_le hge, List.take_of_length_le (by omega)] at h2
      simp [this]
/-- a new slice of values, of its own family -/
def NewVals (h0 h' : H) (v : V) (xs : List Vl) : Prop := ∃ F, BufOf vlE 3 h0.next h' (fun _ => none) v xs F ∧ ∀ g, F = some g → h0.next ≤ g
theorem NewVals.vals {h0 h' : H} {v : V} {xs : List Vl} {X : Nat → Prop} (wf : HWF h') (n : NewVals h0 h' v xs) (hX : ∀ g, X g → g < h0.next) : Vals (h'.rb X) v xs := by
  obtain ⟨F, h1, h2⟩ := n
  exact BufOf.sl (h := h') wf (BufOf.imp (fun _ _ h => h) h1) fun g hg hx => by have := h2 g hg; have := hX g hx; omega
theorem copyValues {a : V} {h : H} {xs : List Vl} {lo : Nat} (wf : HWF h) (hlo : lo ≤ h.next) (ha : Vals h.read a xs) (hx : xs.length < 100000000000) : CW C 53 [a] lo h fun v h' => NewVals h h' v xs ∧ Ch None_ None_ h h' := by
  refine CW.low hS hlo (enter53 rfl ?_)
  simp only [q53_0, q53_1, sx, reduceIte, Nat.reduceEqDiff, Nat.reduceAdd]
  refine rounds (fun m e' h' => Ch None_ (fun g => h.next ≤ g) h h' ∧ ∃ i : Nat, ∃ v F, e' = [(0, a), (3, v), (4, .int .i64 (i : Int))] ∧ i ≤ xs.length ∧ m = xs.length - i ∧ BufOf vlE 3 h.next h' (fun _ => none) v (xs.take i) F ∧ ∀ g, F = some g → h.next ≤ g) ?_ xs.length
    ⟨Ch.refl _ _ wf, 0, .nils, none, by simp only [sx, reduceIte, Nat.reduceEqDiff, Nat.reduceAdd]; rfl, Nat.zero_le _, rfl, by simpa using BufOf.nil, fun g hg => by cases hg⟩
  rintro m e' h' ⟨hc, i, v, F, rfl, hi, hm, hb, hF⟩
  have ha'' := ((ha.mono vlE_mono (rb_none h)).mono vlE_mono (hc.rb (Z := None_) fun _ h => h)).mono vlE_mono (rb_le _ _)
  simp only [q53_2, sx, reduceIte, Nat.reduceEqDiff, Nat.reduceAdd, ha''.len s47]
  refine byT_dec (fun hlt => ?_) (fun hge => ?_)
  · have hlt : i < xs.length := by omega
    obtain ⟨b1, o1, p1, p2, _⟩ := Vals.at s47 ha'' (List.getElem?_eq_getElem hlt)
    have c1 := ch_alloc hc.wf (vlC xs[i])
    have hb1 := BufOf.own hb c1 (fun _ _ h => h)
    have hlen : (xs.take i).length ≤ xs.length := by simp; omega
    obtain ⟨v2, h2, F2, e1, e2, e3, e4⟩ := append_one (Er := vlE) (y := xs[i]) a47 c1.wf (Nat.le_trans hc.next c1.next) hb1 (elems_new (c := some 1) hc.wf (n := 1) (es := 3) rfl) rfl rfl rfl (by omega) (by omega)
    simp only [q53_3, q53_4, sx, reduceIte, Nat.reduceEqDiff, Nat.reduceAdd, p1, p2, buildSlice_one b47 (v := .agg (vlC xs[i])) rfl, e1, q53_5]
    refine ⟨xs.length - (i + 1), by omega, (hc.trans (c1.mono (None_sub _) (None_sub _))).trans (e3.mono (None_sub _) fun g hg => hF g hg), i + 1, v2, F2, ?_, by omega, rfl, ?_, fun g hg => ?_⟩
    · rw [wrap64 (by omega) (by omega)]; rfl
    · rw [List.take_add_one, List.getElem?_eq_getElem hlt]
      exact e2
    · rcases e4 g hg with h1 | h1
      · exact hF g h1
      · have := c1.next
        have := hc.next
        omega
  · have hge : xs.length ≤ i := by omega
    have : i = xs.length := by omega
    subst this
    simp only [q53_6, sx, reduceIte, Nat.reduceEqDiff, Nat.reduceAdd, e53_rt]
    rw [List.take_length] at hb
    exact ⟨⟨F, hb, hF⟩, hc.old wf (fun _ h _ => h) (fun _ h1 h2 => by omega)⟩
end Go.Proofs.Ytghmbmblhdgabaa
