/- The reference's reading of an answer: the plain law, the walk. -/
import Derived.Test.YtghmbmblhdgabaaZ5
set_option linter.all false
namespace Go.Proofs.Ytghmbmblhdgabaa
open Go Go.Den Code
set_option maxRecDepth 100000
def stepA (i : Nat) (a : An) (f : Fm) : An :=
  if f.1 = 7 ∧ f.2.length = 4 then { a with count := (num4 f.2 : Int) }
  else if f.1 = 6 ∧ i = 0 then { a with names := refNames (f.2.drop 1) }
  else { a with rows := a.rows ++ [(readP f.2).getD []] }
def foldA : Nat → An → List Fm → An
  | _, a, [] => a
  | i, a, f :: r => foldA (i + 1) (stepA i a f) r
def refAns (l : List Fm) : Option An := if ansErr (foldA 0 nilAn l) = 0 ∧ ansFs (foldA 0 nilAn l) = l then some (foldA 0 nilAn l) else none
theorem foldA_rows : ∀ {rs : List (List Vl)} {i : Nat} {a : An} {t : List Fm}, 0 < i → (∀ r ∈ rs, rowErr r = 0 ∧ ∀ x ∈ r, x.ok) → foldA i a (rowFs rs ++ t) = foldA (i + rs.length) { a with rows := a.rows ++ rs } t
  | [], i, a, t, _, _ => by simp [rowFs]
  | r :: rs, i, a, t, hi, h => by
    obtain ⟨h1, h2⟩ := h r List.mem_cons_self
    have e : stepA i a (6, rowBytes r) = { a with rows := a.rows ++ [r] } := by
      unfold stepA
      rw [if_neg (by simp), if_neg (by simp; omega), read_row h2 h1]
      rfl
    show foldA (i + 1) (stepA i a (6, rowBytes r)) (rowFs rs ++ t) = _
    rw [e, foldA_rows (by omega) fun q hq => h q (List.mem_cons_of_mem _ hq)]
    simp only [List.length_cons, List.append_assoc, List.singleton_append]
    congr 1
    omega
theorem rows_fine {n : Nat} : ∀ {rs : List (List Vl)}, rowsErr n rs = 0 → ∀ r ∈ rs, rowErr r = 0
  | [], _, r, hr => by cases hr
  | q :: rs, he, r, hr => by
    unfold rowsErr at he
    split at he
    · cases he
    · split at he
      · rename_i h
        exact (h he).elim
      · rename_i h
        rcases List.mem_cons.1 hr with rfl | hr
        · exact Classical.byContradiction h
        · exact rows_fine he r hr
theorem foldA_back {a : An} (hx : ∀ r ∈ a.rows, ∀ x ∈ r, x.ok) (he : ansErr a = 0) : foldA 0 nilAn (ansFs a) = a := by
  obtain ⟨ns, rs, c⟩ := a
  unfold ansErr at he
  simp only at he hx
  split at he
  · cases he
  rename_i h1
  split at he
  · cases he
  rename_i h2
  split at he
  · cases he
  rename_i h3
  have hc0 : 0 ≤ c ∧ c ≤ 2147483647 := ⟨Int.not_lt.1 fun h => h1 (.inr (.inl h)), Int.not_lt.1 fun h => h1 (.inr (.inr h))⟩
  have hs : ∀ s ∈ ns, s.length ≤ 24 := fun s hm => by
    rcases Nat.lt_or_ge 24 s.length with h | h
    · exact (h3 (List.any_eq_true.2 ⟨s, hm, decide_eq_true h⟩)).elim
    · exact h
  have en : (num4 (fourB c.toNat) : Int) = c := by
    have := num4_four (n := c.toNat) (by omega) []
    rw [List.append_nil] at this
    omega
  have last : ∀ i a, stepA i a (7, fourB c.toNat) = { a with count := c } := fun i a => by
    unfold stepA
    rw [if_pos ⟨rfl, rfl⟩]
    simp only [en]
  by_cases h0 : ns = []
  · subst h0
    have hr : rs = [] := Classical.byContradiction fun h => h1 (.inl ⟨h, rfl⟩)
    subst hr
    show stepA 0 nilAn (7, fourB c.toNat) = _
    rw [last]
    rfl
  · have hpos : 0 < ns.length := List.length_pos_iff.2 h0
    have e : ansFs ⟨ns, rs, c⟩ = (6, namesB ns) :: (rowFs rs ++ [(7, fourB c.toNat)]) := by
      unfold ansFs headFs
      simp only
      rw [if_pos hpos]
      simp
    have e1 : stepA 0 nilAn (6, namesB ns) = ⟨ns, [], 0⟩ := by
      unfold stepA
      rw [if_neg (by simp), if_pos ⟨rfl, rfl⟩]
      show (⟨refNames (ns.flatMap nameB), [], 0⟩ : An) = _
      rw [refNames_enc hs]
    rw [e]
    show foldA 1 (stepA 0 nilAn (6, namesB ns)) _ = _
    rw [e1, foldA_rows (by omega) fun r hr => ⟨rows_fine he r hr, hx r hr⟩]
    show foldA (1 + rs.length + 1) (stepA (1 + rs.length) _ (7, fourB c.toNat)) [] = _
    rw [last]
    simp [foldA]
structure AnB (i : Nat) (a : An) : Prop where
  n1 : a.names.length ≤ 1048576
  n2 : ∀ s ∈ a.names, s.length ≤ 255
  r1 : a.rows.length ≤ i
  r2 : ∀ r ∈ a.rows, r.length ≤ 12
  r3 : ∀ r ∈ a.rows, ∀ x ∈ r, x.ok
theorem AnB.step {i : Nat} {a : An} {f : Fm} (h : AnB i a) (hf : f.2.length ≤ 1048576) : AnB (i + 1) (stepA i a f) := by
  unfold stepA
  split
  · exact ⟨h.n1, h.n2, Nat.le_succ_of_le h.r1, h.r2, h.r3⟩
  · split
    · obtain ⟨k1, k2⟩ := refNames_ok _ (f.2.drop 1) rfl
      exact ⟨by rw [List.length_drop] at k1; show (refNames (f.2.drop 1)).length ≤ _; omega, k2, Nat.le_succ_of_le h.r1, h.r2, h.r3⟩
    · have hr : ∀ x ∈ (readP f.2).getD [], x.ok := by
        cases hp : readP f.2 with
        | none => intro x hx; cases hx
        | some xs => exact (read_ok hp).1
      have hn : ((readP f.2).getD []).length ≤ 12 := by
        cases hp : readP f.2 with
        | none => simp
        | some xs => exact (read_ok hp).2
      refine ⟨h.n1, h.n2, by simp; have := h.r1; omega, fun r hq => ?_, fun r hq => ?_⟩
      · rcases List.mem_append.1 hq with hq | hq
        · exact h.r2 r hq
        · simp at hq; subst hq; exact hn
      · rcases List.mem_append.1 hq with hq | hq
        · exact h.r3 r hq
        · simp at hq; subst hq; exact hr
theorem AnB.ok {i : Nat} {a : An} (h : AnB i a) (hi : i ≤ 1048576) : AnOk a :=
  ⟨h.n1, fun s hs => by have := h.n2 s hs; omega, by have := h.r1; omega, fun r hr => by have := h.r2 r hr; omega, h.r3⟩
theorem AnB.nil : AnB 0 nilAn := ⟨by simp [nilAn], fun s hs => by simp [nilAn] at hs, by simp [nilAn], fun r hr => by simp [nilAn] at hr, fun r hr => by simp [nilAn] at hr⟩
theorem AnB.fold : ∀ {l : List Fm} {i : Nat} {a : An}, AnB i a → (∀ f ∈ l, f.2.length ≤ 1048576) → AnB (i + l.length) (foldA i a l)
  | [], i, a, h, _ => h
  | f :: l, i, a, h, hf => by
    have := AnB.fold (l := l) (h.step (hf f List.mem_cons_self)) fun g hg => hf g (List.mem_cons_of_mem _ hg)
    rw [List.length_cons, show i + (l.length + 1) = i + 1 + l.length by omega]
    exact this
theorem refAns_eq {l : List Fm} (hf : ∀ f ∈ l, f.2.length ≤ 1048576) : refAns l = rdAns l := by
  unfold refAns
  cases hp : rdAns l with
  | some a =>
    obtain ⟨h1, h2, h3⟩ := ans_inv hp
    have h4 := foldA_back h3 h1
    rw [h2] at h4
    rw [h4, if_pos ⟨h1, h2⟩]
  | none =>
    split
    · rename_i h
      have h1 := ans_back (AnB.fold AnB.nil hf).r3 h.1
      rw [h.2, hp] at h1
      cases h1
    · rfl
theorem foldA_take : ∀ {l : List Fm} {k i : Nat} {a : An} {f : Fm}, l[k]? = some f → foldA i a (l.take (k + 1)) = stepA (i + k) (foldA i a (l.take k)) f
  | [], k, i, a, f, h => by simp at h
  | g :: l, 0, i, a, f, h => by
    simp at h
    subst h
    rfl
  | g :: l, k + 1, i, a, f, h => by
    have := foldA_take (l := l) (k := k) (i := i + 1) (a := stepA i a g) (f := f) (by simpa using h)
    show foldA (i + 1) (stepA i a g) (l.take (k + 1)) = stepA (i + (k + 1)) (foldA (i + 1) (stepA i a g) (l.take k)) f
    rw [this]
    congr 1
    omega
/-! ### the walk -/
theorem res38 {e : E} {h : H} {K : V → H → Prop} {t : V} (hl : loadV Try.prog 75 (E.get e 2) h.read = some t) : resX C.P Try.f38.results.toList e h K = K (.tup [t, E.get e 3]) h := by
  have h1 : Try.f38.results.toList = [.cell 2 75, .tmp 3] := by kernel_rfl
  have hl' : loadV C.P 75 (E.get e 2) h.read = some t := hl
  unfold resX
  rw [h1]
  simp only [resXs, resX1, hl']
  rfl
section
variable {h0 h : H} {c : Int} {sv nv rv : V} {l : List Fm} {ns : List (List UInt8)} {xs : List (List Vl)} {F : Option Nat}
theorem RS.count (S : RS h0 h c sv nv rv l ns xs F) (c' : Int) : ∃ h', storeV Try.prog h0.next 3 (.ptr (h0.next + 1) (0 + 2)) (.int .i64 c') h = some h' ∧ RS h0 h' c' sv nv rv l ns xs F := by
  obtain ⟨h3, s1, o6, c3, n3⟩ := S.o5.set (P := Try.prog) (t := 3) (o := 0 + 2) (w := .int .i64 c') S.ch.wf Go.Proofs.Ytghmbmblhdgabaa.c3.s rfl rfl (by simp)
  have sub : ∀ g, g = h0.next + 1 → Tk h0 g := fun g h => .inr h
  exact ⟨h3, s1, {
    ch := S.ch.trans (c3.mono (fun g h => tk_zr g (sub g h)) fun g h => tk_zr g (sub g h))
    o2 := S.o2.ch c3 (by omega)
    o5 := o6
    fr := S.fr.mono frE_mono (c3.rb sub)
    nm := S.nm.mono txE_mono (c3.rb sub)
    rw_ := S.rw_.ch rowE_mono c3 (c3.rb sub) fun g hg h => by have := S.hF g hg; omega
    hF := S.hF
    nx := Nat.le_trans S.nx c3.next }⟩
/-- an error's end -/
theorem rd_err38 {l : List Fm} (wf : HWF h0) (ch : Ch (Zr h0) (Zr h0) h0 h) (o2 : Own h h0.next h0.next h0.next [.nils, .nils, .int .i64 0]) (hn : rdAns l = none) :
    ∃ h2, storeV Try.prog h0.next 75 (.ptr h0.next 0) (.agg [.nils, .nils, .int .i64 0]) h = some h2 ∧ ∀ e, E.get e 2 = .ptr h0.next 0 → E.get e 3 = .int .i64 390 → resX C.P Try.f38.results.toList e h2 (RdPost h0 l) := by
  obtain ⟨h2, s1, o3, c2, n2⟩ := o2.fill (P := Try.prog) (t := 75) (c := [.nils, .nils, .int .i64 0]) ch.wf siz75 rfl rfl rfl
  refine ⟨h2, s1, fun e g2 g3 => ?_⟩
  have l2 : loadV Try.prog 75 (E.get e 2) h2.read = some (.agg [.nils, .nils, .int .i64 0]) := by rw [g2]; exact (o3.at c2.wf).agg agg75 siz75 rfl (by decide)
  rw [res38 l2, g3]
  refine ⟨[.nils, .nils, .int .i64 0], by rw [hn], by rw [hn]; exact AnC.nil, ?_⟩
  exact (ch.trans (c2.mono (fun g h => by show h0.next ≤ g; omega) fun g h => by show h0.next ≤ g; omega)).old wf (fun g h1 h2 => by have : h0.next ≤ g := h1; omega) fun g h1 h2 => by have : h0.next ≤ g := h1; omega
def RfI (h0 : H) (sv : V) (l : List Fm) (m : Nat) (e : E) (h : H) : Prop :=
  ∃ (i : Nat) (nv rv : V) (F : Option Nat), e = [(0, sv), (2, .ptr h0.next 0), (4, .ptr (h0.next + 1) 0), (5, .int .i64 (i : Int))] ∧ i ≤ l.length ∧ m = l.length - i ∧
    RS h0 h (foldA 0 nilAn (l.take i)).count sv nv rv l (foldA 0 nilAn (l.take i)).names (foldA 0 nilAn (l.take i)).rows F
theorem eqByte (t : Nat) (x : UInt8) (n : UInt8) : binV Try.prog .eql t (byteV x) (.int .u8 (n.toNat : Int)) = some (.bool (decide (x = n))) := byte_eql t x n
theorem ref_round (hl : l.length ≤ 1048576) (hlb : ∀ f ∈ l, f.2.length ≤ 1048576) {Q : XQ} {m : Nat} {e : E} (I : RfI h0 sv l m e h)
    (hQ : ∀ e h nv rv F, E.get e 0 = sv → E.get e 2 = .ptr h0.next 0 → E.get e 4 = .ptr (h0.next + 1) 0 → RS h0 h (foldA 0 nilAn l).count sv nv rv l (foldA 0 nilAn l).names (foldA 0 nilAn l).rows F → Q (.ex 0) e h) :
    XW C h0.next x38_2 (kX (fun e' h' => ∃ m', m' < m ∧ RfI h0 sv l m' (only [0, 2, 4, 5] e') h') Q) e h := by
  obtain ⟨i, nv, rv, F, rfl, hi, rfl, S⟩ := I
  simp only [q38_2, sx, reduceIte, Nat.reduceEqDiff, Nat.reduceAdd, (S.fr.mono frE_mono (rb_le _ _)).len s26]
  refine byT_dec (fun hlt => ?_) (fun hge => ?_)
  · have hlt : i < l.length := by omega
    have hget := List.getElem?_eq_getElem hlt
    obtain ⟨b, o, w, p1, p2, p3⟩ := S.fr.at2 hget
    have hfold := foldA_take (i := 0) (a := nilAn) hget
    have hfb := hlb _ (List.getElem_mem hlt)
    have hB := AnB.fold AnB.nil (l := l.take i) fun f hf => hlb f (List.mem_of_mem_take hf)
    rw [Nat.zero_add] at hfold
    generalize hf : l[i] = f at *
    have hrl : (foldA 0 nilAn (l.take i)).rows.length ≤ 1048576 := by have := hB.r1; simp at this; omega
    have l42 : loadV Try.prog 42 (.ptr b o) h.read = some (.agg [byteV f.1, w]) := (p2.mono (rb_le _ _)).agg agg42 siz42 rfl (by decide)
    have cA := ch_alloc S.ch.wf [V.int .u8 0, .nils]
    obtain ⟨h2, s1, o1, c2, n2⟩ := (Own.new (h := h) (lo := h0.next) (cs := [V.int .u8 0, .nils]) S.ch.next).fill (P := Try.prog) (t := 42) (c := [byteV f.1, w]) cA.wf siz42 rfl
      (by show (scal (byteV f.1) && (scal w && true)) = true; rw [p3.isSl.scal]; rfl) rfl
    have cF : Ch None_ None_ h h2 := ((cA.mono (None_sub (· = h.next)) (None_sub (· = h.next))).trans c2).old S.ch.wf (fun g h1 h2 => by omega) fun g h1 h2 => by omega
    have S2 := S.step cF fun _ h => h.elim
    have f0 : loadV Try.prog 40 (.ptr h.next 0) h2.read = some (byteV f.1) := (o1.at c2.wf).cell0 c40 rfl
    have f1 : loadV Try.prog 22 (.ptr h.next (0 + 1)) h2.read = some w := (o1.at c2.wf).cell c22 rfl
    have hw : Bytes h2.read w f.2 := (p3.mono (cF.rb (None_sub _))).mono (rb_le _ _)
    have cz : (V.agg [V.int .u8 0, .nils]).cells = [V.int .u8 0, .nils] := rfl
    have e5 := add64 (a := i) (b := 1) (by omega)
    simp only [Int.cast_ofNat_Int] at e5
    have k7 : binV Try.prog .eql 40 (byteV f.1) (.int .u8 7) = some (.bool (decide (f.1 = 7))) := byte_eql 40 f.1 7
    have k6 : binV Try.prog .eql 40 (byteV f.1) (.int .u8 6) = some (.bool (decide (f.1 = 6))) := byte_eql 40 f.1 6
    have next : ∀ {h3 : H} {nv rv : V} {F : Option Nat}, RS h0 h3 (foldA 0 nilAn (l.take (i + 1))).count sv nv rv l (foldA 0 nilAn (l.take (i + 1))).names (foldA 0 nilAn (l.take (i + 1))).rows F →
        ∃ m', m' < l.length - i ∧ RfI h0 sv l m' [(0, sv), (2, .ptr h0.next 0), (4, .ptr (h0.next + 1) 0), (5, .int .i64 ((i + 1 : Nat) : Int))] h3 := fun S => ⟨l.length - (i + 1), by omega, i + 1, _, _, _, rfl, by omega, rfl, S⟩
    have rest : ¬ (f.1 = 7 ∧ f.2.length = 4) → ∀ e, E.get e 0 = sv → E.get e 2 = .ptr h0.next 0 → E.get e 4 = .ptr (h0.next + 1) 0 → E.get e 5 = .int .i64 (i : Int) → E.get e 6 = .ptr h.next 0 →
        (∀ {Q' : XQ}, (∀ e' h3, E.get e' 0 = sv → E.get e' 2 = .ptr h0.next 0 → E.get e' 4 = .ptr (h0.next + 1) 0 → E.get e' 5 = .int .i64 (i : Int) → (∃ nv rv F, RS h0 h3 (foldA 0 nilAn (l.take (i + 1))).count sv nv rv l (foldA 0 nilAn (l.take (i + 1))).names (foldA 0 nilAn (l.take (i + 1))).rows F) → Q' .nx e' h3) → XW C h0.next x38_8 Q' e h2) := by
      intro hn e g0 g2 g4 g5 g6 Q' hQ'
      have rows : ¬ (f.1 = 6 ∧ i = 0) → ∀ e, E.get e 0 = sv → E.get e 2 = .ptr h0.next 0 → E.get e 4 = .ptr (h0.next + 1) 0 → E.get e 5 = .int .i64 (i : Int) → E.get e 6 = .ptr h.next 0 → XW C h0.next x38_11 (kX (XW C h0.next x38_12 Q') Q') e h2 := by
        intro hn6 e g0 g2 g4 g5 g6
        have hst : foldA 0 nilAn (l.take (i + 1)) = { foldA 0 nilAn (l.take i) with rows := (foldA 0 nilAn (l.take i)).rows ++ [(readP f.2).getD []] } := by rw [hfold]; unfold stepA; rw [if_neg hn, if_neg hn6]
        simp only [q38_11, sx, reduceIte, Nat.reduceEqDiff, Nat.reduceAdd, g6, fa42_1, f1]
        refine (read68 S2.ch.wf S2.ch.next hw hfb).mono ?_
        rintro _ h3 ⟨xv, rfl, hxv, c3⟩
        have S3 := S2.step c3 fun _ h => h.elim
        have hv : Vals (h3.rb (Tk h0)) xv ((readP f.2).getD []) := by
          cases hp : readP f.2 with
          | none => rw [hp] at hxv; subst hxv; exact Vals.nil
          | some x => rw [hp] at hxv; exact hxv.vals c3.wf fun g hg => by have := S2.nx; rcases hg with h | h <;> omega
        have lb : loadV Try.prog 73 (.ptr (h0.next + 1) (0 + 1)) h3.read = some rv := (S3.o5.at S3.ch.wf).cell c73 rfl
        obtain ⟨v', h4, h5, F', x1, x2, S5⟩ := S3.app hv (by omega)
        have cx : xv.cells = [xv] := hv.isSl.cells
        simp only [sx, reduceIte, Nat.reduceEqDiff, Nat.reduceAdd, g4, fa75_1, lb, buildSlice_one bs73 (v := xv) (by rw [cx]; rfl), cx, x1, x2, q38_12, g0, g2, g5]
        exact hQ' _ _ (by simp only [sx, reduceIte, Nat.reduceEqDiff, Nat.reduceAdd]) (by simp only [sx, reduceIte, Nat.reduceEqDiff, Nat.reduceAdd]) (by simp only [sx, reduceIte, Nat.reduceEqDiff, Nat.reduceAdd]) (by simp only [sx, reduceIte, Nat.reduceEqDiff, Nat.reduceAdd]) ⟨_, _, _, by rw [hst]; exact S5⟩
      simp only [q38_8, sx, reduceIte, Nat.reduceEqDiff, Nat.reduceAdd, g6, fa42_0, f0, k6]
      refine byT_dec (fun g => ?_) (fun g => ?_)
      · simp only [sx, reduceIte, Nat.reduceEqDiff, Nat.reduceAdd, g5]
        refine byT_mk (fun gi => ?_) (fun gi => ?_)
        · have gi : i = 0 := by rw [beqI] at gi; omega
          have hst : foldA 0 nilAn (l.take (i + 1)) = { foldA 0 nilAn (l.take i) with names := refNames (f.2.drop 1) } := by rw [hfold]; unfold stepA; rw [if_neg hn, if_pos ⟨g, gi⟩]
          simp only [q38_10, sx, reduceIte, Nat.reduceEqDiff, Nat.reduceAdd, g6, fa42_1, f1]
          refine (names67 S2.ch.wf S2.ch.next hw hfb).mono ?_
          rintro nv' h3 ⟨nt, c3⟩
          have S3 := S2.step c3 fun _ h => h.elim
          obtain ⟨h4, s4, S4⟩ := S3.names (nt.texts (X := Tk h0) c3.wf fun g hg => by have := S2.nx; rcases hg with h | h <;> omega)
          simp only [sx, reduceIte, Nat.reduceEqDiff, Nat.reduceAdd, g4, fa75_0, s4, q38_12, g0, g2, g5]
          exact hQ' _ _ (by simp only [sx, reduceIte, Nat.reduceEqDiff, Nat.reduceAdd]) (by simp only [sx, reduceIte, Nat.reduceEqDiff, Nat.reduceAdd]) (by simp only [sx, reduceIte, Nat.reduceEqDiff, Nat.reduceAdd]) (by simp only [sx, reduceIte, Nat.reduceEqDiff, Nat.reduceAdd]) ⟨_, _, _, by rw [hst]; exact S4⟩
        · exact rows (fun h => by rw [beqIf] at gi; omega) _ (by simp only [sx, reduceIte, Nat.reduceEqDiff, Nat.reduceAdd, g0]) (by simp only [sx, reduceIte, Nat.reduceEqDiff, Nat.reduceAdd, g2]) (by simp only [sx, reduceIte, Nat.reduceEqDiff, Nat.reduceAdd, g4]) (by simp only [sx, reduceIte, Nat.reduceEqDiff, Nat.reduceAdd, g5]) (by simp only [sx, reduceIte, Nat.reduceEqDiff, Nat.reduceAdd, g6])
      · exact rows (fun h => g h.1) _ (by simp only [sx, reduceIte, Nat.reduceEqDiff, Nat.reduceAdd, g0]) (by simp only [sx, reduceIte, Nat.reduceEqDiff, Nat.reduceAdd, g2]) (by simp only [sx, reduceIte, Nat.reduceEqDiff, Nat.reduceAdd, g4]) (by simp only [sx, reduceIte, Nat.reduceEqDiff, Nat.reduceAdd, g5]) (by simp only [sx, reduceIte, Nat.reduceEqDiff, Nat.reduceAdd, g6])
    simp only [q38_3, q38_4, sx, reduceIte, Nat.reduceEqDiff, Nat.reduceAdd, p1, l42, z42, cz, s1, q38_5, fa42_0, f0, k7, q38_6]
    refine byT_dec (fun g7 => ?_) (fun g7 => ?_)
    · simp only [sx, reduceIte, Nat.reduceEqDiff, Nat.reduceAdd, fa42_1, f1, hw.len t22]
      refine byT_mk (fun g4 => ?_) (fun g4 => ?_)
      · have g4 : f.2.length = 4 := by rw [beqI] at g4; omega
        have hst : foldA 0 nilAn (l.take (i + 1)) = { foldA 0 nilAn (l.take i) with count := (num4 f.2 : Int) } := by rw [hfold]; unfold stepA; rw [if_pos ⟨g7, g4⟩]
        obtain ⟨h4, s4, S4⟩ := S2.count (num4 f.2 : Int)
        obtain ⟨fk, fb⟩ := f
        simp only at g4 hw hst S4 s4
        match fb, g4 with
        | [y0, y1, y2, y3], _ =>
          obtain ⟨a0, u0, t0⟩ := hw.at t22 c5 (i := 0) (by simp) (k := .i64)
          obtain ⟨a1, u1, t1⟩ := hw.at t22 c5 (i := 1) (by simp) (k := .i64)
          obtain ⟨a2, u2, t2⟩ := hw.at t22 c5 (i := 2) (by simp) (k := .i64)
          obtain ⟨a3, u3, t3⟩ := hw.at t22 c5 (i := 3) (by simp) (k := .i64)
          simp only [List.getElem_cons_zero, List.getElem_cons_succ, Int.cast_ofNat_Int] at u0 u1 u2 u3 t0 t1 t2 t3
          have b0 := y0.toNat_lt
          have b1 := y1.toNat_lt
          have b2 := y2.toNat_lt
          have b3 := y3.toNat_lt
          have m0 : IntKind.wrap .i64 ((y0.toNat : Int) * 16777216) = ((y0.toNat * 16777216 : Nat) : Int) := by rw [wrap64 (by omega) (by omega)]; omega
          have m1 : IntKind.wrap .i64 ((y1.toNat : Int) * 65536) = ((y1.toNat * 65536 : Nat) : Int) := by rw [wrap64 (by omega) (by omega)]; omega
          have m2 : IntKind.wrap .i64 ((y2.toNat : Int) * 256) = ((y2.toNat * 256 : Nat) : Int) := by rw [wrap64 (by omega) (by omega)]; omega
          have s01 := add64 (a := y0.toNat * 16777216) (b := y1.toNat * 65536) (by omega)
          have s02 := add64 (a := y0.toNat * 16777216 + y1.toNat * 65536) (b := y2.toNat * 256) (by omega)
          have s03 := add64 (a := y0.toNat * 16777216 + y1.toNat * 65536 + y2.toNat * 256) (b := y3.toNat) (by omega)
          have s4 : storeV Try.prog h0.next 3 (.ptr (h0.next + 1) (0 + 2)) (.int .i64 ((y0.toNat * 16777216 + y1.toNat * 65536 + y2.toNat * 256 + y3.toNat : Nat) : Int)) h2 = some h4 := s4
          simp only [q38_7, sx, reduceIte, Nat.reduceEqDiff, Nat.reduceAdd, fa42_1, f1, u0, u1, u2, u3, t0, t1, t2, t3, conv_byte Try.underlying3, m0, m1, m2, s01, s02, s03, fa75_2, s4, q38_13, q38_14, q38_15, e5]
          exact next (by rw [hst]; exact S4)
      · refine rest (fun h => by rw [beqIf] at g4; omega) _ (by simp only [sx, reduceIte, Nat.reduceEqDiff, Nat.reduceAdd]) (by simp only [sx, reduceIte, Nat.reduceEqDiff, Nat.reduceAdd]) (by simp only [sx, reduceIte, Nat.reduceEqDiff, Nat.reduceAdd]) (by simp only [sx, reduceIte, Nat.reduceEqDiff, Nat.reduceAdd]) (by simp only [sx, reduceIte, Nat.reduceEqDiff, Nat.reduceAdd]) fun e' h3 g0 g2 g4 g5 ⟨_, _, _, S3⟩ => ?_
        simp only [sx, reduceIte, Nat.reduceEqDiff, Nat.reduceAdd, q38_13, q38_14, q38_15, g0, g2, g4, g5, e5]
        exact next S3
    · refine rest (fun h => g7 h.1) _ (by simp only [sx, reduceIte, Nat.reduceEqDiff, Nat.reduceAdd]) (by simp only [sx, reduceIte, Nat.reduceEqDiff, Nat.reduceAdd]) (by simp only [sx, reduceIte, Nat.reduceEqDiff, Nat.reduceAdd]) (by simp only [sx, reduceIte, Nat.reduceEqDiff, Nat.reduceAdd]) (by simp only [sx, reduceIte, Nat.reduceEqDiff, Nat.reduceAdd]) fun e' h3 g0 g2 g4 g5 ⟨_, _, _, S3⟩ => ?_
      simp only [sx, reduceIte, Nat.reduceEqDiff, Nat.reduceAdd, q38_13, q38_14, q38_15, g0, g2, g4, g5, e5]
      exact next S3
  · have hil : i = l.length := by omega
    subst hil
    rw [List.take_length] at S
    exact hQ _ _ _ _ _ (by simp only [sx, reduceIte, Nat.reduceEqDiff, Nat.reduceAdd]) (by simp only [sx, reduceIte, Nat.reduceEqDiff, Nat.reduceAdd]) (by simp only [sx, reduceIte, Nat.reduceEqDiff, Nat.reduceAdd]) S
end
theorem readA38 {a : V} {l : List Fm} {h : H} {lo : Nat} (wf : HWF h) (hlo : lo ≤ h.next) (ha : Frames h.read a l) (hl : l.length ≤ 1048576) (hlb : ∀ f ∈ l, f.2.length ≤ 1048576) : CW C 38 [a] lo h (RdPost h l) := by
  refine CW.low hS hlo (enter38 rfl ?_)
  have cA := ch_alloc wf [V.nils, .nils, .int .i64 0]
  have nA : (h.alloc [V.nils, .nils, .int .i64 0]).next = h.next + 1 := rfl
  have cB := ch_alloc cA.wf [V.nils, .nils, .int .i64 0]
  have nB : ((h.alloc [V.nils, .nils, .int .i64 0]).alloc [V.nils, .nils, .int .i64 0]).next = h.next + 1 + 1 := rfl
  have cz : (V.agg [V.nils, .nils, .int .i64 0]).cells = [V.nils, .nils, .int .i64 0] := rfl
  have o5 := Own.new (h := h.alloc [V.nils, .nils, .int .i64 0]) (lo := h.next) (cs := [V.nils, .nils, .int .i64 0]) (by omega)
  rw [nA] at o5
  have o2 := Own.new (h := h) (lo := h.next) (cs := [V.nils, .nils, .int .i64 0]) (Nat.le_refl _)
  have S : RS h ((h.alloc [V.nils, .nils, .int .i64 0]).alloc [V.nils, .nils, .int .i64 0]) 0 a .nils .nils l [] [] none := {
    ch := (cA.trans cB).mono (None_sub _) (None_sub _)
    o2 := o2.ch cB fun h => h
    o5 := o5
    fr := ((((ha.mono frE_mono (rb_none h)).mono frE_mono (rb_new wf None_)).mono frE_mono (rb_mono fun g hg => .inr (by rcases hg with h | h <;> omega))).mono frE_mono (cA.rb (Z := Tk h) (None_sub _))).mono frE_mono (cB.rb (Z := Tk h) (None_sub _))
    nm := ⟨[], fun _ h => (by cases h), .inl ⟨rfl, rfl, rfl⟩, Each.nil _⟩
    rw_ := BufOf.nil
    hF := fun _ h => by cases h
    nx := by omega }
  simp only [q38_0, sx, reduceIte, Nat.reduceEqDiff, Nat.reduceAdd, z75, cz, nA, q38_1]
  refine rounds (RfI h a l) (fun m e h' I => ref_round hl hlb I ?_) l.length ⟨0, .nils, .nils, none, by simp only [sx, reduceIte, Nat.reduceEqDiff, Nat.reduceAdd]; rfl, Nat.zero_le _, rfl, S⟩
  intro e h1 nv rv F g0 g2 g4 S
  have hB := AnB.fold AnB.nil hlb
  rw [Nat.zero_add] at hB
  have ok := hB.ok hl
  have hre := refAns_eq hlb
  unfold refAns at hre
  generalize hA : foldA 0 nilAn l = A at *
  have la : loadV Try.prog 75 (.ptr (h.next + 1) 0) h1.read = some (.agg [nv, rv, .int .i64 A.count]) := (S.o5.at S.ch.wf).agg agg75 siz75 rfl (by decide)
  have rows : RowsOf (h1.rb (Tk h)) rv A.rows := S.rw_.sl S.ch.wf fun g hg h => by have := S.hF g hg; rcases h with h | h <;> omega
  simp only [sx, reduceIte, Nat.reduceEqDiff, Nat.reduceAdd, q38_16, g0, g2, g4, la]
  refine (answer36 S.ch.wf S.ch.next (S.nm.mono txE_mono (rb_le _ _)) (rows.mono rowE_mono (rb_le _ _)) ok).mono ?_
  rintro _ h3 ⟨fv, rfl, hfv, c3⟩
  have S3 := S.step c3 fun _ h => h.elim
  have bad : ∀ e, rdAns l = none → E.get e 2 = .ptr h.next 0 → XW C h.next x38_18 (kX (XW C h.next x38_19 (kF38 (RdPost h l))) (kF38 (RdPost h l))) e h3 := by
    intro e hn g2
    obtain ⟨h5, s5, hp⟩ := rd_err38 wf S3.ch S3.o2 hn
    simp only [q38_18, sx, reduceIte, Nat.reduceEqDiff, Nat.reduceAdd, b75, g2, s5, e38_rt]
    exact hp _ (by simp only [sx, reduceIte, Nat.reduceEqDiff, Nat.reduceAdd, g2]) (by simp only [sx, reduceIte, Nat.reduceEqDiff, Nat.reduceAdd])
  simp only [sx, reduceIte, Nat.reduceEqDiff, Nat.reduceAdd]
  refine byT_mk (fun g => ?_) (fun g => ?_)
  · have g : ansErr A ≠ 0 := by simpa using g
    exact bad _ (by rw [← hre, if_neg fun h => g h.1]) (by simp only [sx, reduceIte, Nat.reduceEqDiff, Nat.reduceAdd])
  · have g : ansErr A = 0 := by simpa using g
    rw [if_pos g] at hfv
    have hal : (ansFs A).length ≤ 1048580 := by
      have h1 := ok.r1
      have h2 : (headFs A.names).length ≤ 1 := by unfold headFs; split <;> simp
      simp only [ansFs, rowFs, List.length_append, List.length_map, List.length_singleton]
      omega
    have hfb : ∀ f ∈ ansFs A, f.2.length < 1000000000000000 := by
      intro f hf
      have h255 : A.names.length ≤ 255 ∧ rowsErr A.names.length A.rows = 0 := by
        unfold ansErr at g
        split at g
        · cases g
        · split at g
          · cases g
          · split at g
            · cases g
            · exact ⟨by omega, g⟩
      unfold ansFs at hf
      rcases List.mem_append.1 hf with hf | hf
      · rcases List.mem_append.1 hf with hf | hf
        · unfold headFs at hf
          split at hf
          · simp at hf
            subst hf
            have : ∀ (ns : List (List UInt8)), (∀ s ∈ ns, s.length ≤ 255) → (ns.flatMap nameB).length ≤ ns.length * 256 := by
              intro ns
              induction ns with
              | nil => intro _; simp
              | cons s r ih =>
                intro h
                have h1 := h s List.mem_cons_self
                have h2 := ih fun y hy => h y (List.mem_cons_of_mem _ hy)
                simp only [List.flatMap_cons, List.length_append, List.length_cons, nameB]
                omega
            have := this A.names hB.n2
            have := h255.1
            simp only [namesB, List.length_cons]
            omega
          · cases hf
        · obtain ⟨r, hr, rfl⟩ := List.mem_map.1 hf
          have := (row_right (rows_fine h255.2 r hr)).2.2
          show (rowBytes r).length < _
          omega
      · simp at hf
        subst hf
        show (4 : Nat) < _
        omega
    refine (sameFrames hfv ((S3.fr.mono frE_mono (rb_le _ _))) (by omega) hfb).mono ?_
    rintro _ h3 ⟨rfl, rfl⟩
    simp only [sx, reduceIte, Nat.reduceEqDiff, Nat.reduceAdd]
    refine byT_mk (fun g2' => ?_) (fun g2' => ?_)
    · have g2' : ansFs A ≠ l := by simpa using g2'
      exact bad _ (by rw [← hre, if_neg fun h => g2' h.2]) (by simp only [sx, reduceIte, Nat.reduceEqDiff, Nat.reduceAdd])
    · have g2' : ansFs A = l := by simpa using g2'
      rw [if_pos ⟨g, g2'⟩] at hre
      have la3 : loadV Try.prog 75 (.ptr (h.next + 1) 0) h3.read = some (.agg [nv, rv, .int .i64 A.count]) := (S3.o5.at S3.ch.wf).agg agg75 siz75 rfl (by decide)
      obtain ⟨h5, s5, o6, c5', n5⟩ := S3.o2.fill (P := Try.prog) (t := 75) (c := [nv, rv, .int .i64 A.count]) S3.ch.wf siz75 rfl (by show (scal nv && (scal rv && true)) = true; rw [S3.nm.isSl.scal, rows.isSl.scal]; rfl) rfl
      have l5 : loadV Try.prog 75 (.ptr h.next 0) h5.read = some (.agg [nv, rv, .int .i64 A.count]) := (o6.at c5'.wf).agg agg75 siz75 rfl (by decide)
      simp only [sx, reduceIte, Nat.reduceEqDiff, Nat.reduceAdd, q38_19, la3, s5, e38_rt]
      rw [res38 (t := .agg [nv, rv, .int .i64 A.count]) (by simp only [sx, reduceIte, Nat.reduceEqDiff, Nat.reduceAdd]; exact l5)]
      simp only [sx, reduceIte, Nat.reduceEqDiff, Nat.reduceAdd]
      have sub : ∀ g, g = h.next → Tk h g := fun g h => .inl h
      have le := (c5'.rb sub).trans (rb_le h5 (Tk h))
      refine ⟨[nv, rv, .int .i64 A.count], by rw [← hre], ?_, ?_⟩
      · rw [← hre]
        exact ⟨nv, rv, rfl, S3.nm.mono txE_mono le, (S3.rw_.sl S3.ch.wf fun g hg h => by have := S3.hF g hg; rcases h with h | h <;> omega).mono rowE_mono le⟩
      · exact (S3.ch.trans (c5'.mono (fun g h => tk_zr g (sub g h)) fun g h => tk_zr g (sub g h))).old wf (fun g h1 h2 => by have : h.next ≤ g := h1; omega) fun g h1 h2 => by have : h.next ≤ g := h1; omega
end Go.Proofs.Ytghmbmblhdgabaa
