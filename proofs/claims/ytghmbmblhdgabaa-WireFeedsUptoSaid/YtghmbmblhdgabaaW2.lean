/- What the wire's small functions come to: a number's bytes, a frame's bytes, lists held against one another. -/
import Derived.Test.YtghmbmblhdgabaaW1
import Derived.Test.YtghmbmblhdgabaaCodeW
import Derived.Test.YtghmbmblhdgabaaK15
import Derived.Test.YtghmbmblhdgabaaU6
set_option linter.all false
namespace Go.Proofs.Ytghmbmblhdgabaa
open Go Go.Den Code
set_option maxRecDepth 100000
theorem shr64 (P : Program) (t : Nat) (k : IntKind) (n s : Nat) (hs : s ≤ 64) : binV P .shr t (.int .i64 (n : Int)) (.int k (s : Int)) = some (.int .i64 ((n / 2 ^ s : Nat) : Int)) := by
  have h1 : min (s : Int).toNat (IntKind.bits .i64) = s := by simp [IntKind.bits]; omega
  simp only [binV, shiftOp]
  rw [if_neg (by omega), h1, Int.fdiv_eq_ediv_of_nonneg _ (by exact Int.le_of_lt (Int.pow_pos (by omega)))]
  simp
theorem build22_4 (a b c d : UInt8) : buildSliceV Try.prog 22 4 [(0, byteV a), (1, byteV b), (2, byteV c), (3, byteV d)] = some (.new [byteV a, byteV b, byteV c, byteV d] (.sl 4 (some 4) 1)) := by
  unfold byteV
  kernel_rfl
theorem low35 {rd : Rd} (x : Int) : convV Try.prog rd 3 5 (.int .i64 x) = some (.val (byteV (lowB x))) := by
  have h := conv_int (P := Try.prog) (rd := rd) Try.underlying3 Try.underlying5 .i64 x
  rwa [byteV_low] at h
theorem four {n : Nat} {h : H} {lo : Nat} : CW C 63 [.int .i64 (n : Int)] lo h fun v h' => v = .sl h.next 0 4 (some 4) 1 ∧ h' = h.alloc ((fourB n).map byteV) := by
  refine enter63 rfl ?_
  have s1 : binV Try.prog .shr 3 (.int .i64 (n : Int)) (.int .u64 24) = some (.int .i64 ((n / 16777216 : Nat) : Int)) := shr64 _ _ _ n 24 (by omega)
  have s2 : binV Try.prog .shr 3 (.int .i64 (n : Int)) (.int .u64 16) = some (.int .i64 ((n / 65536 : Nat) : Int)) := shr64 _ _ _ n 16 (by omega)
  have s3 : binV Try.prog .shr 3 (.int .i64 (n : Int)) (.int .u64 8) = some (.int .i64 ((n / 256 : Nat) : Int)) := shr64 _ _ _ n 8 (by omega)
  simp only [q63_0, sx, reduceIte, Nat.reduceEqDiff, Nat.reduceAdd, s1, s2, s3, low35, build22_4, e63_rt]
  exact ⟨trivial, rfl⟩
/-- a frame in memory -/
theorem put {k : UInt8} {w : V} {h : H} {bs : List UInt8} {lo : Nat} (wf : HWF h) (hlo : lo ≤ h.next) (hw : Bytes h.read w bs) (hl : bs.length ≤ 1000000000) :
    CW C 40 [.agg [byteV k, w]] lo h fun v h' => ∃ bv, v = .tup [bv, .int .i64 (putErr (k, bs))] ∧ (if putErr (k, bs) = 0 then NewBytes h h' bv (putB (k, bs)) else bv = .nils) ∧ Ch None_ None_ h h' := by
  refine CW.low hS hlo (enter40 rfl ?_)
  have c1 := ch_alloc wf [byteV k, w]
  have a1 := at_new wf [byteV k, w]
  have n1 : (h.alloc [byteV k, w]).next = h.next + 1 := rfl
  have l0 : ∀ {h' : H}, Le (h.alloc [byteV k, w]).read h'.read → loadV Try.prog 40 (.ptr h.next 0) h'.read = some (byteV k) := fun l => (a1.mono l).cell0 c40 rfl
  have l1 : ∀ {h' : H}, Le (h.alloc [byteV k, w]).read h'.read → loadV Try.prog 22 (.ptr h.next (0 + 1)) h'.read = some w := fun l => (a1.mono l).cell c22 rfl
  have w1 : Bytes (h.alloc [byteV k, w]).read w bs := hw.mono (Ch.le c1)
  have hr := Le.refl (h.alloc [byteV k, w]).read
  simp only [q40_0, q40_1, sx, reduceIte, Nat.reduceEqDiff, Nat.reduceAdd, fa42_0, l0 hr]
  refine kind.mono ?_
  rintro _ h' ⟨rfl, rfl⟩
  simp only [sx, reduceIte, Nat.reduceEqDiff, Nat.reduceAdd]
  have ek : kindOk k = decide (1 ≤ k.toNat ∧ k.toNat ≤ 9) := rfl
  refine byT_mk (fun g => ?_) (fun g => ?_)
  · have e : putErr (k, bs) = 2 := by
      unfold putErr
      rw [if_pos]
      show kindOk k = false
      rw [ek]
      cases hd : decide (1 ≤ k.toNat ∧ k.toNat ≤ 9) with
      | true => rw [hd] at g; cases g
      | false => rfl
    simp only [q40_2, sx, reduceIte, Nat.reduceEqDiff, Nat.reduceAdd, e40_rt, e]
    exact ⟨.nils, rfl, rfl, c1⟩
  · have hk : kindOk k = true := by
      rw [ek]
      cases hd : decide (1 ≤ k.toNat ∧ k.toNat ≤ 9) with
      | true => rfl
      | false => rw [hd] at g; cases g
    simp only [q40_3, sx, reduceIte, Nat.reduceEqDiff, Nat.reduceAdd, fa42_1, l1 hr, w1.len t22]
    refine byT_dec (fun g => ?_) (fun g => ?_)
    · have e : putErr (k, bs) = 3 := by unfold putErr; rw [if_neg (by simp [hk]), if_pos (by show 8192 ≤ bs.length; omega)]
      simp only [q40_4, sx, reduceIte, Nat.reduceEqDiff, Nat.reduceAdd, e40_rt, e]
      exact ⟨.nils, rfl, rfl, c1⟩
    · have e : putErr (k, bs) = 0 := by unfold putErr; rw [if_neg (by simp [hk]), if_neg (by show ¬ 8192 ≤ bs.length; omega)]
      have e1 := add64 (a := bs.length) (b := 1) (by omega)
      simp only [Int.cast_ofNat_Int] at e1
      simp only [q40_5, sx, reduceIte, Nat.reduceEqDiff, Nat.reduceAdd, fa42_1, l1 hr, w1.len t22, e1]
      refine four.mono ?_
      rintro _ _ ⟨rfl, rfl⟩
      have c2 := ch_alloc c1.wf ((fourB (bs.length + 1)).map byteV)
      have b2 : BufB ((h.alloc [byteV k, w]).alloc ((fourB (bs.length + 1)).map byteV)) h.next (.sl (h.alloc [byteV k, w]).next 0 4 (some 4) 1) (fourB (bs.length + 1)) (some (h.alloc [byteV k, w]).next) := Buf.new (by omega) rfl
      generalize hh2 : (h.alloc [byteV k, w]).alloc ((fourB (bs.length + 1)).map byteV) = h2 at c2 b2
      have c12 := c1.trans c2
      obtain ⟨v3, h3, F3, x1, x2, x3⟩ := append_byte a22 c2.wf c12.next b2 k (by simp [fourB])
      have le2 := Ch.le c2
      have cA := ch_alloc c2.wf [byteV k]
      have bA := Buf.ch b2 cA fun _ _ h => h
      have le3 := le2.trans (Ch.le x3.ch)
      obtain ⟨v4, h4, F4, y1, y2, y3⟩ := append_bytes a22 x3.ch.wf (Nat.le_trans c12.next x3.ch.next) x2 (w1.mono le3).elems (by simp [fourB]; omega)
      simp only [sx, reduceIte, Nat.reduceEqDiff, Nat.reduceAdd, fa42_0, hh2, l0 le2, buildSlice_one b22 (v := byteV k) rfl]
      refine endX_buf cA.wf bA ?_
      simp only [x1, sx, reduceIte, Nat.reduceEqDiff, Nat.reduceAdd, fa42_1, l1 le3, y1, e40_rt, e]
      refine ⟨v4, rfl, ⟨F4, ?_, fun g hg => ?_⟩, ?_⟩
      · have e2 : putB (k, bs) = fourB (bs.length + 1) ++ [k] ++ bs := by unfold putB; simp
        rw [e2]
        exact y2
      · rcases (x3.trans y3).F g hg with h | h
        · cases h; omega
        · have := c12.next; omega
      · refine ((c12.mono (fun _ h => h) (None_sub _)).trans (x3.trans y3).ch).old wf (fun _ h _ => h) fun g hg hlt => ?_
        rcases hg with h | h
        · cases h; omega
        · have := c12.next; omega
/-! ### lists of texts, of rows -/
def txE (_ : Rd) (c : List V) (x : List UInt8) : Prop := c = [.str x]
theorem txE_mono : Mono txE := fun _ _ _ _ _ h => h
abbrev Texts (rd : Rd) (v : V) (xs : List (List UInt8)) : Prop := SlOf txE 1 rd v xs
theorem sl72 : SlT Try.prog 72 9 1 := ⟨Try.underlying72, by kernel_rfl⟩
def rowE (rd : Rd) (c : List V) (r : List Vl) : Prop := ∃ w, c = [w] ∧ Vals rd w r
theorem rowE_mono : Mono rowE := fun _ _ _ _ hl ⟨w, h1, h2⟩ => ⟨w, h1, h2.mono vlE_mono hl⟩
abbrev RowsOf (rd : Rd) (v : V) (xs : List (List Vl)) : Prop := SlOf rowE 1 rd v xs
theorem sl73 : SlT Try.prog 73 48 1 := ⟨Try.underlying73, by kernel_rfl⟩
theorem c48 : Sc Try.prog 48 := ⟨by kernel_rfl, by kernel_rfl⟩
theorem c72 : Sc Try.prog 72 := ⟨by kernel_rfl, by kernel_rfl⟩
theorem c73 : Sc Try.prog 73 := ⟨by kernel_rfl, by kernel_rfl⟩
theorem Texts.at {rd : Rd} {v : V} {xs : List (List UInt8)} (hs : Texts rd v xs) {i : Nat} {x : List UInt8} (hi : xs[i]? = some x) : ∃ b o, addrV Try.prog 72 v (.int .i64 (i : Int)) = some (.ptr b o) ∧ loadV Try.prog 9 (.ptr b o) rd = some (.str x) := by
  obtain ⟨b, o, c, h1, h2, h3, rfl⟩ := SlOf.at sl72 hs hi .i64
  exact ⟨b, o, h1, h2.cell0 c9 rfl⟩
theorem RowsOf.at {rd : Rd} {v : V} {xs : List (List Vl)} (hs : RowsOf rd v xs) {i : Nat} {x : List Vl} (hi : xs[i]? = some x) : ∃ b o w, addrV Try.prog 73 v (.int .i64 (i : Int)) = some (.ptr b o) ∧ loadV Try.prog 48 (.ptr b o) rd = some w ∧ Vals rd w x := by
  obtain ⟨b, o, c, h1, h2, h3, w, rfl, h4⟩ := SlOf.at sl73 hs hi .i64
  exact ⟨b, o, w, h1, h2.cell0 c48 rfl, h4⟩
theorem sameTexts {a b : V} {h : H} {xs ys : List (List UInt8)} {lo : Nat} (ha : Texts h.read a xs) (hb : Texts h.read b ys) (hx : xs.length < 1000000000000000) : CW C 69 [a, b] lo h fun v h' => v = .bool (decide (xs = ys)) ∧ h' = h := by
  refine enter69 rfl ?_
  simp only [q69_0, sx, reduceIte, Nat.reduceEqDiff, Nat.reduceAdd, ha.len sl72, hb.len sl72]
  refine byT_mk (fun hl => ?_) (fun hl => ?_)
  · simp only [q69_1, sx, reduceIte, Nat.reduceEqDiff, Nat.reduceAdd, e69_rt]
    have : xs ≠ ys := fun e => by subst e; simp at hl
    simp [this]
  · have hlen : xs.length = ys.length := by simp at hl; omega
    simp only [q69_2, q69_3, sx, reduceIte, Nat.reduceEqDiff, Nat.reduceAdd]
    refine rounds (fun m e' h' => h' = h ∧ ∃ i : Nat, e' = [(0, a), (1, b), (5, .int .i64 (i : Int))] ∧ i ≤ xs.length ∧ m = xs.length - i ∧ xs.take i = ys.take i) ?_ xs.length ⟨rfl, 0, by simp only [sx, reduceIte, Nat.reduceEqDiff, Nat.reduceAdd]; rfl, Nat.zero_le _, rfl, by simp⟩
    rintro m e' h' ⟨rfl, i, rfl, hi, hm, heq⟩
    simp only [q69_4, sx, reduceIte, Nat.reduceEqDiff, Nat.reduceAdd, ha.len sl72]
    refine byT_dec (fun hlt => ?_) (fun hge => ?_)
    · have hlt : i < xs.length := by omega
      obtain ⟨b1, o1, p1, p2⟩ := ha.at (List.getElem?_eq_getElem hlt)
      obtain ⟨b2, o2, r1, r2⟩ := hb.at (i := i) (List.getElem?_eq_getElem (by omega))
      have ne : ∀ x y : List UInt8, binV Try.prog .neq 9 (.str x) (.str y) = some (.bool (!decide (x = y))) := fun _ _ => rfl
      simp only [q69_5, q69_6, sx, reduceIte, Nat.reduceEqDiff, Nat.reduceAdd, p1, p2, r1, r2, ne]
      refine byT_mk (fun hne => ?_) (fun he => ?_)
      · simp only [q69_7, sx, reduceIte, Nat.reduceEqDiff, Nat.reduceAdd, e69_rt]
        have hne : xs[i] ≠ ys[i] := by simpa using hne
        have : xs ≠ ys := fun e => by subst e; exact hne rfl
        simp [this]
      · have he : xs[i] = ys[i] := by simpa using he
        simp only [q69_8, sx, reduceIte, Nat.reduceEqDiff, Nat.reduceAdd]
        refine ⟨xs.length - (i + 1), by omega, trivial, i + 1, ?_, by omega, rfl, ?_⟩
        · rw [wrap64 (by omega) (by omega)]; rfl
        · rw [List.take_add_one, List.take_add_one, heq, List.getElem?_eq_getElem hlt, List.getElem?_eq_getElem (by omega : i < ys.length), he]
    · have hge : xs.length ≤ i := by omega
      simp only [q69_9, sx, reduceIte, Nat.reduceEqDiff, Nat.reduceAdd, e69_rt]
      have : xs = ys := by
        have h2 := heq
        rwa [List.take_of_length_le hge, List.take_of_length_le (by omega)] at h2
      simp [this]
theorem sameRows {a b : V} {h : H} {xs ys : List (List Vl)} {lo : Nat} (ha : RowsOf h.read a xs) (hb : RowsOf h.read b ys) (hx : xs.length < 1000000000000000) (hx2 : ∀ r ∈ xs, r.length < 1000000000000000) :
    CW C 70 [a, b] lo h fun v h' => v = .bool (decide (xs = ys)) ∧ h' = h := by
  refine enter70 rfl ?_
  simp only [q70_0, sx, reduceIte, Nat.reduceEqDiff, Nat.reduceAdd, ha.len sl73, hb.len sl73]
  refine byT_mk (fun hl => ?_) (fun hl => ?_)
  · simp only [q70_1, sx, reduceIte, Nat.reduceEqDiff, Nat.reduceAdd, e70_rt]
    have : xs ≠ ys := fun e => by subst e; simp at hl
    simp [this]
  · have hlen : xs.length = ys.length := by simp at hl; omega
    simp only [q70_2, q70_3, sx, reduceIte, Nat.reduceEqDiff, Nat.reduceAdd]
    refine rounds (fun m e' h' => h' = h ∧ ∃ i : Nat, e' = [(0, a), (1, b), (5, .int .i64 (i : Int))] ∧ i ≤ xs.length ∧ m = xs.length - i ∧ xs.take i = ys.take i) ?_ xs.length ⟨rfl, 0, by simp only [sx, reduceIte, Nat.reduceEqDiff, Nat.reduceAdd]; rfl, Nat.zero_le _, rfl, by simp⟩
    rintro m e' h' ⟨rfl, i, rfl, hi, hm, heq⟩
    simp only [q70_4, sx, reduceIte, Nat.reduceEqDiff, Nat.reduceAdd, ha.len sl73]
    refine byT_dec (fun hlt => ?_) (fun hge => ?_)
    · have hlt : i < xs.length := by omega
      obtain ⟨b1, o1, w1, p1, p2, p3⟩ := ha.at (List.getElem?_eq_getElem hlt)
      obtain ⟨b2, o2, w2, r1, r2, r3⟩ := hb.at (i := i) (List.getElem?_eq_getElem (by omega))
      simp only [q70_5, q70_6, sx, reduceIte, Nat.reduceEqDiff, Nat.reduceAdd, p1, p2, r1, r2]
      refine (sameRow p3 r3 (hx2 _ (List.getElem_mem hlt))).mono ?_
      rintro _ h' ⟨rfl, rfl⟩
      simp only [sx, reduceIte, Nat.reduceEqDiff, Nat.reduceAdd]
      refine byT_mk (fun hne => ?_) (fun he => ?_)
      · simp only [q70_7, sx, reduceIte, Nat.reduceEqDiff, Nat.reduceAdd, e70_rt]
        have hne : xs[i] ≠ ys[i] := by simpa using hne
        have : xs ≠ ys := fun e => by subst e; exact hne rfl
        simp [this]
      · have he : xs[i] = ys[i] := by simpa using he
        simp only [q70_8, sx, reduceIte, Nat.reduceEqDiff, Nat.reduceAdd]
        refine ⟨xs.length - (i + 1), by omega, trivial, i + 1, ?_, by omega, rfl, ?_⟩
        · rw [wrap64 (by omega) (by omega)]; rfl
        · rw [List.take_add_one, List.take_add_one, heq, List.getElem?_eq_getElem hlt, List.getElem?_eq_getElem (by omega : i < ys.length), he]
    · have hge : xs.length ≤ i := by omega
      simp only [q70_9, sx, reduceIte, Nat.reduceEqDiff, Nat.reduceAdd, e70_rt]
      have : xs = ys := by
        have h2 := heq
        rwa [List.take_of_length_le hge, List.take_of_length_le (by omega)] at h2
      simp [this]
/-! ### answers -/
def AnC (rd : Rd) (c : List V) (a : An) : Prop := ∃ nv rv, c = [nv, rv, .int .i64 a.count] ∧ Texts rd nv a.names ∧ RowsOf rd rv a.rows
theorem AnC.mono {r r' : Rd} {c : List V} {a : An} (hl : Le r r') (h : AnC r c a) : AnC r' c a := by
  obtain ⟨nv, rv, h1, h2, h3⟩ := h
  exact ⟨nv, rv, h1, h2.mono txE_mono hl, h3.mono rowE_mono hl⟩
theorem fa75_0 (b o : Nat) : fieldAddrV Try.prog 75 (.ptr b o) 0 = some (.ptr b o) := by kernel_rfl
theorem fa75_1 (b o : Nat) : fieldAddrV Try.prog 75 (.ptr b o) 1 = some (.ptr b (o + 1)) := by kernel_rfl
theorem fa75_2 (b o : Nat) : fieldAddrV Try.prog 75 (.ptr b o) 2 = some (.ptr b (o + 2)) := by kernel_rfl
theorem sameAnswer {ca cb : List V} {h : H} {a b : An} {lo : Nat} (wf : HWF h) (ha : AnC h.read ca a) (hb : AnC h.read cb b) (hx : a.names.length < 1000000000000000) (hx2 : a.rows.length < 1000000000000000) (hx3 : ∀ r ∈ a.rows, r.length < 1000000000000000) :
    CW C 39 [.agg ca, .agg cb] lo h fun v h' => v = .bool (decide (a = b)) ∧ Ch None_ None_ h h' := by
  obtain ⟨nv, rv, rfl, a1, a2⟩ := ha
  obtain ⟨nv', rv', rfl, b1, b2⟩ := hb
  obtain ⟨ns, rs, n⟩ := a
  obtain ⟨ns', rs', n'⟩ := b
  simp only at a1 a2 b1 b2 hx hx2 hx3
  refine enter39 rfl ?_
  have c1 := ch_alloc wf [nv, rv, .int .i64 n]
  have p1 := at_new wf [nv, rv, .int .i64 n]
  have c2' := ch_alloc c1.wf [nv', rv', .int .i64 n']
  have p2 := at_new c1.wf [nv', rv', .int .i64 n']
  have q1 := p1.mono (Ch.le c2')
  have le := (Ch.le c1).trans (Ch.le c2')
  have n1 : (h.alloc [nv, rv, .int .i64 n]).next = h.next + 1 := rfl
  have cc := c1.trans c2'
  have eAn : (V.agg [nv, rv, .int .i64 n]).cells = [nv, rv, .int .i64 n] := rfl
  have eAn' : (V.agg [nv', rv', .int .i64 n']).cells = [nv', rv', .int .i64 n'] := rfl
  generalize hh : (h.alloc [nv, rv, .int .i64 n]).alloc [nv', rv', .int .i64 n'] = h2 at *
  rw [n1] at p2
  have l0 : loadV Try.prog 72 (.ptr h.next 0) h2.read = some nv := q1.cell0 c72 rfl
  have l1 : loadV Try.prog 73 (.ptr h.next (0 + 1)) h2.read = some rv := q1.cell c73 rfl
  have l2 : loadV Try.prog 3 (.ptr h.next (0 + 2)) h2.read = some (.int .i64 n) := q1.cell c3 rfl
  have m0 : loadV Try.prog 72 (.ptr (h.next + 1) 0) h2.read = some nv' := p2.cell0 c72 rfl
  have m1 : loadV Try.prog 73 (.ptr (h.next + 1) (0 + 1)) h2.read = some rv' := p2.cell c73 rfl
  have m2 : loadV Try.prog 3 (.ptr (h.next + 1) (0 + 2)) h2.read = some (.int .i64 n') := p2.cell c3 rfl
  simp only [q39_0, sx, reduceIte, Nat.reduceEqDiff, Nat.reduceAdd, eAn, eAn', hh, n1, fa75_0, l0, m0]
  refine (sameTexts (a1.mono txE_mono le) (b1.mono txE_mono le) hx).mono ?_
  rintro _ _ ⟨rfl, rfl⟩
  simp only [sx, reduceIte, Nat.reduceEqDiff, Nat.reduceAdd]
  refine byT_dec (fun g1 => ?_) (fun g1 => ?_)
  · simp only [fa75_1, sx, reduceIte, Nat.reduceEqDiff, Nat.reduceAdd, l1, m1]
    refine (sameRows (a2.mono rowE_mono le) (b2.mono rowE_mono le) hx2 hx3).mono ?_
    rintro _ _ ⟨rfl, rfl⟩
    simp only [sx, reduceIte, Nat.reduceEqDiff, Nat.reduceAdd]
    refine byT_dec (fun g2 => ?_) (fun g2 => ?_)
    · simp only [fa75_2, sx, reduceIte, Nat.reduceEqDiff, Nat.reduceAdd, l2, m2, e39_rt]
      refine ⟨?_, cc⟩
      congr 1
      rw [Bool.eq_iff_iff]
      simp [g1, g2]
    · simp only [sx, reduceIte, Nat.reduceEqDiff, Nat.reduceAdd, e39_rt]
      refine ⟨?_, cc⟩
      simp [g2]
  · simp only [sx, reduceIte, Nat.reduceEqDiff, Nat.reduceAdd, e39_rt]
    refine ⟨?_, cc⟩
    simp [g1]
end Go.Proofs.Ytghmbmblhdgabaa
