/- The reference's names, and its frames of an answer: the walk. -/
import Derived.Test.YtghmbmblhdgabaaZ4
set_option linter.all false
namespace Go.Proofs.Ytghmbmblhdgabaa
open Go Go.Den Code
set_option maxRecDepth 100000
def refNames (l : List UInt8) : List (List UInt8) := match l with
  | [] => []
  | n :: r => if r.length < n.toNat then [] else r.take n.toNat :: refNames (r.drop n.toNat)
termination_by l.length
decreasing_by simp; omega
theorem refNames_nil : refNames [] = [] := by rw [refNames]
theorem refNames_cons (n : UInt8) (r : List UInt8) : refNames (n :: r) = if r.length < n.toNat then [] else r.take n.toNat :: refNames (r.drop n.toNat) := by rw [refNames]
theorem refNames_enc : ∀ {ns : List (List UInt8)}, (∀ s ∈ ns, s.length ≤ 24) → refNames (ns.flatMap nameB) = ns
  | [], _ => refNames_nil
  | s :: ns, h => by
    have h1 := h s List.mem_cons_self
    have ih := refNames_enc (ns := ns) fun t ht => h t (List.mem_cons_of_mem _ ht)
    have e : (lowB (s.length : Int)).toNat = s.length := by rw [low_n]; omega
    rw [List.flatMap_cons]
    show refNames (lowB (s.length : Int) :: (s ++ ns.flatMap nameB)) = _
    rw [refNames_cons, e, if_neg (by simp), List.take_left' rfl, List.drop_left' rfl, ih]
theorem refNames_ok : ∀ (n : Nat) (l : List UInt8), l.length = n → (refNames l).length ≤ l.length ∧ ∀ s ∈ refNames l, s.length ≤ 255 := by
  intro n
  induction n using Nat.strongRecOn with
  | _ n ih =>
    intro l hl
    match l, hl with
    | [], _ => rw [refNames_nil]; simp
    | k :: r, hl =>
      rw [refNames_cons]
      split
      · simp
      · obtain ⟨i1, i2⟩ := ih (r.drop k.toNat).length (by simp at hl ⊢; omega) _ rfl
        have hk := k.toNat_lt
        refine ⟨by simp at i1 ⊢; omega, fun s hs => ?_⟩
        rcases List.mem_cons.1 hs with rfl | hs
        · simp; omega
        · exact i2 s hs
theorem names67 {bv : V} {h : H} {b : List UInt8} {lo : Nat} (wf : HWF h) (hlo : lo ≤ h.next) (hb : Bytes h.read bv b) (hl : b.length ≤ 1048576) : CW C 67 [bv] lo h fun v h' => NewTexts h h' v (refNames (b.drop 1)) ∧ Ch None_ None_ h h' := by
  refine CW.low hS hlo (enter67 rfl ?_)
  have fin : ∀ {h' : H} {v : V} {xs : List (List UInt8)} {F : Option Nat}, BufOf txE 1 h.next h' (fun _ => none) v xs F → (∀ g, F = some g → h.next ≤ g) → Ch None_ (fun g => h.next ≤ g) h h' → xs = refNames (b.drop 1) → NewTexts h h' v (refNames (b.drop 1)) ∧ Ch None_ None_ h h' := by
    intro h' v xs F ho hF ch he
    subst he
    exact ⟨⟨F, ho, hF⟩, ch.old wf (fun _ h _ => h) fun g h1 h2 => by have : h.next ≤ g := h1; omega⟩
  simp only [q67_0, sx, reduceIte, Nat.reduceEqDiff, Nat.reduceAdd, q67_1]
  refine rounds (fun m e' h' => ∃ (i : Nat) (v : V) (xs : List (List UInt8)) (F : Option Nat), e' = [(0, bv), (3, v), (4, .int .i64 (i : Int))] ∧ 1 ≤ i ∧ m = b.length + 1 - i ∧ xs.length ≤ i ∧ (i ≤ b.length ∨ i = 1) ∧ BufOf txE 1 h.next h' (fun _ => none) v xs F ∧ (∀ g, F = some g → h.next ≤ g) ∧
      Ch None_ (fun g => h.next ≤ g) h h' ∧ refNames (b.drop 1) = xs ++ refNames (b.drop i)) ?_ b.length
    ⟨1, .nils, [], none, by simp only [sx, reduceIte, Nat.reduceEqDiff, Nat.reduceAdd]; rfl, Nat.le_refl _, by omega, Nat.zero_le _, .inr rfl, BufOf.nil, (fun _ h => by cases h), Ch.refl _ _ wf, rfl⟩
  rintro m e' h' ⟨i, v, xs, F, rfl, hi, rfl, hxl, hib, ho, hF, ch, hr⟩
  have hb1 := hb.mono (Ch.le ch)
  simp only [q67_2, sx, reduceIte, Nat.reduceEqDiff, Nat.reduceAdd, hb1.len t22]
  refine byT_dec (fun hlt => ?_) (fun hge => ?_)
  · have hlt : i < b.length := by omega
    obtain ⟨p, p1, p2⟩ := hb1.at t22 c5 hlt (k := .i64)
    have hx := b[i].toNat_lt
    have hd : b.drop i = b[i] :: b.drop (i + 1) := List.drop_eq_getElem_cons hlt
    rw [hd, refNames_cons, List.length_drop] at hr
    have e1 := add64 (a := i) (b := 1) (by omega)
    simp only [Int.cast_ofNat_Int] at e1
    have e2 := add64 (a := i + 1) (b := b[i].toNat) (by omega)
    simp only [q67_3, q67_4, sx, reduceIte, Nat.reduceEqDiff, Nat.reduceAdd, p1, p2, conv_byte Try.underlying3, e1, e2, hb1.len t22]
    refine byT_dec (fun g => ?_) (fun g => ?_)
    · rw [if_pos (by omega), List.append_nil] at hr
      simp only [q67_5, sx, reduceIte, Nat.reduceEqDiff, Nat.reduceAdd, e67_rt]
      exact fin ho hF ch hr.symm
    · rw [if_neg (by omega), List.drop_drop] at hr
      obtain ⟨w, w1, w2⟩ := hb1.slice (rd' := h'.read) t22 (lo := i + 1) (hi := i + 1 + b[i].toNat) (k := .i64) (k' := .i64) (by omega) (by omega)
      rw [show i + 1 + b[i].toNat - (i + 1) = b[i].toNat by omega] at w2
      have cA := ch_alloc ch.wf [V.str ((b.drop (i + 1)).take b[i].toNat)]
      have bA := BufOf.own ho cA fun _ _ h => h
      obtain ⟨v', h2, F', x1, x2, x3, x4⟩ := append_one (Er := txE) (y := (b.drop (i + 1)).take b[i].toNat) a72 cA.wf (Nat.le_trans ch.next cA.next) bA (elems_new (c := some 1) ch.wf (n := 1) (es := 1) rfl) rfl rfl rfl (by omega) (by omega)
      have g2 := (Gr.of (F := F) cA).trans (Gr.app x3 x4)
      simp only [q67_6, sx, reduceIte, Nat.reduceEqDiff, Nat.reduceAdd, e1, e2, w1, conv_str w2, bld72, x1, q67_7]
      refine ⟨b.length + 1 - (i + 1 + b[i].toNat), by omega, i + 1 + b[i].toNat, v', xs ++ [(b.drop (i + 1)).take b[i].toNat], F', rfl, by omega, rfl, by simp; omega, .inl (by omega), x2, fun g hg => ?_, ch.trans (g2.ch.mono (fun _ h => h) fun g hg => ?_), ?_⟩
      · rcases g2.F g hg with h | h
        · exact hF g h
        · exact Nat.le_trans ch.next h
      · rcases hg with h | h
        · exact hF g h
        · exact Nat.le_trans ch.next h
      · rw [hr]
        simp
  · have : b.drop i = [] := List.drop_of_length_le (by omega)
    rw [this, refNames_nil, List.append_nil] at hr
    simp only [sx, reduceIte, Nat.reduceEqDiff, Nat.reduceAdd, q67_8, e67_rt]
    exact fin ho hF ch hr.symm
/-! ### an answer's frames -/
section
variable {nv rv : V} {a : An} {h0 h : H}
theorem ans36_rows (wf : HWF h0) (S : AS nv rv a h0 h) (ok : AnOk a) (hc : 0 ≤ a.count ∧ a.count ≤ 2147483647) (he : ansErr a = rowsErr a.names.length a.rows) {v : V} {F : Option Nat} (hb : BufOf frE 2 h0.next h h.read v (headFs a.names) F) (hF : ∀ g, F = some g → h0.next ≤ g) {e : E}
    (g1 : E.get e 1 = .ptr h0.next 0) (g6 : E.get e 6 = v) : XW C h0.next x36_15 (kF36 (AnsPost h0 a)) e h := by
  have hl1 := ok.r1
  have hn1 := ok.n1
  simp only [q36_15, sx, reduceIte, Nat.reduceEqDiff, Nat.reduceAdd, g1, g6, q36_16]
  refine rounds (fun m e' h' => ∃ (i : Nat) (v : V) (F : Option Nat), e' = [(1, .ptr h0.next 0), (6, v), (7, .int .i64 (i : Int))] ∧ i ≤ a.rows.length ∧ m = a.rows.length - i ∧ AS nv rv a h0 h' ∧
      BufOf frE 2 h0.next h' h'.read v (headFs a.names ++ rowFs (a.rows.take i)) F ∧ (∀ g, F = some g → h0.next ≤ g) ∧ ansErr a = rowsErr a.names.length (a.rows.drop i)) ?_ a.rows.length
    ⟨0, v, F, by simp only [sx, reduceIte, Nat.reduceEqDiff, Nat.reduceAdd]; rfl, Nat.zero_le _, rfl, S, by simpa [rowFs] using hb, hF, by simpa using he⟩
  rintro m e' h' ⟨i, v, F, rfl, hi, rfl, S, hb, hF, he⟩
  have hhead : (headFs a.names ++ rowFs (a.rows.take i)).length ≤ 1048578 := by
    have : (headFs a.names).length ≤ 1 := by unfold headFs; split <;> simp
    simp only [rowFs, List.length_append, List.length_map, List.length_take]
    omega
  simp only [q36_17, sx, reduceIte, Nat.reduceEqDiff, Nat.reduceAdd, fa75_1, S.l1, S.rw_.len sl73]
  refine byT_dec (fun hlt => ?_) (fun hge => ?_)
  · have hlt : i < a.rows.length := by omega
    obtain ⟨b1, o1, w1, p1, p2, p3⟩ := S.rw_.at (List.getElem?_eq_getElem hlt)
    have hm := List.getElem_mem hlt
    have hd : a.rows.drop i = a.rows[i] :: a.rows.drop (i + 1) := List.drop_eq_getElem_cons hlt
    have hr2 := ok.r2 _ hm
    rw [hd] at he
    unfold rowsErr at he
    simp only [q36_18, q36_19, sx, reduceIte, Nat.reduceEqDiff, Nat.reduceAdd, fa75_1, S.l1, p1, p2, p3.len s48, fa75_0, S.l0, S.nm.len sl72]
    refine byT_mk (fun g => ?_) (fun g => ?_)
    · rw [if_pos (by simp at g; omega)] at he
      simp only [q36_20, sx, reduceIte, Nat.reduceEqDiff, Nat.reduceAdd, e36_rt]
      exact S.fail wf he (by decide)
    · have hnl : a.rows[i].length = a.names.length := by simp at g; omega
      rw [if_neg (by simp [hnl])] at he
      simp only [q36_21, sx, reduceIte, Nat.reduceEqDiff, Nat.reduceAdd, fa75_1, S.l1, p1, p2]
      refine (row64 S.ch.wf S.ch.next p3 (ok.r3 _ hm) (by omega)).mono ?_
      rintro _ h2 ⟨bv, rfl, hbv, c2⟩
      have S2 := S.step c2 (None_sub _)
      simp only [sx, reduceIte, Nat.reduceEqDiff, Nat.reduceAdd]
      refine byT_mk (fun g => ?_) (fun g => ?_)
      · have g : rowErr a.rows[i] ≠ 0 := by simpa using g
        rw [if_pos g] at he
        simp only [q36_22, sx, reduceIte, Nat.reduceEqDiff, Nat.reduceAdd, e36_rt]
        exact S2.fail wf he g
      · have g : rowErr a.rows[i] = 0 := by simpa using g
        rw [if_neg (by simp [g])] at he
        rw [if_pos g] at hbv
        have hbv := hbv.rd c2.wf
        obtain ⟨v3, h3, F3, x1, x2, x3⟩ := out_add (k := 6) c2.wf S2.ch.next (hb.ch frE_mono c2 (Ch.le c2) fun _ _ h => h) hbv (by omega)
        obtain ⟨S3, hF3⟩ := S2.gr x3 hF
        have e5 := add64 (a := i) (b := 1) (by omega)
        simp only [Int.cast_ofNat_Int] at e5
        simp only [q36_23, sx, reduceIte, Nat.reduceEqDiff, Nat.reduceAdd, build42_6 hbv.isSl, buildSlice_one b26 (v := .agg [byteV 6, bv]) rfl, x1, q36_24, e5]
        refine ⟨a.rows.length - (i + 1), by omega, i + 1, v3, F3, rfl, by omega, rfl, S3, ?_, hF3, he⟩
        have e6 : headFs a.names ++ rowFs (a.rows.take (i + 1)) = headFs a.names ++ rowFs (a.rows.take i) ++ [(6, rowBytes a.rows[i])] := by
          rw [List.take_add_one, List.getElem?_eq_getElem hlt]
          show headFs a.names ++ List.map _ (_ ++ [a.rows[i]]) = _
          rw [List.map_append, ← List.append_assoc]
          rfl
        rw [e6]
        exact x2
  · have hil : i = a.rows.length := by omega
    subst hil
    rw [List.drop_length] at he
    have he : ansErr a = 0 := he
    rw [List.take_length] at hb
    have hcn : a.count = ((a.count.toNat : Nat) : Int) := by omega
    have l2 := S.l2
    rw [hcn] at l2
    simp only [sx, reduceIte, Nat.reduceEqDiff, Nat.reduceAdd, q36_25, fa75_2, l2]
    refine (four65 (by omega)).mono ?_
    rintro _ _ ⟨rfl, rfl⟩
    have cA := ch_alloc S.ch.wf ((fourB a.count.toNat).map byteV)
    have SA := S.step cA (None_sub _)
    have bA : Bytes (h'.alloc ((fourB a.count.toNat).map byteV)).read (.sl h'.next 0 4 (some 4) 1) (fourB a.count.toNat) := (at_bytes S.ch.wf (fourB a.count.toNat) (some 4))
    obtain ⟨v3, h3, F3, x1, x2, x3⟩ := out_add (k := 7) cA.wf SA.ch.next (hb.ch frE_mono cA (Ch.le cA) fun _ _ h => h) bA (by rw [List.take_length] at hhead; omega)
    obtain ⟨S3, hF3⟩ := SA.gr x3 hF
    simp only [sx, reduceIte, Nat.reduceEqDiff, Nat.reduceAdd, build42_7 bA.isSl, buildSlice_one b26 (v := .agg [byteV 7, .sl h'.next 0 4 (some 4) 1]) rfl, x1, e36_rt]
    refine ⟨v3, by rw [he], ?_, S3.old wf⟩
    rw [if_pos he]
    have e7 : ansFs a = headFs a.names ++ rowFs a.rows ++ [(7, fourB a.count.toNat)] := rfl
    rw [e7]
    have x2' := BufOf.sl (X := None_) S3.ch.wf (x2.imp fun c x he => frE_mono _ _ c x (rb_none h3) he) fun _ _ h => h
    exact x2'.mono frE_mono (rb_le _ _)
theorem ans36_names (wf : HWF h0) (S : AS nv rv a h0 h) (ok : AnOk a) (hc : 0 ≤ a.count ∧ a.count ≤ 2147483647) (h255 : a.names.length ≤ 255) (he : ansErr a = if a.names.any (fun s => decide (24 < s.length)) = true then 3 else rowsErr a.names.length a.rows) {e : E}
    (g1 : E.get e 1 = .ptr h0.next 0) : XW C h0.next x36_5 (kF36 (AnsPost h0 a)) e h := by
  have c2 := ch_alloc S.ch.wf [byteV (lowB (a.names.length : Int))]
  have S2 := S.step c2 (None_sub _)
  have b0 : BufB (h.alloc [byteV (lowB (a.names.length : Int))]) h0.next (.sl h.next 0 1 (some 1) 1) [lowB (a.names.length : Int)] (some h.next) := Buf.new S.ch.next rfl
  simp only [q36_5, sx, reduceIte, Nat.reduceEqDiff, Nat.reduceAdd, g1, fa75_0, S.l0, S.nm.len sl72, low35, buildSlice_one b22 (v := byteV (lowB (a.names.length : Int))) rfl, q36_6]
  refine rounds (fun m e' h' => ∃ (i : Nat) (v : V) (F : Option Nat), e' = [(1, .ptr h0.next 0), (4, v), (5, .int .i64 (i : Int))] ∧ i ≤ a.names.length ∧ m = a.names.length - i ∧ AS nv rv a h0 h' ∧
      BufB h' h0.next v (lowB (a.names.length : Int) :: (a.names.take i).flatMap nameB) F ∧ (∀ g, F = some g → h0.next ≤ g) ∧ ∀ s ∈ a.names.take i, s.length ≤ 24) ?_ a.names.length
    ⟨0, _, _, by simp only [sx, reduceIte, Nat.reduceEqDiff, Nat.reduceAdd, g1]; rfl, Nat.zero_le _, rfl, S2, by simpa using b0, (fun g hg => by cases hg; exact S.ch.next), fun s hs => by simp at hs⟩
  rintro m e' h' ⟨i, v, F, rfl, hi, rfl, S, hb, hF, hs⟩
  have hbl : (lowB (a.names.length : Int) :: (a.names.take i).flatMap nameB).length ≤ 100000 := by
    have h1 := names_len hs
    have h2 : (a.names.take i).length ≤ 255 := by simp; omega
    simp only [List.length_cons]
    omega
  simp only [q36_7, sx, reduceIte, Nat.reduceEqDiff, Nat.reduceAdd, fa75_0, S.l0, S.nm.len sl72]
  refine byT_dec (fun hlt => ?_) (fun hge => ?_)
  · have hlt : i < a.names.length := by omega
    obtain ⟨b1, o1, p1, p2⟩ := S.nm.at (List.getElem?_eq_getElem hlt)
    have hm := List.getElem_mem hlt
    have hn2 := ok.n2 _ hm
    simp only [q36_8, q36_9, sx, reduceIte, Nat.reduceEqDiff, Nat.reduceAdd, fa75_0, S.l0, p1, p2, strLen Try.underlying9]
    refine byT_dec (fun g => ?_) (fun g => ?_)
    · rw [if_pos (List.any_eq_true.2 ⟨_, hm, decide_eq_true (by omega)⟩)] at he
      simp only [q36_10, sx, reduceIte, Nat.reduceEqDiff, Nat.reduceAdd, e36_rt]
      exact S.fail wf he (by decide)
    · obtain ⟨v2, h2, F2, x1, x2, x3⟩ := append_byte a22 S.ch.wf S.ch.next hb (lowB (a.names[i].length : Int)) (by omega)
      obtain ⟨S2, hF2⟩ := S.gr x3 hF
      obtain ⟨b2, o2, p3, p4⟩ := S2.nm.at (List.getElem?_eq_getElem hlt)
      rw [p1] at p3
      cases p3
      obtain ⟨v3, h3, F3, y1, y2, y3⟩ := append_bytes (x := .str a.names[i]) (ys := a.names[i]) s22b S2.ch.wf S2.ch.next x2 (elems_str _ _) (by simp only [List.length_append, List.length_singleton]; omega)
      obtain ⟨S3, hF3⟩ := S2.gr y3 hF2
      have e5 := add64 (a := i) (b := 1) (by omega)
      simp only [Int.cast_ofNat_Int] at e5
      simp only [q36_11, sx, reduceIte, Nat.reduceEqDiff, Nat.reduceAdd, fa75_0, S.l0, p1, p2, strLen Try.underlying9, low35, buildSlice_one b22 (v := byteV (lowB (a.names[i].length : Int))) rfl, x1, S2.l0, p4, y1, q36_12, e5]
      refine ⟨a.names.length - (i + 1), by omega, i + 1, v3, F3, rfl, by omega, rfl, S3, ?_, hF3, ?_⟩
      · rw [names_take hlt]
        exact y2
      · intro s hs'
        rw [List.take_add_one, List.getElem?_eq_getElem hlt] at hs'
        rcases List.mem_append.1 hs' with h | h
        · exact hs s h
        · simp at h
          subst h
          omega
  · have hil : i = a.names.length := by omega
    subst hil
    rw [List.take_length] at hb hs
    rw [if_neg] at he
    · simp only [sx, reduceIte, Nat.reduceEqDiff, Nat.reduceAdd, q36_13, fa75_0, S.l0, S.nm.len sl72]
      refine byT_dec (fun g => ?_) (fun g => ?_)
      · have hbv := Go.Proofs.Ytghmbmblhdgabaa.BufB.rd S.ch.wf hb
        obtain ⟨v3, h3, F3, x1, x2, x3⟩ := out_add (k := 6) (v := .nils) (fs := []) (F := none) S.ch.wf S.ch.next BufOf.nil hbv (by simp)
        obtain ⟨S3, hF3⟩ := S.gr x3 fun _ h => (by cases h)
        simp only [q36_14, sx, reduceIte, Nat.reduceEqDiff, Nat.reduceAdd, build42_6 hbv.isSl, buildSlice_one b26 (v := .agg [byteV 6, v]) rfl, x1]
        refine ans36_rows wf S3 ok hc he (v := v3) (F := F3) ?_ hF3 (by simp only [sx, reduceIte, Nat.reduceEqDiff, Nat.reduceAdd]) (by simp only [sx, reduceIte, Nat.reduceEqDiff, Nat.reduceAdd])
        have e6 : headFs a.names = [] ++ [(6, namesB a.names)] := by unfold headFs; rw [if_pos (by omega)]; rfl
        rw [e6]
        exact x2
      · refine ans36_rows wf S ok hc he (v := .nils) (F := none) ?_ (fun _ h => by cases h) (by simp only [sx, reduceIte, Nat.reduceEqDiff, Nat.reduceAdd]) (by simp only [sx, reduceIte, Nat.reduceEqDiff, Nat.reduceAdd])
        have e6 : headFs a.names = [] := by unfold headFs; rw [if_neg (by omega)]
        rw [e6]
        exact BufOf.nil
    · intro h
      obtain ⟨s, h1, h2⟩ := List.any_eq_true.1 h
      have := hs s h1
      have := of_decide_eq_true h2
      omega
end
theorem answer36 {nv rv : V} {a : An} {h : H} {lo : Nat} (wf : HWF h) (hlo : lo ≤ h.next) (hn : Texts h.read nv a.names) (hr : RowsOf h.read rv a.rows) (ok : AnOk a) : CW C 36 [.agg [nv, rv, .int .i64 a.count]] lo h (AnsPost h a) := by
  refine CW.low hS hlo (enter36 rfl ?_)
  have c1 := ch_alloc wf [nv, rv, .int .i64 a.count]
  have S : AS nv rv a h (h.alloc [nv, rv, .int .i64 a.count]) := ⟨c1.mono (fun _ h => h) (None_sub _), at_new wf _, hn.mono txE_mono (Ch.le c1), hr.mono rowE_mono (Ch.le c1)⟩
  have eC : (V.agg [nv, rv, .int .i64 a.count]).cells = [nv, rv, .int .i64 a.count] := rfl
  have bad : ∀ {e}, ((a.rows ≠ [] ∧ a.names = []) ∨ a.count < 0 ∨ 2147483647 < a.count) → XW C h.next x36_2 (kX (XW C h.next x36_3 (kF36 (AnsPost h a))) (kF36 (AnsPost h a))) e (h.alloc [nv, rv, .int .i64 a.count]) := by
    intro e hb
    have he : ansErr a = 2 := by unfold ansErr; rw [if_pos hb]
    simp only [q36_2, sx, reduceIte, Nat.reduceEqDiff, Nat.reduceAdd, e36_rt]
    exact S.fail wf he (by decide)
  have good : ∀ {e}, E.get e 1 = .ptr h.next 0 → ¬ ((a.rows ≠ [] ∧ a.names = []) ∨ a.count < 0 ∨ 2147483647 < a.count) → XW C h.next x36_3 (kF36 (AnsPost h a)) e (h.alloc [nv, rv, .int .i64 a.count]) := by
    intro e g1 hg
    have he : ansErr a = if 255 < a.names.length then 3 else if a.names.any (fun s => decide (24 < s.length)) = true then 3 else rowsErr a.names.length a.rows := by unfold ansErr; rw [if_neg hg]
    simp only [q36_3, sx, reduceIte, Nat.reduceEqDiff, Nat.reduceAdd, g1, fa75_0, S.l0, S.nm.len sl72]
    refine byT_dec (fun g => ?_) (fun g => ?_)
    · rw [if_pos (by omega)] at he
      simp only [q36_4, sx, reduceIte, Nat.reduceEqDiff, Nat.reduceAdd, e36_rt]
      exact S.fail wf he (by decide)
    · rw [if_neg (by omega)] at he
      exact ans36_names wf S ok ⟨Int.not_lt.1 fun h => hg (.inr (.inl h)), Int.not_lt.1 fun h => hg (.inr (.inr h))⟩ (by omega) he (by simp only [sx, reduceIte, Nat.reduceEqDiff, Nat.reduceAdd, g1])
  have hrl : (0 < a.rows.length) = (a.rows ≠ []) := propext List.length_pos_iff
  have hnl : a.names.length = 0 ↔ a.names = [] := List.length_eq_zero_iff
  simp only [q36_0, sx, reduceIte, Nat.reduceEqDiff, Nat.reduceAdd, eC, fa75_1, S.l1, S.rw_.len sl73, fa75_0, S.l0, S.nm.len sl72, fa75_2, S.l2]
  refine byT_dec (fun g1 => ?_) (fun g1 => ?_)
  · have g1 : a.rows ≠ [] := by rw [← hrl]; omega
    refine byT_mk (fun g2 => ?_) (fun g2 => ?_)
    · exact bad (.inl ⟨g1, hnl.1 (by rw [beqI] at g2; omega)⟩)
    · have g2 : a.names ≠ [] := fun e => by rw [e] at g2; simp at g2
      refine byT_dec (fun g3 => bad (.inr (.inl g3))) (fun g3 => ?_)
      refine byT_dec (fun g4 => bad (.inr (.inr g4))) (fun g4 => good (by simp only [sx, reduceIte, Nat.reduceEqDiff, Nat.reduceAdd]) ?_)
      rintro (h | h | h)
      · exact g2 h.2
      · exact g3 h
      · exact g4 h
  · have g1 : ¬ a.rows ≠ [] := by rw [← hrl]; omega
    refine byT_dec (fun g3 => bad (.inr (.inl g3))) (fun g3 => ?_)
    refine byT_dec (fun g4 => bad (.inr (.inr g4))) (fun g4 => good (by simp only [sx, reduceIte, Nat.reduceEqDiff, Nat.reduceAdd]) ?_)
    rintro (h | h | h)
    · exact g1 h.1
    · exact g3 h
    · exact g4 h
end Go.Proofs.Ytghmbmblhdgabaa
