/- An answer's frames: the walk. -/
import Derived.Test.YtghmbmblhdgabaaW2
set_option linter.all false
namespace Go.Proofs.Ytghmbmblhdgabaa
open Go Go.Den Code
set_option maxRecDepth 100000
structure AnOk (a : An) : Prop where
  n1 : a.names.length ≤ 1048576
  n2 : ∀ s ∈ a.names, s.length ≤ 1048576
  r1 : a.rows.length ≤ 1048576
  r2 : ∀ r ∈ a.rows, r.length ≤ 1048576
  r3 : ∀ r ∈ a.rows, ∀ x ∈ r, x.ok
/-- a frame goes behind -/
theorem out_add {h : H} {lo : Nat} {v w : V} {fs : List Fm} {F : Option Nat} {k : UInt8} {bs : List UInt8} (wf : HWF h) (hlo : lo ≤ h.next) (hb : BufOf frE 2 lo h h.read v fs F) (hw : Bytes h.read w bs) (hl : fs.length ≤ 1000000000) :
    ∃ v' h' F', appendV Try.prog lo [26, 26] v (.sl h.next 0 1 (some 1) 2) (h.alloc [byteV k, w]) = some (v', h') ∧ BufOf frE 2 lo h' h'.read v' (fs ++ [(k, bs)]) F' ∧ Gr h F h' F' := by
  have c1 := ch_alloc wf [byteV k, w]
  have hb1 := hb.ch frE_mono c1 (Ch.le c1) fun _ _ h => h
  obtain ⟨v2, h2, F2, e1, e2, e3, e4⟩ := append_one (Er := frE) (y := (k, bs)) a26 c1.wf (Nat.le_trans hlo c1.next) hb1 (elems_new (c := some 1) wf (n := 1) (es := 2) rfl) rfl ⟨w, rfl, hw.mono (Ch.le c1)⟩
    (by show (scal (byteV k) && (scal w && true)) = true; rw [hw.isSl.scal]; rfl) (by omega) (by omega)
  exact ⟨v2, h2, F2, e1, e2.imp fun c x he => frE_mono _ _ c x (Ch.le e3) he, (Gr.of c1).trans (Gr.app e3 e4)⟩
theorem at_bytes {h : H} (wf : HWF h) (bs : List UInt8) (c : Option Nat) : Bytes (h.alloc (bs.map byteV)).read (.sl h.next 0 bs.length c 1) bs :=
  .inr ⟨h.next, 0, c, bs.map byteV, rfl, by rw [read_alloc wf, if_pos rfl], by simp, by rw [List.drop_zero, List.take_of_length_le (by simp)]⟩
theorem BufB.rd {h : H} {lo : Nat} {v : V} {xs : List UInt8} {F : Option Nat} (wf : HWF h) (hb : BufB h lo v xs F) : Bytes h.read v xs := (Buf.bytes (X := None_) wf hb fun _ _ h => h).mono (rb_le _ _)
theorem build42_6 {w : V} (i : IsSl w) : buildV Try.prog 42 [(0, .int .u8 6), (1, w)] = some (.agg [byteV 6, w]) := build42 6 i
theorem build42_7 {w : V} (i : IsSl w) : buildV Try.prog 42 [(0, .int .u8 7), (1, w)] = some (.agg [byteV 7, w]) := build42 7 i
theorem cells_fr (k : UInt8) (w : V) : (V.agg [byteV k, w]).cells = [byteV k, w] := rfl
section
variable {nv rv : V} {a : An} {h0 h : H}
/-- what holds while an answer's frames are made -/
structure AS (nv rv : V) (a : An) (h0 h : H) : Prop where
  ch : Ch None_ (fun g => h0.next ≤ g) h0 h
  at0 : At h.read h0.next 0 [nv, rv, .int .i64 a.count]
  nm : Texts h.read nv a.names
  rw_ : RowsOf h.read rv a.rows
theorem AS.step {h' : H} (S : AS nv rv a h0 h) {Y : Nat → Prop} (c : Ch None_ Y h h') (hY : ∀ g, Y g → h0.next ≤ g) : AS nv rv a h0 h' where
  ch := S.ch.trans (c.mono (fun _ h => h) hY)
  at0 := S.at0.mono (Ch.le c)
  nm := S.nm.mono txE_mono (Ch.le c)
  rw_ := S.rw_.mono rowE_mono (Ch.le c)
theorem AS.l0 (S : AS nv rv a h0 h) : loadV Try.prog 72 (.ptr h0.next 0) h.read = some nv := S.at0.cell0 c72 rfl
theorem AS.l1 (S : AS nv rv a h0 h) : loadV Try.prog 73 (.ptr h0.next (0 + 1)) h.read = some rv := S.at0.cell c73 rfl
theorem AS.l2 (S : AS nv rv a h0 h) : loadV Try.prog 3 (.ptr h0.next (0 + 2)) h.read = some (.int .i64 a.count) := S.at0.cell c3 rfl
theorem AS.gr {h' : H} {F F' : Option Nat} (S : AS nv rv a h0 h) (g : Gr h F h' F') (hF : ∀ g, F = some g → h0.next ≤ g) : AS nv rv a h0 h' ∧ ∀ g, F' = some g → h0.next ≤ g := by
  have hn := S.ch.next
  refine ⟨S.step g.ch fun f hf => ?_, fun f hf => ?_⟩
  · rcases hf with h | h
    · exact hF f h
    · omega
  · rcases g.F f hf with h | h
    · exact hF f h
    · omega
def AnsPost (h0 : H) (a : An) (v : V) (h' : H) : Prop := ∃ fv, v = .tup [fv, .int .i64 (ansErr a)] ∧ (if ansErr a = 0 then Frames h'.read fv (ansFs a) else fv = .nils) ∧ Ch None_ None_ h0 h'
theorem AS.old (wf : HWF h0) (S : AS nv rv a h0 h) : Ch None_ None_ h0 h := S.ch.old wf (fun _ h _ => h) fun g h1 h2 => by have : h0.next ≤ g := h1; omega
theorem AS.fail {n : Int} (wf : HWF h0) (S : AS nv rv a h0 h) (he : ansErr a = n) (hn : n ≠ 0) : AnsPost h0 a (.tup [.nils, .int .i64 n]) h := by
  refine ⟨.nils, by rw [he], ?_, S.old wf⟩
  rw [if_neg (by rw [he]; exact hn)]
theorem rowErr_ne {xs : List Vl} : rowErr xs = 0 ∨ rowErr xs = 2 ∨ rowErr xs = 3 := by
  unfold rowErr
  split
  · exact .inr (.inl rfl)
  · split
    · exact .inr (.inr rfl)
    · split
      · exact .inr (.inr rfl)
      · exact .inl rfl
/-- the rows, and the end -/
theorem ans_rows (wf : HWF h0) (S : AS nv rv a h0 h) (ok : AnOk a) (hc : 0 ≤ a.count) (he : ansErr a = rowsErr a.names.length a.rows) {v : V} {F : Option Nat} (hb : BufOf frE 2 h0.next h h.read v (headFs a.names) F) (hF : ∀ g, F = some g → h0.next ≤ g) {e : E}
    (g1 : E.get e 1 = .ptr h0.next 0) (g7 : E.get e 7 = v) : XW C h0.next x35_16 (kF35 (AnsPost h0 a)) e h := by
  have hl1 := ok.r1
  have hn1 := ok.n1
  simp only [q35_16, sx, reduceIte, Nat.reduceEqDiff, Nat.reduceAdd, g1, g7, fa75_1, S.l1, S.rw_.len sl73, q35_17]
  refine rounds (fun m e' h' => ∃ (i : Nat) (v : V) (F : Option Nat), e' = [(1, .ptr h0.next 0), (7, v), (72, rv), (73, .int .i64 (a.rows.length : Int)), (74, .int .i64 (i : Int))] ∧ i ≤ a.rows.length ∧ m = a.rows.length - i ∧ AS nv rv a h0 h' ∧
      BufOf frE 2 h0.next h' h'.read v (headFs a.names ++ rowFs (a.rows.take i)) F ∧ (∀ g, F = some g → h0.next ≤ g) ∧ ansErr a = rowsErr a.names.length (a.rows.drop i)) ?_ a.rows.length
    ⟨0, v, F, by simp only [sx, reduceIte, Nat.reduceEqDiff, Nat.reduceAdd]; rfl, Nat.zero_le _, rfl, S, by simpa [rowFs] using hb, hF, by simpa using he⟩
  rintro m e' h' ⟨i, v, F, rfl, hi, rfl, S, hb, hF, he⟩
  have hhead : (headFs a.names ++ rowFs (a.rows.take i)).length ≤ 1048578 := by
    have : (headFs a.names).length ≤ 1 := by unfold headFs; split <;> simp
    simp only [rowFs, List.length_append, List.length_map, List.length_take]
    omega
  simp only [q35_18, sx, reduceIte, Nat.reduceEqDiff, Nat.reduceAdd]
  refine byT_dec (fun hlt => ?_) (fun hge => ?_)
  · have hlt : i < a.rows.length := by omega
    obtain ⟨b1, o1, w1, p1, p2, p3⟩ := S.rw_.at (List.getElem?_eq_getElem hlt)
    have hm := List.getElem_mem hlt
    have hd : a.rows.drop i = a.rows[i] :: a.rows.drop (i + 1) := List.drop_eq_getElem_cons hlt
    have hr2 := ok.r2 _ hm
    rw [hd] at he
    unfold rowsErr at he
    simp only [q35_19, q35_20, sx, reduceIte, Nat.reduceEqDiff, Nat.reduceAdd, p1, p2, p3.len s48, fa75_0, S.l0, S.nm.len sl72]
    refine byT_mk (fun g => ?_) (fun g => ?_)
    · rw [if_pos (by simp at g; omega)] at he
      simp only [q35_21, sx, reduceIte, Nat.reduceEqDiff, Nat.reduceAdd, e35_rt]
      exact S.fail wf he (by decide)
    · have hnl : a.rows[i].length = a.names.length := by simp at g; omega
      rw [if_neg (by simp [hnl])] at he
      simp only [q35_22, sx, reduceIte, Nat.reduceEqDiff, Nat.reduceAdd]
      refine (row S.ch.wf S.ch.next p3 (ok.r3 _ hm) (by omega)).mono ?_
      rintro _ h2 ⟨bv, rfl, hbv, c2⟩
      have S2 := S.step c2 (None_sub _)
      simp only [sx, reduceIte, Nat.reduceEqDiff, Nat.reduceAdd]
      refine byT_mk (fun g => ?_) (fun g => ?_)
      · have g : rowErr a.rows[i] ≠ 0 := by simpa using g
        rw [if_pos g] at he
        simp only [q35_23, sx, reduceIte, Nat.reduceEqDiff, Nat.reduceAdd, e35_rt]
        exact S2.fail wf he g
      · have g : rowErr a.rows[i] = 0 := by simpa using g
        rw [if_neg (by simp [g])] at he
        rw [if_pos g] at hbv
        have hbv := hbv.rd c2.wf
        obtain ⟨v3, h3, F3, x1, x2, x3⟩ := out_add (k := 6) c2.wf S2.ch.next (hb.ch frE_mono c2 (Ch.le c2) fun _ _ h => h) hbv (by omega)
        obtain ⟨S3, hF3⟩ := S2.gr x3 hF
        have e5 := add64 (a := i) (b := 1) (by omega)
        simp only [Int.cast_ofNat_Int] at e5
        simp only [q35_24, sx, reduceIte, Nat.reduceEqDiff, Nat.reduceAdd, build42_6 hbv.isSl, buildSlice_one b26 (v := .agg [byteV 6, bv]) rfl, x1, q35_25, e5]
        refine ⟨a.rows.length - (i + 1), by omega, i + 1, v3, F3, rfl, by omega, rfl, S3, ?_, hF3, he⟩
        have e6 : headFs a.names ++ rowFs (a.rows.take (i + 1)) = headFs a.names ++ rowFs (a.rows.take i) ++ [(6, rowBytes a.rows[i])] := by
          rw [List.take_add_one, List.getElem?_eq_getElem hlt]
          show headFs a.names ++ List.map _ (_ ++ [a.rows[i]]) = _
          rw [List.map_append, ← List.append_assoc]
          rfl
        rw [e6]
        exact x2
  · have hil : i = a.rows.length := by omega
    subst hil
    rw [List.drop_length] at he
    have he : ansErr a = 0 := he
    rw [List.take_length] at hb
    have hcn : a.count = ((a.count.toNat : Nat) : Int) := by omega
    have l2 := S.l2
    rw [hcn] at l2
    simp only [q35_26, sx, reduceIte, Nat.reduceEqDiff, Nat.reduceAdd, fa75_2, l2]
    refine four.mono ?_
    rintro _ _ ⟨rfl, rfl⟩
    have cA := ch_alloc S.ch.wf ((fourB a.count.toNat).map byteV)
    have SA := S.step cA (None_sub _)
    have bA : Bytes (h'.alloc ((fourB a.count.toNat).map byteV)).read (.sl h'.next 0 4 (some 4) 1) (fourB a.count.toNat) := (at_bytes S.ch.wf (fourB a.count.toNat) (some 4))
    obtain ⟨v3, h3, F3, x1, x2, x3⟩ := out_add (k := 7) cA.wf SA.ch.next (hb.ch frE_mono cA (Ch.le cA) fun _ _ h => h) bA (by rw [List.take_length] at hhead; omega)
    obtain ⟨S3, hF3⟩ := SA.gr x3 hF
    simp only [sx, reduceIte, Nat.reduceEqDiff, Nat.reduceAdd, build42_7 bA.isSl, buildSlice_one b26 (v := .agg [byteV 7, .sl h'.next 0 4 (some 4) 1]) rfl, x1, e35_rt]
    refine ⟨v3, by rw [he], ?_, S3.old wf⟩
    rw [if_pos he]
    have e7 : ansFs a = headFs a.names ++ rowFs a.rows ++ [(7, fourB a.count.toNat)] := rfl
    rw [e7]
    have x2' := BufOf.sl (X := None_) S3.ch.wf (x2.imp fun c x he => frE_mono _ _ c x (rb_none h3) he) fun _ _ h => h
    exact x2'.mono frE_mono (rb_le _ _)
theorem names_take {ns : List (List UInt8)} {i : Nat} (hlt : i < ns.length) : lowB (ns.length : Int) :: (ns.take (i + 1)).flatMap nameB = (lowB (ns.length : Int) :: (ns.take i).flatMap nameB) ++ [lowB (ns[i].length : Int)] ++ ns[i] := by
  rw [List.take_add_one, List.getElem?_eq_getElem hlt, List.flatMap_append]
  simp [nameB]
theorem names_len {ns : List (List UInt8)} (h : ∀ s ∈ ns, s.length ≤ 24) : (ns.flatMap nameB).length ≤ ns.length * 25 := by
  induction ns with
  | nil => simp
  | cons s r ih =>
    have h1 := h s List.mem_cons_self
    have h2 := ih fun y hy => h y (List.mem_cons_of_mem _ hy)
    simp only [List.flatMap_cons, List.length_append, List.length_cons, nameB]
    omega
/-- the names, and what follows -/
theorem ans_names (wf : HWF h0) (S : AS nv rv a h0 h) (ok : AnOk a) (hc : 0 ≤ a.count) (h255 : a.names.length ≤ 255) (he : ansErr a = if a.names.any (fun s => decide (24 < s.length)) = true then 3 else rowsErr a.names.length a.rows) {e : E}
    (g1 : E.get e 1 = .ptr h0.next 0) : XW C h0.next x35_6 (kF35 (AnsPost h0 a)) e h := by
  have c2 := ch_alloc S.ch.wf [byteV (lowB (a.names.length : Int))]
  have S2 := S.step c2 (None_sub _)
  have b0 : BufB (h.alloc [byteV (lowB (a.names.length : Int))]) h0.next (.sl h.next 0 1 (some 1) 1) [lowB (a.names.length : Int)] (some h.next) := Buf.new S.ch.next rfl
  simp only [q35_6, sx, reduceIte, Nat.reduceEqDiff, Nat.reduceAdd, g1, fa75_0, S.l0, S.nm.len sl72, low35, buildSlice_one b22 (v := byteV (lowB (a.names.length : Int))) rfl, S2.l0, q35_7]
  refine rounds (fun m e' h' => ∃ (i : Nat) (v : V) (F : Option Nat), e' = [(1, .ptr h0.next 0), (4, v), (44, nv), (45, .int .i64 (a.names.length : Int)), (46, .int .i64 (i : Int))] ∧ i ≤ a.names.length ∧ m = a.names.length - i ∧ AS nv rv a h0 h' ∧
      BufB h' h0.next v (lowB (a.names.length : Int) :: (a.names.take i).flatMap nameB) F ∧ (∀ g, F = some g → h0.next ≤ g) ∧ ∀ s ∈ a.names.take i, s.length ≤ 24) ?_ a.names.length
    ⟨0, _, _, by simp only [sx, reduceIte, Nat.reduceEqDiff, Nat.reduceAdd]; rfl, Nat.zero_le _, rfl, S2, by simpa using b0, (fun g hg => by cases hg; exact S.ch.next), fun s hs => by simp at hs⟩
  rintro m e' h' ⟨i, v, F, rfl, hi, rfl, S, hb, hF, hs⟩
  have hbl : (lowB (a.names.length : Int) :: (a.names.take i).flatMap nameB).length ≤ 100000 := by
    have h1 := names_len hs
    have h2 : (a.names.take i).length ≤ 255 := by simp; omega
    simp only [List.length_cons]
    omega
  simp only [q35_8, sx, reduceIte, Nat.reduceEqDiff, Nat.reduceAdd]
  refine byT_dec (fun hlt => ?_) (fun hge => ?_)
  · have hlt : i < a.names.length := by omega
    obtain ⟨b1, o1, p1, p2⟩ := S.nm.at (List.getElem?_eq_getElem hlt)
    have hm := List.getElem_mem hlt
    have hn2 := ok.n2 _ hm
    simp only [q35_9, q35_10, sx, reduceIte, Nat.reduceEqDiff, Nat.reduceAdd, p1, p2, strLen Try.underlying9]
    refine byT_dec (fun g => ?_) (fun g => ?_)
    · rw [if_pos (List.any_eq_true.2 ⟨_, hm, decide_eq_true (by omega)⟩)] at he
      simp only [q35_11, sx, reduceIte, Nat.reduceEqDiff, Nat.reduceAdd, e35_rt]
      exact S.fail wf he (by decide)
    · obtain ⟨v2, h2, F2, x1, x2, x3⟩ := append_byte a22 S.ch.wf S.ch.next hb (lowB (a.names[i].length : Int)) (by omega)
      obtain ⟨S2, hF2⟩ := S.gr x3 hF
      obtain ⟨v3, h3, F3, y1, y2, y3⟩ := append_bytes (x := .str a.names[i]) (ys := a.names[i]) s22b S2.ch.wf S2.ch.next x2 (elems_str _ _) (by simp only [List.length_append, List.length_singleton]; omega)
      obtain ⟨S3, hF3⟩ := S2.gr y3 hF2
      have e5 := add64 (a := i) (b := 1) (by omega)
      simp only [Int.cast_ofNat_Int] at e5
      simp only [q35_12, sx, reduceIte, Nat.reduceEqDiff, Nat.reduceAdd, strLen Try.underlying9, low35, buildSlice_one b22 (v := byteV (lowB (a.names[i].length : Int))) rfl, x1, y1, q35_13, e5]
      refine ⟨a.names.length - (i + 1), by omega, i + 1, v3, F3, rfl, by omega, rfl, S3, ?_, hF3, ?_⟩
      · rw [names_take hlt]
        exact y2
      · intro s hs'
        rw [List.take_add_one, List.getElem?_eq_getElem hlt] at hs'
        rcases List.mem_append.1 hs' with h | h
        · exact hs s h
        · simp at h
          subst h
          omega
  · have hil : i = a.names.length := by omega
    subst hil
    rw [List.take_length] at hb hs
    rw [if_neg] at he
    · simp only [q35_14, sx, reduceIte, Nat.reduceEqDiff, Nat.reduceAdd, fa75_0, S.l0, S.nm.len sl72]
      refine byT_dec (fun g => ?_) (fun g => ?_)
      · have hbv := Go.Proofs.Ytghmbmblhdgabaa.BufB.rd S.ch.wf hb
        obtain ⟨v3, h3, F3, x1, x2, x3⟩ := out_add (k := 6) (v := .nils) (fs := []) (F := none) S.ch.wf S.ch.next BufOf.nil hbv (by simp)
        obtain ⟨S3, hF3⟩ := S.gr x3 fun _ h => (by cases h)
        simp only [q35_15, sx, reduceIte, Nat.reduceEqDiff, Nat.reduceAdd, build42_6 hbv.isSl, buildSlice_one b26 (v := .agg [byteV 6, v]) rfl, x1]
        refine ans_rows wf S3 ok hc he (v := v3) (F := F3) ?_ hF3 (by simp only [sx, reduceIte, Nat.reduceEqDiff, Nat.reduceAdd]) (by simp only [sx, reduceIte, Nat.reduceEqDiff, Nat.reduceAdd])
        have e6 : headFs a.names = [] ++ [(6, namesB a.names)] := by unfold headFs; rw [if_pos (by omega)]; rfl
        rw [e6]
        exact x2
      · refine ans_rows wf S ok hc he (v := .nils) (F := none) ?_ (fun _ h => by cases h) (by simp only [sx, reduceIte, Nat.reduceEqDiff, Nat.reduceAdd]) (by simp only [sx, reduceIte, Nat.reduceEqDiff, Nat.reduceAdd])
        have e6 : headFs a.names = [] := by unfold headFs; rw [if_neg (by omega)]
        rw [e6]
        exact BufOf.nil
    · intro h
      obtain ⟨s, h1, h2⟩ := List.any_eq_true.1 h
      have := hs s h1
      have := of_decide_eq_true h2
      omega
end
theorem answer {nv rv : V} {a : An} {h : H} {lo : Nat} (wf : HWF h) (hlo : lo ≤ h.next) (hn : Texts h.read nv a.names) (hr : RowsOf h.read rv a.rows) (ok : AnOk a) : CW C 35 [.agg [nv, rv, .int .i64 a.count]] lo h (AnsPost h a) := by
  refine CW.low hS hlo (enter35 rfl ?_)
  have c1 := ch_alloc wf [nv, rv, .int .i64 a.count]
  have S : AS nv rv a h (h.alloc [nv, rv, .int .i64 a.count]) := ⟨c1.mono (fun _ h => h) (None_sub _), at_new wf _, hn.mono txE_mono (Ch.le c1), hr.mono rowE_mono (Ch.le c1)⟩
  have eC : (V.agg [nv, rv, .int .i64 a.count]).cells = [nv, rv, .int .i64 a.count] := rfl
  have bad : ∀ {e}, ((a.rows ≠ [] ∧ a.names = []) ∨ a.count < 0 ∨ 2147483647 < a.count) → XW C h.next x35_3 (kX (XW C h.next .skip (kXB 0 (XW C h.next x35_6 (kF35 (AnsPost h a))) (kF35 (AnsPost h a)))) (kXB 0 (XW C h.next x35_6 (kF35 (AnsPost h a))) (kF35 (AnsPost h a)))) e (h.alloc [nv, rv, .int .i64 a.count]) := by
    intro e hb
    have he : ansErr a = 2 := by unfold ansErr; rw [if_pos hb]
    simp only [q35_3, sx, reduceIte, Nat.reduceEqDiff, Nat.reduceAdd, e35_rt]
    exact S.fail wf he (by decide)
  have good : ∀ {e}, E.get e 1 = .ptr h.next 0 → ¬ ((a.rows ≠ [] ∧ a.names = []) ∨ a.count < 0 ∨ 2147483647 < a.count) → XW C h.next x35_4 (kX (XW C h.next .skip (kXB 0 (XW C h.next x35_6 (kF35 (AnsPost h a))) (kF35 (AnsPost h a)))) (kXB 0 (XW C h.next x35_6 (kF35 (AnsPost h a))) (kF35 (AnsPost h a)))) e (h.alloc [nv, rv, .int .i64 a.count]) := by
    intro e g1 hg
    have he : ansErr a = if 255 < a.names.length then 3 else if a.names.any (fun s => decide (24 < s.length)) = true then 3 else rowsErr a.names.length a.rows := by unfold ansErr; rw [if_neg hg]
    simp only [q35_4, sx, reduceIte, Nat.reduceEqDiff, Nat.reduceAdd, g1, fa75_0, S.l0, S.nm.len sl72]
    refine byT_dec (fun g => ?_) (fun g => ?_)
    · rw [if_pos (by omega)] at he
      simp only [q35_5, sx, reduceIte, Nat.reduceEqDiff, Nat.reduceAdd, e35_rt]
      exact S.fail wf he (by decide)
    · rw [if_neg (by omega)] at he
      exact ans_names wf S ok (Int.not_lt.1 fun h => hg (.inr (.inl h))) (by omega) he (by simp only [sx, reduceIte, Nat.reduceEqDiff, Nat.reduceAdd, g1])
  have hrl : (0 < a.rows.length) = (a.rows ≠ []) := propext List.length_pos_iff
  have hnl : a.names.length = 0 ↔ a.names = [] := List.length_eq_zero_iff
  simp only [q35_0, q35_1, sx, reduceIte, Nat.reduceEqDiff, Nat.reduceAdd, eC, fa75_1, S.l1, S.rw_.len sl73, fa75_0, S.l0, S.nm.len sl72, fa75_2, S.l2]
  refine byT_dec (fun g1 => ?_) (fun g1 => ?_)
  · have g1 : a.rows ≠ [] := by rw [← hrl]; omega
    refine byT_mk (fun g2 => ?_) (fun g2 => ?_)
    · exact bad (.inl ⟨g1, hnl.1 (by rw [beqI] at g2; omega)⟩)
    · have g2 : a.names ≠ [] := fun e => by rw [e] at g2; simp at g2
      refine byT_dec (fun g3 => bad (.inr (.inl g3))) (fun g3 => ?_)
      refine byT_dec (fun g4 => bad (.inr (.inr g4))) (fun g4 => good (by simp only [sx, reduceIte, Nat.reduceEqDiff, Nat.reduceAdd]) ?_)
      rintro (h | h | h)
      · exact g2 h.2
      · exact g3 h
      · exact g4 h
  · have g1 : ¬ a.rows ≠ [] := by rw [← hrl]; omega
    refine byT_dec (fun g3 => bad (.inr (.inl g3))) (fun g3 => ?_)
    refine byT_dec (fun g4 => bad (.inr (.inr g4))) (fun g4 => good (by simp only [sx, reduceIte, Nat.reduceEqDiff, Nat.reduceAdd]) ?_)
    rintro (h | h | h)
    · exact g1 h.1
    · exact g3 h
    · exact g4 h
end Go.Proofs.Ytghmbmblhdgabaa
