/- Names out of a body: the walk. -/
import Derived.Test.YtghmbmblhdgabaaW3
set_option linter.all false
namespace Go.Proofs.Ytghmbmblhdgabaa
open Go Go.Den Code
set_option maxRecDepth 100000
section
variable {h : H} {lo bl fl bo fo : Nat} {lv : V} {l : List UInt8} {ok : Bool} {Z X : Nat → Prop}
theorem take80 {n : Nat} (wf : HWF h) (oL : Own h lo bl fl [lv]) (oK : Own h lo bo fo [.bool ok]) (hl : Bytes (h.rb Z) lv l) (hne : fl ≠ fo) (zl : Z fl) (zo : Z fo) (hX : ∀ g, X g → Z g ∧ g < h.next) (hn : n ≤ 1000000000) :
    CW C 80 [.int .i64 (n : Int), .ptr bl 0, .ptr bo 0] lo h fun v h' => ∃ lv', Bytes (h'.rb X) v (takeP n l ok).1 ∧ Own h' lo bl fl [lv'] ∧ Bytes (h'.rb Z) lv' (takeP n l ok).2.1 ∧ Own h' lo bo fo [.bool (takeP n l ok).2.2] ∧
      Ch (fun g => g = fl ∨ g = fo) (fun g => g = fl ∨ g = fo) h h' := by
  refine enter80 rfl ?_
  have ld : loadV Try.prog 22 (.ptr bl 0) h.read = some lv := (oL.at wf).cell0 c22 rfl
  have hl' := hl.mono (rb_le _ _)
  simp only [q80_0, sx, reduceIte, Nat.reduceEqDiff, Nat.reduceAdd, ld, hl'.len t22]
  refine byT_dec (fun hgt => ?_) (fun hle => ?_)
  · have hgt : l.length < n := by omega
    obtain ⟨h1, s1, o1, c1, n1⟩ := oK.set (P := Try.prog) (t := 4) (o := 0) (w := .bool false) wf sz4 rfl rfl (by simp)
    have mk := make_ok (k := .i64) (k' := .i64) (n := n) (m := n) m22 (Nat.le_refl _) (by omega) (by omega)
    have c2 := ch_alloc c1.wf (reps n [V.int .u8 0])
    have oL1 := oL.ch c1 hne
    have e : takeP n l ok = (List.replicate n 0, l, false) := by unfold takeP; rw [if_pos hgt]
    simp only [q80_1, sx, reduceIte, Nat.reduceEqDiff, Nat.reduceAdd, s1, mk, e80_rt]
    rw [e]
    have hlo1 := (oL1.lt c1.wf).1
    refine ⟨lv, ?_, oL1.ch c2 fun h => h, (hl.mono (c1.rb fun g hg => hg ▸ zo)).mono (c2.rb (None_sub _)), o1.ch c2 fun h => h, (c1.mono (fun g h => .inr h) fun g h => .inr h).trans (c2.mono (None_sub _) (None_sub _))⟩
    have ho : (h1.alloc (reps n [V.int .u8 0])).owned lo h1.next = _ := owned_alloc_new hlo1
    refine .inr ⟨h1.next, 0, some n, reps n [V.int .u8 0], by simp, rb_owned c2.wf ho fun hx => ?_, ?_, ?_⟩
    · have := (hX _ hx).2
      omega
    · rw [reps_one]; simp
    · rw [reps_one]
      have e0 : byteV 0 = .int .u8 0 := rfl
      simp [e0]
  · have hle : n ≤ l.length := by omega
    have e : takeP n l ok = (l.take n, l.drop n, ok) := by unfold takeP; rw [if_neg (by omega)]
    obtain ⟨w, w1, w2⟩ := hl.to (rd' := h.read) t22 (hi := n) (k := .i64) hle
    obtain ⟨w', x1, x2⟩ := hl.from (rd' := h.read) t22 (lo := n) (k := .i64) hle
    obtain ⟨h1, s1, o1, c1, n1⟩ := oL.set (P := Try.prog) (t := 22) (o := 0) (w := w') wf sz22 x2.isSl.cells x2.isSl.scal (by simp)
    simp only [q80_2, sx, reduceIte, Nat.reduceEqDiff, Nat.reduceAdd, ld, w1, x1, s1, e80_rt]
    rw [e]
    have hz : ∀ g, g = fl → Z g := fun g hg => hg ▸ zl
    exact ⟨w', (w2.mono (c1.rb hz)).mono (rb_mono fun g hg => (hX g hg).1), o1, x2.mono (c1.rb hz), oK.ch c1 fun h => hne h.symm, c1.mono (fun g h => .inl h) fun g h => .inl h⟩
end

def fnv80 (h0 : H) : V := .fn (Go.Fn.func 80) [] [.ptr h0.next 0, .ptr (h0.next + 1) 0]
theorem a72 : ApT Try.prog 72 72 9 1 16 := ⟨Try.underlying72, .inl ⟨9, Try.underlying72⟩, (Try.prog.info? 9).get (by kernel_rfl), .string ⟨#[]⟩, by kernel_rfl, by kernel_rfl, by kernel_rfl, by kernel_rfl, by kernel_rfl⟩
theorem bld72 (a : List UInt8) : buildSliceV Try.prog 72 1 [(0, .str a)] = some (.new [.str a] (.sl 1 (some 1) 1)) := by kernel_rfl
def NewTexts (h0 h' : H) (v : V) (xs : List (List UInt8)) : Prop := ∃ F, BufOf txE 1 h0.next h' (fun _ => none) v xs F ∧ ∀ g, F = some g → h0.next ≤ g
theorem NewTexts.texts {h0 h' : H} {v : V} {xs : List (List UInt8)} {X : Nat → Prop} (wf : HWF h') (n : NewTexts h0 h' v xs) (hX : ∀ g, X g → g < h0.next) : Texts (h'.rb X) v xs := by
  obtain ⟨F, h1, h2⟩ := n
  exact BufOf.sl (h := h') wf (BufOf.imp (fun _ _ h => h) h1) fun g hg hx => by have := h2 g hg; have := hX g hx; omega
section
variable {h0 h : H} {l : List UInt8} {ok : Bool} {lv : V} {xs : List (List UInt8)} {F : Option Nat} {n : Nat}
theorem Rs.take80 (r : Rs h0 h l ok lv) {X : Nat → Prop} (hX : ∀ g, X g → h0.next ≤ g ∧ g < h.next) {n : Nat} (hn : n ≤ 1000000000) :
    callX C (fnv80 h0) [.int .i64 (n : Int)] h0.next h fun v h' => ∃ lv', Bytes (h'.rb X) v (takeP n l ok).1 ∧ Rs h0 h' (takeP n l ok).2.1 (takeP n l ok).2.2 lv' ∧ Ch (Tk h0) (Tk h0) h h' := by
  show CW C 80 [.int .i64 (n : Int), .ptr h0.next 0, .ptr (h0.next + 1) 0] h0.next h _
  refine (Go.Proofs.Ytghmbmblhdgabaa.take80 r.wf r.oL r.oK r.hl (by omega) (Nat.le_refl _) (by omega) hX hn).mono ?_
  rintro v h' ⟨lv', h1, h2, h3, h4, h5⟩
  exact ⟨lv', h1, ⟨h5.wf, h2, h4, h3, Nat.le_trans r.nx h5.next⟩, h5⟩
theorem tk_zr {h0 : H} : ∀ g, Tk h0 g → Zr h0 g := fun g h => by show h0.next ≤ g; rcases h with h | h <;> omega
/-- what holds at each round's start -/
def NmI (h0 : H) (l0 : List UInt8) (ok0 : Bool) (n : Nat) (m : Nat) (e : E) (h : H) : Prop :=
  ∃ (i : Nat) (v : V) (F : Option Nat) (lv : V), e = [(1, .ptr h0.next 0), (4, .ptr (h0.next + 1) 0), (5, fnv80 h0), (6, .int .i64 (n : Int)), (7, v), (15, .int .i64 (n : Int)), (16, .int .i64 (i : Int))] ∧ i ≤ n ∧ m = n - i ∧
    Rs h0 h (iterN i l0 ok0).2.1 (iterN i l0 ok0).2.2 lv ∧ BufOf txE 1 h0.next h (fun _ => none) v (iterN i l0 ok0).1 F ∧ (∀ g, F = some g → h0.next + 2 ≤ g) ∧ Ch (Zr h0) (Zr h0) h0 h
theorem name_tail {l1 : List UInt8} {ok1 : Bool} (r : Rs h0 h l1 ok1 lv) {v : V} (ho : BufOf txE 1 h0.next h (fun _ => none) v xs F) (hF : ∀ g, F = some g → h0.next + 2 ≤ g) (hxs : xs.length ≤ 1000) {s : Nat} (hs : s ≤ 255) {b : Bool} (hb : b = (ok1 && decide (s ≤ 24))) {K : V → H → Prop}
    (hK : ∀ v' h' F' lv', Rs h0 h' (takeP s l1 (ok1 && decide (s ≤ 24))).2.1 (takeP s l1 (ok1 && decide (s ≤ 24))).2.2 lv' → BufOf txE 1 h0.next h' (fun _ => none) v' (xs ++ [(takeP s l1 (ok1 && decide (s ≤ 24))).1]) F' → (∀ g, F' = some g → h0.next + 2 ≤ g) → Ch (Zr h0) (Zr h0) h h' → K v' h') :
    bd (storeV Try.prog h0.next 4 (.ptr (h0.next + 1) 0) (.bool b) h) fun h10 => callX C (fnv80 h0) [.int .i64 (s : Int)] h0.next h10 fun t11 h12 => bd (convV Try.prog (H.read h12) 22 9 t11) fun r13 => KX h12 (fun t14 h15 =>
      bd (buildSliceV Try.prog 72 1 [(0, t14)]) fun r16 => KX h15 (fun t17 h18 => bd2 (appendV Try.prog h0.next [72, 72] v t17 h18) fun t19 h20 => K t19 h20) r16) r13 := by
  rw [← hb] at hK
  obtain ⟨h2, s1, ok2, c2, n2⟩ := r.oK.set (P := Try.prog) (t := 4) (o := 0) (w := .bool b) r.wf sz4 rfl rfl (by simp)
  have r2 : Rs h0 h2 l1 b lv := ⟨c2.wf, r.oL.ch c2 (by omega), ok2, r.hl.mono (c2.rb fun g hg => by omega), Nat.le_trans r.nx c2.next⟩
  have b2 := BufOf.own ho c2 fun g hg he => by have := hF g hg; omega
  simp only [s1, sx, reduceIte, Nat.reduceEqDiff, Nat.reduceAdd]
  refine callX_mono ?_ (r2.take80 (X := fun _ => False) (fun _ h => h.elim) (n := s) (by omega))
  rintro pv h3 ⟨lv3, hp, r3, c3⟩
  have b3 := BufOf.own b2 c3 fun g hg he => by have := hF g hg; rcases he with he | he <;> omega
  have c4 := ch_alloc r3.wf [V.str (takeP s l1 b).1]
  have b4 := BufOf.own b3 c4 fun _ _ h => h
  obtain ⟨v5, h5, F5, x1, x2, x3, x4⟩ := append_one (Er := txE) (y := (takeP s l1 b).1) a72 c4.wf (by have := r3.nx; have := c4.next; omega) b4 (elems_new (c := some 1) r3.wf (n := 1) (es := 1) rfl) rfl rfl rfl (by omega) (by omega)
  simp only [conv_str (hp.mono (rb_le _ _)), sx, reduceIte, Nat.reduceEqDiff, Nat.reduceAdd, bld72, x1]
  refine hK v5 h5 F5 lv3 ((r3.ch c4 (fun _ h => h.elim) (fun h => h) fun h => h).ch x3 (fun _ h => h.elim) (fun h => by have := hF _ h; omega) fun h => by have := hF _ h; omega) x2 (fun g hg => ?_) ?_
  · rcases x4 g hg with h | h
    · exact hF g h
    · have := r3.nx; have := c4.next; omega
  · exact (c2.mono (fun g h => by show h0.next ≤ g; omega) fun g h => by show h0.next ≤ g; omega).trans ((c3.mono tk_zr tk_zr).trans ((c4.mono (None_sub _) (None_sub _)).trans (x3.mono (None_sub _) fun g hg => by have := hF g hg; show h0.next ≤ g; omega)))
theorem name_round {l0 : List UInt8} {ok0 : Bool} (hn : n ≤ 255) {Q : XQ} {m : Nat} {e : E} (I : NmI h0 l0 ok0 n m e h)
    (hQ : ∀ e h v F lv, E.get e 1 = .ptr h0.next 0 → E.get e 4 = .ptr (h0.next + 1) 0 → E.get e 6 = .int .i64 (n : Int) → E.get e 7 = v → Rs h0 h (iterN n l0 ok0).2.1 (iterN n l0 ok0).2.2 lv → BufOf txE 1 h0.next h (fun _ => none) v (iterN n l0 ok0).1 F →
      (∀ g, F = some g → h0.next + 2 ≤ g) → Ch (Zr h0) (Zr h0) h0 h → Q (.ex 0) e h) :
    XW C h0.next x66_2 (kX (fun e' h' => ∃ m', m' < m ∧ NmI h0 l0 ok0 n m' (only [1, 4, 5, 6, 7, 15, 16] e') h') Q) e h := by
  obtain ⟨i, v, F, lv, rfl, hi, rfl, r, ho, hF, ch⟩ := I
  simp only [q66_2, sx, reduceIte, Nat.reduceEqDiff, Nat.reduceAdd]
  refine byT_dec (fun hlt => ?_) (fun hge => ?_)
  · have hlt : i < n := by omega
    have hi8 : (iterN i l0 ok0).1.length = i := iterN_len _ _ _
    have hl1 := takeP_len 1 (iterN i l0 ok0).2.1 (iterN i l0 ok0).2.2
    simp only [q66_3, q66_4, sx, reduceIte, Nat.reduceEqDiff, Nat.reduceAdd]
    refine callX_mono ?_ (r.take80 (X := fun _ => False) (fun _ h => h.elim) (n := 1) (by omega))
    rintro pv h1 ⟨lv1, hp, r1, ch1⟩
    obtain ⟨q, q1, q2⟩ := (hp.mono (rb_le _ _)).at t22 c5 (i := 0) (by omega) (k := .i64)
    simp only [Int.cast_ofNat_Int] at q1
    rw [← getD0] at q2
    have lok : loadV Try.prog 4 (.ptr (h0.next + 1) 0) h1.read = some (.bool (takeP 1 (iterN i l0 ok0).2.1 (iterN i l0 ok0).2.2).2.2) := (r1.oK.at r1.wf).cell0 c4 rfl
    have hb := ((takeP 1 (iterN i l0 ok0).2.1 (iterN i l0 ok0).2.2).1.getD 0 0).toNat_lt
    have b1 := BufOf.own ho ch1 fun g hg he => by have := hF g hg; rcases he with he | he <;> omega
    have e5 := add64 (a := i) (b := 1) (by omega)
    simp only [Int.cast_ofNat_Int] at e5
    have hK : ∀ v' h' F' lv', Rs h0 h' (nameP (iterN i l0 ok0).2.1 (iterN i l0 ok0).2.2).2.1 (nameP (iterN i l0 ok0).2.1 (iterN i l0 ok0).2.2).2.2 lv' → BufOf txE 1 h0.next h' (fun _ => none) v' ((iterN i l0 ok0).1 ++ [(nameP (iterN i l0 ok0).2.1 (iterN i l0 ok0).2.2).1]) F' →
        (∀ g, F' = some g → h0.next + 2 ≤ g) → Ch (Zr h0) (Zr h0) h1 h' → ∃ m', m' < n - i ∧ NmI h0 l0 ok0 n m' [(1, .ptr h0.next 0), (4, .ptr (h0.next + 1) 0), (5, fnv80 h0), (6, .int .i64 (n : Int)), (7, v'), (15, .int .i64 (n : Int)), (16, .int .i64 ((i + 1 : Nat) : Int))] h' :=
      fun v' h' F' lv' a1 a2 a3 a4 => ⟨n - (i + 1), by omega, i + 1, v', F', lv', rfl, by omega, rfl, a1, a2, a3, ch.trans ((ch1.mono tk_zr tk_zr).trans a4)⟩
    simp only [sx, reduceIte, Nat.reduceEqDiff, Nat.reduceAdd, q1, q2, conv_byte Try.underlying3, lok]
    refine byT_mk (fun ht => ?_) (fun hf => ?_)
    · refine name_tail r1 b1 hF (by omega) (s := ((takeP 1 (iterN i l0 ok0).2.1 (iterN i l0 ok0).2.2).1.getD 0 0).toNat) (by omega) ?_ (fun v' h' F' lv' a1 a2 a3 a4 => ?_)
      · rw [ht, Bool.true_and]
        exact decide_eq_decide.2 (by omega)
      · simp only [sx, reduceIte, Nat.reduceEqDiff, Nat.reduceAdd, q66_6, e5]
        exact hK v' h' F' lv' a1 a2 a3 a4
    · refine name_tail r1 b1 hF (by omega) (s := ((takeP 1 (iterN i l0 ok0).2.1 (iterN i l0 ok0).2.2).1.getD 0 0).toNat) (by omega) ?_ (fun v' h' F' lv' a1 a2 a3 a4 => ?_)
      · rw [hf, Bool.false_and]
      · simp only [sx, reduceIte, Nat.reduceEqDiff, Nat.reduceAdd, q66_6, e5]
        exact hK v' h' F' lv' a1 a2 a3 a4
  · have hin : i = n := by omega
    subst hin
    exact hQ _ _ v F lv (by simp only [sx, reduceIte, Nat.reduceEqDiff, Nat.reduceAdd]) (by simp only [sx, reduceIte, Nat.reduceEqDiff, Nat.reduceAdd]) (by simp only [sx, reduceIte, Nat.reduceEqDiff, Nat.reduceAdd]) (by simp only [sx, reduceIte, Nat.reduceEqDiff, Nat.reduceAdd]) r ho hF ch
end
def NamesPost (h : H) (b : List UInt8) (v : V) (h' : H) : Prop := ∃ nv, v = .tup [nv, .bool (namesOk b)] ∧ NewTexts h h' nv (namesOf b) ∧ Ch None_ None_ h h'
theorem names {a : V} {h : H} {b : List UInt8} {lo : Nat} (wf : HWF h) (hlo : lo ≤ h.next) (ha : Bytes h.read a b) : CW C 66 [a] lo h (NamesPost h b) := by
  refine CW.low hS hlo (enter66 rfl ?_)
  have cA := ch_alloc wf [a]
  have nA : (h.alloc [a]).next = h.next + 1 := rfl
  have cB := ch_alloc cA.wf [V.bool false]
  have nB : ((h.alloc [a]).alloc [V.bool false]).next = h.next + 1 + 1 := rfl
  have oL := (Own.new (h := h) (cs := [a]) (Nat.le_refl _)).ch cB fun h => h
  have oK := Own.new (h := h.alloc [a]) (lo := h.next) (cs := [V.bool false]) (by omega)
  have hb0 := (((ha.mono (rb_none h)).mono (rb_new wf None_)).mono (cA.rb (None_sub _))).mono (cB.rb (None_sub _))
  rw [nA] at oK
  obtain ⟨h4, s2, o2, c2, n2⟩ := oK.set (P := Try.prog) (t := 4) (o := 0) (w := .bool true) cB.wf sz4 rfl rfl (by simp)
  have r4 : Rs h h4 b true a := ⟨c2.wf, oL.ch c2 (by omega), o2, (hb0.mono (rb_mono fun g hg => .inr hg)).mono (c2.rb fun g hg => by omega), by omega⟩
  have ch4 : Ch (Zr h) (Zr h) h h4 := ((cA.mono (None_sub _) (None_sub _)).trans (cB.mono (None_sub _) (None_sub _))).trans (c2.mono (fun g hg => by show h.next ≤ g; omega) fun g hg => by show h.next ≤ g; omega)
  have hl1 := takeP_len 1 b true
  have efn : V.fn (Go.Fn.func 80) [] [.ptr h.next 0, .ptr (h.next + 1) 0] = fnv80 h := rfl
  simp only [q66_0, sx, reduceIte, Nat.reduceEqDiff, Nat.reduceAdd, z4, ha.isSl.cells, nA, s2, efn]
  refine callX_mono ?_ (r4.take80 (X := fun _ => False) (fun _ h => h.elim) (n := 1) (by omega))
  rintro pv h5 ⟨lv5, hp, r5, c5'⟩
  obtain ⟨q, q1, q2⟩ := (hp.mono (rb_le _ _)).at t22 c5 (i := 0) (by omega) (k := .i64)
  simp only [Int.cast_ofNat_Int] at q1
  rw [← getD0] at q2
  have hlt := ((takeP 1 b true).1.getD 0 0).toNat_lt
  have ch5 : Ch (Zr h) (Zr h) h h5 := ch4.trans (c5'.mono tk_zr tk_zr)
  simp only [sx, reduceIte, Nat.reduceEqDiff, Nat.reduceAdd, q1, q2, conv_byte Try.underlying3, q66_1]
  refine rounds (NmI h (takeP 1 b true).2.1 (takeP 1 b true).2.2 ((takeP 1 b true).1.getD 0 0).toNat) (fun m ee h' I => name_round (by omega) I ?_) ((takeP 1 b true).1.getD 0 0).toNat ⟨0, .nils, none, lv5, by simp only [sx, reduceIte, Nat.reduceEqDiff, Nat.reduceAdd]; rfl, Nat.zero_le _, rfl, r5, BufOf.nil, (fun g hg => by cases hg), ch5⟩
  intro ev h6 v F lv g1 g4 g6 g7 r6 ho hF ch6
  have cEnd : Ch None_ None_ h h6 := ch6.old wf (fun g h1 h2 => by have : h.next ≤ g := h1; omega) fun g h1 h2 => by have : h.next ≤ g := h1; omega
  have lok : loadV Try.prog 4 (.ptr (h.next + 1) 0) h6.read = some (.bool (iterN ((takeP 1 b true).1.getD 0 0).toNat (takeP 1 b true).2.1 (takeP 1 b true).2.2).2.2) := (r6.oK.at r6.wf).cell0 c4 rfl
  have lle : loadV Try.prog 22 (.ptr h.next 0) h6.read = some lv := (r6.oL.at r6.wf).cell0 c22 rfl
  have fin : ∀ x, x = namesOk b → NamesPost h b (.tup [v, .bool x]) h6 := fun x hx => ⟨v, by rw [hx], ⟨F, ho, fun g hg => by have := hF g hg; omega⟩, cEnd⟩
  simp only [sx, reduceIte, Nat.reduceEqDiff, Nat.reduceAdd, q66_7, g1, g4, g6, g7, lok]
  unfold namesOk at fin
  refine byT_mk (fun hb => ?_) (fun hb => ?_)
  · rw [hb] at fin
    refine byT_dec (fun hg => ?_) (fun hg => ?_)
    · have hg : 0 < ((takeP 1 b true).1.getD 0 0).toNat := by omega
      simp only [sx, reduceIte, Nat.reduceEqDiff, Nat.reduceAdd, lle, (r6.hl.mono (rb_le _ _)).len t22, e66_rt]
      refine fin _ ?_
      rw [decide_eq_true hg, Bool.true_and, Bool.true_and, Bool.eq_iff_iff, beqI, decide_eq_true_iff]
      exact ⟨fun h => List.eq_nil_of_length_eq_zero (by omega), fun h => by rw [h]; rfl⟩
    · have hg : ¬ 0 < ((takeP 1 b true).1.getD 0 0).toNat := by omega
      simp only [e66_rt, sx, reduceIte, Nat.reduceEqDiff, Nat.reduceAdd]
      refine fin _ ?_
      rw [decide_eq_false hg, Bool.false_and, Bool.and_false]
  · rw [hb] at fin
    simp only [e66_rt, sx, reduceIte, Nat.reduceEqDiff, Nat.reduceAdd]
    exact fin _ (by rw [Bool.false_and])
end Go.Proofs.Ytghmbmblhdgabaa
