/- What a reader's Feed comes to. -/
import Derived.Test.YtghmbmblhdgabaaU2
set_option linter.all false
namespace Go.Proofs.Ytghmbmblhdgabaa
open Go Go.Den Code
set_option maxRecDepth 100000
/-- a reader that is the memory's own -/
def Rdr (h : H) (lo b f : Nat) (lv : V) (br : Bool) : Prop := ∃ low, h.owned lo b = some ([lv, .bool br, .bool true], f, low)
theorem Rdr.read {h : H} {lo b f : Nat} {lv : V} {br : Bool} (wf : HWF h) (r : Rdr h lo b f lv br) : h.read b = some [lv, .bool br, .bool true] := by
  obtain ⟨low, ho⟩ := r
  exact owned_read wf ho
theorem Rdr.ch {h h' : H} {lo b f : Nat} {lv : V} {br : Bool} {X Y : Nat → Prop} (a : Ch X Y h h') (r : Rdr h lo b f lv br) (hf : ¬ Y f) : Rdr h' lo b f lv br := by
  obtain ⟨low, ho⟩ := r
  exact ⟨low, a.own _ _ _ _ _ ho hf⟩
theorem Rdr.lo {h : H} {lo b f : Nat} {lv : V} {br : Bool} (wf : HWF h) (r : Rdr h lo b f lv br) : lo ≤ h.next ∧ f < h.next := by
  obtain ⟨low, ho⟩ := r
  obtain ⟨h1, _, h3⟩ := owned_some ho
  have := wf.lt _ _ h1
  exact ⟨by omega, famOf_lt wf (famOf_of h1)⟩
/-- its left bytes are set -/
theorem Rdr.left {h : H} {lo b f : Nat} {lv w : V} {br : Bool} (wf : HWF h) (r : Rdr h lo b f lv br) (i : IsSl w) : ∃ h', storeV Try.prog lo 22 (.ptr b 0) w h = some h' ∧ Rdr h' lo b f w br ∧ Ch (· = f) (· = f) h h' ∧ h'.next = h.next := by
  obtain ⟨low, ho⟩ := r
  exact ⟨_, store_cell sz22 ho i.cells i.scal (by simp), ⟨_, owned_put_same ho⟩, ch_put wf ho, rfl⟩
theorem Rdr.broke {h : H} {lo b f : Nat} {lv : V} {br : Bool} (wf : HWF h) (r : Rdr h lo b f lv br) (br' : Bool) : ∃ h', storeV Try.prog lo 4 (.ptr b 1) (.bool br') h = some h' ∧ Rdr h' lo b f lv br' ∧ Ch (· = f) (· = f) h h' ∧ h'.next = h.next := by
  obtain ⟨low, ho⟩ := r
  exact ⟨_, store_cell sz4 ho rfl rfl (by simp), ⟨_, owned_put_same ho⟩, ch_put wf ho, rfl⟩
/-- frames that grow, each with a body of its own -/
def Out (h : H) (lo : Nat) (G : Nat → Prop) (v : V) (fs : List Fm) (F : Option Nat) : Prop := BufOf (fun _ => frOwn h lo G) 2 lo h (fun _ => none) v fs F
theorem Out.ch {h h' : H} {lo : Nat} {G X Y : Nat → Prop} {v : V} {fs : List Fm} {F : Option Nat} (o : Out h lo G v fs F) (a : Ch X Y h h') (hG : ∀ g, G g → ¬ Y g) (hF : ∀ g, F = some g → ¬ Y g) : Out h' lo G v fs F :=
  BufOf.imp (fun _ _ he => frOwn.ch a hG he) (BufOf.own o a hF)
theorem Out.imp {h : H} {lo : Nat} {G G' : Nat → Prop} {v : V} {fs : List Fm} {F : Option Nat} (o : Out h lo G v fs F) (wf : HWF h) (hG : ∀ g, G g → g < h.next → G' g) : Out h lo G' v fs F :=
  BufOf.imp (fun _ _ he => (frOwn.lt wf he).imp fun g hg => hG g hg.1 hg.2) o
def errOf (o : Option (List UInt8)) : Int := match o with
  | some _ => 0
  | none => 390
/-- what Feed leaves -/
def Fed (h : H) (lo b f : Nat) (X : Nat → Prop) (all : List UInt8) (v : V) (h' : H) : Prop :=
  ∃ fv lv' G, v = .tup [fv, .int .i64 (errOf (cut all).2)] ∧ (∀ g, G g → h.next ≤ g) ∧ SlOf (fun _ => frOwn h' lo G) 2 (h'.rb fun g => X g ∨ G g) fv (cut all).1 ∧
    Rdr h' lo b f lv' (cut all).2.isNone ∧ Bytes (h'.rb fun g => X g ∨ G g) lv' ((cut all).2.getD []) ∧ Ch (· = f) (· = f) h h'
theorem wrong_false {ls : List UInt8} (hw : wrongB ls = false) (h4 : 4 ≤ ls.length) : 1 ≤ num4 ls ∧ num4 ls ≤ 8192 := by
  unfold wrongB at hw
  simp [h4] at hw
  omega
theorem cut_none {ls : List UInt8} (hw : wrongB ls = true) : cut ls = ([], none) := by rw [cut, if_pos hw]
theorem cut_stop {ls : List UInt8} (hw : wrongB ls = false) (hl : ls.length < 4 ∨ ls.length < 4 + num4 ls) : cut ls = ([], some ls) := by rw [cut, if_neg (by simp [hw]), if_pos hl]
theorem cut_go {ls : List UInt8} (hw : wrongB ls = false) (hl : ¬ (ls.length < 4 ∨ ls.length < 4 + num4 ls)) : cut ls = ((ls.getD 4 0, (ls.drop 5).take (4 + num4 ls - 5)) :: (cut (ls.drop (4 + num4 ls))).1, (cut (ls.drop (4 + num4 ls))).2) := by
  conv => lhs; rw [cut]
  rw [if_neg (by simp [hw]), if_neg hl]
/-- what holds at each round's start -/
structure Inv (h0 : H) (lo b f : Nat) (X : Nat → Prop) (all : List UInt8) (m : Nat) (e : E) (h : H) : Prop where
  ex : ∃ done cur fv F lv, e = [(0, .ptr b 0), (7, fv)] ∧ m = cur.length ∧ cut all = (done ++ (cut cur).1, (cut cur).2) ∧ Rdr h lo b f lv false ∧
    Bytes (h.rb fun g => X g ∨ h0.next < g) lv cur ∧ Out h lo (fun g => h0.next < g ∧ F ≠ some g) fv done F ∧ (∀ g, F = some g → h0.next < g) ∧ done.length + cur.length ≤ all.length
  ch : Ch (fun g => g = f ∨ h0.next ≤ g) (fun g => g = f ∨ h0.next ≤ g) h0 h
  nx : h0.next < h.next
section
variable {ls bs : List UInt8} {h0 : H} {lo b f : Nat} {X : Nat → Prop} {all : List UInt8}
/-- the loop's end -/
theorem fed_of (wf0 : HWF h0) (hf : f < h0.next) (hX : ∀ g, X g → g < h0.next) {h : H} {fv lv : V} {br : Bool} {F : Option Nat} {done : List Fm} {rest : List UInt8}
    (ch : Ch (fun g => g = f ∨ h0.next ≤ g) (fun g => g = f ∨ h0.next ≤ g) h0 h) (hr : Rdr h lo b f lv br) (hb : Bytes (h.rb fun g => X g ∨ h0.next < g) lv rest)
    (ho : Out h lo (fun g => h0.next < g ∧ F ≠ some g) fv done F) (hF : ∀ g, F = some g → h0.next < g)
    (e1 : (cut all).1 = done) (e2 : (cut all).2.isNone = br) (e3 : (cut all).2.getD [] = rest) : Fed h0 lo b f X all (.tup [fv, .int .i64 (errOf (cut all).2)]) h := by
  refine ⟨fv, lv, fun g => h0.next < g ∧ F ≠ some g, rfl, fun g hg => Nat.le_of_lt hg.1, ?_, e2 ▸ hr, e3 ▸ hb.mono (rb_mono fun g hg => hg.imp id fun h => h.1), ch.old wf0 (fun g h1 h2 => by omega) fun g h1 h2 => by omega⟩
  rw [e1]
  have ho' : BufOf (fun _ => frOwn h lo fun g => h0.next < g ∧ F ≠ some g) 2 lo h (h.rb fun g => X g ∨ (h0.next < g ∧ F ≠ some g)) fv done F := ho
  exact ho'.sl ch.wf fun g hg hx => by
    rcases hx with h1 | h1
    · have := hX g h1
      have := hF g hg
      omega
    · exact h1.2 hg
theorem feed_round (wf0 : HWF h0) (hf : f < h0.next) (hX : ∀ g, X g → g < h0.next) (hXf : X f) (hall : all.length < 1000000000) {Q : XQ}
    (hQ : ∀ fv e h, Fed h0 lo b f X all (.tup [fv, .int .i64 (errOf (cut all).2)]) h → Q .rt ((4, fv) :: (5, .int .i64 (errOf (cut all).2)) :: e) h) {m : Nat} {e : E} {h : H} (inv : Inv h0 lo b f X all m e h) :
    XW C lo x12_6 (kX (fun e' h' => ∃ m', m' < m ∧ Inv h0 lo b f X all m' (only [0, 7] e') h') Q) e h := by
  obtain ⟨⟨done, cur, fv, F, lv, rfl, rfl, hcut, hr, hb, ho, hF, hlen⟩, ch, nx⟩ := inv
  have hrd := hr.read ch.wf
  have hb' := hb.mono (rb_le _ _)
  simp only [q12_6, q12_7, sx, reduceIte, Nat.reduceEqDiff, Nat.reduceAdd]
  refine (wrong hrd hb').mono ?_
  rintro _ h' ⟨rfl, rfl⟩
  simp only [sx, reduceIte, Nat.reduceEqDiff, Nat.reduceAdd]
  refine byT_mk (fun hw => ?_) (fun hw => ?_)
  · obtain ⟨h1, s1, r1, c1, _⟩ := hr.left ch.wf (w := .nils) (.inl rfl)
    obtain ⟨h2, s2, r2, c2, _⟩ := r1.broke c1.wf true
    simp only [q12_8, sx, reduceIte, Nat.reduceEqDiff, Nat.reduceAdd, fa45_0, fa45_1, s1, s2]
    have c := c1.trans c2
    have hc := cut_none hw
    rw [hc] at hcut
    have e5 : errOf (cut all).2 = 390 := by rw [hcut]; rfl
    rw [← e5]
    refine hQ _ _ _ (fed_of (F := F) (done := done) (rest := []) (br := true) wf0 hf hX (ch.trans (c.mono (fun g h => .inl h) fun g h => .inl h)) r2 (.inl ⟨rfl, rfl, rfl⟩) ?_ hF (by rw [hcut]; simp) (by rw [hcut]; rfl) (by rw [hcut]; rfl))
    exact (ho.ch c1 (fun g hg he => by omega) fun g hg he => by have := hF g hg; omega).ch c2 (fun g hg he => by omega) fun g hg he => by have := hF g hg; omega
  · simp only [q12_9, sx, reduceIte, Nat.reduceEqDiff, Nat.reduceAdd, fa45_0, ld0 hrd, hb'.len t22]
    refine byT_dec (fun h4 => ?_) (fun h4 => ?_)
    · have h4 : cur.length < 4 := by omega
      have hc := cut_stop hw (.inl h4)
      rw [hc] at hcut
      have e5 : errOf (cut all).2 = 0 := by rw [hcut]; rfl
      simp only [q12_11, sx, reduceIte, Nat.reduceEqDiff, Nat.reduceAdd]
      rw [← e5]
      exact hQ _ _ _ (fed_of wf0 hf hX ch hr hb ho hF (by rw [hcut]; simp) (by rw [hcut]; rfl) (by rw [hcut]; rfl))
    · have h4 : 4 ≤ cur.length := by omega
      obtain ⟨n1, n2⟩ := wrong_false hw h4
      refine (number hb' h4).mono ?_
      rintro _ h' ⟨rfl, rfl⟩
      have ha4 := add64 (a := 4) (b := num4 cur) (by omega)
      simp only [Int.cast_ofNat_Int] at ha4
      simp only [sx, reduceIte, Nat.reduceEqDiff, Nat.reduceAdd, ha4]
      refine byT_dec (fun h5 => ?_) (fun h5 => ?_)
      · have h5 : cur.length < 4 + num4 cur := by omega
        have hc := cut_stop hw (.inr h5)
        rw [hc] at hcut
        have e5 : errOf (cut all).2 = 0 := by rw [hcut]; rfl
        simp only [q12_11, sx, reduceIte, Nat.reduceEqDiff, Nat.reduceAdd]
        rw [← e5]
        exact hQ _ _ _ (fed_of wf0 hf hX ch hr hb ho hF (by rw [hcut]; simp) (by rw [hcut]; rfl) (by rw [hcut]; rfl))
      · have h5 : ¬ (cur.length < 4 ∨ cur.length < 4 + num4 cur) := by omega
        have hc := cut_go hw h5
        simp only [q12_12, sx, reduceIte, Nat.reduceEqDiff, Nat.reduceAdd, fa45_0, ld0 hrd]
        refine (number hb' h4).mono ?_
        rintro _ h' ⟨rfl, rfl⟩
        obtain ⟨p, p1, p2⟩ := hb'.at t22 c5 (i := 4) (by omega) (k := .i64)
        simp only [Int.cast_ofNat_Int] at p1
        obtain ⟨w, w1, w2⟩ := hb.slice (rd' := h'.read) t22 (lo := 5) (hi := 4 + num4 cur) (k := .i64) (k' := .i64) (by omega) (by omega)
        simp only [Int.cast_ofNat_Int] at w1
        simp only [sx, reduceIte, Nat.reduceEqDiff, Nat.reduceAdd, ha4, fa45_0, ld0 hrd, p1, p2, w1]
        refine (clone ch.wf (Nat.le_refl _) (w2.mono (rb_le _ _)) (by simp; omega)).mono ?_
        rintro v hA ⟨⟨F1, nb1, nb2⟩, cA⟩
        have cB := ch_alloc cA.wf [byteV cur[4], v]
        have hlo := (hr.lo ch.wf).1
        have hFA : ∀ g, F = some g → g < h'.next := fun g hg => BufOf.lt ch.wf ho hg
        have o1 := (ho.ch cA (fun _ _ h => h) fun _ _ h => h).ch cB (fun _ _ h => h) fun _ _ h => h
        have q1 : frOwn (hA.alloc [byteV cur[4], v]) lo (fun g => h0.next < g ∧ F ≠ some g) [byteV cur[4], v] (cur.getD 4 0, (cur.drop 5).take (4 + num4 cur - 5)) := by
          refine ⟨v, F1, ?_, (nb1.lower hlo).ch cB fun _ _ h => h, fun g hg => ?_⟩
          · have e4 : cur.getD 4 0 = cur[4] := by rw [List.getD_eq_getElem?_getD, List.getElem?_eq_getElem (by omega)]; rfl
            rw [e4]
          · have := nb2 g hg
            refine ⟨by omega, fun h => ?_⟩
            have := hFA g h
            omega
        obtain ⟨v2, hC, F2, e1, e2, e3, e4⟩ := append_one a26 cB.wf (Nat.le_trans hlo (Nat.le_trans cA.next cB.next)) o1 (elems_new (c := some 1) cA.wf (n := 1) (es := 2) rfl) rfl q1 (by show (scal (byteV cur[4]) && (scal v && true)) = true; rw [nb1.isSl.scal]; rfl) (by omega) (by omega)
        simp only [sx, reduceIte, Nat.reduceEqDiff, Nat.reduceAdd, build42 _ nb1.isSl, buildSlice_one b26 (v := .agg [byteV cur[4], v]) rfl, e1]
        have hfF : ∀ g, F = some g → ¬ g = f := fun g hg he => by have := hF g hg; omega
        have r1 := ((hr.ch cA fun h => h).ch cB fun h => h).ch e3 fun h => (hfF f h) rfl
        have b1 := ((hb.mono (cA.rb (None_sub _))).mono (cB.rb (None_sub _))).mono (e3.rb (None_sub _))
        have r1d := r1.read e3.wf
        obtain ⟨w3, x1, x2⟩ := b1.from (rd' := hC.read) t22 (lo := 4 + num4 cur) (k := .i64) (by omega)
        obtain ⟨hD, s1, r2, c2, _⟩ := r1.left e3.wf x2.isSl
        simp only [sx, reduceIte, Nat.reduceEqDiff, Nat.reduceAdd, fa45_0, ld0 r1d, x1, s1, q12_13]
        have cc := ((cA.mono (None_sub (fun g => g = f ∨ h0.next ≤ g)) (None_sub (fun g => g = f ∨ h0.next ≤ g))).trans (cB.mono (None_sub _) (None_sub _))).trans ((e3.mono (None_sub _) fun g hg => .inr (Nat.le_of_lt (hF g hg))).trans (c2.mono (fun g h => .inl h) fun g h => .inl h))
        have hF2 : ∀ g, F2 = some g → h0.next < g := fun g hg => by
          rcases e4 g hg with h | h
          · exact hF g h
          · have := cA.next; have := cB.next; omega
        refine ⟨_, ?_, ⟨done ++ [(cur.getD 4 0, (cur.drop 5).take (4 + num4 cur - 5))], cur.drop (4 + num4 cur), v2, F2, w3, rfl, rfl, ?_, r2, x2.mono (c2.rb fun g h => .inl (h ▸ hXf)), ?_, hF2, ?_⟩, ch.trans cc, ?_⟩
        · simp only [List.length_drop]; omega
        · rw [hcut, hc]; simp
        · have o2 : Out hC lo (fun g => h0.next < g ∧ F2 ≠ some g) v2 (done ++ [(cur.getD 4 0, (cur.drop 5).take (4 + num4 cur - 5))]) F2 := by
            refine BufOf.imp (fun c x he => ?_) e2
            have h1 := frOwn.ch e3 (G := fun g => (h0.next < g ∧ F ≠ some g) ∧ g < (hA.alloc [byteV cur[4], v]).next) (fun g hg h => hg.1.2 h) (frOwn.lt cB.wf he)
            refine h1.imp fun g hg => ⟨hg.1.1, fun h => ?_⟩
            rcases e4 g h with h2 | h2
            · exact hg.1.2 h2
            · omega
          exact o2.ch c2 (fun g hg he => by omega) fun g hg he => by have := hF2 g hg; omega
        · simp only [List.length_append, List.length_drop, List.length_cons, List.length_nil]; omega
        · have := cc.next; omega
theorem two_copies {z : List V} (hz : z.length = ls.length + bs.length) : (List.take (0 + ls.length * 1) (List.take 0 z ++ ls.map byteV ++ List.drop (0 + ls.length * 1) z) ++ bs.map byteV ++
      List.drop (0 + ls.length * 1 + bs.length * 1) (List.take 0 z ++ ls.map byteV ++ List.drop (0 + ls.length * 1) z)) = (ls ++ bs).map byteV := by
  have e1 : (List.take 0 z ++ ls.map byteV ++ List.drop (0 + ls.length * 1) z) = ls.map byteV ++ z.drop ls.length := by simp
  rw [e1, Nat.mul_one, Nat.mul_one, Nat.zero_add, List.take_left' (by simp), List.drop_of_length_le (by simp; omega)]
  simp
theorem feed2 (wf0 : HWF h0) {lv inp : V} (hr : Rdr h0 lo b f lv false) (hl' : Bytes h0.read lv ls) (hi' : Bytes h0.read inp bs) (hXf : X f) (hX : ∀ g, X g → g < h0.next) (hall : (ls ++ bs).length < 1000000000) :
    CW C 12 [.ptr b 0, inp] lo h0 (Fed h0 lo b f X (ls ++ bs)) := by
  refine enter12 rfl ?_
  have hrd := hr.read wf0
  have hl := hl'.mono (rb_none h0)
  have hi := hi'.mono (rb_none h0)
  have hlo := (hr.lo wf0).1
  have hf := (hr.lo wf0).2
  simp only [q12_0, sx, reduceIte, Nat.reduceEqDiff, Nat.reduceAdd]
  refine (right hrd).mono ?_
  rintro _ h' ⟨rfl, rfl⟩
  simp only [sx, reduceIte, Nat.reduceEqDiff, Nat.reduceAdd, Bool.not_true, q12_2, fa45_1, ld1 hrd, q12_4, fa45_0, ld0 hrd, hl'.len t22, hi'.len t22]
  have hsum : ls.length + bs.length < 1000000000 := by simpa using hall
  have h1 := add64 (a := ls.length) (b := bs.length) (by omega)
  have h2 := make_ok (k := .i64) (k' := .i64) (n := ls.length + bs.length) (m := ls.length + bs.length) m22 (Nat.le_refl _) (by omega) (by omega)
  have cA := ch_alloc wf0 (reps (ls.length + bs.length) [V.int .u8 0])
  have hz : (reps (ls.length + bs.length) [V.int .u8 0]).length = ls.length + bs.length := by rw [reps_one]; simp
  have rA := hr.ch cA fun h => h
  have lA := (hl.mono (rb_new wf0 None_)).mono (cA.rb (None_sub _))
  have iA := (hi.mono (rb_new wf0 None_)).mono (cA.rb (None_sub _))
  have hXn : ¬ X h'.next := fun h => by have := hX _ h; omega
  obtain ⟨hB, low1, k1, k2, k3, k4⟩ := copy_ok (u := 22) (c := some (ls.length + bs.length)) (n := ls.length + bs.length) (o := 0) cp22 cA.wf (owned_alloc_new hlo) (lA.mono (rb_le _ _)).elems (by simp) (bytes_scal ls) (by omega) (by rw [hz]; omega)
  have hZ : ∀ g, g = h'.next → None_ g ∨ h'.next ≤ g := fun g h => .inr (by omega)
  have rB := rA.ch k3 fun h => by omega
  have iB := iA.mono (k3.rb hZ)
  have hs := slice_from (P := Try.prog) (rd := hB.read) (b := h'.next) (o := 0) (n := ls.length + bs.length) (c := some (ls.length + bs.length)) (lo := ls.length) (k := .i64) t22 (by omega)
  obtain ⟨hC, low2, j1, j2, j3, j4⟩ := copy_ok (u := 22) (c := capSub (some (ls.length + bs.length)) ls.length) (n := ls.length + bs.length - ls.length) (o := 0 + ls.length * 1) cp22 k3.wf k2 (iB.mono (rb_le _ _)).elems (by simp) (bytes_scal bs) (by omega) (by simp [hz])
  have rC := rB.ch j3 fun h => by omega
  obtain ⟨hD, s1, rD, c2, n2⟩ := rC.left j3.wf (w := .sl h'.next 0 (ls.length + bs.length) (some (ls.length + bs.length)) 1) (.inr ⟨_, _, _, _, _, rfl⟩)
  simp only [sx, reduceIte, Nat.reduceEqDiff, Nat.reduceAdd, h1, h2, fa45_0, ld0 (rA.read cA.wf), k1, hs, j1, ld0 (rC.read j3.wf), s1, q12_5]
  have hcells : (List.take (0 + ls.length * 1) (List.take 0 (reps (ls.length + bs.length) [V.int .u8 0]) ++ ls.map byteV ++ List.drop (0 + ls.length * 1) (reps (ls.length + bs.length) [V.int .u8 0])) ++ bs.map byteV ++
      List.drop (0 + ls.length * 1 + bs.length * 1) (List.take 0 (reps (ls.length + bs.length) [V.int .u8 0]) ++ ls.map byteV ++ List.drop (0 + ls.length * 1) (reps (ls.length + bs.length) [V.int .u8 0]))) = (ls ++ bs).map byteV := two_copies (by simpa using hz)
  rw [hcells] at j2
  have cc : Ch (fun g => g = f ∨ h'.next ≤ g) (fun g => g = f ∨ h'.next ≤ g) h' hD :=
    ((cA.mono (None_sub _) (None_sub _)).trans (k3.mono (fun g h => .inr (by omega)) fun g h => .inr (by omega))).trans ((j3.mono (fun g h => .inr (by omega)) fun g h => .inr (by omega)).trans (c2.mono (fun g h => .inl h) fun g h => .inl h))
  have hnx : h'.next < hD.next := by
    have e1 : (h'.alloc (reps (ls.length + bs.length) [V.int .u8 0])).next = h'.next + 1 := rfl
    omega
  have oD := c2.own _ _ _ _ _ j2 (by omega)
  have bD : Bytes (hD.rb fun g => X g ∨ h'.next < g) (.sl h'.next 0 (ls.length + bs.length) (some (ls.length + bs.length)) 1) (ls ++ bs) := by
    have h5 := rb_owned (X := fun g => X g ∨ h'.next < g) c2.wf oD (fun h => h.elim hXn fun h => by omega)
    exact .inr ⟨h'.next, 0, some (ls.length + bs.length), (ls ++ bs).map byteV, by simp, h5, by simp, by rw [List.drop_zero, Nat.mul_one, List.take_of_length_le (by simp)]⟩
  refine rounds (Inv h' lo b f X (ls ++ bs)) (fun m e h inv => feed_round wf0 hf hX hXf hall ?_ inv) (ls ++ bs).length ⟨⟨[], ls ++ bs, .nils, none, _, rfl, rfl, rfl, rD, bD, BufOf.nil, fun g hg => (by cases hg), by simp⟩, cc, hnx⟩
  intro fv e h hfed
  simp only [sx, reduceIte, Nat.reduceEqDiff, Nat.reduceAdd, e12_rt]
  exact hfed
theorem feed (wf0 : HWF h0) {lv inp : V} (hr : Rdr h0 lo b f lv false) (hl : Bytes (h0.rb X) lv ls) (hi : Bytes (h0.rb X) inp bs) (hXf : X f) (hX : ∀ g, X g → g < h0.next) (hall : (ls ++ bs).length < 1000000000) :
    CW C 12 [.ptr b 0, inp] lo h0 (Fed h0 lo b f X (ls ++ bs)) := feed2 wf0 hr (hl.mono (rb_le _ _)) (hi.mono (rb_le _ _)) hXf hX hall
end
end Go.Proofs.Ytghmbmblhdgabaa
