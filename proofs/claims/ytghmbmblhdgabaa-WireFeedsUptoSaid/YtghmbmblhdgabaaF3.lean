/- The law 'WireFeeds' on the machine: what is written over, what Feed leaves. -/
import Derived.Test.YtghmbmblhdgabaaF2
set_option linter.all false
namespace Go.Proofs.Ytghmbmblhdgabaa
open Go Go.Den Code
set_option maxRecDepth 100000
theorem addrB {b n : Nat} {c : Option Nat} {i : Nat} (hi : i < n) : addrV Try.prog 22 (.sl b 0 n c 1) (.int .i64 (i : Int)) = some (.ptr b i) := by
  unfold addrV
  simp only [t22.u]
  rw [if_pos (by omega), if_pos t22.s]
  simp
/-- a frame whose body may be written -/
def frW (h : H) (lo : Nat) (G : Nat → Prop) (c : List V) (f : Fm) : Prop := ∃ kv w F cs, c = [kv, w] ∧ Buf h lo 1 w f.2.length cs F ∧ ∀ g, F = some g → G g
theorem frOwn.toW {h : H} {lo : Nat} {G : Nat → Prop} {c : List V} {f : Fm} (hf : frOwn h lo G c f) : frW h lo G c f := by
  obtain ⟨w, F, h1, h2, h3⟩ := hf
  exact ⟨byteV f.1, w, F, f.2.map byteV, h1, h2, h3⟩
theorem frW.ch {h h' : H} {lo : Nat} {G X Y : Nat → Prop} {c : List V} {f : Fm} (a : Ch X Y h h') (hg : ∀ g, G g → ¬ Y g) (hf : frW h lo G c f) : frW h' lo G c f := by
  obtain ⟨kv, w, F, cs, h1, h2, h3⟩ := hf
  exact ⟨kv, w, F, cs, h1, h2.ch a fun g hF => hg g (h3 g hF), h3⟩
theorem body_write {h : H} {lo : Nat} {G : Nat → Prop} {w : V} {n j : Nat} {cs : List V} {F : Option Nat} (wf : HWF h) (hb : Buf h lo 1 w n cs F) (hG : ∀ g, F = some g → G g) (hj : j < n) :
    ∃ p h', addrV Try.prog 22 w (.int .i64 (j : Int)) = some p ∧ storeV Try.prog lo 5 p (.int .u8 1) h = some h' ∧ Ch G G h h' ∧ ∀ c f, frW h lo G c f → frW h' lo G c f := by
  rcases hb with ⟨_, h2, _⟩ | ⟨b, c, f, low, rfl, ho, hl, rfl⟩
  · omega
  · have hG' := hG f rfl
    refine ⟨.ptr b j, _, addrB hj, store_cell c5.s ho rfl rfl (by omega), (ch_put wf ho).mono (fun g h => h ▸ hG') (fun g h => h ▸ hG'), ?_⟩
    rintro c' f' ⟨kv, w', F', cs', rfl, hb', hG2⟩
    rcases hb' with h1 | ⟨b', c2, f2, low2, rfl, ho', hl', rfl⟩
    · exact ⟨kv, w', F', cs', rfl, .inl h1, hG2⟩
    · by_cases hff : f2 = f
      · subst hff
        obtain ⟨g1, g2, _⟩ := owned_some ho
        obtain ⟨g3, g4, _⟩ := owned_some ho'
        rw [g2] at g4
        cases g4
        rw [ho] at ho'
        cases ho'
        exact ⟨kv, _, some f2, _, rfl, .inr ⟨b, c2, f2, b, rfl, owned_put_same ho, by simp; omega, rfl⟩, hG2⟩
      · exact ⟨kv, _, some f2, cs', rfl, .inr ⟨b', c2, f2, low2, rfl, (ch_put wf ho).own _ _ _ _ _ ho' hff, hl', rfl⟩, hG2⟩
section
variable {lo : Nat} {hB h : H} {G XG : Nat → Prop} {fv a0 a1 a5 a6 a7 a8 : V} {fs : List Fm}
abbrev FrsW (h : H) (lo : Nat) (G XG : Nat → Prop) (fv : V) (fs : List Fm) : Prop := SlOf (fun _ => frW h lo G) 2 (h.rb XG) fv fs
theorem FrsW.ch {h' : H} {X : Nat → Prop} (hs : FrsW h lo G XG fv fs) (a : Ch X X h h') (hX : ∀ g, X g → XG g) (hf : ∀ c f, frW h lo G c f → frW h' lo G c f) : FrsW h' lo G XG fv fs :=
  (SlOf.mono (Er := fun _ => frW h lo G) (fun _ _ _ _ _ h => h) (a.rb hX) hs).imp hf
theorem body_loop (hGX : ∀ g, G g → XG g) {k : Nat} {f : Fm} (hk : fs[k]? = some f) (hfl : f.2.length ≤ 1000000000) (hs : FrsW h lo G XG fv fs) (wf : HWF h) {Q : XQ} {e : E}
    (g0 : E.get e 0 = a0) (g1 : E.get e 1 = a1) (g5 : E.get e 5 = a5) (g6 : E.get e 6 = a6) (g7 : E.get e 7 = a7) (g8 : E.get e 8 = a8) (g11 : E.get e 11 = fv) (g17 : E.get e 17 = .int .i64 (k : Int))
    (hQ : ∀ h', Ch G G h h' → FrsW h' lo G XG fv fs → Q .nx [(0, a0), (1, a1), (5, a5), (6, a6), (7, a7), (8, a8), (11, fv), (17, .int .i64 (k : Int))] h') : XW C lo x4_30 Q e h := by
  simp only [q4_30, q4_31, sx, reduceIte, Nat.reduceEqDiff, Nat.reduceAdd]
  refine rounds (fun m e' h' => ∃ j : Nat, e' = [(0, a0), (1, a1), (5, a5), (6, a6), (7, a7), (8, a8), (11, fv), (17, .int .i64 (k : Int)), (18, .int .i64 (j : Int))] ∧ j ≤ f.2.length ∧ m = f.2.length - j ∧ Ch G G h h' ∧ FrsW h' lo G XG fv fs) ?_ f.2.length
    ⟨0, by simp only [sx, reduceIte, Nat.reduceEqDiff, Nat.reduceAdd, g0, g1, g5, g6, g7, g8, g11, g17]; rfl, Nat.zero_le _, rfl, Ch.refl _ _ wf, hs⟩
  rintro m e' h' ⟨j, rfl, hj, rfl, ch, hs'⟩
  obtain ⟨b, o, c, p1, p2, p3, kv, w, F, cs, rfl, hb, hG⟩ := SlOf.at s26 hs' hk .i64
  have l22 : loadV Try.prog 22 (.ptr b (o + 1)) h'.read = some w := (p2.mono (rb_le _ _)).cell c22 rfl
  have hlen : lenV Try.prog [22] w = some (.int .i64 (f.2.length : Int)) := (Buf.sl ch.wf hb).lenV t22
  simp only [q4_32, sx, reduceIte, Nat.reduceEqDiff, Nat.reduceAdd, p1, fa42_1, l22, hlen]
  refine byT_dec (fun hlt => ?_) (fun hge => ?_)
  · have hlt : j < f.2.length := by omega
    obtain ⟨p, h2, x1, x2, x3, x4⟩ := body_write ch.wf hb hG hlt
    have e5 := add64 (a := j) (b := 1) (by omega)
    simp only [Int.cast_ofNat_Int] at e5
    simp only [q4_33, q4_34, sx, reduceIte, Nat.reduceEqDiff, Nat.reduceAdd, p1, fa42_1, l22, x1, x2, q4_35, e5]
    exact ⟨f.2.length - (j + 1), by omega, j + 1, rfl, by omega, rfl, ch.trans x3, hs'.ch x3 hGX x4⟩
  · simp only [sx, reduceIte, Nat.reduceEqDiff, Nat.reduceAdd, q4_36]
    exact hQ h' ch hs'
theorem bodies_loop (hGX : ∀ g, G g → XG g) (hfl : fs.length ≤ 1000000000) (hfb : ∀ f ∈ fs, f.2.length ≤ 1000000000) (hs : FrsW h lo G XG fv fs) (wf : HWF h) {Q : XQ} {e : E}
    (g0 : E.get e 0 = a0) (g1 : E.get e 1 = a1) (g5 : E.get e 5 = a5) (g6 : E.get e 6 = a6) (g7 : E.get e 7 = a7) (g8 : E.get e 8 = a8) (g11 : E.get e 11 = fv)
    (hQ : ∀ h', Ch G G h h' → Q .nx [(0, a0), (1, a1), (5, a5), (6, a6), (7, a7), (8, a8)] h') : XW C lo x4_26 Q e h := by
  simp only [q4_26, q4_27, sx, reduceIte, Nat.reduceEqDiff, Nat.reduceAdd]
  refine rounds (fun m e' h' => ∃ k : Nat, e' = [(0, a0), (1, a1), (5, a5), (6, a6), (7, a7), (8, a8), (11, fv), (17, .int .i64 (k : Int))] ∧ k ≤ fs.length ∧ m = fs.length - k ∧ Ch G G h h' ∧ FrsW h' lo G XG fv fs) ?_ fs.length
    ⟨0, by simp only [sx, reduceIte, Nat.reduceEqDiff, Nat.reduceAdd, g0, g1, g5, g6, g7, g8, g11]; rfl, Nat.zero_le _, rfl, Ch.refl _ _ wf, hs⟩
  rintro m e' h' ⟨k, rfl, hk, rfl, ch, hs'⟩
  simp only [q4_28, sx, reduceIte, Nat.reduceEqDiff, Nat.reduceAdd, SlOf.len s26 hs']
  refine byT_dec (fun hlt => ?_) (fun hge => ?_)
  · have hlt : k < fs.length := by omega
    have e5 := add64 (a := k) (b := 1) (by omega)
    simp only [Int.cast_ofNat_Int] at e5
    simp only [q4_29]
    refine body_loop hGX (List.getElem?_eq_getElem hlt) (hfb _ (List.getElem_mem hlt)) hs' ch.wf (a0 := a0) (a1 := a1) (a5 := a5) (a6 := a6) (a7 := a7) (a8 := a8) (by simp only [sx, reduceIte, Nat.reduceEqDiff, Nat.reduceAdd]) (by simp only [sx, reduceIte, Nat.reduceEqDiff, Nat.reduceAdd]) (by simp only [sx, reduceIte, Nat.reduceEqDiff, Nat.reduceAdd]) (by simp only [sx, reduceIte, Nat.reduceEqDiff, Nat.reduceAdd]) (by simp only [sx, reduceIte, Nat.reduceEqDiff, Nat.reduceAdd]) (by simp only [sx, reduceIte, Nat.reduceEqDiff, Nat.reduceAdd]) (by simp only [sx, reduceIte, Nat.reduceEqDiff, Nat.reduceAdd]) (by simp only [sx, reduceIte, Nat.reduceEqDiff, Nat.reduceAdd]) fun h2 c2 s2 => ?_
    simp only [sx, reduceIte, Nat.reduceEqDiff, Nat.reduceAdd, q4_37, e5]
    exact ⟨fs.length - (k + 1), by omega, k + 1, rfl, by omega, rfl, ch.trans c2, s2⟩
  · simp only [sx, reduceIte, Nat.reduceEqDiff, Nat.reduceAdd, q4_38]
    exact hQ h' ch
/-- what was lent is written over -/
theorem lent_loop {inv a11 a12 : V} {fin : Nat} {xs : List UInt8} (hl : Lent h lo inv fin xs) (wf : HWF h) (hx : xs.length ≤ 1048576) {Q : XQ} {e : E}
    (g0 : E.get e 0 = a0) (g1 : E.get e 1 = a1) (g5 : E.get e 5 = a5) (g6 : E.get e 6 = a6) (g7 : E.get e 7 = a7) (g8 : E.get e 8 = a8) (g9 : E.get e 9 = inv) (g11 : E.get e 11 = a11) (g12 : E.get e 12 = a12)
    (hQ : ∀ e' h', Ch (· = fin) (· = fin) h h' → E.get e' 0 = a0 → E.get e' 1 = a1 → E.get e' 5 = a5 → E.get e' 6 = a6 → E.get e' 7 = a7 → E.get e' 8 = a8 → E.get e' 11 = a11 → E.get e' 12 = a12 → XW C lo x4_19 Q e' h') : XW C lo x4_13 Q e h := by
  obtain ⟨b, c, rfl, hc, o⟩ := hl
  have hlen : lenV Try.prog [22] (.sl b 0 xs.length c 1) = some (.int .i64 (xs.length : Int)) := by simp [lenV, t22.u]
  simp only [q4_13, q4_14, sx, reduceIte, Nat.reduceEqDiff, Nat.reduceAdd]
  refine rounds (fun m e' h' => ∃ (k : Nat) (cs : List V), e' = [(0, a0), (1, a1), (5, a5), (6, a6), (7, a7), (8, a8), (9, .sl b 0 xs.length c 1), (11, a11), (12, a12), (13, .int .i64 (k : Int))] ∧ k ≤ xs.length ∧ m = xs.length - k ∧ Ch (· = fin) (· = fin) h h' ∧ Own h' lo b fin cs ∧ cs.length = xs.length + 2) ?_ xs.length
    ⟨0, _, by simp only [sx, reduceIte, Nat.reduceEqDiff, Nat.reduceAdd, g0, g1, g5, g6, g7, g8, g9, g11, g12]; rfl, Nat.zero_le _, rfl, Ch.refl _ _ wf, o, by simp⟩
  rintro m e' h' ⟨k, cs, rfl, hk, rfl, ch, o', hcs⟩
  simp only [q4_15, sx, reduceIte, Nat.reduceEqDiff, Nat.reduceAdd, hlen]
  refine byT_dec (fun hlt => ?_) (fun hge => ?_)
  · have hlt : k < xs.length := by omega
    obtain ⟨h2, s2, o2, c2, n2⟩ := o'.set (P := Try.prog) (t := 5) (o := k) (w := .int .u8 255) ch.wf c5.s rfl rfl (by omega)
    have e5 := add64 (a := k) (b := 1) (by omega)
    simp only [Int.cast_ofNat_Int] at e5
    simp only [q4_16, q4_17, sx, reduceIte, Nat.reduceEqDiff, Nat.reduceAdd, addrB hlt, s2, q4_18, e5]
    exact ⟨xs.length - (k + 1), by omega, k + 1, _, rfl, by omega, rfl, ch.trans c2, o2, by simp; omega⟩
  · exact hQ _ h' ch (by simp only [sx, reduceIte, Nat.reduceEqDiff, Nat.reduceAdd]) (by simp only [sx, reduceIte, Nat.reduceEqDiff, Nat.reduceAdd]) (by simp only [sx, reduceIte, Nat.reduceEqDiff, Nat.reduceAdd]) (by simp only [sx, reduceIte, Nat.reduceEqDiff, Nat.reduceAdd]) (by simp only [sx, reduceIte, Nat.reduceEqDiff, Nat.reduceAdd]) (by simp only [sx, reduceIte, Nat.reduceEqDiff, Nat.reduceAdd]) (by simp only [sx, reduceIte, Nat.reduceEqDiff, Nat.reduceAdd]) (by simp only [sx, reduceIte, Nat.reduceEqDiff, Nat.reduceAdd])
end
theorem cut_short : ∀ (n : Nat) (u r : List UInt8), u.length = n → (cut u).2 = some r → r.length ≤ 8196 := by
  intro n
  induction n using Nat.strongRecOn with
  | _ n ih =>
    intro u r hu hr
    cases hw : wrongB u with
    | true => rw [cut_none hw] at hr; cases hr
    | false =>
      by_cases hl : u.length < 4 ∨ u.length < 4 + num4 u
      · rw [cut_stop hw hl] at hr
        cases hr
        rcases hl with h | h
        · omega
        · by_cases h4 : 4 ≤ u.length
          · have := (wrong_false hw h4).2
            omega
          · omega
      · rw [cut_go hw hl] at hr
        exact ih (u.drop (4 + num4 u)).length (by simp; omega) _ _ rfl hr
/-- a reader takes bytes, whatever it is -/
def stepO (o : Option (List UInt8)) (bs : List UInt8) : List Fm × Option (List UInt8) := match o with
  | none => ([], none)
  | some ls => cut (ls ++ bs)
theorem feedAny {h : H} {lo b fin : Nat} {lv inp : V} {o : Option (List UInt8)} {bs : List UInt8} (wf : HWF h) (hr : Rdr h lo b b lv o.isNone) (hl : Bytes (h.rb fun g => g = b ∨ g = fin) lv (o.getD [])) (hi : Bytes h.read inp bs) (hfin : fin < h.next)
    (hol : (o.getD []).length ≤ 8196) (hbl : bs.length ≤ 1048576) :
    CW C 12 [.ptr b 0, inp] lo h fun v h' => ∃ fv lv' G, v = .tup [fv, .int .i64 (errOf (stepO o bs).2)] ∧ (∀ g, G g → h.next ≤ g ∧ g < h'.next) ∧ SlOf (fun _ => frOwn h' lo G) 2 (h'.rb fun g => (g = b ∨ g = fin) ∨ G g) fv (stepO o bs).1 ∧
      Rdr h' lo b b lv' (stepO o bs).2.isNone ∧ Bytes (h'.rb fun g => (g = b ∨ g = fin) ∨ G g) lv' ((stepO o bs).2.getD []) ∧ Ch (· = b) (· = b) h h' := by
  cases o with
  | none =>
    refine (feedBroken (hr.read wf)).mono ?_
    rintro _ h' ⟨rfl, rfl⟩
    refine ⟨.nils, lv, fun _ => False, rfl, fun _ h => h.elim, ⟨[], fun _ h => (by cases h), .inl ⟨rfl, rfl, rfl⟩, Each.nil _⟩, hr, hl.mono (rb_mono fun g hg => hg.elim id fun h => h.elim), Ch.refl _ _ wf⟩
  | some ls =>
    have hb := (hr.lo wf).2
    have hol' : ls.length ≤ 8196 := hol
    refine (feed2 (X := fun g => g = b ∨ g = fin) wf hr (hl.mono (rb_le _ _)) hi (.inl rfl) (fun g hg => by rcases hg with rfl | rfl <;> omega) (by simp; omega)).mono ?_
    rintro v h' ⟨fv, lv', G, h1, h2, h3, h4, h5, h6⟩
    refine ⟨fv, lv', fun g => G g ∧ g < h'.next, h1, fun g hg => ⟨h2 g hg.1, hg.2⟩, ?_, h4, h5.mono (rb_mono fun g hg => hg.imp id fun h => h.1), h6⟩
    exact (SlOf.mono (Er := fun _ => frOwn h' lo G) (fun _ _ _ _ _ h => h) (rb_mono fun g hg => hg.imp id fun h => h.1) h3).imp fun c f hf => frOwn.lt h6.wf hf
end Go.Proofs.Ytghmbmblhdgabaa
