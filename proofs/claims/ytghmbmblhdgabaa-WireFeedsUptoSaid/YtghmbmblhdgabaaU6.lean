/- The law 'WireChunks' on the machine. -/
import Derived.Test.YtghmbmblhdgabaaU5
set_option linter.all false
namespace Go.Proofs.Ytghmbmblhdgabaa
open Go Go.Den Code
set_option maxRecDepth 100000
theorem aw15 {lo : Nat} {h : H} {K : V → H → Prop} (hk : K (.bool true) h) : CW C 15 [] lo h K := short_CW rfl hk
theorem Fed.out {h h' : H} {lo b f : Nat} {X : Nat → Prop} {all : List UInt8} {v : V} (hX : ∀ g, X g → g < h.next) (hf : Fed h lo b f X all v h') : ∃ fv lv, v = .tup [fv, .int .i64 (errOf (cut all).2)] ∧ Frames (h'.rb X) fv (cut all).1 ∧
    Rdr h' lo b f lv (cut all).2.isNone ∧ Bytes (h'.rb X) lv ((cut all).2.getD []) ∧ Ch (· = f) (· = f) h h' := by
  obtain ⟨fv, lv, G, h1, h2, h3, h4, h5, h6⟩ := hf
  refine ⟨fv, lv, h1, ?_, h4, h5.mono (rb_mono fun g hg => .inl hg), h6⟩
  obtain ⟨cs, q1, q2, q3⟩ := h3
  refine ⟨cs, q1, q2.mono (rb_mono fun g hg => .inl hg), q3.mono fun c x hc => hc.toE h6.wf fun g hg hx => ?_⟩
  have := h2 g hg
  have := hX g hx
  omega
/-- whole numbers -/
def intE (_ : Rd) (c : List V) (x : Int) : Prop := c = [.int .i64 x] ∧ -9223372036854775808 ≤ x ∧ x ≤ 9223372036854775807
theorem intE_mono : Mono intE := fun _ _ _ _ _ h => h
abbrev Ints (rd : Rd) (v : V) (xs : List Int) : Prop := SlOf intE 1 rd v xs
theorem s23 : SlT Try.prog 23 3 1 := ⟨Try.underlying23, by kernel_rfl⟩
theorem c3 : Sc Try.prog 3 := ⟨by kernel_rfl, by kernel_rfl⟩
theorem frE_scal {rd : Rd} (c : List V) (f : Fm) (hf : frE rd c f) : c.all scal = true := by
  obtain ⟨w, rfl, h⟩ := hf
  show (scal (byteV f.1) && (scal w && true)) = true
  rw [Sl.isSl h |>.scal]
  rfl
section
variable {lo ba fa bc fc : Nat} {bv cv fv : V} {b : List UInt8} {cuts : List Int}
/-- what is known between the rounds -/
structure Mid (lo ba fa bc fc : Nat) (bv cv fv : V) (b : List UInt8) (cuts : List Int) (h : H) (p : Nat) (got : V) (F : Option Nat) (lvA lvC : V) : Prop where
  wf : HWF h
  lw : lo ≤ h.next
  ne : fa ≠ fc
  lta : fa < h.next
  ltc : fc < h.next
  kb : Bytes (h.rb fun g => g = fa ∨ g = fc) bv b
  kc : Ints (h.rb fun g => g = fa ∨ g = fc) cv cuts
  kf : Frames (h.rb fun g => g = fa ∨ g = fc) fv (cut b).1
  ra : Rdr h lo ba fa lvA (cut b).2.isNone
  la : Bytes (h.rb fun g => g = fa ∨ g = fc) lvA ((cut b).2.getD [])
  rc : Rdr h lo bc fc lvC (cut (b.take p)).2.isNone
  lc : Bytes (h.rb fun g => g = fa ∨ g = fc) lvC ((cut (b.take p)).2.getD [])
  kg : BufOf frE 2 lo h (h.rb fun g => g = fa ∨ g = fc) got (cut (b.take p)).1 F
  kF : ∀ g, F = some g → ¬ (g = fa ∨ g = fc)
theorem Mid.ch {h h' : H} {p : Nat} {got : V} {F : Option Nat} {lvA lvC : V} (M : Mid lo ba fa bc fc bv cv fv b cuts h p got F lvA lvC) (a : Ch None_ None_ h h') : Mid lo ba fa bc fc bv cv fv b cuts h' p got F lvA lvC where
  wf := a.wf
  lw := Nat.le_trans M.lw a.next
  ne := M.ne
  lta := Nat.lt_of_lt_of_le M.lta a.next
  ltc := Nat.lt_of_lt_of_le M.ltc a.next
  kb := M.kb.mono (a.rb (None_sub _))
  kc := M.kc.mono intE_mono (a.rb (None_sub _))
  kf := M.kf.mono frE_mono (a.rb (None_sub _))
  ra := M.ra.ch a fun h => h
  la := M.la.mono (a.rb (None_sub _))
  rc := M.rc.ch a fun h => h
  lc := M.lc.mono (a.rb (None_sub _))
  kg := M.kg.ch frE_mono a (a.rb (None_sub _)) fun _ _ h => h
  kF := M.kF
def envOf (bv cv fv : V) (ba bc : Nat) (b : List UInt8) (p i : Nat) (got : V) : E :=
  [(0, bv), (1, cv), (5, .ptr ba 0), (6, .ptr bc 0), (7, fv), (8, .int .i64 (errOf (cut b).2)), (9, got), (10, .int .i64 (errOf (cut (b.take p)).2)), (11, .int .i64 (p : Int)), (12, .int .i64 (i : Int))]
/-- a chunk is fed -/
theorem chunk_step (hb : b.length ≤ 1048576) {h : H} {p q : Nat} {got : V} {F : Option Nat} {lvA lvC : V} (M : Mid lo ba fa bc fc bv cv fv b cuts h p got F lvA lvC) (hpq : p ≤ q) (hq : q ≤ b.length) {Q : XQ} {e : E} {i : Nat}
    (h0 : E.get e 0 = bv) (h1 : E.get e 1 = cv) (h5 : E.get e 5 = .ptr ba 0) (h6 : E.get e 6 = .ptr bc 0) (h7 : E.get e 7 = fv) (h8 : E.get e 8 = .int .i64 (errOf (cut b).2)) (h9 : E.get e 9 = got)
    (h10 : E.get e 10 = .int .i64 (errOf (cut (b.take p)).2)) (h11 : E.get e 11 = .int .i64 (p : Int)) (h12 : E.get e 12 = .int .i64 (i : Int)) (h13 : E.get e 13 = .int .i64 (q : Int))
    (hQ : ∀ h' got' F' lvC' x, Mid lo ba fa bc fc bv cv fv b cuts h' q got' F' lvA lvC' → Q .nx ((11, .int .i64 (q : Int)) :: [(0, bv), (1, cv), (5, .ptr ba 0), (6, .ptr bc 0), (7, fv), (8, .int .i64 (errOf (cut b).2)), (9, got'), (10, .int .i64 (errOf (cut (b.take q)).2)), (12, .int .i64 (i : Int)), (13, x)]) h') :
    XW C lo x3_10 Q e h := by
  obtain ⟨w, w1, w2⟩ := M.kb.slice (rd' := h.read) t22 (lo := p) (hi := q) (k := .i64) (k' := .i64) hpq hq
  have hX : ∀ g, g = fa ∨ g = fc → g < h.next := fun g hg => by have := M.lta; have := M.ltc; rcases hg with rfl | rfl <;> omega
  simp only [q3_10, sx, reduceIte, Nat.reduceEqDiff, Nat.reduceAdd, h0, h1, h5, h6, h7, h8, h9, h10, h11, h12, h13, w1]
  refine (copyBytes M.wf M.lw (w2.mono (rb_le _ _)) (by simp; omega)).mono ?_
  rintro v1 h1' ⟨⟨F1, nb1, nb2⟩, cA⟩
  have M1 := M.ch cA
  have hX1 : ∀ g, g = fa ∨ g = fc → g < h1'.next := fun g hg => Nat.lt_of_lt_of_le (hX g hg) cA.next
  have b1 : Bytes (h1'.rb fun g => g = fa ∨ g = fc) v1 ((b.drop p).take (q - p)) := nb1.bytes M1.wf fun g hg hx => by have := nb2 g hg; have := hX g hx; omega
  have etake : b.take q = b.take p ++ (b.drop p).take (q - p) := by
    rw [← List.take_add]; congr 1; omega
  have eapp := cut_app ((b.drop p).take (q - p)) _ (b.take p) rfl
  rw [← etake] at eapp
  have key : CW C 12 [.ptr bc 0, v1] lo h1' fun v h2 => ∃ fv2 fs2 lv2, v = .tup [fv2, .int .i64 (errOf (cut (b.take q)).2)] ∧ Frames (h2.rb fun g => g = fa ∨ g = fc) fv2 fs2 ∧ (cut (b.take q)).1 = (cut (b.take p)).1 ++ fs2 ∧
      Rdr h2 lo bc fc lv2 (cut (b.take q)).2.isNone ∧ Bytes (h2.rb fun g => g = fa ∨ g = fc) lv2 ((cut (b.take q)).2.getD []) ∧ Ch (· = fc) (· = fc) h1' h2 ∧ ((cut (b.take p)).2.isNone = true → (cut (b.take q)).2.isNone = true) := by
    cases hc : (cut (b.take p)).2 with
    | none =>
      rw [hc] at eapp
      have r1 := M1.rc
      have l1 := M1.lc
      rw [hc] at r1 l1
      refine (feedBroken (r1.read M1.wf)).mono ?_
      rintro _ h2 ⟨rfl, rfl⟩
      rw [eapp]
      exact ⟨.nils, [], lvC, rfl, ⟨[], fun c hc => (by cases hc), .inl ⟨rfl, rfl, rfl⟩, Each.nil _⟩, by simp, r1, l1, Ch.refl _ _ M1.wf, fun _ => rfl⟩
    | some r =>
      rw [hc] at eapp
      have r1 := M1.rc
      have l1 := M1.lc
      rw [hc] at r1 l1
      have hr := cut_rest _ _ _ rfl hc
      simp only [List.length_take] at hr
      refine (feed M1.wf r1 l1 b1 (.inr rfl) hX1 (by simp; omega)).mono ?_
      intro v h2 hf
      obtain ⟨fv2, lv2, e1, e2, e3, e4, e5⟩ := hf.out hX1
      rw [eapp]
      exact ⟨fv2, _, lv2, e1, e2, rfl, e3, e4, e5, fun h => by cases h⟩
  refine key.mono ?_
  rintro _ h2 ⟨fv2, fs2, lv2, rfl, e2, e3, e4, e5, e6, e7⟩
  have hfc : ∀ g, g = fc → g = fa ∨ g = fc := fun g h => .inr h
  have g2 := M1.kg.ch frE_mono e6 (e6.rb hfc) fun g hg h => M1.kF g hg (.inr h)
  have n1 := cut_count _ (b.take q) rfl
  rw [e3] at n1
  have n1 := n1.1
  simp only [List.length_append, List.length_take] at n1
  have hlo2 := Nat.le_trans M1.lw e6.next
  obtain ⟨v2, h3, F2, x1, x2, x3, x4⟩ := append_sl a26 e6.wf hlo2 g2 e2 (rb_le _ _) frE_scal (by omega) (by omega)
  have M3 : Mid lo ba fa bc fc bv cv fv b cuts h3 q v2 F2 lvA lv2 := {
    wf := x3.wf
    lw := Nat.le_trans hlo2 x3.next
    ne := M.ne
    lta := Nat.lt_of_lt_of_le M1.lta (Nat.le_trans e6.next x3.next)
    ltc := Nat.lt_of_lt_of_le M1.ltc (Nat.le_trans e6.next x3.next)
    kb := (M1.kb.mono (e6.rb hfc)).mono (x3.rb (None_sub _))
    kc := (M1.kc.mono intE_mono (e6.rb hfc)).mono intE_mono (x3.rb (None_sub _))
    kf := (M1.kf.mono frE_mono (e6.rb hfc)).mono frE_mono (x3.rb (None_sub _))
    ra := (M1.ra.ch e6 M.ne).ch x3 fun h => M1.kF _ h (.inl rfl)
    la := (M1.la.mono (e6.rb hfc)).mono (x3.rb (None_sub _))
    rc := e4.ch x3 fun h => M1.kF _ h (.inr rfl)
    lc := e5.mono (x3.rb (None_sub _))
    kg := by rw [e3]; exact x2.imp fun c x he => frE_mono _ _ c x (x3.rb (None_sub _)) he
    kF := fun g hg hx => by
      rcases x4 g hg with h | h
      · exact M1.kF g h hx
      · have := hX1 g hx
        have := e6.next
        omega }
  simp only [sx, reduceIte, Nat.reduceEqDiff, Nat.reduceAdd, x1]
  refine byT_mk (fun hne => ?_) (fun he => ?_)
  · simp only [q3_11, q3_12, sx, reduceIte, Nat.reduceEqDiff, Nat.reduceAdd]
    exact hQ h3 v2 F2 lv2 _ M3
  · have h0' : errOf (cut (b.take q)).2 = 0 := by simpa using he
    have e8 : errOf (cut (b.take p)).2 = errOf (cut (b.take q)).2 := by
      rw [h0']
      cases hc : (cut (b.take p)).2 with
      | some r => rfl
      | none =>
        have := e7 (by rw [hc]; rfl)
        cases hd : (cut (b.take q)).2 with
        | some r => rw [hd] at this; cases this
        | none => rw [hd] at h0'; cases h0'
    simp only [q3_12, sx, reduceIte, Nat.reduceEqDiff, Nat.reduceAdd, e8]
    exact hQ h3 v2 F2 lv2 _ M3
end
end Go.Proofs.Ytghmbmblhdgabaa
