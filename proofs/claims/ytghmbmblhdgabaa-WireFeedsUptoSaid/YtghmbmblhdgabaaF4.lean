/- The law 'WireFeeds' on the machine. -/
import Derived.Test.YtghmbmblhdgabaaF3
set_option linter.all false
namespace Go.Proofs.Ytghmbmblhdgabaa
open Go Go.Den Code
set_option maxRecDepth 100000
def bsE (rd : Rd) (c : List V) (x : List UInt8) : Prop := ∃ w, c = [w] ∧ Bytes rd w x
theorem bsE_mono : Mono bsE := fun _ _ _ _ hl ⟨w, h1, h2⟩ => ⟨w, h1, h2.mono hl⟩
abbrev Chunks (rd : Rd) (v : V) (xs : List (List UInt8)) : Prop := SlOf bsE 1 rd v xs
theorem s36 : SlT Try.prog 36 22 1 := ⟨Try.underlying36, by kernel_rfl⟩
theorem Chunks.at {rd : Rd} {v : V} {xs : List (List UInt8)} (hs : Chunks rd v xs) {i : Nat} {x : List UInt8} (hi : xs[i]? = some x) : ∃ b o w, addrV Try.prog 36 v (.int .i64 (i : Int)) = some (.ptr b o) ∧ At rd b o [w] ∧ Bytes rd w x := by
  obtain ⟨b, o, c, h1, h2, h3, w, rfl, h4⟩ := SlOf.at s36 hs hi .i64
  exact ⟨b, o, w, h1, h2, h4⟩
theorem chunks_ok {rd : Rd} {n : Nat} {v : V} (ho : OkV Try.prog rd 1048576 n 36 [v]) : ∃ xs, Chunks rd v xs ∧ (∀ s ∈ xs, s.length ≤ 1048576) ∧ xs.length ≤ 1048576 := by
  cases n with
  | zero => exact ho.elim
  | succ n =>
    obtain ⟨xs, h1, h2⟩ := sl_ok (Er := fun rd c x => bsE rd c x ∧ x.length ≤ 1048576) Try.underlying36 (by kernel_rfl) (fun cs hc hl => by
      have hl1 : cs.length = 1 := hl
      match cs, hl1 with
      | [w], _ =>
        obtain ⟨r, h1, h2⟩ := bytes_ok Try.underlying22 Try.underlying5 (by kernel_rfl) hc
        exact ⟨r, ⟨w, rfl, h1⟩, h2⟩) ho
    exact ⟨xs, (SlOf.split h1).1, (SlOf.split h1).2, h2⟩
section
variable {h0 h : H} {cv rv lv av : V} {chunks : List (List UInt8)} {o : Option (List UInt8)} {bR : Nat}
/-- what holds between the rounds -/
structure FS (h0 h : H) (rv lv : V) (bR : Nat) (o : Option (List UInt8)) : Prop where
  ch : Ch (Zr h0) (Zr h0) h0 h
  rd : Rdr h h0.next bR bR rv o.isNone
  hR : h0.next ≤ bR
  lR : Bytes (h.rb (· = bR)) rv (o.getD [])
  lL : Bytes (h.rb (· = bR)) lv (o.getD [])
  len : (o.getD []).length ≤ 8196
/-- the arguments read as they did -/
theorem chunks_at (hc : Chunks (h0.rb (Zr h0)) cv chunks) (ch : Ch (Zr h0) (Zr h0) h0 h) : Chunks h.read cv chunks := (hc.mono bsE_mono (ch.rb fun _ h => h)).mono bsE_mono (rb_le _ _)
theorem stepO_len {o : Option (List UInt8)} {bs : List UInt8} : ((stepO o bs).2.getD []).length ≤ 8196 := by
  cases o with
  | none => simp [stepO]
  | some ls =>
    show ((cut (ls ++ bs)).2.getD []).length ≤ _
    cases hc : (cut (ls ++ bs)).2 with
    | none => simp
    | some r => exact cut_short _ _ _ rfl hc
/-- behind what was broken -/
theorem feed_end {x : List UInt8} {i : Nat} {fv rv' : V} {fin : Nat} {G : Nat → Prop} (hc : Chunks (h0.rb (Zr h0)) cv chunks) (hi : chunks[i]? = some x) (hx : x.length ≤ 1048576) (hil : i ≤ 1048576) (ch : Ch (Zr h0) (Zr h0) h0 h)
    (hR : h0.next ≤ bR) (hbR : bR < h.next) (hfin : h0.next ≤ fin) (hne : fin ≠ bR) (hfn : fin < h.next) (hG : ∀ g, G g → h0.next ≤ g ∧ g < h.next ∧ g ≠ bR ∧ g ≠ fin) (hol : (o.getD []).length ≤ 8196)
    (sl : SlOf (fun _ => frOwn h h0.next G) 2 (h.rb fun g => (g = bR ∨ g = fin) ∨ G g) fv (stepO o x).1) (rd : Rdr h h0.next bR bR rv' (stepO o x).2.isNone) (lR : Bytes (h.rb fun g => (g = bR ∨ g = fin) ∨ G g) rv' ((stepO o x).2.getD []))
    (lL : Bytes (h.rb fun g => g = bR ∨ g = fin) lv (o.getD [])) {Q : XQ} {e : E}
    (g0 : E.get e 0 = cv) (g1 : E.get e 1 = av) (g5 : E.get e 5 = .ptr bR 0) (g6 : E.get e 6 = lv) (g7 : E.get e 7 = .bool o.isNone) (g8 : E.get e 8 = .int .i64 (i : Int)) (g11 : E.get e 11 = fv) (g12 : E.get e 12 = .int .i64 (errOf (stepO o x).2))
    (hQx : ∀ e' h' lv' rv'', FS h0 h' rv'' lv' bR (stepO o x).2 → E.get e' 0 = cv → E.get e' 1 = av → E.get e' 5 = .ptr bR 0 → E.get e' 6 = lv' → E.get e' 7 = .bool (stepO o x).2.isNone → E.get e' 8 = .int .i64 (i : Int) → (Q .nx e' h' ∧ Q (.ex 1) e' h')) : XW C h0.next x4_19 Q e h := by
  have hRX : ∀ g, g = bR → (g = bR ∨ g = fin) ∨ G g := fun g h => .inl (.inl h)
  have hleft : ∀ {h' : H}, HWF h' → Rdr h' h0.next bR bR rv' (stepO o x).2.isNone → Bytes h'.read rv' ((stepO o x).2.getD []) → CW C 17 [.ptr bR 0] h0.next h' fun v h2 => v = .int .i64 (((stepO o x).2.getD []).length : Int) ∧ h2 = h' := fun wf r l => leftLen (r.read wf) l
  have nn : ∀ y : Int, (y != y) = false := fun y => by simp
  cases o with
  | none =>
    have st : stepO none x = ([], none) := rfl
    rw [st] at sl rd lR g12 hQx hleft
    have e390 : errOf (none : Option (List UInt8)) = 390 := rfl
    have l0 : lenV Try.prog [26] fv = some (.int .i64 0) := SlOf.len s26 sl
    have n0 : ((0 : Int) != 0) = false := by decide
    have n39 : ((390 : Int) != 390) = false := by decide
    have z0 : ((((none : Option (List UInt8)).getD []).length : Int) != 0) = false := by decide
    simp only [q4_19, sx, reduceIte, Nat.reduceEqDiff, Nat.reduceAdd, g0, g1, g5, g6, g7, g8, g11, g12, Option.isNone_none, e390, q4_20, l0, n0, n39]
    refine (hleft ch.wf rd (lR.mono (rb_le _ _))).mono ?_
    rintro _ h ⟨rfl, rfl⟩
    simp only [sx, reduceIte, Nat.reduceEqDiff, Nat.reduceAdd, z0]
    exact (hQx _ _ lv rv' ⟨ch, rd, hR, lR.mono (rb_mono hRX), lL.mono (rb_mono fun g hg => .inl hg), by simp⟩ (by simp only [sx, reduceIte, Nat.reduceEqDiff, Nat.reduceAdd]) (by simp only [sx, reduceIte, Nat.reduceEqDiff, Nat.reduceAdd]) (by simp only [sx, reduceIte, Nat.reduceEqDiff, Nat.reduceAdd]) (by simp only [sx, reduceIte, Nat.reduceEqDiff, Nat.reduceAdd]) (by simp only [sx, reduceIte, Nat.reduceEqDiff, Nat.reduceAdd]; rfl) (by simp only [sx, reduceIte, Nat.reduceEqDiff, Nat.reduceAdd])).2
  | some ls =>
    have st : stepO (some ls) x = cut (ls ++ x) := rfl
    rw [st] at sl rd lR g12 hQx hleft
    have hls : ls.length ≤ 8196 := hol
    have lL' : Bytes h.read lv ls := lL.mono (rb_le _ _)
    simp only [q4_19, sx, reduceIte, Nat.reduceEqDiff, Nat.reduceAdd, g0, g1, g5, g6, g7, g8, g11, g12, Option.isNone_some, q4_23]
    refine (copyBytes ch.wf (Nat.le_refl _) lL' (by omega)).mono ?_
    rintro v1 h1 ⟨⟨F1, nb1, nb2⟩, c1⟩
    have ch1 := ch.trans (c1.mono (None_sub (Zr h0)) (None_sub (Zr h0)))
    obtain ⟨bb, oo, w, p1, p2, p3⟩ := Chunks.at (chunks_at hc ch1) hi
    have lw : loadV Try.prog 22 (.ptr bb oo) h1.read = some w := p2.cell0 c22 rfl
    have hlo1 : h0.next ≤ h1.next := ch1.next
    have nb1' : BufB h1 h0.next v1 ls F1 := Buf.lower ch.next nb1
    obtain ⟨v2, h2, F2, x1, x2, x3⟩ := append_bytes a22 c1.wf hlo1 nb1' p3.elems (by omega)
    simp only [sx, reduceIte, Nat.reduceEqDiff, Nat.reduceAdd, p1, lw]
    refine endX_buf c1.wf nb1' ?_
    simp only [x1, sx, reduceIte, Nat.reduceEqDiff, Nat.reduceAdd]
    have hF2 : ∀ g, F2 = some g → h.next ≤ g := fun g hg => by
      rcases x3.F g hg with h | h
      · exact nb2 g h
      · exact Nat.le_trans c1.next h
    have hb2 : Bytes (h2.rb fun g => g < h.next) v2 (ls ++ x) := Buf.bytes x3.ch.wf x2 fun g hg hx => by have := hF2 g hg; omega
    have c2N : Ch None_ None_ h h2 := ((c1.mono (fun _ h => h) (None_sub _)).trans x3.ch).old ch.wf (fun _ h _ => h) fun g hg hlt => by
      rcases hg with h | h
      · have := nb2 g h; omega
      · have := c1.next; omega
    refine (cut21 x3.ch.wf (Nat.le_refl _) hb2 (by simp; omega)).mono ?_
    rintro _ h3 ⟨wv, rv2, rfl, q1, q2, c3⟩
    have c3N := c2N.trans c3
    have ch3 := ch.trans (c3N.mono (None_sub (Zr h0)) (None_sub (Zr h0)))
    have fr3 : Frames h3.read fv (cut (ls ++ x)).1 := by
      have hf3 : SlOf (fun _ => frOwn h3 h0.next G) 2 (h3.rb fun g => (g = bR ∨ g = fin) ∨ G g) fv (cut (ls ++ x)).1 :=
        (SlOf.mono (Er := fun _ => frOwn h h0.next G) (fun _ _ _ _ _ h => h) (c3N.rb (None_sub _)) sl).imp fun c f hf => frOwn.ch c3N (fun _ _ h => h) hf
      refine SlOf.mono frE_mono (rb_le _ None_) ?_
      obtain ⟨cs, r1, r2, r3⟩ := hf3
      exact ⟨cs, r1, r2.mono (rb_mono fun _ h => h.elim), r3.mono fun c x hc => hc.toE c3N.wf fun _ _ h => h⟩
    have rd3 := rd.ch c3N fun h => h
    have lR3 := lR.mono (c3N.rb (None_sub _))
    have n1 := cut_count _ (ls ++ x) rfl
    have hll : (ls ++ x).length ≤ 1056772 := by simp; omega
    have hbx : ∀ f ∈ (cut (ls ++ x)).1, f.2.length < 1000000000000000 := fun f hf => by have := n1.2 f hf; omega
    have hlen2 : lenV Try.prog [22] rv2 = some (.int .i64 (((cut (ls ++ x)).2.getD []).length : Int)) := (q2.mono (rb_le _ _)).len t22
    -- the frames are written over, and the round ends
    have fin' : ∀ e', E.get e' 0 = cv → E.get e' 1 = av → E.get e' 5 = .ptr bR 0 → E.get e' 6 = rv2 → E.get e' 7 = .bool (cut (ls ++ x)).2.isNone → E.get e' 8 = .int .i64 (i : Int) → E.get e' 11 = fv → XW C h0.next x4_26 Q e' h3 := by
      intro e' g0 g1 g5 g6 g7 g8 g11
      have sW : FrsW h3 h0.next G (fun g => (g = bR ∨ g = fin) ∨ G g) fv (cut (ls ++ x)).1 :=
        (SlOf.mono (Er := fun _ => frOwn h h0.next G) (fun _ _ _ _ _ h => h) (c3N.rb (None_sub _)) sl).imp fun c f hf => frOwn.toW (frOwn.ch c3N (fun _ _ h => h) hf)
      refine bodies_loop (fun g h => .inr h) (by omega) (fun f hf => by have := n1.2 f hf; omega) sW c3N.wf g0 g1 g5 g6 g7 g8 g11 fun h4 c4 => ?_
      refine (hQx _ h4 rv2 rv' ⟨ch3.trans (c4.mono (fun g hg => (hG g hg).1) fun g hg => (hG g hg).1), rd3.ch c4 fun h => (hG _ h).2.2.1 rfl, hR, (lR3.mono (c4.rb fun g hg => .inr hg)).mono (rb_mono hRX), ?_, stepO_len (o := some ls) (bs := x)⟩
        (by simp only [sx, reduceIte, Nat.reduceEqDiff, Nat.reduceAdd]) (by simp only [sx, reduceIte, Nat.reduceEqDiff, Nat.reduceAdd]) (by simp only [sx, reduceIte, Nat.reduceEqDiff, Nat.reduceAdd]) (by simp only [sx, reduceIte, Nat.reduceEqDiff, Nat.reduceAdd]) (by simp only [sx, reduceIte, Nat.reduceEqDiff, Nat.reduceAdd]) (by simp only [sx, reduceIte, Nat.reduceEqDiff, Nat.reduceAdd])).1
      exact (q2.mono (c4.rb fun g hg => (hG g hg).2.1)).mono (rb_mono fun g hg => by rw [hg]; exact hbR)
    simp only [sx, reduceIte, Nat.reduceEqDiff, Nat.reduceAdd, g11, g12, g5]
    refine (sameFrames fr3 q1 (by omega) hbx).mono ?_
    rintro _ h3 ⟨rfl, rfl⟩
    have nb : ∀ b : Bool, binV Try.prog .neq 4 (.bool b) (.bool b) = some (.bool false) := fun b => by cases b <;> kernel_rfl
    have eb : (errOf (cut (ls ++ x)).2 == 390) = (cut (ls ++ x)).2.isNone := by cases (cut (ls ++ x)).2 <;> rfl
    simp only [sx, reduceIte, Nat.reduceEqDiff, Nat.reduceAdd, decide_true, Bool.not_true, eb, nb]
    have e2 : (errOf (cut (ls ++ x)).2 != 390) = false ∨ errOf (cut (ls ++ x)).2 = 0 := by cases (cut (ls ++ x)).2; exact .inl rfl; exact .inr rfl
    refine byT_mk (fun ge => ?_) (fun ge => ?_)
    · have e2 : (errOf (cut (ls ++ x)).2 != 390) = false := by
        rcases e2 with h | h
        · exact h
        · rw [h] at ge; cases ge
      simp only [sx, reduceIte, Nat.reduceEqDiff, Nat.reduceAdd, e2]
      refine (hleft c3N.wf rd3 (lR3.mono (rb_le _ _))).mono ?_
      rintro _ h3 ⟨rfl, rfl⟩
      simp only [sx, reduceIte, Nat.reduceEqDiff, Nat.reduceAdd, hlen2, nn, q4_24]
      exact fin' _ (by simp only [sx, reduceIte, Nat.reduceEqDiff, Nat.reduceAdd, g0]) (by simp only [sx, reduceIte, Nat.reduceEqDiff, Nat.reduceAdd, g1]) (by simp only [sx, reduceIte, Nat.reduceEqDiff, Nat.reduceAdd, g5]) (by simp only [sx, reduceIte, Nat.reduceEqDiff, Nat.reduceAdd]) (by simp only [sx, reduceIte, Nat.reduceEqDiff, Nat.reduceAdd]) (by simp only [sx, reduceIte, Nat.reduceEqDiff, Nat.reduceAdd, g8]) (by simp only [sx, reduceIte, Nat.reduceEqDiff, Nat.reduceAdd, g11])
    · refine (hleft c3N.wf rd3 (lR3.mono (rb_le _ _))).mono ?_
      rintro _ h3 ⟨rfl, rfl⟩
      simp only [sx, reduceIte, Nat.reduceEqDiff, Nat.reduceAdd, hlen2, nn, q4_24]
      exact fin' _ (by simp only [sx, reduceIte, Nat.reduceEqDiff, Nat.reduceAdd, g0]) (by simp only [sx, reduceIte, Nat.reduceEqDiff, Nat.reduceAdd, g1]) (by simp only [sx, reduceIte, Nat.reduceEqDiff, Nat.reduceAdd, g5]) (by simp only [sx, reduceIte, Nat.reduceEqDiff, Nat.reduceAdd]) (by simp only [sx, reduceIte, Nat.reduceEqDiff, Nat.reduceAdd]) (by simp only [sx, reduceIte, Nat.reduceEqDiff, Nat.reduceAdd, g8]) (by simp only [sx, reduceIte, Nat.reduceEqDiff, Nat.reduceAdd, g11])
/-- the chunk is fed -/
theorem feed_mid {x : List UInt8} {i : Nat} {inv : V} {fin : Nat} (hc : Chunks (h0.rb (Zr h0)) cv chunks) (hi : chunks[i]? = some x) (hx : x.length ≤ 1048576) (hil : i ≤ 1048576) (ch : Ch (Zr h0) (Zr h0) h0 h)
    (hR : h0.next ≤ bR) (hbR : bR < h.next) (hfin : h0.next ≤ fin) (hne : fin ≠ bR) (hfn : fin < h.next) (hol : (o.getD []).length ≤ 8196) (li : Lent h h0.next inv fin x)
    (rd : Rdr h h0.next bR bR rv o.isNone) (lR : Bytes (h.rb fun g => g = bR ∨ g = fin) rv (o.getD [])) (lL : Bytes (h.rb fun g => g = bR ∨ g = fin) lv (o.getD [])) {Q : XQ} {e : E}
    (g0 : E.get e 0 = cv) (g1 : E.get e 1 = av) (g5 : E.get e 5 = .ptr bR 0) (g6 : E.get e 6 = lv) (g7 : E.get e 7 = .bool o.isNone) (g8 : E.get e 8 = .int .i64 (i : Int)) (g9 : E.get e 9 = inv)
    (hQx : ∀ e' h' lv' rv'', FS h0 h' rv'' lv' bR (stepO o x).2 → E.get e' 0 = cv → E.get e' 1 = av → E.get e' 5 = .ptr bR 0 → E.get e' 6 = lv' → E.get e' 7 = .bool (stepO o x).2.isNone → E.get e' 8 = .int .i64 (i : Int) → (Q .nx e' h' ∧ Q (.ex 1) e' h')) : XW C h0.next x4_11 Q e h := by
  simp only [q4_11, sx, reduceIte, Nat.reduceEqDiff, Nat.reduceAdd, g0, g1, g5, g6, g7, g8, g9]
  refine (feedAny ch.wf rd lR (li.bytes ch.wf) hfn hol hx).mono ?_
  rintro _ h1 ⟨fv, lv', G, rfl, hG, sl, rd1, lR1, c1⟩
  have ch1 := ch.trans (c1.mono (fun g hg => by show h0.next ≤ g; omega) fun g hg => by show h0.next ≤ g; omega)
  have li1 := li.ch c1 hne
  obtain ⟨bb, oo, w, p1, p2, p3⟩ := Chunks.at (chunks_at hc ch1) hi
  have lw : loadV Try.prog 22 (.ptr bb oo) h1.read = some w := p2.cell0 c22 rfl
  simp only [sx, reduceIte, Nat.reduceEqDiff, Nat.reduceAdd, p1, lw]
  refine (kept c1.wf li1 p3 hx).mono ?_
  rintro _ h1 ⟨rfl, rfl⟩
  simp only [sx, reduceIte, Nat.reduceEqDiff, Nat.reduceAdd, Bool.not_true]
  have hn := c1.next
  refine lent_loop li1 c1.wf hx (a0 := cv) (a1 := av) (a5 := .ptr bR 0) (a6 := lv) (a7 := .bool o.isNone) (a8 := .int .i64 (i : Int)) (a11 := fv) (a12 := .int .i64 (errOf (stepO o x).2)) (by simp only [sx, reduceIte, Nat.reduceEqDiff, Nat.reduceAdd]) (by simp only [sx, reduceIte, Nat.reduceEqDiff, Nat.reduceAdd]) (by simp only [sx, reduceIte, Nat.reduceEqDiff, Nat.reduceAdd]) (by simp only [sx, reduceIte, Nat.reduceEqDiff, Nat.reduceAdd]) (by simp only [sx, reduceIte, Nat.reduceEqDiff, Nat.reduceAdd]) (by simp only [sx, reduceIte, Nat.reduceEqDiff, Nat.reduceAdd]) (by simp only [sx, reduceIte, Nat.reduceEqDiff, Nat.reduceAdd]) (by simp only [sx, reduceIte, Nat.reduceEqDiff, Nat.reduceAdd]) (by simp only [sx, reduceIte, Nat.reduceEqDiff, Nat.reduceAdd]) fun e' h2 c2 r0 r1 r5 r6 r7 r8 r11 r12 => ?_
  have ch2 := ch1.trans (c2.mono (fun g hg => by show h0.next ≤ g; omega) fun g hg => by show h0.next ≤ g; omega)
  have hn2 := c2.next
  have nG : ∀ g, G g → ¬ g = fin := fun g hg he => by have := (hG g hg).1; omega
  refine feed_end hc hi hx hil ch2 hR (by omega) hfin hne (by omega) (fun g hg => by have := hG g hg; exact ⟨by have := ch.next; omega, by omega, by omega, nG g hg⟩) hol ?_ (rd1.ch c2 fun h => hne h.symm) (lR1.mono (c2.rb fun g hg => .inl (.inr hg))) ?_ r0 r1 r5 r6 r7 r8 r11 r12 hQx
  · exact (SlOf.mono (Er := fun _ => frOwn h1 h0.next G) (fun _ _ _ _ _ h => h) (c2.rb fun g hg => .inl (.inr hg)) sl).imp fun c f hf => frOwn.ch c2 nG hf
  · exact (lL.mono (c1.rb fun g hg => .inl hg)).mono (c2.rb fun g hg => .inr hg)
/-- one round -/
theorem feeds_round {x : List UInt8} {i : Nat} {at_ : Int} (wf0 : HWF h0) (hc : Chunks (h0.rb (Zr h0)) cv chunks) (hi : chunks[i]? = some x) (hx : x.length ≤ 1048576) (hil : i ≤ 1048576) (S : FS h0 h rv lv bR o) {Q : XQ} {e : E}
    (g0 : E.get e 0 = cv) (g1 : E.get e 1 = .int .i64 at_) (g5 : E.get e 5 = .ptr bR 0) (g6 : E.get e 6 = lv) (g7 : E.get e 7 = .bool o.isNone) (g8 : E.get e 8 = .int .i64 (i : Int))
    (hQx : ∀ e' h' lv' rv'' bR', FS h0 h' rv'' lv' bR' (stepO o x).2 → E.get e' 0 = cv → E.get e' 1 = .int .i64 at_ → E.get e' 5 = .ptr bR' 0 → E.get e' 6 = lv' → E.get e' 7 = .bool (stepO o x).2.isNone → E.get e' 8 = .int .i64 (i : Int) → (Q .nx e' h' ∧ Q (.ex 1) e' h')) : XW C h0.next x4_7 Q e h := by
  obtain ⟨bb, oo, w, p1, p2, p3⟩ := Chunks.at (chunks_at hc S.ch) hi
  have lw : loadV Try.prog 22 (.ptr bb oo) h.read = some w := p2.cell0 c22 rfl
  have hbR := (S.rd.lo S.ch.wf).2
  simp only [q4_7, sx, reduceIte, Nat.reduceEqDiff, Nat.reduceAdd, g0, g1, g5, g6, g7, g8, p1, lw]
  refine (lent S.ch.wf S.ch.next p3 hx).mono ?_
  rintro inv h1 ⟨fin, li, hfin, c1⟩
  have hfn : fin < h1.next := by
    obtain ⟨b, c, _, _, o⟩ := li
    exact (o.lt c1.wf).2.1
  have ch1 := S.ch.trans (c1.mono (None_sub (Zr h0)) (None_sub (Zr h0)))
  have hn := S.ch.next
  have hne : fin ≠ bR := by omega
  have wide : ∀ {v : V} {l : List UInt8}, Bytes (h.rb (· = bR)) v l → Bytes (h1.rb fun g => g = bR ∨ h.next ≤ g) v l := fun b => (b.mono (rb_new S.ch.wf _)).mono (c1.rb (None_sub _))
  have sub : ∀ g, g = bR ∨ g = fin → g = bR ∨ h.next ≤ g := fun g hg => by rcases hg with h' | h'; exact .inl h'; exact .inr (by omega)
  have rd1 := S.rd.ch c1 fun h => h
  refine byT_mk (fun gi => ?_) (fun gi => ?_)
  · -- the reader's copy goes on
    simp only [q4_8, sx, reduceIte, Nat.reduceEqDiff, Nat.reduceAdd, g5]
    refine (copyReader c1.wf (Nat.le_trans hn c1.next) rd1 ((wide S.lR).mono (rb_le _ _)) (by have := S.len; omega)).mono ?_
    rintro _ h2 ⟨b2, lv2, rfl, rd2, hb2, hb2n, l2, c2⟩
    have ch2 := ch1.trans (c2.mono (None_sub (Zr h0)) (None_sub (Zr h0)))
    have bl7 : buildSliceV Try.prog 22 7 [(0, .int .u8 0), (1, .int .u8 0), (2, .int .u8 0), (3, .int .u8 1), (4, .int .u8 9), (5, .int .u8 1), (6, .int .u8 2)] = some (.new (([0, 0, 0, 1, 9, 1, 2] : List UInt8).map byteV) (.sl 7 (some 7) 1)) := by kernel_rfl
    have cA := ch_alloc c2.wf (([0, 0, 0, 1, 9, 1, 2] : List UInt8).map byteV)
    have wA : Bytes (h2.alloc (([0, 0, 0, 1, 9, 1, 2] : List UInt8).map byteV)).read (.sl h2.next 0 7 (some 7) 1) [0, 0, 0, 1, 9, 1, 2] := at_bytes c2.wf [0, 0, 0, 1, 9, 1, 2] (some 7)
    have rdA := (rd1.ch c2 fun h => h).ch cA fun h => h
    have lRA : Bytes ((h2.alloc (([0, 0, 0, 1, 9, 1, 2] : List UInt8).map byteV)).rb fun g => g = bR ∨ g = fin) rv (o.getD []) := (((wide S.lR).mono (rb_mono sub)).mono (c2.rb (None_sub _))).mono (cA.rb (None_sub _))
    have hnA : (h2.alloc (([0, 0, 0, 1, 9, 1, 2] : List UInt8).map byteV)).next = h2.next + 1 := rfl
    have hn2 := c2.next
    simp only [sx, reduceIte, Nat.reduceEqDiff, Nat.reduceAdd, eql24, q4_10, bl7, g5]
    refine (feedAny cA.wf rdA lRA wA (by omega) S.len (by simp)).mono ?_
    rintro _ h3 ⟨_, _, _, rfl, _, _, _, _, c3⟩
    have hn3 := c3.next
    have ch3 := (ch2.trans (cA.mono (None_sub (Zr h0)) (None_sub (Zr h0)))).trans (c3.mono (fun g hg => by show h0.next ≤ g; have := S.hR; omega) fun g hg => by show h0.next ≤ g; have := S.hR; omega)
    have hn1 := c1.next
    have nb : ¬ b2 = bR := by omega
    have l3 : Bytes (h3.rb fun g => g < h1.next ∨ g = b2) lv2 (o.getD []) := (l2.mono (cA.rb (None_sub _))).mono (c3.rb fun g hg => .inl (by omega))
    refine feed_mid (av := .int .i64 at_) (lv := lv) hc hi hx hil ch3 (by omega) (by omega) (by omega) (by omega) (by omega) S.len (((li.ch c2 fun h => h).ch cA fun h => h).ch c3 (by omega)) ((rd2.ch cA fun h => h).ch c3 (by omega)) (l3.mono (rb_mono fun g hg => by rcases hg with h | h; exact .inr h; exact .inl (by omega))) ?_ (by simp only [sx, reduceIte, Nat.reduceEqDiff, Nat.reduceAdd, g0]) (by simp only [sx, reduceIte, Nat.reduceEqDiff, Nat.reduceAdd, g1]) (by simp only [sx, reduceIte, Nat.reduceEqDiff, Nat.reduceAdd]) (by simp only [sx, reduceIte, Nat.reduceEqDiff, Nat.reduceAdd, g6]) (by simp only [sx, reduceIte, Nat.reduceEqDiff, Nat.reduceAdd, g7]) (by simp only [sx, reduceIte, Nat.reduceEqDiff, Nat.reduceAdd, g8]) (by simp only [sx, reduceIte, Nat.reduceEqDiff, Nat.reduceAdd]) fun e' h' lv' rv'' => hQx e' h' lv' rv'' b2
    have lL3 : Bytes (h3.rb fun g => g = bR ∨ h.next ≤ g) lv (o.getD []) := (((wide S.lL).mono (c2.rb (None_sub _))).mono (cA.rb (None_sub _))).mono (c3.rb fun g hg => .inl hg)
    exact lL3.mono (rb_mono fun g hg => .inr (by rcases hg with h | h <;> omega))
  · exact feed_mid (av := .int .i64 at_) (lv := lv) hc hi hx hil ch1 S.hR (by have := c1.next; omega) (by omega) hne hfn S.len li rd1 ((wide S.lR).mono (rb_mono sub)) ((wide S.lL).mono (rb_mono sub)) (by simp only [sx, reduceIte, Nat.reduceEqDiff, Nat.reduceAdd, g0]) (by simp only [sx, reduceIte, Nat.reduceEqDiff, Nat.reduceAdd, g1]) (by simp only [sx, reduceIte, Nat.reduceEqDiff, Nat.reduceAdd, g5]) (by simp only [sx, reduceIte, Nat.reduceEqDiff, Nat.reduceAdd, g6]) (by simp only [sx, reduceIte, Nat.reduceEqDiff, Nat.reduceAdd, g7]) (by simp only [sx, reduceIte, Nat.reduceEqDiff, Nat.reduceAdd, g8]) (by simp only [sx, reduceIte, Nat.reduceEqDiff, Nat.reduceAdd]) fun e' h' lv' rv'' => hQx e' h' lv' rv'' bR
end
theorem wireFeeds {h : H} {cv av : V} (wf : HWF h) (ro : AllRo h) {N : Nat} (o0 : OkA Try.prog h.read 1048576 N 36 cv) (o1 : OkA Try.prog h.read 1048576 N 3 av) : CW C 4 [cv, av] h.next h fun v _ => v = .bool true := by
  obtain ⟨chunks, k1, k2, k3⟩ := chunks_ok (okA_slice Try.underlying36 o0)
  obtain ⟨at_, rfl⟩ : ∃ x : Int, av = .int .i64 x := by
    unfold OkA at o1
    simp only [Try.underlying3] at o1
    obtain ⟨x, hx, _⟩ := int_ok Try.underlying3 o1
    simp at hx
    exact ⟨x, hx⟩
  have hc : Chunks (h.rb (Zr h)) cv chunks := k1.mono bsE_mono (rb_ro ro _)
  refine enter4 rfl ?_
  simp only [q4_0, sx, reduceIte, Nat.reduceEqDiff, Nat.reduceAdd]
  refine newReader.mono ?_
  rintro _ _ ⟨rfl, rfl⟩
  have cA := ch_alloc wf [V.nils, .bool false, .bool true]
  simp only [sx, reduceIte, Nat.reduceEqDiff, Nat.reduceAdd, eql24, q4_2, q4_3]
  have S0 : FS h (h.alloc [V.nils, .bool false, .bool true]) .nils .nils h.next (some []) := ⟨cA.mono (None_sub _) (None_sub _), ⟨_, owned_alloc_new (Nat.le_refl _)⟩, Nat.le_refl _, .inl ⟨rfl, rfl, rfl⟩, .inl ⟨rfl, rfl, rfl⟩, by simp⟩
  refine rounds (fun m e' h' => ∃ (i : Nat) (rv lv : V) (bR : Nat) (o : Option (List UInt8)), e' = [(0, cv), (1, .int .i64 at_), (5, .ptr bR 0), (6, lv), (7, .bool o.isNone), (8, .int .i64 (i : Int))] ∧ i ≤ chunks.length ∧ m = chunks.length - i ∧ FS h h' rv lv bR o) ?_ chunks.length
    ⟨0, .nils, .nils, h.next, some [], by simp only [sx, reduceIte, Nat.reduceEqDiff, Nat.reduceAdd]; rfl, Nat.zero_le _, rfl, S0⟩
  rintro m e' h' ⟨i, rv, lv, bR, o, rfl, hi, rfl, S⟩
  have hend : ∀ e, XW C h.next x4_40 (kF4 fun v _ => v = .bool true) e h' := by
    intro e
    simp only [q4_40, sx, reduceIte, Nat.reduceEqDiff, Nat.reduceAdd]
    refine aw15 ?_
    simp only [sx, reduceIte, Nat.reduceEqDiff, Nat.reduceAdd, e4_rt]
  simp only [q4_4, sx, reduceIte, Nat.reduceEqDiff, Nat.reduceAdd, SlOf.len s36 (chunks_at hc S.ch)]
  refine byT_dec (fun hlt => ?_) (fun hge => ?_)
  · have hlt : i < chunks.length := by omega
    refine byT_dec (fun h2 => ?_) (fun h2 => ?_)
    · have e5 := add64 (a := i) (b := 1) (by omega)
      simp only [Int.cast_ofNat_Int] at e5
      simp only [q4_6]
      refine feeds_round (at_ := at_) wf hc (List.getElem?_eq_getElem hlt) (k2 _ (List.getElem_mem hlt)) (by omega) S (by simp only [sx, reduceIte, Nat.reduceEqDiff, Nat.reduceAdd]) (by simp only [sx, reduceIte, Nat.reduceEqDiff, Nat.reduceAdd]) (by simp only [sx, reduceIte, Nat.reduceEqDiff, Nat.reduceAdd]) (by simp only [sx, reduceIte, Nat.reduceEqDiff, Nat.reduceAdd]) (by simp only [sx, reduceIte, Nat.reduceEqDiff, Nat.reduceAdd]) (by simp only [sx, reduceIte, Nat.reduceEqDiff, Nat.reduceAdd]) fun e' h2 lv' rv'' bR' S' r0 r1 r5 r6 r7 r8 => ?_
      have go : XW C h.next x4_39 (kX (fun e' h' => ∃ m', m' < chunks.length - i ∧ ∃ (i : Nat) (rv lv : V) (bR : Nat) (o : Option (List UInt8)), only [0, 1, 5, 6, 7, 8] e' = [(0, cv), (1, .int .i64 at_), (5, .ptr bR 0), (6, lv), (7, .bool o.isNone), (8, .int .i64 (i : Int))] ∧ i ≤ chunks.length ∧ m' = chunks.length - i ∧ FS h h' rv lv bR o)
          (kXB 0 (XW C h.next x4_40 (kF4 fun v _ => v = .bool true)) (kF4 fun v _ => v = .bool true))) e' h2 := by
        simp only [q4_39, sx, reduceIte, Nat.reduceEqDiff, Nat.reduceAdd, r0, r1, r5, r6, r7, r8, e5]
        exact ⟨chunks.length - (i + 1), by omega, i + 1, rv'', lv', bR', (stepO o chunks[i]).2, rfl, by omega, rfl, S'⟩
      simp only [sx, reduceIte, Nat.reduceEqDiff, Nat.reduceAdd]
      exact ⟨go, go⟩
    · exact hend _
  · exact hend _
end Go.Proofs.Ytghmbmblhdgabaa
