/- A row's bytes: the walk. -/
import Derived.Test.YtghmbmblhdgabaaK3
set_option linter.all false
namespace Go.Proofs.Ytghmbmblhdgabaa
open Go Go.Den Code
set_option maxRecDepth 100000
def encBody (x : Vl) : List UInt8 :=
  if x.k.toNat = 1 then [lowB x.n]
  else if x.k.toNat = 2 ∨ x.k.toNat = 3 then eightB (IntKind.wrap .u64 x.n)
  else if x.k.toNat = 4 ∨ x.k.toNat = 5 then lowB (x.s.length : Int) :: x.s
  else []
def encV (x : Vl) : List UInt8 := x.k :: encBody x
def rowBytes (xs : List Vl) : List UInt8 := lowB (xs.length : Int) :: xs.flatMap encV
def rowErr (xs : List Vl) : Int := if xs.any (fun x => !rightV x) = true then 2 else if 12 < xs.length then 3 else if 480 < (rowBytes xs).length then 3 else 0
theorem s22b : ApT Try.prog 22 9 5 1 1 := ⟨Try.underlying22, .inr Try.underlying9, (Try.prog.info? 5).get (by kernel_rfl), .int .u8 0, by kernel_rfl, by kernel_rfl, by kernel_rfl, by kernel_rfl, by kernel_rfl⟩
theorem elems_str (rd : Rd) (s : List UInt8) : elems rd 1 (.str s) = some (s.length, s.map byteV) := by
  show (if 1 = 1 then some (s.length, s.map fun b => V.int .u8 (b.toNat : Int)) else none) = _
  rw [if_pos rfl]
  rfl
section
variable {x : Vl} {a : V} {lo len i : Nat}
/-- a value's bytes go behind -/
theorem row_value {h : H} {bv : Nat} {v : V} {pre : List UInt8} {F : Option Nat} (wf : HWF h) (hlo : lo ≤ h.next) (hx : x.ok) (hb : BufB h lo v (pre ++ [x.k]) F) (hpre : pre.length ≤ 100000000) (hA : At (h.rb None_) bv 0 (vlC x)) {Q : XQ} {e : E}
    (g4 : E.get e 4 = v) (g6 : E.get e 6 = .ptr bv 0) (g16 : E.get e 16 = a) (g17 : E.get e 17 = .int .i64 (len : Int)) (g18 : E.get e 18 = .int .i64 (i : Int)) (g28 : E.get e 28 = .int .u8 (x.k.toNat : Int))
    (hQ : ∀ v' h' F', BufB h' lo v' (pre ++ encV x) F' → Gr h F h' F' → Q .nx [(4, v'), (16, a), (17, .int .i64 (len : Int)), (18, .int .i64 (i : Int))] h') :
    XW C lo x22_9 (kXB 2 (XW C lo x22_22 Q) Q) e h := by
  have hA' := hA.mono (rb_le h None_)
  have l1 : loadV Try.prog 2 (.ptr bv (0 + 1)) h.read = some (.int .i64 x.n) := hA'.cell c2 rfl
  have l2 : loadV Try.prog 9 (.ptr bv (0 + 2)) h.read = some (.str x.s) := hA'.cell c9 rfl
  have he : pre ++ encV x = pre ++ [x.k] ++ encBody x := by simp [encV]
  rw [he] at hQ
  have hpl : (pre ++ [x.k]).length ≤ 100000001 := by simp; omega
  simp only [q22_9, sx, reduceIte, Nat.reduceEqDiff, Nat.reduceAdd, g28]
  refine byT_mk (fun h1 => ?_) (fun h1 => ?_)
  · simp only [beqI] at h1
    have hk : encBody x = [lowB x.n] := by simp [encBody, show x.k.toNat = 1 by omega]
    have e4 := conv_int (P := Try.prog) (rd := h.read) Try.underlying2 Try.underlying5 .i64 x.n
    rw [byteV_low] at e4
    obtain ⟨v2, h2, F2, x1, x2, x3⟩ := append_byte a22 wf hlo hb (lowB x.n) (by omega)
    simp only [q22_10, sx, reduceIte, Nat.reduceEqDiff, Nat.reduceAdd, g4, g6, fa60_1, l1, e4, buildSlice_one b22 (v := byteV (lowB x.n)) rfl, x1, q22_21, q22_22, g16, g17, g18]
    rw [hk] at hQ
    exact hQ _ _ _ x2 x3
  · have k1 : ¬ x.k.toNat = 1 := by simp only [beqIf] at h1; omega
    have end14 : ∀ {Q' : XQ} {e : E}, E.get e 4 = v → E.get e 6 = .ptr bv 0 → E.get e 16 = a → E.get e 17 = .int .i64 (len : Int) → E.get e 18 = .int .i64 (i : Int) → (x.k.toNat = 2 ∨ x.k.toNat = 3) →
        (∀ v' h' F' e', E.get e' 4 = v' → E.get e' 16 = a → E.get e' 17 = .int .i64 (len : Int) → E.get e' 18 = .int .i64 (i : Int) → BufB h' lo v' (pre ++ [x.k] ++ encBody x) F' → Gr h F h' F' → Q' .nx e' h') → XW C lo x22_14 Q' e h := by
      intro Q' e g4 g6 g16 g17 g18 hk hQ'
      have hb2 : encBody x = eightB (IntKind.wrap .u64 x.n) := by simp [encBody, k1, hk]
      have e4 := conv_int (P := Try.prog) (rd := h.read) Try.underlying2 Try.underlying92 .i64 x.n
      simp only [q22_14, sx, reduceIte, Nat.reduceEqDiff, Nat.reduceAdd, g4, g6, fa60_1, l1, e4]
      refine (eight wf hlo hb (by omega)).mono ?_
      rintro v' h' ⟨F', y1, y2⟩
      rw [hb2] at hQ'
      exact hQ' _ _ _ _ (by simp only [sx, reduceIte, Nat.reduceEqDiff, Nat.reduceAdd]) (by simp only [sx, reduceIte, Nat.reduceEqDiff, Nat.reduceAdd, g16]) (by simp only [sx, reduceIte, Nat.reduceEqDiff, Nat.reduceAdd, g17]) (by simp only [sx, reduceIte, Nat.reduceEqDiff, Nat.reduceAdd, g18]) y1 y2
    have end18 : ∀ {Q' : XQ} {e : E}, E.get e 4 = v → E.get e 6 = .ptr bv 0 → E.get e 16 = a → E.get e 17 = .int .i64 (len : Int) → E.get e 18 = .int .i64 (i : Int) → ¬ (x.k.toNat = 2 ∨ x.k.toNat = 3) → (x.k.toNat = 4 ∨ x.k.toNat = 5) →
        (∀ v' h' F' e', E.get e' 4 = v' → E.get e' 16 = a → E.get e' 17 = .int .i64 (len : Int) → E.get e' 18 = .int .i64 (i : Int) → BufB h' lo v' (pre ++ [x.k] ++ encBody x) F' → Gr h F h' F' → Q' .nx e' h') → XW C lo x22_18 Q' e h := by
      intro Q' e g4 g6 g16 g17 g18 k23 hk hQ'
      have hb2 : encBody x = lowB (x.s.length : Int) :: x.s := by simp [encBody, k1, k23, hk]
      have e4 := conv_int (P := Try.prog) (rd := h.read) Try.underlying3 Try.underlying5 .i64 (x.s.length : Int)
      rw [byteV_low] at e4
      obtain ⟨v2, h2, F2, x1, x2, x3⟩ := append_byte a22 wf hlo hb (lowB (x.s.length : Int)) (by omega)
      have hs := hx.2.2
      obtain ⟨v3, h3, F3, y1, y2, y3⟩ := append_bytes (x := .str x.s) (ys := x.s) s22b x3.ch.wf (Nat.le_trans hlo x3.ch.next) x2 (elems_str _ _) (by simp at hpl ⊢; omega)
      have l3 : loadV Try.prog 9 (.ptr bv (0 + 2)) h2.read = some (.str x.s) := ((hA.mono (x3.ch.rb (None_sub _))).mono (rb_le _ None_)).cell c9 rfl
      have wf1 := (ch_alloc wf [byteV (lowB (x.s.length : Int))]).wf
      have hbA : BufB (h.alloc [byteV (lowB (x.s.length : Int))]) lo v (pre ++ [x.k]) F := Buf.ch hb (ch_alloc wf _) fun _ _ h => h
      simp only [q22_18, sx, reduceIte, Nat.reduceEqDiff, Nat.reduceAdd, g4, g6, fa60_2, l2, strLen Try.underlying9, e4, buildSlice_one b22 (v := byteV (lowB (x.s.length : Int))) rfl]
      refine endX_buf wf1 hbA ?_
      simp only [sx, reduceIte, Nat.reduceEqDiff, Nat.reduceAdd, x1, l3, y1]
      rw [hb2] at hQ'
      rw [List.append_assoc] at y2
      exact hQ' v3 _ _ _ (by simp only [sx, reduceIte, Nat.reduceEqDiff, Nat.reduceAdd]) (by simp only [sx, reduceIte, Nat.reduceEqDiff, Nat.reduceAdd, g16]) (by simp only [sx, reduceIte, Nat.reduceEqDiff, Nat.reduceAdd, g17]) (by simp only [sx, reduceIte, Nat.reduceEqDiff, Nat.reduceAdd, g18]) y2 (x3.trans y3)
    simp only [q22_11, sx, reduceIte, Nat.reduceEqDiff, Nat.reduceAdd, g28]
    refine byT_mk (fun h2 => ?_) (fun h2 => ?_)
    · have k2 : x.k.toNat = 2 := by simp only [beqI] at h2; omega
      simp only [q22_13, sx, reduceIte, Nat.reduceEqDiff, Nat.reduceAdd, h2]
      refine end14 (by simp only [sx, reduceIte, Nat.reduceEqDiff, Nat.reduceAdd, g4]) (by simp only [sx, reduceIte, Nat.reduceEqDiff, Nat.reduceAdd, g6]) (by simp only [sx, reduceIte, Nat.reduceEqDiff, Nat.reduceAdd, g16]) (by simp only [sx, reduceIte, Nat.reduceEqDiff, Nat.reduceAdd, g17]) (by simp only [sx, reduceIte, Nat.reduceEqDiff, Nat.reduceAdd, g18]) (.inl k2) fun v' h' F' e' q4 q16 q17 q18 y1 y2 => ?_
      simp only [sx, reduceIte, Nat.reduceEqDiff, Nat.reduceAdd, q22_20, q22_21, q22_22, q4, q16, q17, q18]
      exact hQ _ _ _ y1 y2
    · have k2 : ¬ x.k.toNat = 2 := by simp only [beqIf] at h2; omega
      simp only [q22_12, sx, reduceIte, Nat.reduceEqDiff, Nat.reduceAdd, g28, q22_13]
      refine byT_mk (fun h3 => ?_) (fun h3 => ?_)
      · have k3 : x.k.toNat = 3 := by simp only [beqI] at h3; omega
        refine end14 (by simp only [sx, reduceIte, Nat.reduceEqDiff, Nat.reduceAdd, g4]) (by simp only [sx, reduceIte, Nat.reduceEqDiff, Nat.reduceAdd, g6]) (by simp only [sx, reduceIte, Nat.reduceEqDiff, Nat.reduceAdd, g16]) (by simp only [sx, reduceIte, Nat.reduceEqDiff, Nat.reduceAdd, g17]) (by simp only [sx, reduceIte, Nat.reduceEqDiff, Nat.reduceAdd, g18]) (.inr k3) fun v' h' F' e' q4 q16 q17 q18 y1 y2 => ?_
        simp only [sx, reduceIte, Nat.reduceEqDiff, Nat.reduceAdd, q22_20, q22_21, q22_22, q4, q16, q17, q18]
        exact hQ _ _ _ y1 y2
      · have k3 : ¬ x.k.toNat = 3 := by simp only [beqIf] at h3; omega
        have k23 : ¬ (x.k.toNat = 2 ∨ x.k.toNat = 3) := by omega
        simp only [q22_15, sx, reduceIte, Nat.reduceEqDiff, Nat.reduceAdd, g28]
        refine byT_mk (fun h4 => ?_) (fun h4 => ?_)
        · have k4 : x.k.toNat = 4 := by simp only [beqI] at h4; omega
          simp only [q22_17, sx, reduceIte, Nat.reduceEqDiff, Nat.reduceAdd, h4]
          refine end18 (by simp only [sx, reduceIte, Nat.reduceEqDiff, Nat.reduceAdd, g4]) (by simp only [sx, reduceIte, Nat.reduceEqDiff, Nat.reduceAdd, g6]) (by simp only [sx, reduceIte, Nat.reduceEqDiff, Nat.reduceAdd, g16]) (by simp only [sx, reduceIte, Nat.reduceEqDiff, Nat.reduceAdd, g17]) (by simp only [sx, reduceIte, Nat.reduceEqDiff, Nat.reduceAdd, g18]) k23 (.inl k4) fun v' h' F' e' q4 q16 q17 q18 y1 y2 => ?_
          simp only [sx, reduceIte, Nat.reduceEqDiff, Nat.reduceAdd, q22_19, q22_20, q22_21, q22_22, q4, q16, q17, q18]
          exact hQ _ _ _ y1 y2
        · have k4 : ¬ x.k.toNat = 4 := by simp only [beqIf] at h4; omega
          simp only [q22_16, q22_17, sx, reduceIte, Nat.reduceEqDiff, Nat.reduceAdd, g28]
          refine byT_mk (fun h5 => ?_) (fun h5 => ?_)
          · have k5 : x.k.toNat = 5 := by simp only [beqI] at h5; omega
            refine end18 (by simp only [sx, reduceIte, Nat.reduceEqDiff, Nat.reduceAdd, g4]) (by simp only [sx, reduceIte, Nat.reduceEqDiff, Nat.reduceAdd, g6]) (by simp only [sx, reduceIte, Nat.reduceEqDiff, Nat.reduceAdd, g16]) (by simp only [sx, reduceIte, Nat.reduceEqDiff, Nat.reduceAdd, g17]) (by simp only [sx, reduceIte, Nat.reduceEqDiff, Nat.reduceAdd, g18]) k23 (.inr k5) fun v' h' F' e' q4 q16 q17 q18 y1 y2 => ?_
            simp only [sx, reduceIte, Nat.reduceEqDiff, Nat.reduceAdd, q22_19, q22_20, q22_21, q22_22, q4, q16, q17, q18]
            exact hQ _ _ _ y1 y2
          · have k5 : ¬ x.k.toNat = 5 := by simp only [beqIf] at h5; omega
            have hb2 : encBody x = [] := by simp [encBody, k1, k2, k3, k4, k5]
            rw [hb2, List.append_nil] at hQ
            simp only [sx, reduceIte, Nat.reduceEqDiff, Nat.reduceAdd, q22_19, q22_20, q22_21, q22_22, g4, g16, g17, g18]
            exact hQ _ _ _ hb (Gr.refl wf F)
end
theorem enc_len {x : Vl} (hx : x.ok) : (encV x).length ≤ 1048600 := by
  have := hx.2.2
  unfold encV encBody
  simp only [List.length_cons]
  split
  · simp
  · split
    · simp [eightB]
    · split
      · simp; omega
      · simp
theorem flat_len {xs : List Vl} (hx : ∀ x ∈ xs, x.ok) : (xs.flatMap encV).length ≤ xs.length * 1048600 := by
  induction xs with
  | nil => simp
  | cons x r ih =>
    have h1 := enc_len (hx x List.mem_cons_self)
    have h2 := ih fun y hy => hx y (List.mem_cons_of_mem _ hy)
    simp only [List.flatMap_cons, List.length_append, List.length_cons]
    omega
theorem row {a : V} {h : H} {xs : List Vl} {lo : Nat} (wf : HWF h) (hlo : lo ≤ h.next) (ha : Vals h.read a xs) (hx : ∀ x ∈ xs, x.ok) (hl : xs.length < 100000000) :
    CW C 22 [a] lo h fun v h' => ∃ bv, v = .tup [bv, .int .i64 (rowErr xs)] ∧ (if rowErr xs = 0 then NewBytes h h' bv (rowBytes xs) else bv = .nils) ∧ Ch None_ None_ h h' := by
  refine CW.low hS hlo (enter22 rfl ?_)
  simp only [q22_0, sx, reduceIte, Nat.reduceEqDiff, Nat.reduceAdd]
  refine (anyNot wf ha hx (by omega)).mono ?_
  rintro _ h1 ⟨rfl, c1⟩
  simp only [sx, reduceIte, Nat.reduceEqDiff, Nat.reduceAdd]
  refine byT_mk (fun hn => ?_) (fun hn => ?_)
  · have e : rowErr xs = 2 := by unfold rowErr; rw [if_pos hn]
    simp only [q22_1, sx, reduceIte, Nat.reduceEqDiff, Nat.reduceAdd, e22_rt, e]
    exact ⟨.nils, rfl, rfl, c1⟩
  · have ha1 : Vals h1.read a xs := ((ha.mono vlE_mono (rb_none h)).mono vlE_mono (c1.rb (Z := None_) fun _ h => h)).mono vlE_mono (rb_le _ _)
    simp only [q22_2, sx, reduceIte, Nat.reduceEqDiff, Nat.reduceAdd, ha1.len s48]
    refine byT_dec (fun h12 => ?_) (fun h12 => ?_)
    · have h12 : 12 < xs.length := by omega
      have e : rowErr xs = 3 := by unfold rowErr; rw [if_neg (by simp [hn]), if_pos h12]
      simp only [q22_3, sx, reduceIte, Nat.reduceEqDiff, Nat.reduceAdd, e22_rt, e]
      exact ⟨.nils, rfl, rfl, c1⟩
    · have h12 : xs.length ≤ 12 := by omega
      have e4 := conv_int (P := Try.prog) (rd := h1.read) Try.underlying3 Try.underlying5 .i64 (xs.length : Int)
      rw [byteV_low] at e4
      have c2 := ch_alloc c1.wf [byteV (lowB (xs.length : Int))]
      have b0 : BufB (h1.alloc [byteV (lowB (xs.length : Int))]) h.next (.sl h1.next 0 1 (some 1) 1) [lowB (xs.length : Int)] (some h1.next) := Buf.new c1.next rfl
      simp only [q22_4, sx, reduceIte, Nat.reduceEqDiff, Nat.reduceAdd, ha1.len s48, e4, buildSlice_one b22 (v := byteV (lowB (xs.length : Int))) rfl, q22_5]
      refine rounds (fun m e' h' => ∃ (i : Nat) (v : V) (F' : Option Nat), e' = [(4, v), (16, a), (17, .int .i64 (xs.length : Int)), (18, .int .i64 (i : Int))] ∧ i ≤ xs.length ∧ m = xs.length - i ∧ BufB h' h.next v (lowB (xs.length : Int) :: (xs.take i).flatMap encV) F' ∧
          Ch None_ (fun g => h.next ≤ g) h h' ∧ ∀ g, F' = some g → h.next ≤ g) ?_ xs.length
        ⟨0, .sl h1.next 0 1 (some 1) 1, some h1.next, by simp only [sx, reduceIte, Nat.reduceEqDiff, Nat.reduceAdd]; rfl, by omega, rfl, by simpa using b0, (c1.trans c2).mono (fun _ h => h) (None_sub _), fun g hg => by cases hg; exact c1.next⟩
      rintro m e' h' ⟨i, v, F', rfl, hi, rfl, hb, hc, hF⟩
      simp only [q22_6, sx, reduceIte, Nat.reduceEqDiff, Nat.reduceAdd]
      refine byT_dec (fun hlt => ?_) (fun hge => ?_)
      · have hlt : i < xs.length := by omega
        have ha' : Vals h'.read a xs := ((ha.mono vlE_mono (rb_none h)).mono vlE_mono (hc.rb (Z := None_) fun _ h => h)).mono vlE_mono (rb_le _ _)
        obtain ⟨b1, o1, p1, p2, _⟩ := ha'.at s48 (List.getElem?_eq_getElem hlt)
        have hxi := hx _ (List.getElem_mem hlt)
        have own2 : (h'.alloc [V.int .u8 0, .int .i64 0, .str []]).owned h.next h'.next = some ([V.int .u8 0, .int .i64 0, .str []], h'.next, h'.next) := owned_alloc_new hc.next
        have st : storeV Try.prog h.next 60 (.ptr h'.next 0) (.agg (vlC xs[i])) (h'.alloc [V.int .u8 0, .int .i64 0, .str []]) = some ((h'.alloc [V.int .u8 0, .int .i64 0, .str []]).put h'.next h'.next (vlC xs[i])) := store_agg siz60 own2 rfl rfl (by decide)
        have own3 := owned_put_same (l' := vlC xs[i]) own2
        have cA := ch_alloc hc.wf [V.int .u8 0, .int .i64 0, .str []]
        have c3 : Ch None_ None_ h' ((h'.alloc [V.int .u8 0, .int .i64 0, .str []]).put h'.next h'.next (vlC xs[i])) :=
          ((cA.mono (None_sub (· = h'.next)) (None_sub (· = h'.next))).trans (ch_put cA.wf own2)).old hc.wf (fun g h1 h2 => by omega) fun g h1 h2 => by omega
        generalize (h'.alloc [V.int .u8 0, .int .i64 0, .str []]).put h'.next h'.next (vlC xs[i]) = h3 at st own3 c3
        have hb3 : BufB h3 h.next v (lowB (xs.length : Int) :: (xs.take i).flatMap encV) F' := Buf.ch hb c3 fun _ _ h => h
        have hA := at_owned c3.wf own3 None_ id
        have l0 : loadV Try.prog 58 (.ptr h'.next 0) h3.read = some (byteV xs[i].k) := (hA.mono (rb_le _ _)).cell0 c58 rfl
        have hfl := flat_len (xs := xs.take i) fun y hy => hx y (List.mem_of_mem_take hy)
        have htl : (xs.take i).length ≤ 12 := by simp; omega
        have hpl : (lowB (xs.length : Int) :: (xs.take i).flatMap encV).length ≤ 20000000 := by simp only [List.length_cons]; omega
        obtain ⟨v4, h4, F4, x1, x2, x3⟩ := append_byte a22 c3.wf (Nat.le_trans hc.next c3.next) hb3 xs[i].k (by omega)
        have hA4 := hA.mono (x3.ch.rb (None_sub None_))
        have l04 : loadV Try.prog 58 (.ptr h'.next 0) h4.read = some (byteV xs[i].k) := (hA4.mono (rb_le _ _)).cell0 c58 rfl
        simp only [q22_7, q22_8, sx, reduceIte, Nat.reduceEqDiff, Nat.reduceAdd, p1, p2, z60, st, fa60_0, l0, buildSlice_one b22 (v := byteV xs[i].k) rfl, x1, l04]
        refine row_value (a := a) (len := xs.length) (i := i) x3.ch.wf (Nat.le_trans hc.next (Nat.le_trans c3.next x3.ch.next)) hxi x2 (by omega) hA4 (by simp only [sx, reduceIte, Nat.reduceEqDiff, Nat.reduceAdd]) (by simp only [sx, reduceIte, Nat.reduceEqDiff, Nat.reduceAdd]) (by simp only [sx, reduceIte, Nat.reduceEqDiff, Nat.reduceAdd]) (by simp only [sx, reduceIte, Nat.reduceEqDiff, Nat.reduceAdd]) (by simp only [sx, reduceIte, Nat.reduceEqDiff, Nat.reduceAdd]) (by simp only [sx, reduceIte, Nat.reduceEqDiff, Nat.reduceAdd]; rfl) fun v5 h5 F5 y1 y2 => ?_
        have e5 := add64 (a := i) (b := 1) (by omega)
        simp only [Int.cast_ofNat_Int] at e5
        have cG := (c3.mono (None_sub None_) (None_sub fun g => F' = some g ∨ h'.next ≤ g)).trans ((x3.trans y2).ch.mono (fun _ h => h) fun g hg => hg.imp id fun h => Nat.le_trans c3.next h)
        simp only [sx, reduceIte, Nat.reduceEqDiff, Nat.reduceAdd, q22_23, e5]
        refine ⟨xs.length - (i + 1), by omega, i + 1, v5, F5, rfl, by omega, rfl, ?_, hc.trans (cG.mono (fun _ h => h) fun g hg => ?_), fun g hg => ?_⟩
        · rw [List.take_add_one, List.getElem?_eq_getElem hlt, List.flatMap_append]
          simpa using y1
        · rcases hg with hg | hg
          · exact hF g hg
          · exact Nat.le_trans hc.next hg
        · rcases (x3.trans y2).F g hg with h6 | h6
          · exact hF g h6
          · exact Nat.le_trans hc.next (Nat.le_trans c3.next h6)
      · have hil : i = xs.length := by omega
        subst hil
        rw [List.take_length] at hb
        have hb : BufB h' h.next v (rowBytes xs) F' := hb
        have hlen : lenV Try.prog [22] v = some (.int .i64 ((rowBytes xs).length : Int)) := (Buf.bytes (X := None_) hc.wf hb fun _ _ h => h).len t22
        have cEnd : Ch None_ None_ h h' := hc.old wf (fun _ h _ => h) fun _ h1 h2 => by omega
        simp only [q22_24, sx, reduceIte, Nat.reduceEqDiff, Nat.reduceAdd, hlen]
        refine byT_dec (fun h4 => ?_) (fun h4 => ?_)
        · have h4 : 480 < (rowBytes xs).length := by omega
          have e : rowErr xs = 3 := by unfold rowErr; rw [if_neg (by simp [hn]), if_neg (by omega), if_pos h4]
          simp only [q22_25, sx, reduceIte, Nat.reduceEqDiff, Nat.reduceAdd, e22_rt, e]
          exact ⟨.nils, rfl, rfl, cEnd⟩
        · have h4 : ¬ 480 < (rowBytes xs).length := by omega
          have e : rowErr xs = 0 := by unfold rowErr; rw [if_neg (by simp [hn]), if_neg (by omega), if_neg h4]
          simp only [q22_26, sx, reduceIte, Nat.reduceEqDiff, Nat.reduceAdd, e22_rt, e]
          exact ⟨v, rfl, ⟨F', hb, hF⟩, cEnd⟩
end Go.Proofs.Ytghmbmblhdgabaa
