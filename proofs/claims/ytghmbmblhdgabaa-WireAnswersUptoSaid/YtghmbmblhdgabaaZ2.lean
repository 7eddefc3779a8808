/- The reference's row out of values: the walk. -/
import Derived.Test.YtghmbmblhdgabaaZ1
set_option linter.all false
namespace Go.Proofs.Ytghmbmblhdgabaa
open Go Go.Den Code
set_option maxRecDepth 100000
theorem right78 {x : Vl} {h : H} {lo : Nat} (wf : HWF h) (hx : x.ok) : CW C 78 [.agg (vlC x)] lo h fun v h' => v = .bool (rightV x) ∧ Ch None_ None_ h h' := by
  have ch := ch_alloc wf (vlC x)
  have at0 := at_new wf (vlC x)
  have l0 : loadV Try.prog 58 (.ptr h.next 0) (h.alloc (vlC x)).read = some (.int .u8 (x.k.toNat : Int)) := at0.cell0 c58 rfl
  have l1 : loadV Try.prog 2 (.ptr h.next (0 + 1)) (h.alloc (vlC x)).read = some (.int .i64 x.n) := at0.cell c2 rfl
  have l2 : loadV Try.prog 9 (.ptr h.next (0 + 2)) (h.alloc (vlC x)).read = some (.str x.s) := at0.cell c9 rfl
  refine enter78 rfl ?_
  simp only [q78_0, sx, reduceIte, Nat.reduceEqDiff, Nat.reduceAdd, fa60_0, l0, q78_1]
  refine byT_mk (fun h0 => ?_) (fun h0 => ?_)
  · have h0 : x.k.toNat = 0 := by simp only [beqI] at h0; omega
    have v0 : rightV x = decide (x.n = 0 ∧ x.s = []) := by unfold rightV; rw [if_pos h0]
    simp only [q78_2, sx, reduceIte, Nat.reduceEqDiff, Nat.reduceAdd, fa60_1, l1]
    refine byT_mk (fun g => ?_) (fun g => ?_)
    · simp only [beqI] at g
      simp only [sx, reduceIte, Nat.reduceEqDiff, Nat.reduceAdd, fa60_2, l2, strEq, e78_rt]
      refine ⟨?_, ch⟩
      rw [v0]
      simp [g]
    · simp only [beqIf] at g
      simp only [sx, reduceIte, Nat.reduceEqDiff, Nat.reduceAdd, e78_rt]
      refine ⟨?_, ch⟩
      rw [v0]
      simp [g]
  · have h0 : ¬ x.k.toNat = 0 := by simp only [beqIf] at h0; omega
    simp only [q78_3, sx, reduceIte, Nat.reduceEqDiff, Nat.reduceAdd]
    refine byT_mk (fun h1 => ?_) (fun h1 => ?_)
    · have h1 : x.k.toNat = 1 := by simp only [beqI] at h1; omega
      have v1 : rightV x = decide (x.s = [] ∧ (x.n = 0 ∨ x.n = 1)) := by unfold rightV; rw [if_neg h0, if_pos h1]
      simp only [q78_4, sx, reduceIte, Nat.reduceEqDiff, Nat.reduceAdd, fa60_2, l2, strEq]
      refine byT_dec (fun hs => ?_) (fun hs => ?_)
      · simp only [sx, reduceIte, Nat.reduceEqDiff, Nat.reduceAdd, fa60_1, l1]
        refine byT_mk (fun g => ?_) (fun g => ?_)
        · simp only [beqI] at g
          simp only [sx, reduceIte, Nat.reduceEqDiff, Nat.reduceAdd, e78_rt]
          refine ⟨?_, ch⟩
          rw [v1]
          simp [g, hs]
        · simp only [beqIf] at g
          simp only [sx, reduceIte, Nat.reduceEqDiff, Nat.reduceAdd, fa60_1, l1, e78_rt]
          refine ⟨?_, ch⟩
          rw [v1]
          congr 1
          rw [Bool.eq_iff_iff, beqI]
          simp [g, hs]
      · simp only [sx, reduceIte, Nat.reduceEqDiff, Nat.reduceAdd, e78_rt]
        refine ⟨?_, ch⟩
        rw [v1]
        simp [hs]
    · have h1 : ¬ x.k.toNat = 1 := by simp only [beqIf] at h1; omega
      simp only [q78_5, sx, reduceIte, Nat.reduceEqDiff, Nat.reduceAdd]
      have v23 : (x.k.toNat = 2 ∨ x.k.toNat = 3) → rightV x = decide (x.s = []) := fun h => by simp [rightV, h0, h1, h]
      refine byT_mk (fun h2 => ?_) (fun h2 => ?_)
      · have h2' : x.k.toNat = 2 := by simp only [beqI] at h2; omega
        simp only [q78_7, sx, reduceIte, Nat.reduceEqDiff, Nat.reduceAdd, h2, q78_8, fa60_2, l2, strEq, e78_rt]
        exact ⟨by rw [v23 (.inl h2')], ch⟩
      · have h2' : ¬ x.k.toNat = 2 := by simp only [beqIf] at h2; omega
        simp only [q78_6, q78_7, sx, reduceIte, Nat.reduceEqDiff, Nat.reduceAdd]
        refine byT_mk (fun h3 => ?_) (fun h3 => ?_)
        · have h3' : x.k.toNat = 3 := by simp only [beqI] at h3; omega
          simp only [sx, reduceIte, Nat.reduceEqDiff, Nat.reduceAdd, q78_8, fa60_2, l2, strEq, e78_rt]
          exact ⟨by rw [v23 (.inr h3')], ch⟩
        · have h3' : ¬ x.k.toNat = 3 := by simp only [beqIf] at h3; omega
          have v45 : (x.k.toNat = 4 ∨ x.k.toNat = 5) → rightV x = decide (x.n = 0 ∧ x.s.length ≤ 200) := fun h => by simp [rightV, h0, h1, h2', h3', h]
          have end12 : ∀ {Q : XQ} {e : E} {lo : Nat}, E.get e 1 = .ptr h.next 0 → (x.k.toNat = 4 ∨ x.k.toNat = 5) → (∀ e, Q .rt ((2, .bool (rightV x)) :: e) (h.alloc (vlC x))) → XW C lo x78_12 Q e (h.alloc (vlC x)) := by
            intro Q e lo g1 hk hQ
            have v := v45 hk
            simp only [q78_12, sx, reduceIte, Nat.reduceEqDiff, Nat.reduceAdd, g1, fa60_1, l1]
            refine byT_mk (fun hn => ?_) (fun hn => ?_)
            · simp only [beqI] at hn
              simp only [sx, reduceIte, Nat.reduceEqDiff, Nat.reduceAdd, fa60_2, l2, strLen Try.underlying9]
              have : V.bool (decide ((x.s.length : Int) ≤ 200)) = .bool (rightV x) := by
                rw [v]
                congr 1
                rw [Bool.eq_iff_iff]
                simp [hn]
                omega
              rw [this]
              exact hQ _
            · simp only [beqIf] at hn
              have : V.bool false = .bool (rightV x) := by rw [v]; simp [hn]
              rw [this]
              exact hQ _
          simp only [q78_9, sx, reduceIte, Nat.reduceEqDiff, Nat.reduceAdd]
          refine byT_mk (fun h4 => ?_) (fun h4 => ?_)
          · have h4' : x.k.toNat = 4 := by simp only [beqI] at h4; omega
            simp only [q78_11, sx, reduceIte, Nat.reduceEqDiff, Nat.reduceAdd, h4]
            refine end12 (by simp only [sx, reduceIte, Nat.reduceEqDiff, Nat.reduceAdd]) (.inl h4') fun e => ?_
            simp only [sx, reduceIte, Nat.reduceEqDiff, Nat.reduceAdd, e78_rt]
            exact ⟨trivial, ch⟩
          · have h4' : ¬ x.k.toNat = 4 := by simp only [beqIf] at h4; omega
            simp only [q78_10, q78_11, sx, reduceIte, Nat.reduceEqDiff, Nat.reduceAdd]
            refine byT_mk (fun h5 => ?_) (fun h5 => ?_)
            · have h5' : x.k.toNat = 5 := by simp only [beqI] at h5; omega
              refine end12 (by simp only [sx, reduceIte, Nat.reduceEqDiff, Nat.reduceAdd]) (.inr h5') fun e => ?_
              simp only [sx, reduceIte, Nat.reduceEqDiff, Nat.reduceAdd, e78_rt]
              exact ⟨trivial, ch⟩
            · have h5' : ¬ x.k.toNat = 5 := by simp only [beqIf] at h5; omega
              simp only [sx, reduceIte, Nat.reduceEqDiff, Nat.reduceAdd, q78_13, e78_rt]
              refine ⟨?_, ch⟩
              have : rightV x = false := by simp [rightV, h0, h1, h2', h3', h4', h5']
              rw [this]
theorem quoU (P : Program) (t : Nat) (n : Int) (h0 : 0 ≤ n) (h1 : n < 18446744073709551616) : binV P .quo t (.int .u64 n) (.int .u64 256) = some (.int .u64 (n / 256)) := by
  simp only [binV, intOp, if_true]
  rw [if_neg (by omega), Int.tdiv_eq_ediv_of_nonneg h0]
  have : IntKind.wrap .u64 (n / 256) = n / 256 := by simp [IntKind.wrap, IntKind.bits, IntKind.signed]; omega
  rw [this]
theorem remU (P : Program) (t : Nat) (n : Int) (h0 : 0 ≤ n) : binV P .rem t (.int .u64 n) (.int .u64 256) = some (.int .u64 (n % 256)) := by
  simp only [binV, intOp, if_true]
  rw [if_neg (by omega), Int.tmod_eq_emod_of_nonneg h0]
theorem addr22 {b n c : Nat} {i : Nat} (hi : i < n) : addrV Try.prog 22 (.sl b 0 n (some c) 1) (.int .i64 (i : Int)) = some (.ptr b i) := by
  unfold addrV
  simp only [t22.u]
  rw [if_pos (by omega), if_pos t22.s]
  simp
theorem eightB_get (u : Int) (i : Nat) (hi : i < 8) : (eightB u)[i]? = some (lowB (u / 2 ^ (56 - 8 * i))) := by
  rw [eightB_at u i hi, Int.fdiv_eq_ediv_of_nonneg _ (by exact Int.le_of_lt (Int.pow_pos (by omega)))]
theorem eight79 {u : Int} {h : H} {lo : Nat} (wf : HWF h) (hlo : lo ≤ h.next) (h0 : 0 ≤ u) (h1 : u < 18446744073709551616) : CW C 79 [.int .u64 u] lo h fun v h' => Bytes h'.read v (eightB u) ∧ Ch None_ None_ h h' := by
  refine CW.low hS hlo (enter79 rfl ?_)
  have mk := make_ok (k := .i64) (k' := .i64) (n := 8) (m := 8) m22 (Nat.le_refl _) (by omega) (by omega)
  simp only [Int.cast_ofNat_Int] at mk
  have cA := ch_alloc wf (reps 8 [V.int .u8 0])
  simp only [q79_0, sx, reduceIte, Nat.reduceEqDiff, Nat.reduceAdd, mk, q79_1]
  refine rounds (fun m e' h' => ∃ (j : Nat) (cs : List V), e' = [(0, .int .u64 (u / 2 ^ (64 - 8 * j))), (3, .sl h.next 0 8 (some 8) 1), (4, .int .i64 ((j : Int) - 1))] ∧ j ≤ 8 ∧ m = j ∧ Own h' h.next h.next h.next cs ∧ cs.length = 8 ∧
      (∀ i, j ≤ i → i < 8 → cs[i]? = some (byteV (lowB (u / 2 ^ (56 - 8 * i))))) ∧ Ch (fun g => h.next ≤ g) (fun g => h.next ≤ g) h h') ?_ 8
    ⟨8, reps 8 [V.int .u8 0], by simp only [sx, reduceIte, Nat.reduceEqDiff, Nat.reduceAdd]; simp, Nat.le_refl _, rfl, Own.new (Nat.le_refl _), rfl, fun i h1 h2 => by omega, cA.mono (None_sub _) (None_sub _)⟩
  rintro m e' h' ⟨j, cs, rfl, hj, rfl, o, hl, hcs, ch⟩
  simp only [q79_2, sx, reduceIte, Nat.reduceEqDiff, Nat.reduceAdd]
  refine byT_dec (fun hge => ?_) (fun hlt => ?_)
  · have hj1 : 1 ≤ m := by omega
    have ei : ((m : Int) - 1) = ((m - 1 : Nat) : Int) := by omega
    have p0 : (0 : Int) ≤ u / 2 ^ (64 - 8 * m) := Int.ediv_nonneg h0 (Int.le_of_lt (Int.pow_pos (by omega)))
    have p1 : u / 2 ^ (64 - 8 * m) < 18446744073709551616 := by
      have := Int.ediv_le_self (2 ^ (64 - 8 * m)) h0
      omega
    have pe : u / 2 ^ (64 - 8 * m) = u / 2 ^ (56 - 8 * (m - 1)) := by congr 2; omega
    have pq : u / 2 ^ (64 - 8 * m) / 256 = u / 2 ^ (64 - 8 * (m - 1)) := by
      rw [show (64 - 8 * (m - 1)) = (64 - 8 * m) + 8 by omega, Int.pow_add, Int.ediv_ediv_of_nonneg (Int.le_of_lt (Int.pow_pos (by omega)))]
      rfl
    have cv : convV Try.prog h'.read 92 5 (.int .u64 (u / 2 ^ (64 - 8 * m) % 256)) = some (.val (byteV (lowB (u / 2 ^ (64 - 8 * m))))) := by
      have h := conv_int (P := Try.prog) (rd := h'.read) Try.underlying92 Try.underlying5 .u64 (u / 2 ^ (64 - 8 * m) % 256)
      rw [byteV_low, show lowB (u / 2 ^ (64 - 8 * m) % 256) = lowB (u / 2 ^ (64 - 8 * m)) from low_mod (by omega)] at h
      exact h
    obtain ⟨h2, s2, o2, c2, n2⟩ := o.set (P := Try.prog) (t := 5) (o := m - 1) (w := byteV (lowB (u / 2 ^ (64 - 8 * m)))) ch.wf c5.s rfl rfl (by omega)
    have ew : IntKind.wrap .i64 (((m - 1 : Nat) : Int) - 1) = ((m - 1 : Nat) : Int) - 1 := wrap64 (by omega) (by omega)
    have eset : cs.take (m - 1) ++ [byteV (lowB (u / 2 ^ (64 - 8 * m)))] ++ cs.drop (m - 1 + 1) = cs.set (m - 1) (byteV (lowB (u / 2 ^ (64 - 8 * m)))) := by
      rw [List.set_eq_take_append_cons_drop, if_pos (by omega)]
      simp
    rw [eset] at o2
    simp only [q79_3, q79_4, sx, reduceIte, Nat.reduceEqDiff, Nat.reduceAdd, remU Try.prog 92 _ p0, cv, ei, addr22 (show m - 1 < 8 by omega), s2, quoU Try.prog 92 _ p0 p1, q79_5, ew]
    refine ⟨m - 1, by omega, m - 1, cs.set (m - 1) (byteV (lowB (u / 2 ^ (64 - 8 * m)))), by rw [pq], by omega, rfl, o2, by rw [List.length_set, hl], fun i h1 h2 => ?_, ch.trans (c2.mono (fun g h => by show _ ≤ g; omega) fun g h => by show _ ≤ g; omega)⟩
    rw [List.getElem?_set]
    split
    · rename_i hi
      subst hi
      rw [if_pos (by omega), pe]
    · exact hcs i (by omega) h2
  · have hj0 : m = 0 := by omega
    subst hj0
    simp only [sx, reduceIte, Nat.reduceEqDiff, Nat.reduceAdd, q79_6, e79_rt]
    have ecs : cs = (eightB u).map byteV := by
      apply List.ext_getElem?
      intro i
      rcases Nat.lt_or_ge i 8 with hi | hi
      · rw [hcs i (Nat.zero_le _) hi, List.getElem?_map, eightB_get u i hi]
        rfl
      · rw [List.getElem?_eq_none (by omega), List.getElem?_eq_none (by simp [eightB]; omega)]
    refine ⟨.inr ⟨h.next, 0, some 8, cs, rfl, o.read ch.wf, by rw [hl]; simp [eightB], ?_⟩, ch.old wf (fun g h1 h2 => by have : h.next ≤ g := h1; omega) fun g h1 h2 => by have : h.next ≤ g := h1; omega⟩
    rw [List.drop_zero, List.take_of_length_le (by rw [hl]; simp [eightB]), ecs]
section
variable {x : Vl} {a iv : V} {lo : Nat}
/-- a value's bytes go behind, by the reference -/
theorem row_value64 {h : H} {bv : Nat} {v : V} {pre : List UInt8} {F : Option Nat} (wf : HWF h) (hlo : lo ≤ h.next) (hx : x.ok) (hb : BufB h lo v (pre ++ [x.k]) F) (hpre : pre.length ≤ 100000000) (hA : At (h.rb None_) bv 0 (vlC x)) {Q : XQ} {e : E}
    (g0 : E.get e 0 = a) (g5 : E.get e 5 = v) (g6 : E.get e 6 = iv) (g7 : E.get e 7 = .ptr bv 0) (g43 : E.get e 43 = .int .u8 (x.k.toNat : Int))
    (hQ : ∀ v' h' F', BufB h' lo v' (pre ++ encV x) F' → Gr h F h' F' → Q .nx [(0, a), (5, v'), (6, iv)] h') :
    XW C lo x64_14 (kXB 4 (XW C lo x64_27 Q) Q) e h := by
  have hA' := hA.mono (rb_le h None_)
  have l1 : loadV Try.prog 2 (.ptr bv (0 + 1)) h.read = some (.int .i64 x.n) := hA'.cell c2 rfl
  have l2 : loadV Try.prog 9 (.ptr bv (0 + 2)) h.read = some (.str x.s) := hA'.cell c9 rfl
  have he : pre ++ encV x = pre ++ [x.k] ++ encBody x := by simp [encV]
  rw [he] at hQ
  have hpl : (pre ++ [x.k]).length ≤ 100000001 := by simp; omega
  simp only [q64_14, sx, reduceIte, Nat.reduceEqDiff, Nat.reduceAdd, g43]
  refine byT_mk (fun h1 => ?_) (fun h1 => ?_)
  · simp only [beqI] at h1
    have hk : encBody x = [lowB x.n] := by simp [encBody, show x.k.toNat = 1 by omega]
    have e4 := conv_int (P := Try.prog) (rd := h.read) Try.underlying2 Try.underlying5 .i64 x.n
    rw [byteV_low] at e4
    obtain ⟨v2, h2, F2, x1, x2, x3⟩ := append_byte a22 wf hlo hb (lowB x.n) (by omega)
    simp only [q64_15, sx, reduceIte, Nat.reduceEqDiff, Nat.reduceAdd, g5, g7, fa60_1, l1, e4, buildSlice_one b22 (v := byteV (lowB x.n)) rfl, x1, q64_26, q64_27, g0, g6]
    rw [hk] at hQ
    exact hQ _ _ _ x2 x3
  · have k1 : ¬ x.k.toNat = 1 := by simp only [beqIf] at h1; omega
    have end19 : ∀ {Q' : XQ} {e : E}, E.get e 0 = a → E.get e 5 = v → E.get e 6 = iv → E.get e 7 = .ptr bv 0 → (x.k.toNat = 2 ∨ x.k.toNat = 3) →
        (∀ v' h' F' e', E.get e' 0 = a → E.get e' 5 = v' → E.get e' 6 = iv → BufB h' lo v' (pre ++ [x.k] ++ encBody x) F' → Gr h F h' F' → Q' .nx e' h') → XW C lo x64_19 Q' e h := by
      intro Q' e g0 g5 g6 g7 hk hQ'
      have hb2 : encBody x = eightB (IntKind.wrap .u64 x.n) := by simp [encBody, k1, hk]
      have e4 := conv_int (P := Try.prog) (rd := h.read) Try.underlying2 Try.underlying92 .i64 x.n
      have w0 : 0 ≤ IntKind.wrap .u64 x.n ∧ IntKind.wrap .u64 x.n < 18446744073709551616 := by rw [wrap_u64]; omega
      simp only [q64_19, sx, reduceIte, Nat.reduceEqDiff, Nat.reduceAdd, g7, fa60_1, l1, e4]
      refine (eight79 wf hlo w0.1 w0.2).mono ?_
      rintro ev h2 ⟨hev, c2⟩
      have hb3 := Buf.ch hb c2 fun _ _ h => h
      obtain ⟨v3, h3, F3, y1, y2, y3⟩ := append_bytes a22 c2.wf (Nat.le_trans hlo c2.next) hb3 hev.elems (by simp only [eightB, List.length_cons, List.length_nil]; omega)
      rw [hb2] at hQ'
      simp only [sx, reduceIte, Nat.reduceEqDiff, Nat.reduceAdd, g5, y1]
      exact hQ' _ _ _ _ (by simp only [sx, reduceIte, Nat.reduceEqDiff, Nat.reduceAdd, g0]) (by simp only [sx, reduceIte, Nat.reduceEqDiff, Nat.reduceAdd]) (by simp only [sx, reduceIte, Nat.reduceEqDiff, Nat.reduceAdd, g6]) y2 ((Gr.of c2).trans y3)
    have end23 : ∀ {Q' : XQ} {e : E}, E.get e 0 = a → E.get e 5 = v → E.get e 6 = iv → E.get e 7 = .ptr bv 0 → ¬ (x.k.toNat = 2 ∨ x.k.toNat = 3) → (x.k.toNat = 4 ∨ x.k.toNat = 5) →
        (∀ v' h' F' e', E.get e' 0 = a → E.get e' 5 = v' → E.get e' 6 = iv → BufB h' lo v' (pre ++ [x.k] ++ encBody x) F' → Gr h F h' F' → Q' .nx e' h') → XW C lo x64_23 Q' e h := by
      intro Q' e g0 g5 g6 g7 k23 hk hQ'
      have hb2 : encBody x = lowB (x.s.length : Int) :: x.s := by simp [encBody, k1, k23, hk]
      obtain ⟨v2, h2, F2, x1, x2, x3⟩ := append_byte a22 wf hlo hb (lowB (x.s.length : Int)) (by omega)
      have hs := hx.2.2
      obtain ⟨v3, h3, F3, y1, y2, y3⟩ := append_bytes (x := .str x.s) (ys := x.s) s22b x3.ch.wf (Nat.le_trans hlo x3.ch.next) x2 (elems_str _ _) (by simp at hpl ⊢; omega)
      have l3 : loadV Try.prog 9 (.ptr bv (0 + 2)) h2.read = some (.str x.s) := ((hA.mono (x3.ch.rb (None_sub _))).mono (rb_le _ None_)).cell c9 rfl
      simp only [q64_23, sx, reduceIte, Nat.reduceEqDiff, Nat.reduceAdd, g5, g7, fa60_2, l2, strLen Try.underlying9, low35, buildSlice_one b22 (v := byteV (lowB (x.s.length : Int))) rfl, x1, l3, y1]
      rw [hb2] at hQ'
      rw [List.append_assoc] at y2
      exact hQ' v3 _ _ _ (by simp only [sx, reduceIte, Nat.reduceEqDiff, Nat.reduceAdd, g0]) (by simp only [sx, reduceIte, Nat.reduceEqDiff, Nat.reduceAdd]) (by simp only [sx, reduceIte, Nat.reduceEqDiff, Nat.reduceAdd, g6]) y2 (x3.trans y3)
    simp only [q64_16, sx, reduceIte, Nat.reduceEqDiff, Nat.reduceAdd, g43]
    refine byT_mk (fun h2 => ?_) (fun h2 => ?_)
    · have k2 : x.k.toNat = 2 := by simp only [beqI] at h2; omega
      simp only [q64_18, sx, reduceIte, Nat.reduceEqDiff, Nat.reduceAdd, h2]
      refine end19 (by simp only [sx, reduceIte, Nat.reduceEqDiff, Nat.reduceAdd, g0]) (by simp only [sx, reduceIte, Nat.reduceEqDiff, Nat.reduceAdd, g5]) (by simp only [sx, reduceIte, Nat.reduceEqDiff, Nat.reduceAdd, g6]) (by simp only [sx, reduceIte, Nat.reduceEqDiff, Nat.reduceAdd, g7]) (.inl k2) fun v' h' F' e' q0 q5 q6 y1 y2 => ?_
      simp only [sx, reduceIte, Nat.reduceEqDiff, Nat.reduceAdd, q64_25, q64_26, q64_27, q0, q5, q6]
      exact hQ _ _ _ y1 y2
    · have k2 : ¬ x.k.toNat = 2 := by simp only [beqIf] at h2; omega
      simp only [q64_17, sx, reduceIte, Nat.reduceEqDiff, Nat.reduceAdd, g43, q64_18]
      refine byT_mk (fun h3 => ?_) (fun h3 => ?_)
      · have k3 : x.k.toNat = 3 := by simp only [beqI] at h3; omega
        refine end19 (by simp only [sx, reduceIte, Nat.reduceEqDiff, Nat.reduceAdd, g0]) (by simp only [sx, reduceIte, Nat.reduceEqDiff, Nat.reduceAdd, g5]) (by simp only [sx, reduceIte, Nat.reduceEqDiff, Nat.reduceAdd, g6]) (by simp only [sx, reduceIte, Nat.reduceEqDiff, Nat.reduceAdd, g7]) (.inr k3) fun v' h' F' e' q0 q5 q6 y1 y2 => ?_
        simp only [sx, reduceIte, Nat.reduceEqDiff, Nat.reduceAdd, q64_25, q64_26, q64_27, q0, q5, q6]
        exact hQ _ _ _ y1 y2
      · have k3 : ¬ x.k.toNat = 3 := by simp only [beqIf] at h3; omega
        have k23 : ¬ (x.k.toNat = 2 ∨ x.k.toNat = 3) := by omega
        simp only [q64_20, sx, reduceIte, Nat.reduceEqDiff, Nat.reduceAdd, g43]
        refine byT_mk (fun h4 => ?_) (fun h4 => ?_)
        · have k4 : x.k.toNat = 4 := by simp only [beqI] at h4; omega
          simp only [q64_22, sx, reduceIte, Nat.reduceEqDiff, Nat.reduceAdd, h4]
          refine end23 (by simp only [sx, reduceIte, Nat.reduceEqDiff, Nat.reduceAdd, g0]) (by simp only [sx, reduceIte, Nat.reduceEqDiff, Nat.reduceAdd, g5]) (by simp only [sx, reduceIte, Nat.reduceEqDiff, Nat.reduceAdd, g6]) (by simp only [sx, reduceIte, Nat.reduceEqDiff, Nat.reduceAdd, g7]) k23 (.inl k4) fun v' h' F' e' q0 q5 q6 y1 y2 => ?_
          simp only [sx, reduceIte, Nat.reduceEqDiff, Nat.reduceAdd, q64_24, q64_25, q64_26, q64_27, q0, q5, q6]
          exact hQ _ _ _ y1 y2
        · have k4 : ¬ x.k.toNat = 4 := by simp only [beqIf] at h4; omega
          simp only [q64_21, q64_22, sx, reduceIte, Nat.reduceEqDiff, Nat.reduceAdd, g43]
          refine byT_mk (fun h5 => ?_) (fun h5 => ?_)
          · have k5 : x.k.toNat = 5 := by simp only [beqI] at h5; omega
            refine end23 (by simp only [sx, reduceIte, Nat.reduceEqDiff, Nat.reduceAdd, g0]) (by simp only [sx, reduceIte, Nat.reduceEqDiff, Nat.reduceAdd, g5]) (by simp only [sx, reduceIte, Nat.reduceEqDiff, Nat.reduceAdd, g6]) (by simp only [sx, reduceIte, Nat.reduceEqDiff, Nat.reduceAdd, g7]) k23 (.inr k5) fun v' h' F' e' q0 q5 q6 y1 y2 => ?_
            simp only [sx, reduceIte, Nat.reduceEqDiff, Nat.reduceAdd, q64_24, q64_25, q64_26, q64_27, q0, q5, q6]
            exact hQ _ _ _ y1 y2
          · have k5 : ¬ x.k.toNat = 5 := by simp only [beqIf] at h5; omega
            have hb2 : encBody x = [] := by simp [encBody, k1, k2, k3, k4, k5]
            rw [hb2, List.append_nil] at hQ
            simp only [sx, reduceIte, Nat.reduceEqDiff, Nat.reduceAdd, q64_24, q64_25, q64_26, q64_27, g0, g5, g6]
            exact hQ _ _ _ hb (Gr.refl wf F)
end
theorem row64 {a : V} {h : H} {xs : List Vl} {lo : Nat} (wf : HWF h) (hlo : lo ≤ h.next) (ha : Vals h.read a xs) (hx : ∀ x ∈ xs, x.ok) (hl : xs.length < 100000000) :
    CW C 64 [a] lo h fun v h' => ∃ bv, v = .tup [bv, .int .i64 (rowErr xs)] ∧ (if rowErr xs = 0 then NewBytes h h' bv (rowBytes xs) else bv = .nils) ∧ Ch None_ None_ h h' := by
  refine CW.low hS hlo (enter64 rfl ?_)
  simp only [q64_0, sx, reduceIte, Nat.reduceEqDiff, Nat.reduceAdd, q64_1]
  refine rounds (fun m e' h' => ∃ i : Nat, e' = [(0, a), (4, .int .i64 (i : Int))] ∧ i ≤ xs.length ∧ m = xs.length - i ∧ (∀ x ∈ xs.take i, rightV x = true) ∧ Ch None_ None_ h h') ?_ xs.length ⟨0, by simp only [sx, reduceIte, Nat.reduceEqDiff, Nat.reduceAdd]; rfl, Nat.zero_le _, rfl, fun x hx => by simp at hx, Ch.refl _ _ wf⟩
  rintro m e' h1 ⟨i, rfl, hi, rfl, hrt, c1⟩
  have ha1 : Vals h1.read a xs := ha.mono vlE_mono (Ch.le c1)
  simp only [q64_2, sx, reduceIte, Nat.reduceEqDiff, Nat.reduceAdd, ha1.len s48]
  refine byT_dec (fun hlt => ?_) (fun hge => ?_)
  · have hlt : i < xs.length := by omega
    obtain ⟨b1, o1, p1, p2, _⟩ := ha1.at s48 (List.getElem?_eq_getElem hlt)
    have hm := List.getElem_mem hlt
    have e5 := add64 (a := i) (b := 1) (by omega)
    simp only [Int.cast_ofNat_Int] at e5
    simp only [q64_3, q64_4, sx, reduceIte, Nat.reduceEqDiff, Nat.reduceAdd, p1, p2]
    refine (right78 c1.wf (hx _ hm)).mono ?_
    rintro _ h2 ⟨rfl, c2⟩
    simp only [sx, reduceIte, Nat.reduceEqDiff, Nat.reduceAdd]
    refine byT_mk (fun g => ?_) (fun g => ?_)
    · have e : rowErr xs = 2 := by unfold rowErr; rw [if_pos (List.any_eq_true.2 ⟨_, hm, g⟩)]
      simp only [q64_5, sx, reduceIte, Nat.reduceEqDiff, Nat.reduceAdd, e64_rt, e]
      exact ⟨.nils, rfl, rfl, c1.trans c2⟩
    · have g : rightV xs[i] = true := by simpa using g
      simp only [sx, reduceIte, Nat.reduceEqDiff, Nat.reduceAdd, q64_6, e5]
      refine ⟨xs.length - (i + 1), by omega, i + 1, rfl, by omega, rfl, fun x hx => ?_, c1.trans c2⟩
      rw [List.take_add_one, List.getElem?_eq_getElem hlt] at hx
      rcases List.mem_append.1 hx with h | h
      · exact hrt x h
      · simp at h; subst h; exact g
  have hil : i = xs.length := by omega
  subst hil
  rw [List.take_length] at hrt
  have hn : ¬ (xs.any (fun x => !rightV x) = true) := fun h => by
    obtain ⟨x, h1, h2⟩ := List.any_eq_true.1 h
    rw [hrt x h1] at h2
    cases h2
  simp only [q64_7, sx, reduceIte, Nat.reduceEqDiff, Nat.reduceAdd, ha1.len s48]
  refine byT_dec (fun h12 => ?_) (fun h12 => ?_)
  · have h12 : 12 < xs.length := by omega
    have e : rowErr xs = 3 := by unfold rowErr; rw [if_neg hn, if_pos h12]
    simp only [q64_8, sx, reduceIte, Nat.reduceEqDiff, Nat.reduceAdd, e64_rt, e]
    exact ⟨.nils, rfl, rfl, c1⟩
  have h12 : xs.length ≤ 12 := by omega
  have c2 := ch_alloc c1.wf [byteV (lowB (xs.length : Int))]
  have b0 : BufB (h1.alloc [byteV (lowB (xs.length : Int))]) h.next (.sl h1.next 0 1 (some 1) 1) [lowB (xs.length : Int)] (some h1.next) := Buf.new c1.next rfl
  simp only [q64_9, sx, reduceIte, Nat.reduceEqDiff, Nat.reduceAdd, ha1.len s48, low35, buildSlice_one b22 (v := byteV (lowB (xs.length : Int))) rfl, q64_10]
  refine rounds (fun m e' h' => ∃ (i : Nat) (v : V) (F' : Option Nat), e' = [(0, a), (5, v), (6, .int .i64 (i : Int))] ∧ i ≤ xs.length ∧ m = xs.length - i ∧ BufB h' h.next v (lowB (xs.length : Int) :: (xs.take i).flatMap encV) F' ∧
      Ch None_ (fun g => h.next ≤ g) h h' ∧ ∀ g, F' = some g → h.next ≤ g) ?_ xs.length
    ⟨0, .sl h1.next 0 1 (some 1) 1, some h1.next, by simp only [sx, reduceIte, Nat.reduceEqDiff, Nat.reduceAdd]; rfl, by omega, rfl, by simpa using b0, (c1.trans c2).mono (fun _ h => h) (None_sub _), fun g hg => by cases hg; exact c1.next⟩
  rintro m e' h' ⟨i, v, F', rfl, hi, rfl, hb, hc, hF⟩
  have ha' : Vals h'.read a xs := ha.mono vlE_mono (Ch.le hc)
  simp only [q64_11, sx, reduceIte, Nat.reduceEqDiff, Nat.reduceAdd, ha'.len s48]
  refine byT_dec (fun hlt => ?_) (fun hge => ?_)
  · have hlt : i < xs.length := by omega
    obtain ⟨b1, o1, p1, p2, _⟩ := ha'.at s48 (List.getElem?_eq_getElem hlt)
    have hxi := hx _ (List.getElem_mem hlt)
    have cA := ch_alloc hc.wf [V.int .u8 0, .int .i64 0, .str []]
    obtain ⟨h3, st, own3, c3', n3⟩ := (Own.new (h := h') (lo := h.next) (cs := [V.int .u8 0, .int .i64 0, .str []]) hc.next).fill (P := Try.prog) (t := 60) (c := vlC xs[i]) cA.wf siz60 rfl rfl rfl
    have c3 : Ch None_ None_ h' h3 := ((cA.mono (None_sub (· = h'.next)) (None_sub (· = h'.next))).trans c3').old hc.wf (fun g h1 h2 => by omega) fun g h1 h2 => by omega
    have hb3 : BufB h3 h.next v (lowB (xs.length : Int) :: (xs.take i).flatMap encV) F' := Buf.ch hb c3 fun _ _ h => h
    have hA : At (h3.rb None_) h'.next 0 (vlC xs[i]) := (own3.at c3.wf).mono (rb_none _)
    have l0 : loadV Try.prog 58 (.ptr h'.next 0) h3.read = some (byteV xs[i].k) := (hA.mono (rb_le _ _)).cell0 c58 rfl
    have hfl := flat_len (xs := xs.take i) fun y hy => hx y (List.mem_of_mem_take hy)
    have htl : (xs.take i).length ≤ 12 := by simp; omega
    have hpl : (lowB (xs.length : Int) :: (xs.take i).flatMap encV).length ≤ 20000000 := by simp only [List.length_cons]; omega
    obtain ⟨v4, h4, F4, x1, x2, x3⟩ := append_byte a22 c3.wf (Nat.le_trans hc.next c3.next) hb3 xs[i].k (by omega)
    have hA4 := hA.mono (x3.ch.rb (None_sub None_))
    have l04 : loadV Try.prog 58 (.ptr h'.next 0) h4.read = some (byteV xs[i].k) := (hA4.mono (rb_le _ _)).cell0 c58 rfl
    have cz : (V.agg [V.int .u8 0, .int .i64 0, .str []]).cells = [V.int .u8 0, .int .i64 0, .str []] := rfl
    simp only [q64_12, q64_13, sx, reduceIte, Nat.reduceEqDiff, Nat.reduceAdd, p1, p2, z60, cz, st, fa60_0, l0, buildSlice_one b22 (v := byteV xs[i].k) rfl, x1, l04]
    refine row_value64 (a := a) (iv := .int .i64 (i : Int)) x3.ch.wf (Nat.le_trans hc.next (Nat.le_trans c3.next x3.ch.next)) hxi x2 (by omega) hA4 (by simp only [sx, reduceIte, Nat.reduceEqDiff, Nat.reduceAdd]) (by simp only [sx, reduceIte, Nat.reduceEqDiff, Nat.reduceAdd]) (by simp only [sx, reduceIte, Nat.reduceEqDiff, Nat.reduceAdd]) (by simp only [sx, reduceIte, Nat.reduceEqDiff, Nat.reduceAdd]) (by simp only [sx, reduceIte, Nat.reduceEqDiff, Nat.reduceAdd]; rfl) fun v5 h5 F5 y1 y2 => ?_
    have e5 := add64 (a := i) (b := 1) (by omega)
    simp only [Int.cast_ofNat_Int] at e5
    have cG := (c3.mono (None_sub None_) (None_sub fun g => F' = some g ∨ h'.next ≤ g)).trans ((x3.trans y2).ch.mono (fun _ h => h) fun g hg => hg.imp id fun h => Nat.le_trans c3.next h)
    simp only [sx, reduceIte, Nat.reduceEqDiff, Nat.reduceAdd, q64_28, e5]
    refine ⟨xs.length - (i + 1), by omega, i + 1, v5, F5, rfl, by omega, rfl, ?_, hc.trans (cG.mono (fun _ h => h) fun g hg => ?_), fun g hg => ?_⟩
    · rw [List.take_add_one, List.getElem?_eq_getElem hlt, List.flatMap_append]
      simpa using y1
    · rcases hg with hg | hg
      · exact hF g hg
      · exact Nat.le_trans hc.next hg
    · rcases (x3.trans y2).F g hg with h6 | h6
      · exact hF g h6
      · exact Nat.le_trans hc.next (Nat.le_trans c3.next h6)
  · have hil : i = xs.length := by omega
    subst hil
    rw [List.take_length] at hb
    have hb : BufB h' h.next v (rowBytes xs) F' := hb
    have hlen : lenV Try.prog [22] v = some (.int .i64 ((rowBytes xs).length : Int)) := (Buf.bytes (X := None_) hc.wf hb fun _ _ h => h).len t22
    have cEnd : Ch None_ None_ h h' := hc.old wf (fun _ h _ => h) fun _ h1 h2 => by omega
    simp only [q64_29, sx, reduceIte, Nat.reduceEqDiff, Nat.reduceAdd, hlen]
    refine byT_dec (fun h4 => ?_) (fun h4 => ?_)
    · have h4 : 480 < (rowBytes xs).length := by omega
      have e : rowErr xs = 3 := by unfold rowErr; rw [if_neg hn, if_neg (by omega), if_pos h4]
      simp only [q64_30, sx, reduceIte, Nat.reduceEqDiff, Nat.reduceAdd, e64_rt, e]
      exact ⟨.nils, rfl, rfl, cEnd⟩
    · have h4 : ¬ 480 < (rowBytes xs).length := by omega
      have e : rowErr xs = 0 := by unfold rowErr; rw [if_neg hn, if_neg (by omega), if_neg h4]
      simp only [q64_31, sx, reduceIte, Nat.reduceEqDiff, Nat.reduceAdd, e64_rt, e]
      exact ⟨v, rfl, ⟨F', hb, hF⟩, cEnd⟩
end Go.Proofs.Ytghmbmblhdgabaa
