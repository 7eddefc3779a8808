/- What the reference's small functions come to. -/
import Derived.Test.YtghmbmblhdgabaaW6a
import Derived.Test.YtghmbmblhdgabaaCodeA
set_option linter.all false
namespace Go.Proofs.Ytghmbmblhdgabaa
open Go Go.Den Code
set_option maxRecDepth 100000
theorem kind48 {k : UInt8} {h : H} {lo : Nat} : CW C 48 [byteV k] lo h fun v h' => v = .bool (kindOk k) ∧ h' = h := by
  refine enter48 rfl ?_
  have k1 : binV Try.prog .geq 40 (byteV k) (.int .u8 1) = some (.bool (decide ((k.toNat : Int) ≥ 1))) := binV_geq 40 .u8 _ _
  have k2 : binV Try.prog .leq 40 (byteV k) (.int .u8 9) = some (.bool (decide ((k.toNat : Int) ≤ 9))) := binV_leq 40 .u8 _ _
  simp only [q48_0, sx, reduceIte, Nat.reduceEqDiff, Nat.reduceAdd, k1, k2]
  unfold kindOk
  refine byT_dec (fun h1 => ?_) (fun h1 => ?_)
  · simp only [sx, reduceIte, Nat.reduceEqDiff, Nat.reduceAdd, e48_rt]
    refine ⟨?_, trivial⟩
    congr 1
    exact decide_eq_decide.2 ⟨fun h => ⟨by omega, by omega⟩, fun h => by omega⟩
  · simp only [sx, reduceIte, Nat.reduceEqDiff, Nat.reduceAdd, e48_rt]
    refine ⟨?_, trivial⟩
    congr 1
    exact (decide_eq_false (by omega)).symm
theorem quo64 (P : Program) (t : Nat) (n m : Nat) (hm : 0 < m) (hn : n < 9223372036854775808) : binV P .quo t (.int .i64 (n : Int)) (.int .i64 (m : Int)) = some (.int .i64 ((n / m : Nat) : Int)) := by
  simp only [binV, intOp, if_true]
  rw [if_neg (by omega)]
  have h1 : (n : Int).tdiv (m : Int) = ((n / m : Nat) : Int) := by rw [Int.tdiv_eq_ediv_of_nonneg (by omega)]; simp
  have h2 : n / m ≤ n := Nat.div_le_self _ _
  rw [h1]
  generalize n / m = q at h2
  rw [wrap64 (by omega) (by omega)]
theorem rem64 (P : Program) (t : Nat) (n m : Nat) (hm : 0 < m) : binV P .rem t (.int .i64 (n : Int)) (.int .i64 (m : Int)) = some (.int .i64 ((n % m : Nat) : Int)) := by
  simp only [binV, intOp, if_true]
  rw [if_neg (by omega)]
  have h1 : (n : Int).tmod (m : Int) = ((n % m : Nat) : Int) := by rw [Int.tmod_eq_emod_of_nonneg (by omega)]; simp
  rw [h1]
theorem lowMod (n : Nat) : lowB ((n % 256 : Nat) : Int) = lowB (n : Int) := low_mod (by omega)
theorem four65 {n : Nat} {h : H} {lo : Nat} (hn : n < 9223372036854775808) : CW C 65 [.int .i64 (n : Int)] lo h fun v h' => v = .sl h.next 0 4 (some 4) 1 ∧ h' = h.alloc ((fourB n).map byteV) := by
  refine enter65 rfl ?_
  have s1 : binV Try.prog .quo 3 (.int .i64 (n : Int)) (.int .i64 16777216) = some (.int .i64 ((n / 16777216 : Nat) : Int)) := quo64 _ _ n 16777216 (by omega) hn
  have s2 : binV Try.prog .quo 3 (.int .i64 (n : Int)) (.int .i64 65536) = some (.int .i64 ((n / 65536 : Nat) : Int)) := quo64 _ _ n 65536 (by omega) hn
  have s3 : binV Try.prog .quo 3 (.int .i64 (n : Int)) (.int .i64 256) = some (.int .i64 ((n / 256 : Nat) : Int)) := quo64 _ _ n 256 (by omega) hn
  have r : ∀ m : Nat, binV Try.prog .rem 3 (.int .i64 (m : Int)) (.int .i64 256) = some (.int .i64 ((m % 256 : Nat) : Int)) := fun m => rem64 _ _ m 256 (by omega)
  simp only [q65_0, sx, reduceIte, Nat.reduceEqDiff, Nat.reduceAdd, s1, s2, s3, r, low35, lowMod, build22_4, e65_rt]
  exact ⟨trivial, rfl⟩
/-- a frame in memory, by the reference -/
theorem put41 {k : UInt8} {w : V} {h : H} {bs : List UInt8} {lo : Nat} (wf : HWF h) (hlo : lo ≤ h.next) (hw : Bytes h.read w bs) (hl : bs.length ≤ 1000000000) :
    CW C 41 [.agg [byteV k, w]] lo h fun v h' => ∃ bv, v = .tup [bv, .int .i64 (putErr (k, bs))] ∧ (if putErr (k, bs) = 0 then NewBytes h h' bv (putB (k, bs)) else bv = .nils) ∧ Ch None_ None_ h h' := by
  refine CW.low hS hlo (enter41 rfl ?_)
  have c1 := ch_alloc wf [byteV k, w]
  have a1 := at_new wf [byteV k, w]
  have n1 : (h.alloc [byteV k, w]).next = h.next + 1 := rfl
  have l0 : ∀ {h' : H}, Le (h.alloc [byteV k, w]).read h'.read → loadV Try.prog 40 (.ptr h.next 0) h'.read = some (byteV k) := fun l => (a1.mono l).cell0 c40 rfl
  have l1 : ∀ {h' : H}, Le (h.alloc [byteV k, w]).read h'.read → loadV Try.prog 22 (.ptr h.next (0 + 1)) h'.read = some w := fun l => (a1.mono l).cell c22 rfl
  have w1 : Bytes (h.alloc [byteV k, w]).read w bs := hw.mono (Ch.le c1)
  have hr := Le.refl (h.alloc [byteV k, w]).read
  simp only [q41_0, sx, reduceIte, Nat.reduceEqDiff, Nat.reduceAdd, fa42_0, l0 hr, cells_fr]
  refine kind48.mono ?_
  rintro _ h' ⟨rfl, rfl⟩
  simp only [sx, reduceIte, Nat.reduceEqDiff, Nat.reduceAdd]
  refine byT_mk (fun g => ?_) (fun g => ?_)
  · have g : kindOk k = false := by simpa using g
    have e : putErr (k, bs) = 2 := by unfold putErr; rw [if_pos g]
    simp only [q41_1, sx, reduceIte, Nat.reduceEqDiff, Nat.reduceAdd, e41_rt, e]
    exact ⟨.nils, rfl, rfl, c1⟩
  · have hk : kindOk k = true := by simpa using g
    simp only [q41_2, sx, reduceIte, Nat.reduceEqDiff, Nat.reduceAdd, fa42_1, l1 hr, w1.len t22]
    refine byT_dec (fun g => ?_) (fun g => ?_)
    · have e : putErr (k, bs) = 3 := by unfold putErr; rw [if_neg (by simp [hk]), if_pos (by show 8192 ≤ bs.length; omega)]
      simp only [q41_3, sx, reduceIte, Nat.reduceEqDiff, Nat.reduceAdd, e41_rt, e]
      exact ⟨.nils, rfl, rfl, c1⟩
    · have e : putErr (k, bs) = 0 := by unfold putErr; rw [if_neg (by simp [hk]), if_neg (by show ¬ 8192 ≤ bs.length; omega)]
      have e1 := add64 (a := bs.length) (b := 1) (by omega)
      simp only [Int.cast_ofNat_Int] at e1
      simp only [q41_4, sx, reduceIte, Nat.reduceEqDiff, Nat.reduceAdd, fa42_1, l1 hr, w1.len t22, e1]
      refine (four65 (by omega)).mono ?_
      rintro _ _ ⟨rfl, rfl⟩
      have c2 := ch_alloc c1.wf ((fourB (bs.length + 1)).map byteV)
      have b2 : BufB ((h.alloc [byteV k, w]).alloc ((fourB (bs.length + 1)).map byteV)) h.next (.sl (h.alloc [byteV k, w]).next 0 4 (some 4) 1) (fourB (bs.length + 1)) (some (h.alloc [byteV k, w]).next) := Buf.new (by omega) rfl
      generalize hh2 : (h.alloc [byteV k, w]).alloc ((fourB (bs.length + 1)).map byteV) = h2 at c2 b2
      have c12 := c1.trans c2
      obtain ⟨v3, h3, F3, x1, x2, x3⟩ := append_byte a22 c2.wf c12.next b2 k (by simp [fourB])
      have le2 := Ch.le c2
      have le3 := le2.trans (Ch.le x3.ch)
      obtain ⟨v4, h4, F4, y1, y2, y3⟩ := append_bytes a22 x3.ch.wf (Nat.le_trans c12.next x3.ch.next) x2 (w1.mono le3).elems (by simp [fourB]; omega)
      simp only [sx, reduceIte, Nat.reduceEqDiff, Nat.reduceAdd, fa42_0, hh2, l0 le2, buildSlice_one b22 (v := byteV k) rfl, x1, fa42_1, l1 le3, y1, e41_rt, e]
      refine ⟨v4, rfl, ⟨F4, ?_, fun g hg => ?_⟩, ?_⟩
      · have e2 : putB (k, bs) = fourB (bs.length + 1) ++ [k] ++ bs := by unfold putB; simp
        rw [e2]
        exact y2
      · rcases (x3.trans y3).F g hg with h | h
        · cases h; omega
        · have := c12.next; omega
      · refine ((c12.mono (fun _ h => h) (None_sub _)).trans (x3.trans y3).ch).old wf (fun _ h _ => h) fun g hg hlt => ?_
        rcases hg with h | h
        · cases h; omega
        · have := c12.next; omega
/-! ### errors' frames -/
def errOk (f : Fm) : Bool := decide (f.1 = 8) && decide (f.2.length = 2)
def errNum (f : Fm) : Nat := if errOk f = true then (f.2.getD 0 0).toNat * 256 + (f.2.getD 1 0).toNat else 0
theorem errno {k : UInt8} {w : V} {h : H} {bs : List UInt8} {lo : Nat} (wf : HWF h) (hw : Bytes h.read w bs) :
    CW C 42 [.agg [byteV k, w]] lo h fun v h' => v = .tup [.int .i64 (errNum (k, bs) : Int), .bool (errOk (k, bs))] ∧ Ch None_ None_ h h' := by
  refine enter42 rfl ?_
  have c1 := ch_alloc wf [byteV k, w]
  have a1 := at_new wf [byteV k, w]
  have l0 : loadV Try.prog 40 (.ptr h.next 0) (h.alloc [byteV k, w]).read = some (byteV k) := a1.cell0 c40 rfl
  have l1 : loadV Try.prog 22 (.ptr h.next (0 + 1)) (h.alloc [byteV k, w]).read = some w := a1.cell c22 rfl
  have w1 : Bytes (h.alloc [byteV k, w]).read w bs := hw.mono (Ch.le c1)
  have k8 : binV Try.prog .neq 40 (byteV k) (.int .u8 8) = some (.bool (decide (k ≠ 8))) := byte_neq 40 k 8
  simp only [q42_0, sx, reduceIte, Nat.reduceEqDiff, Nat.reduceAdd, fa42_0, l0, cells_fr, k8, fa42_1, l1, w1.len t22]
  have bad : errOk (k, bs) = false → errNum (k, bs) = 0 := fun h => by unfold errNum; rw [if_neg (by simp [h])]
  refine byT_dec (fun g => ?_) (fun g => ?_)
  · have e : errOk (k, bs) = false := by unfold errOk; simp [g]
    simp only [q42_2, sx, reduceIte, Nat.reduceEqDiff, Nat.reduceAdd, e42_rt, e, bad e]
    exact ⟨rfl, c1⟩
  · have g : k = 8 := Classical.byContradiction g
    refine byT_mk (fun g2 => ?_) (fun g2 => ?_)
    · have g2 : bs.length ≠ 2 := by simp at g2; omega
      have e : errOk (k, bs) = false := by unfold errOk; simp [g2]
      simp only [q42_2, sx, reduceIte, Nat.reduceEqDiff, Nat.reduceAdd, e42_rt, e, bad e]
      exact ⟨rfl, c1⟩
    · have g2 : bs.length = 2 := by simp at g2; omega
      have e : errOk (k, bs) = true := by unfold errOk; simp [g, g2]
      obtain ⟨p, p1, p2⟩ := w1.at t22 c5 (i := 0) (by omega) (k := .i64)
      obtain ⟨q, q1, q2⟩ := w1.at t22 c5 (i := 1) (by omega) (k := .i64)
      simp only [Int.cast_ofNat_Int] at p1 q1
      have cb : ∀ x : UInt8, convV Try.prog (h.alloc [byteV k, w]).read 5 27 (byteV x) = some (.val (.int .i64 (x.toNat : Int))) := fun x => conv_byte Try.underlying27 x
      have hb0 := bs[0].toNat_lt
      have hb1 := bs[1].toNat_lt
      have sh : binV Try.prog .shl 27 (.int .i64 (bs[0].toNat : Int)) (.int .u64 8) = some (.int .i64 ((bs[0].toNat * 256 : Nat) : Int)) := shl64 Try.prog 27 .u64 bs[0].toNat 8 (by omega) (by omega)
      have or_ := or64 Try.prog 27 (bs[0].toNat * 256) bs[1].toNat (by omega) (by omega)
      have oe : bs[0].toNat * 256 ||| bs[1].toNat = bs[0].toNat * 256 + bs[1].toNat := or_low _ _ 8 (by omega)
      rw [oe] at or_
      have en : errNum (k, bs) = bs[0].toNat * 256 + bs[1].toNat := by
        show (if errOk (k, bs) = true then (bs.getD 0 0).toNat * 256 + (bs.getD 1 0).toNat else 0) = _
        rw [if_pos e, List.getD_eq_getElem?_getD, List.getD_eq_getElem?_getD, List.getElem?_eq_getElem (by omega), List.getElem?_eq_getElem (by omega)]
        rfl
      simp only [q42_3, sx, reduceIte, Nat.reduceEqDiff, Nat.reduceAdd, fa42_1, l1, p1, p2, q1, q2, cb, sh, or_, e42_rt, e, en]
      exact ⟨trivial, c1⟩
theorem res43 {e : E} {h : H} {K : V → H → Prop} {t : V} (hl : loadV Try.prog 42 (E.get e 2) h.read = some t) : resX C.P Try.f43.results.toList e h K = K t h := by
  have h1 : Try.f43.results.toList = [.cell 2 42] := by kernel_rfl
  have hl' : loadV C.P 42 (E.get e 2) h.read = some t := hl
  unfold resX
  rw [h1]
  simp only [resXs, resX1, hl']
  rfl
theorem bld22_2 (a b : UInt8) : buildSliceV Try.prog 22 2 [(0, byteV a), (1, byteV b)] = some (.new [byteV a, byteV b] (.sl 2 (some 2) 1)) := by
  unfold byteV
  kernel_rfl
theorem build42_8 {w : V} (i : IsSl w) : buildV Try.prog 42 [(0, .int .u8 8), (1, w)] = some (.agg [byteV 8, w]) := build42 8 i
theorem error {x : Int} {h : H} {lo : Nat} (wf : HWF h) (hlo : lo ≤ h.next) :
    CW C 43 [.int .i64 x] lo h fun v h' => ∃ w, v = .agg [byteV 8, w] ∧ Bytes h'.read w [lowB (x / 256), lowB x] ∧ Ch None_ None_ h h' := by
  refine CW.low hS hlo (enter43 rfl ?_)
  have cA := ch_alloc wf [V.int .u8 0, .nils]
  have cz : (V.agg [V.int .u8 0, .nils]).cells = [V.int .u8 0, .nils] := rfl
  have sh : binV Try.prog .shr 27 (.int .i64 x) (.int .u64 8) = some (.int .i64 (x / 256)) := by
    simp only [binV, shiftOp]
    rw [if_neg (by omega), Int.fdiv_eq_ediv_of_nonneg _ (by exact Int.le_of_lt (Int.pow_pos (by omega)))]
    rfl
  have cv : ∀ y : Int, convV Try.prog (h.alloc [V.int .u8 0, .nils]).read 27 5 (.int .i64 y) = some (.val (byteV (lowB y))) := fun y => by
    have h := conv_int (P := Try.prog) (rd := (h.alloc [V.int .u8 0, .nils]).read) Try.underlying27 Try.underlying5 .i64 y
    rwa [byteV_low] at h
  have cB := ch_alloc cA.wf ([lowB (x / 256), lowB x].map byteV)
  have wB : Bytes ((h.alloc [V.int .u8 0, .nils]).alloc ([lowB (x / 256), lowB x].map byteV)).read (.sl (h.alloc [V.int .u8 0, .nils]).next 0 2 (some 2) 1) [lowB (x / 256), lowB x] := at_bytes cA.wf [lowB (x / 256), lowB x] (some 2)
  have oA := (Own.new (h := h) (lo := h.next) (cs := [V.int .u8 0, .nils]) (Nat.le_refl _)).ch cB fun h => h
  obtain ⟨h3, s3, o3, c3, n3⟩ := oA.fill (P := Try.prog) (t := 42) (c := [byteV 8, .sl (h.alloc [V.int .u8 0, .nils]).next 0 2 (some 2) 1]) cB.wf siz42 rfl rfl rfl
  have l3 : loadV Try.prog 42 (.ptr h.next 0) h3.read = some (.agg [byteV 8, .sl (h.alloc [V.int .u8 0, .nils]).next 0 2 (some 2) 1]) := (o3.at c3.wf).agg agg42 siz42 rfl (by decide)
  have ez : [byteV (lowB (x / 256)), byteV (lowB x)] = [lowB (x / 256), lowB x].map byteV := rfl
  simp only [q43_0, sx, reduceIte, Nat.reduceEqDiff, Nat.reduceAdd, z42, cz, sh, cv, bld22_2, build42_8 wB.isSl, ez, s3, e43_rt]
  rw [res43 (t := .agg [byteV 8, .sl (h.alloc [V.int .u8 0, .nils]).next 0 2 (some 2) 1]) (by simp only [sx, reduceIte, Nat.reduceEqDiff, Nat.reduceAdd]; exact l3)]
  have nA : (h.alloc [V.int .u8 0, .nils]).next = h.next + 1 := rfl
  have upA : Bytes (((h.alloc [V.int .u8 0, .nils]).alloc ([lowB (x / 256), lowB x].map byteV)).rb (· = h.next)) (.sl (h.alloc [V.int .u8 0, .nils]).next 0 2 (some 2) 1) [lowB (x / 256), lowB x] :=
    .inr ⟨_, 0, some 2, _, rfl, rb_owned cB.wf (owned_alloc_new (Nat.zero_le _)) (by omega), by simp, by simp⟩
  refine ⟨_, rfl, (upA.mono (c3.rb fun _ h => h)).mono (rb_le _ _), ?_⟩
  exact (((cA.mono (None_sub (· = h.next)) (None_sub (· = h.next))).trans (cB.mono (None_sub _) (None_sub _))).trans c3).old wf (fun g h1 h2 => by omega) fun g h1 h2 => by omega
end Go.Proofs.Ytghmbmblhdgabaa
