/- The program's block. -/
import Derived.Test.YtghmbmblhdgabaaDoorP3
set_option linter.all false
namespace Go.Proofs.YtghmbmblhdgabaaDoor
open Go Go.Den Code
set_option maxRecDepth 100000
def hrun (hs v : List UInt32) : Nat → List UInt32
  | 0 => hs
  | i + 1 => (hrun hs v i).set i ((hrun hs v i).getD i 0 + v.getD i 0)
theorem hrun_len (hs v : List UInt32) : ∀ i, (hrun hs v i).length = hs.length
  | 0 => rfl
  | i + 1 => by simp [hrun, hrun_len hs v i]
/-- a state turned by 64 bytes -/
def blk (ks hs : List UInt32) (bs : List UInt8) : List UInt32 := hrun hs (vrun ks (wrun bs 64) hs 64) 8
theorem blk_len {ks hs : List UInt32} {bs : List UInt8} (h : hs.length = 8) : (blk ks hs bs).length = 8 := by
  unfold blk
  rw [hrun_len, h]
theorem res24 {e : E} {h : H} {K : V → H → Prop} {t : V} (hl : loadV Tryd.prog 39 (E.get e 4) h.read = some t) : resX C.P Tryd.f24.results.toList e h K = K t h := by
  have h1 : Tryd.f24.results.toList = [.cell 4 39] := by kernel_rfl
  have hl' : loadV C.P 39 (E.get e 4) h.read = some t := hl
  unfold resX
  rw [h1]
  simp only [resXs, resX1, hl']
  rfl
theorem z39 : zero? Tryd.prog 39 = some (.agg ((List.replicate 8 (0 : UInt32)).map w32)) := by kernel_rfl
theorem z44 : zero? Tryd.prog 44 = some (.agg ((List.replicate 64 (0 : UInt32)).map w32)) := by kernel_rfl
theorem inc64 {i : Nat} (h : i < 9000000000000000000) : IntKind.wrap .i64 ((i : Int) + 1) = ((i + 1 : Nat) : Int) := by
  rw [wrap64 (by omega) (by omega)]
  simp
theorem end_ {h0 h : H} (wf : HWF h0) (c : Ch (Zr h0) (Zr h0) h0 h) : Ch None_ None_ h0 h := c.old wf (fun g h1 h2 => by have : h0.next ≤ g := h1; omega) fun g h1 h2 => by have : h0.next ≤ g := h1; omega
/-- the third loop -/
theorem sums {h0 h : H} {hs w v ks : List UInt32} (wf0 : HWF h0) (hk : h0.read 0 = some (ks.map w32)) (hhl : hs.length = 8) (hvl : v.length = 8) (S : VS h0 h hs w v ks) {K : V → H → Prop} {e : E}
    (g2 : E.get e 2 = .ptr h0.next 0) (g4 : E.get e 4 = .ptr (h0.next + 1) 0) (g11 : E.get e 11 = .ptr (h0.next + 3) 0) (hK : ∀ h', Ch None_ None_ h0 h' → K (.agg ((hrun hs v 8).map w32)) h') : XW C h0.next x24_14 (kF24 K) e h := by
  simp only [q24_14, sx, reduceIte, Nat.reduceEqDiff, Nat.reduceAdd, g2, g4, g11]
  simp only [q24_15, sx, reduceIte, Nat.reduceEqDiff, Nat.reduceAdd]
  refine rounds (fun m e' h' => ∃ i : Nat, e' = [(2, .ptr h0.next 0), (4, .ptr (h0.next + 1) 0), (11, .ptr (h0.next + 3) 0), (183, .int .i64 (i : Int))] ∧ i ≤ 8 ∧ m = 8 - i ∧ VS h0 h' (hrun hs v i) w v ks) ?_ 8 ⟨0, by simp only [sx, reduceIte, Nat.reduceEqDiff, Nat.reduceAdd]; rfl, by omega, rfl, S⟩
  rintro m e' h' ⟨i, rfl, hi, hm, S⟩
  simp only [q24_16, sx, reduceIte, Nat.reduceEqDiff, Nat.reduceAdd]
  refine byT_dec (fun hlt => ?_) (fun hge => ?_)
  · have hlt : i < 8 := by omega
    have hl := hrun_len hs v i
    have l2 := load38 (S.o2.read S.ch.wf) (i := i) (by omega)
    have l11 := load38 (S.o11.read S.ch.wf) (i := i) (by omega)
    have a2 := addr39 (b := h0.next) (k := .i64) hlt
    have a11 := addr39 (b := h0.next + 3) (k := .i64) hlt
    obtain ⟨h2, s1, o', c', n'⟩ := Own.put32 S.ch.wf S.o2 (i := i) ((hrun hs v i).getD i 0 + v.getD i 0) (by omega)
    simp only [q24_17, q24_18, sx, reduceIte, Nat.reduceEqDiff, Nat.reduceAdd, a2, a11, l2, l11, add32, s1]
    simp only [q24_19, sx, reduceIte, Nat.reduceEqDiff, Nat.reduceAdd, inc64 (by omega : i < 9000000000000000000)]
    have cz : Ch (Zr h0) (Zr h0) h' h2 := c'.mono (fun g (h : g = _) => by show h0.next ≤ g; omega) fun g (h : g = _) => by show h0.next ≤ g; omega
    refine ⟨8 - (i + 1), by omega, i + 1, rfl, by omega, rfl, ⟨S.ch.trans cz, by rw [n']; exact S.nx, o', S.o4.ch c' (by omega), S.o5.ch c' (by omega), S.o11.ch c' (by omega), (rb_le _ _) _ _ ((S.ch.trans cz).rb (fun _ h => h) _ _ (rb_old wf0 _ _ hk))⟩⟩
  · have : i = 8 := by omega
    subst this
    have ht : loadV Tryd.prog 39 (.ptr h0.next 0) h'.read = some (.agg ((hrun hs v 8).map w32)) := (S.o2.at S.ch.wf).agg agg39 siz39 (by simp [hrun_len, hhl]) (by decide)
    obtain ⟨h2, s1, o', c', n'⟩ := S.o4.fill (P := Tryd.prog) (t := 39) (n := 8) (c := (hrun hs v 8).map w32) S.ch.wf siz39 (by simp [hrun_len, hhl]) (scal32 _) (by simp)
    have cz : Ch (Zr h0) (Zr h0) h' h2 := c'.mono (fun g (h : g = _) => by show h0.next ≤ g; omega) fun g (h : g = _) => by show h0.next ≤ g; omega
    simp only [q24_20, sx, reduceIte, Nat.reduceEqDiff, Nat.reduceAdd, ht, s1, e24_rt]
    rw [res24 (by simp only [sx, reduceIte, Nat.reduceEqDiff, Nat.reduceAdd]; exact (o'.at (S.ch.trans cz).wf).agg agg39 siz39 (by simp [hrun_len, hhl]) (by decide))]
    exact hK h2 (end_ wf0 (S.ch.trans cz))
/-- the second loop, and what follows -/
theorem rounds2 {h0 h : H} {hs w ks : List UInt32} (wf0 : HWF h0) (hk : h0.read 0 = some (ks.map w32)) (hkl : ks.length = 64) (hwl : w.length = 64) (hhl : hs.length = 8) (S : VS h0 h hs w hs ks) {K : V → H → Prop}
    (hK : ∀ h', Ch None_ None_ h0 h' → K (.agg ((hrun hs (vrun ks w hs 64) 8).map w32)) h') :
    XW C h0.next x24_9 (kXB 2 (XW C h0.next x24_14 (kF24 K)) (kF24 K)) [(101, .int .i64 0), (11, .ptr (h0.next + 3) 0), (2, .ptr h0.next 0), (4, .ptr (h0.next + 1) 0), (5, .ptr (h0.next + 2) 0)] h := by
  simp only [q24_9, sx, reduceIte, Nat.reduceEqDiff, Nat.reduceAdd]
  refine rounds (fun m e' h' => ∃ i : Nat, e' = [(2, .ptr h0.next 0), (4, .ptr (h0.next + 1) 0), (5, .ptr (h0.next + 2) 0), (11, .ptr (h0.next + 3) 0), (101, .int .i64 (i : Int))] ∧ i ≤ 64 ∧ m = 64 - i ∧ VS h0 h' hs w (vrun ks w hs i) ks) ?_ 64 ⟨0, by simp only [sx, reduceIte, Nat.reduceEqDiff, Nat.reduceAdd]; rfl, by omega, rfl, S⟩
  rintro m e' h' ⟨i, rfl, hi, hm, S⟩
  simp only [q24_10, sx, reduceIte, Nat.reduceEqDiff, Nat.reduceAdd]
  refine byT_dec (fun hlt => ?_) (fun hge => ?_)
  · have hlt : i < 64 := by omega
    simp only [q24_11]
    refine round wf0 hk hkl hwl (vrun_len hhl i) S hlt (by simp only [sx, reduceIte, Nat.reduceEqDiff, Nat.reduceAdd]) (by simp only [sx, reduceIte, Nat.reduceEqDiff, Nat.reduceAdd]) (by simp only [sx, reduceIte, Nat.reduceEqDiff, Nat.reduceAdd]) fun l h2 S2 hg => ?_
    have g2 := hg 2 (by simp)
    have g4 := hg 4 (by simp)
    have g5 := hg 5 (by simp)
    have g11 := hg 11 (by simp)
    have g101 := hg 101 (by simp)
    simp only [sx, reduceIte, Nat.reduceEqDiff, Nat.reduceAdd] at g2 g4 g5 g11 g101
    simp only [q24_13, sx, reduceIte, Nat.reduceEqDiff, Nat.reduceAdd, g2, g4, g5, g11, g101, inc64 (by omega : i < 9000000000000000000)]
    exact ⟨64 - (i + 1), by omega, i + 1, rfl, by omega, rfl, S2⟩
  · have : i = 64 := by omega
    subst this
    exact sums wf0 hk hhl (vrun_len hhl 64) S (by simp only [sx, reduceIte, Nat.reduceEqDiff, Nat.reduceAdd]) (by simp only [sx, reduceIte, Nat.reduceEqDiff, Nat.reduceAdd]) (by simp only [sx, reduceIte, Nat.reduceEqDiff, Nat.reduceAdd]) hK
theorem block {bv : V} {h0 : H} {bs : List UInt8} {hs ks : List UInt32} {lo : Nat} (wf0 : HWF h0) (hlo : lo ≤ h0.next) (hhl : hs.length = 8) (hb : Bytes h0.read bv bs) (hbl : bs.length = 64) (hk : h0.read 0 = some (ks.map w32)) (hkl : ks.length = 64)
    {K : V → H → Prop} (hK : ∀ h', Ch None_ None_ h0 h' → K (.agg ((blk ks hs bs).map w32)) h') : CW C 24 [.agg (hs.map w32), bv] lo h0 K := by
  refine CW.low hS hlo (enter24 rfl ?_)
  simp only [q24_0, sx, reduceIte, Nat.reduceEqDiff, Nat.reduceAdd, z39, z44]
  have c1 := ch_alloc wf0 (hs.map w32)
  have c2 := ch_alloc c1.wf ((List.replicate 8 (0 : UInt32)).map w32)
  have c3 := ch_alloc c2.wf ((List.replicate 64 (0 : UInt32)).map w32)
  have o2 := (Own.new (h := h0) (lo := h0.next) (cs := hs.map w32) (Nat.le_refl _)).ch c2 id
  have o4 := (Own.new (h := h0.alloc (hs.map w32)) (lo := h0.next) (cs := (List.replicate 8 (0 : UInt32)).map w32) (Nat.le_succ _)).ch c3 id
  have cA := (c1.trans c2).trans c3
  have S : BS h0 (((h0.alloc (hs.map w32)).alloc ((List.replicate 8 (0 : UInt32)).map w32)).alloc ((List.replicate 64 (0 : UInt32)).map w32)) bs hs (wrun bs 0) bv :=
    ⟨cA.mono (None_sub _) (None_sub _), rfl, o2.ch c3 id, o4, Own.new (Nat.le_trans (Nat.le_succ _) (Nat.le_succ _)), (hb.mono (rb_none _)).mono ((cA.rb (None_sub _)).trans (rb_le _ None_))⟩
  generalize hH : ((h0.alloc (hs.map w32)).alloc ((List.replicate 8 (0 : UInt32)).map w32)).alloc ((List.replicate 64 (0 : UInt32)).map w32) = hA at S ⊢
  show XW C h0.next x24_1 _ ((20, .int .i64 0) :: (5, .ptr (h0.next + 2) 0) :: (2, .ptr h0.next 0) :: (4, .ptr (h0.next + 1) 0) :: args 0 [.agg (hs.map w32), bv]) hA
  simp only [q24_1, sx, reduceIte, Nat.reduceEqDiff, Nat.reduceAdd]
  refine rounds (fun m e' h' => ∃ i : Nat, e' = [(1, bv), (2, .ptr h0.next 0), (4, .ptr (h0.next + 1) 0), (5, .ptr (h0.next + 2) 0), (20, .int .i64 (i : Int))] ∧ i ≤ 64 ∧ m = 64 - i ∧ BS h0 h' bs hs (wrun bs i) bv) ?_ 64 ⟨0, by simp only [sx, reduceIte, Nat.reduceEqDiff, Nat.reduceAdd]; rfl, by omega, rfl, S⟩
  rintro m e' h' ⟨i, rfl, hi, hm, S⟩
  simp only [q24_2, sx, reduceIte, Nat.reduceEqDiff, Nat.reduceAdd]
  refine byT_dec (fun hlt => ?_) (fun hge => ?_)
  · have hlt : i < 64 := by omega
    simp only [q24_3, q24_4, sx, reduceIte, Nat.reduceEqDiff, Nat.reduceAdd]
    refine byT_dec (fun h16 => ?_) (fun h16 => ?_)
    · refine sched_early wf0 hb hbl S (by omega) (by simp only [sx, reduceIte, Nat.reduceEqDiff, Nat.reduceAdd]) (by simp only [sx, reduceIte, Nat.reduceEqDiff, Nat.reduceAdd]) (by simp only [sx, reduceIte, Nat.reduceEqDiff, Nat.reduceAdd]) fun h2 S2 => ?_
      simp only [sx, reduceIte, Nat.reduceEqDiff, Nat.reduceAdd, q24_7, inc64 (by omega : i < 9000000000000000000)]
      exact ⟨64 - (i + 1), by omega, i + 1, rfl, by omega, rfl, S2⟩
    · refine sched_late wf0 hb S (by omega) hlt (by simp only [sx, reduceIte, Nat.reduceEqDiff, Nat.reduceAdd]) (by simp only [sx, reduceIte, Nat.reduceEqDiff, Nat.reduceAdd]) fun a b c d h2 S2 => ?_
      simp only [sx, reduceIte, Nat.reduceEqDiff, Nat.reduceAdd, q24_7, inc64 (by omega : i < 9000000000000000000)]
      exact ⟨64 - (i + 1), by omega, i + 1, rfl, by omega, rfl, S2⟩
  · have : i = 64 := by omega
    subst this
    have l2 : loadV Tryd.prog 39 (.ptr h0.next 0) h'.read = some (.agg (hs.map w32)) := (S.o2.at S.ch.wf).agg agg39 siz39 (by simp [hhl]) (by decide)
    have d1 := ch_alloc S.ch.wf ((List.replicate 8 (0 : UInt32)).map w32)
    have oN : Own (h'.alloc ((List.replicate 8 (0 : UInt32)).map w32)) h0.next h'.next h'.next _ := Own.new S.ch.next
    obtain ⟨h2, s1, o', c', n'⟩ := oN.fill (P := Tryd.prog) (t := 39) (n := 8) (c := hs.map w32) d1.wf siz39 (by simp [hhl]) (scal32 _) (by simp)
    have nx := S.nx
    simp only [q24_8, sx, reduceIte, Nat.reduceEqDiff, Nat.reduceAdd, l2, z39, s1]
    rw [nx] at o' c' ⊢
    have cz : Ch (Zr h0) (Zr h0) h' h2 := (d1.mono (None_sub _) (None_sub _)).trans (c'.mono (fun g (h : g = _) => by show h0.next ≤ g; omega) fun g (h : g = _) => by show h0.next ≤ g; omega)
    refine rounds2 wf0 hk hkl (wrun_len bs 64) hhl ⟨S.ch.trans cz, ?_, (S.o2.ch d1 id).ch c' (by omega), (S.o4.ch d1 id).ch c' (by omega), (S.o5.ch d1 id).ch c' (by omega), o', (rb_le _ _) _ _ ((S.ch.trans cz).rb (fun _ h => h) _ _ (rb_old wf0 _ _ hk))⟩ hK
    rw [n']
    show h'.next + 1 = _
    omega
end Go.Proofs.YtghmbmblhdgabaaDoor
