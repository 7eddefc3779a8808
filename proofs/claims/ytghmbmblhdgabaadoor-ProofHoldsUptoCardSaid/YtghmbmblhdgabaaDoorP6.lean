/- The program's digest. -/
import Derived.Test.YtghmbmblhdgabaaDoorP5
set_option linter.all false
namespace Go.Proofs.YtghmbmblhdgabaaDoor
open Go Go.Den Code
set_option maxRecDepth 100000
def iv : List UInt32 := [1779033703, 3144134277, 1013904242, 2773480762, 1359893119, 2600822924, 528734635, 1541459225]
def zerosN (n : Nat) : Nat := (120 - (n + 1) % 64) % 64
def padB (bs : List UInt8) : List UInt8 := bs ++ [128] ++ List.replicate (zerosN bs.length) 0 ++ longS (8 * bs.length) 8
def absorb (ks : List UInt32) (p : List UInt8) : Nat → List UInt32
  | 0 => iv
  | j + 1 => blk ks (absorb ks p j) ((p.drop (64 * j)).take 64)
def outR (hs : List UInt32) : Nat → List UInt8
  | 0 => List.replicate 32 0
  | i + 1 => (outR hs i).set i (hs.getD (i / 4) 0 >>> UInt32.ofNat (24 - 8 * (i % 4))).toUInt8
/-- the digest -/
def sha (ks : List UInt32) (bs : List UInt8) : List UInt8 := outR (absorb ks (padB bs) ((padB bs).length / 64)) 32
theorem outR_len (hs : List UInt32) : ∀ i, (outR hs i).length = 32
  | 0 => by simp [outR]
  | i + 1 => by simp [outR, outR_len hs i]
theorem sha_len (ks : List UInt32) (bs : List UInt8) : (sha ks bs).length = 32 := outR_len _ _
theorem absorb_len (ks : List UInt32) (p : List UInt8) : ∀ j, (absorb ks p j).length = 8
  | 0 => rfl
  | j + 1 => blk_len (absorb_len ks p j)
theorem padB_len (bs : List UInt8) : (padB bs).length = bs.length + 1 + zerosN bs.length + 8 := by
  simp [padB, longS_len]
  omega
theorem padB_mod (bs : List UInt8) : (padB bs).length % 64 = 0 := by
  rw [padB_len]
  unfold zerosN
  omega
theorem siz24 : size? Tryd.prog 24 = some 32 := by kernel_rfl
theorem agg24 : agg? Tryd.prog 24 = some true := by kernel_rfl
theorem z24 : zero? Tryd.prog 24 = some (.agg ((List.replicate 32 (0 : UInt8)).map byteV)) := by kernel_rfl
theorem ivV : buildV Tryd.prog 39 [(0, .int .u32 1779033703), (1, .int .u32 3144134277), (2, .int .u32 1013904242), (3, .int .u32 2773480762), (4, .int .u32 1359893119), (5, .int .u32 2600822924), (6, .int .u32 528734635), (7, .int .u32 1541459225)] = some (.agg (iv.map w32)) := by kernel_rfl
theorem b128 : buildSliceV Tryd.prog 22 1 [(0, .int .u8 128)] = some (.new [byteV 128] (.sl 1 (some 1) 1)) := bs22_1 128
theorem b0 : buildSliceV Tryd.prog 22 1 [(0, .int .u8 0)] = some (.new [byteV 0] (.sl 1 (some 1) 1)) := bs22_1 0
theorem rem64 (n : Nat) : binV Tryd.prog .rem 3 (.int .i64 (n : Int)) (.int .i64 64) = some (.int .i64 ((n % 64 : Nat) : Int)) := by
  simp only [binV, intOp, if_true]
  rw [if_neg (by decide)]
  congr 2
theorem rem4 (n : Nat) : binV Tryd.prog .rem 3 (.int .i64 (n : Int)) (.int .i64 4) = some (.int .i64 ((n % 4 : Nat) : Int)) := by
  simp only [binV, intOp, if_true]
  rw [if_neg (by decide)]
  congr 2
theorem quo4 (n : Nat) (h : n < 1000) : binV Tryd.prog .quo 3 (.int .i64 (n : Int)) (.int .i64 4) = some (.int .i64 ((n / 4 : Nat) : Int)) := by
  simp only [binV, intOp, if_true]
  rw [if_neg (by decide)]
  have : (n : Int).tdiv 4 = ((n / 4 : Nat) : Int) := rfl
  rw [this, wrap64 (by omega) (by omega)]
theorem conv3_29 (rd : Rd) (n : Nat) (h : n < 9000000000000000000) : convV Tryd.prog rd 3 29 (.int .i64 (n : Int)) = some (.val (.int .u64 (n : Int))) := by
  have h5 : Tryd.prog.underlying 3 = some (.int .i64) := Tryd.underlying3
  have h3 : Tryd.prog.underlying 29 = some (.int .u64) := Tryd.underlying29
  simp only [convV, h5, h3]
  congr 3
  simp [IntKind.wrap, IntKind.bits, IntKind.signed]
  omega
theorem mulu64 {n : Nat} (h : n < 1000000000000000000) : IntKind.wrap .u64 (8 * (n : Int)) = ((8 * n : Nat) : Int) := by
  simp [IntKind.wrap, IntKind.bits, IntKind.signed]
  omega
theorem Own.put8 {h : H} {lo b f : Nat} {xs : List UInt8} (wf : HWF h) (r : Own h lo b f (xs.map byteV)) {i : Nat} (y : UInt8) (hi : i < xs.length) :
    ∃ h', storeV Tryd.prog lo 5 (.ptr b i) (byteV y) h = some h' ∧ Own h' lo b f ((xs.set i y).map byteV) ∧ Ch (· = f) (· = f) h h' ∧ h'.next = h.next := by
  obtain ⟨h', h1, h2, h3, h4⟩ := r.set (P := Tryd.prog) (t := 5) (w := byteV y) (o := i) wf (by kernel_rfl) rfl rfl (by simpa using hi)
  rw [set_map _ _ _ hi] at h2
  exact ⟨h', h1, h2, h3, h4⟩
/-- what Sum holds -/
structure SS (h0 h : H) (hs : List UInt32) : Prop where
  ch : Ch (Zr h0) (Zr h0) h0 h
  nx : h0.next + 2 ≤ h.next
  o2 : Own h h0.next h0.next h0.next ((List.replicate 32 (0 : UInt8)).map byteV)
  o3 : Own h h0.next (h0.next + 1) (h0.next + 1) (hs.map w32)
theorem SS.go {h0 h h' : H} {hs : List UInt32} {Y : Nat → Prop} (S : SS h0 h hs) (c : Ch None_ Y h h') (h2 : ∀ g, Y g → h0.next + 2 ≤ g) : SS h0 h' hs :=
  ⟨S.ch.trans (c.mono (None_sub _) fun g hg => by have := h2 g hg; show h0.next ≤ g; omega), Nat.le_trans S.nx c.next, S.o2.ch c fun h => by have := h2 _ h; omega, S.o3.ch c fun h => by have := h2 _ h; omega⟩
theorem res8 {e : E} {h : H} {K : V → H → Prop} {t : V} (hl : loadV Tryd.prog 24 (E.get e 2) h.read = some t) : resX C.P Tryd.f8.results.toList e h K = K t h := by
  have h1 : Tryd.f8.results.toList = [.cell 2 24] := by kernel_rfl
  have hl' : loadV C.P 24 (E.get e 2) h.read = some t := hl
  unfold resX
  rw [h1]
  simp only [resXs, resX1, hl']
  rfl
/-- the last loop -/
theorem sum_out {h0 h : H} {hs : List UInt32} (wf0 : HWF h0) (hl : hs.length = 8) (S : SS h0 h hs) {K : V → H → Prop} {e : E} (g2 : E.get e 2 = .ptr h0.next 0) (g3 : E.get e 3 = .ptr (h0.next + 1) 0)
    (hK : ∀ h', Ch None_ None_ h0 h' → K (.agg ((outR hs 32).map byteV)) h') : XW C h0.next x8_12 (kF8 K) e h := by
  simp only [q8_12, sx, reduceIte, Nat.reduceEqDiff, Nat.reduceAdd, z24, g2, g3]
  have c1 := ch_alloc S.ch.wf ((List.replicate 32 (0 : UInt8)).map byteV)
  have S1 := S.go c1 fun _ h => h.elim
  have o5 : Own (h.alloc ((List.replicate 32 (0 : UInt8)).map byteV)) h0.next h.next h.next ((outR hs 0).map byteV) := Own.new S.ch.next
  have nx := S.nx
  have nx1 : h.next < (h.alloc ((List.replicate 32 (0 : UInt8)).map byteV)).next := Nat.lt_succ_self _
  generalize hb5 : h.next = b5 at o5 nx nx1 ⊢
  simp only [q8_13, sx, reduceIte, Nat.reduceEqDiff, Nat.reduceAdd]
  refine rounds (fun m e' h' => ∃ i : Nat, e' = [(2, .ptr h0.next 0), (3, .ptr (h0.next + 1) 0), (5, .ptr b5 0), (34, .int .i64 (i : Int))] ∧ i ≤ 32 ∧ m = 32 - i ∧ SS h0 h' hs ∧ Own h' h0.next b5 b5 ((outR hs i).map byteV)) ?_ 32
    ⟨0, by simp only [sx, reduceIte, Nat.reduceEqDiff, Nat.reduceAdd]; rfl, by omega, rfl, S1, o5⟩
  rintro m e' h' ⟨i, rfl, hi, hm, S, o5⟩
  simp only [q8_14, sx, reduceIte, Nat.reduceEqDiff, Nat.reduceAdd]
  refine byT_dec (fun hlt => ?_) (fun hge => ?_)
  · have hlt : i < 32 := by omega
    have l3 := load38 (S.o3.read S.ch.wf) (i := i / 4) (by omega)
    have a3 := addr39 (b := h0.next + 1) (i := i / 4) (k := .i64) (by omega)
    have a5 := addr24 (b := b5) (i := i) (k := .i64) hlt
    have m0 : IntKind.wrap .i64 (8 * ((i % 4 : Nat) : Int)) = ((8 * (i % 4) : Nat) : Int) := by rw [wrap64 (by omega) (by omega)]; omega
    have m1 : IntKind.wrap .i64 (24 - ((8 * (i % 4) : Nat) : Int)) = ((24 - 8 * (i % 4) : Nat) : Int) := by rw [wrap64 (by omega) (by omega)]; omega
    obtain ⟨h2, s1, o', c', n'⟩ := Own.put8 S.ch.wf o5 (i := i) (hs.getD (i / 4) 0 >>> UInt32.ofNat (24 - 8 * (i % 4))).toUInt8 (by rw [outR_len]; exact hlt)
    simp only [q8_15, q8_16, sx, reduceIte, Nat.reduceEqDiff, Nat.reduceAdd, quo4 i (by omega), a3, l3, rem4, m0, m1, shr32 _ _ _ _ (24 - 8 * (i % 4)) (by omega), conv38_5, a5, s1]
    simp only [q8_17, sx, reduceIte, Nat.reduceEqDiff, Nat.reduceAdd, inc64 (by omega : i < 9000000000000000000)]
    refine ⟨32 - (i + 1), by omega, i + 1, rfl, by omega, rfl, ⟨S.ch.trans (c'.mono (fun g (h : g = _) => by show h0.next ≤ g; omega) fun g (h : g = _) => by show h0.next ≤ g; omega), by rw [n']; exact S.nx, S.o2.ch c' (by omega), S.o3.ch c' (by omega)⟩, o'⟩
  · have : i = 32 := by omega
    subst this
    have hol := outR_len hs 32
    have ht : loadV Tryd.prog 24 (.ptr b5 0) h'.read = some (.agg ((outR hs 32).map byteV)) := (o5.at S.ch.wf).agg agg24 siz24 (by simp [hol]) (by decide)
    obtain ⟨h2, s1, o', c', n'⟩ := S.o2.fill (P := Tryd.prog) (t := 24) (n := 32) (c := (outR hs 32).map byteV) S.ch.wf siz24 (by simp [hol]) (bytes_scal _) (by simp)
    have cz : Ch (Zr h0) (Zr h0) h' h2 := c'.mono (fun g (h : g = _) => by show h0.next ≤ g; omega) fun g (h : g = _) => by show h0.next ≤ g; omega
    simp only [q8_18, sx, reduceIte, Nat.reduceEqDiff, Nat.reduceAdd, ht, s1, e8_rt]
    rw [res8 (by simp only [sx, reduceIte, Nat.reduceEqDiff, Nat.reduceAdd]; exact (o'.at (S.ch.trans cz).wf).agg agg24 siz24 (by simp [hol]) (by decide))]
    exact hK h2 (end_ wf0 (S.ch.trans cz))
/-- the blocks, one by one -/
theorem sum_blocks {h0 h : H} {ks : List UInt32} {p : List UInt8} {v : V} {F : Option Nat} (wf0 : HWF h0) (hk : h0.read 0 = some (ks.map w32)) (hkl : ks.length = 64) (hp : p.length < 1000000000000000) (hp64 : p.length % 64 = 0) (S : SS h0 h iv) (hb : BufB h h0.next v p F) (hF : ∀ g, F = some g → h0.next + 2 ≤ g) {K : V → H → Prop} {e : E} (g2 : E.get e 2 = .ptr h0.next 0) (g3 : E.get e 3 = .ptr (h0.next + 1) 0) (g4 : E.get e 4 = v)
    (hK : ∀ h', Ch None_ None_ h0 h' → K (.agg ((outR (absorb ks p (p.length / 64)) 32).map byteV)) h') :
    XW C h0.next x8_7 (kXB 2 (XW C h0.next x8_12 (kF8 K)) (kF8 K)) e h := by
  simp only [q8_7, sx, reduceIte, Nat.reduceEqDiff, Nat.reduceAdd]
  refine rounds (fun m e' h' => ∃ (j : Nat) (v : V), e' = [(2, .ptr h0.next 0), (3, .ptr (h0.next + 1) 0), (4, v)] ∧ 64 * j ≤ p.length ∧ m = p.length - 64 * j ∧ SS h0 h' (absorb ks p j) ∧ Bytes (h'.rb fun g => g = h0.next + 1) v (p.drop (64 * j))) ?_ p.length
    ⟨0, v, by simp only [sx, reduceIte, Nat.reduceEqDiff, Nat.reduceAdd, g2, g3, g4], by omega, rfl, S, by simpa using Buf.bytes (X := fun g => g = h0.next + 1) S.ch.wf hb fun f hf he => by have := hF f hf; have he : f = h0.next + 1 := he; omega⟩
  rintro m e' h' ⟨j, v, rfl, hj, hm, S, hb⟩
  have hb' := hb.mono (rb_le _ _)
  simp only [q8_8, sx, reduceIte, Nat.reduceEqDiff, Nat.reduceAdd, hb'.len t22]
  refine byT_dec (fun hlt => ?_) (fun hge => ?_)
  · have hlt : 64 * j < p.length := by simp at hlt; omega
    have hl64 : 64 ≤ (p.drop (64 * j)).length := by rw [List.length_drop]; omega
    have l3 : loadV Tryd.prog 39 (.ptr (h0.next + 1) 0) h'.read = some (.agg ((absorb ks p j).map w32)) := (S.o3.at S.ch.wf).agg agg39 siz39 (by simp [absorb_len]) (by decide)
    obtain ⟨w, w1, w2⟩ := hb'.to t22 (rd' := h'.read) (hi := 64) (k := .i64) hl64
    have w1 : sliceV Tryd.prog h'.read 22 v none (some (.int .i64 64)) none = some w := w1
    simp only [q8_9, q8_10, sx, reduceIte, Nat.reduceEqDiff, Nat.reduceAdd, l3, w1]
    refine block S.ch.wf S.ch.next (absorb_len ks p j) w2 (by rw [List.length_take]; omega) ((rb_le _ _) _ _ (S.ch.rb (fun _ h => h) _ _ (rb_old wf0 _ _ hk))) hkl fun h2 c2 => ?_
    have S2 := S.go c2 fun _ h => h.elim
    obtain ⟨h3, s3, o3, c3, n3⟩ := S2.o3.fill (P := Tryd.prog) (t := 39) (n := 8) (c := (blk ks (absorb ks p j) ((p.drop (64 * j)).take 64)).map w32) S2.ch.wf siz39 (by simp [blk_len (absorb_len ks p j)]) (scal32 _) (by simp [absorb_len])
    have hb3 : Bytes (h3.rb fun g => g = h0.next + 1) v (p.drop (64 * j)) := (hb.mono (c2.rb (None_sub _))).mono (c3.rb fun _ h => h)
    obtain ⟨w', w3, w4⟩ := hb3.from t22 (rd' := h3.read) (lo := 64) (k := .i64) hl64
    have w3 : sliceV Tryd.prog h3.read 22 v (some (.int .i64 64)) none none = some w' := w3
    simp only [sx, reduceIte, Nat.reduceEqDiff, Nat.reduceAdd, s3, w3, q8_11]
    refine ⟨p.length - 64 * (j + 1), by omega, j + 1, w', rfl, by omega, rfl, ⟨S2.ch.trans (c3.mono (fun g (h : g = _) => by show h0.next ≤ g; omega) fun g (h : g = _) => by show h0.next ≤ g; omega), by rw [n3]; exact S2.nx, S2.o2.ch c3 (by omega), o3⟩, ?_⟩
    rw [List.drop_drop] at w4
    exact w4
  · have : j = p.length / 64 := by
      have h1 : ¬ (0 : Int) < ((p.drop (64 * j)).length : Int) := hge
      rw [List.length_drop] at h1
      omega
    subst this
    exact sum_out wf0 (absorb_len _ _ _) S (by simp only [sx, reduceIte, Nat.reduceEqDiff, Nat.reduceAdd]) (by simp only [sx, reduceIte, Nat.reduceEqDiff, Nat.reduceAdd]) hK
theorem sum {bv : V} {h0 : H} {bs : List UInt8} {ks : List UInt32} {lo : Nat} (wf0 : HWF h0) (hlo : lo ≤ h0.next) (hb : Bytes h0.read bv bs) (hbl : bs.length < 10000000000) (hk : h0.read 0 = some (ks.map w32)) (hkl : ks.length = 64) {K : V → H → Prop}
    (hK : ∀ h', Ch None_ None_ h0 h' → K (.agg ((sha ks bs).map byteV)) h') : CW C 8 [bv] lo h0 K := by
  refine CW.low hS hlo (enter8 rfl ?_)
  have c1 := ch_alloc wf0 ((List.replicate 32 (0 : UInt8)).map byteV)
  have c2 := ch_alloc c1.wf ((List.replicate 8 (0 : UInt32)).map w32)
  have o3 : Own ((h0.alloc ((List.replicate 32 (0 : UInt8)).map byteV)).alloc ((List.replicate 8 (0 : UInt32)).map w32)) h0.next (h0.next + 1) (h0.next + 1) _ := Own.new (Nat.le_succ _)
  obtain ⟨h3, s3, o3', c3, n3⟩ := o3.fill (P := Tryd.prog) (t := 39) (n := 8) (c := iv.map w32) c2.wf siz39 (by decide) (scal32 _) (by simp)
  have cz : Ch (Zr h0) (Zr h0) h0 h3 := ((c1.trans c2).mono (None_sub _) (None_sub _)).trans (c3.mono (fun g (h : g = _) => by show h0.next ≤ g; omega) fun g (h : g = _) => by show h0.next ≤ g; omega)
  have S3 : SS h0 h3 iv := ⟨cz, by rw [n3]; exact Nat.le_refl _, ((Own.new (h := h0) (lo := h0.next) (cs := (List.replicate 32 (0 : UInt8)).map byteV) (Nat.le_refl _)).ch c2 id).ch c3 (by omega), o3'⟩
  have hb3 : Bytes h3.read bv bs := ((hb.mono (rb_old wf0)).mono (cz.rb fun _ h => h)).mono (rb_le _ _)
  have s3 : storeV Tryd.prog h0.next 39 (.ptr (H.next (h0.alloc ((List.replicate 32 (0 : UInt8)).map byteV))) 0) (.agg (iv.map w32)) ((h0.alloc ((List.replicate 32 (0 : UInt8)).map byteV)).alloc ((List.replicate 8 (0 : UInt32)).map w32)) = some h3 := s3
  simp only [q8_0, sx, reduceIte, Nat.reduceEqDiff, Nat.reduceAdd, z24, z39, ivV, s3]
  refine clone S3.ch.wf S3.ch.next hb3 (by omega) fun v h5 F b5 hF5 c5 => ?_
  have S5 := S3.go c5 fun _ h => h.elim
  obtain ⟨v6, h6, F6, e1, e2, e3⟩ := append_byte (t := 22) a22 S5.ch.wf S5.ch.next b5 128 (by omega)
  have g5 : ∀ g, (F = some g ∨ h5.next ≤ g) → h0.next + 2 ≤ g := fun g hg => by
    have := S3.nx
    have := S5.nx
    rcases hg with hg | hg
    · have := hF5 g hg; omega
    · omega
  have S6 := S5.go e3.ch g5
  simp only [sx, reduceIte, Nat.reduceEqDiff, Nat.reduceAdd, b128, e1, q8_1]
  show ∃ n, loopX [0, 2, 3, 4] (XW C h0.next x8_2) _ n ((4, v6) :: (3, .ptr (h0.next + 1) 0) :: (2, .ptr h0.next 0) :: [(0, bv)]) h6
  refine rounds (fun m e' h' => ∃ (k : Nat) (v : V) (F : Option Nat), e' = [(0, bv), (2, .ptr h0.next 0), (3, .ptr (h0.next + 1) 0), (4, v)] ∧ k ≤ zerosN bs.length ∧ m = zerosN bs.length - k ∧ SS h0 h' iv ∧ BufB h' h0.next v (bs ++ [128] ++ List.replicate k 0) F ∧ ∀ g, F = some g → h0.next + 2 ≤ g) ?_ (zerosN bs.length)
    ⟨0, v6, F6, by simp only [sx, reduceIte, Nat.reduceEqDiff, Nat.reduceAdd], Nat.zero_le _, rfl, S6, by simpa using e2, fun g hg => g5 g (e3.F g hg)⟩
  rintro m e' h' ⟨k, v, F, rfl, hk0, hm, S, hb', hF⟩
  have hz : zerosN bs.length < 64 := Nat.mod_lt _ (by decide)
  have hlen : (bs ++ [128] ++ List.replicate k 0).length = bs.length + 1 + k := by
    simp
    omega
  have hl : lenV Tryd.prog [22] v = some (.int .i64 ((bs.length + 1 + k : Nat) : Int)) := by
    have := (Buf.bytes (X := None_) S.ch.wf hb' fun _ _ h => h).len t22
    rwa [hlen] at this
  simp only [q8_2, sx, reduceIte, Nat.reduceEqDiff, Nat.reduceAdd, hl, rem64]
  refine byT_mk (fun hne => ?_) (fun he => ?_)
  · have hlt : k < zerosN bs.length := by
      rcases Nat.lt_or_ge k (zerosN bs.length) with h1 | h1
      · exact h1
      · exfalso
        have : (bs.length + 1 + k) % 64 = 56 := by
          have : k = zerosN bs.length := by omega
          rw [this]
          unfold zerosN
          omega
        rw [this] at hne
        exact absurd hne (by decide)
    obtain ⟨v7, h7, F7, d1, d2, d3⟩ := append_byte (t := 22) a22 S.ch.wf S.ch.next hb' 0 (by rw [hlen]; omega)
    have g7 : ∀ g, (F = some g ∨ h'.next ≤ g) → h0.next + 2 ≤ g := fun g hg => by
      rcases hg with hg | hg
      · exact hF g hg
      · have := S.nx; omega
    simp only [q8_3, q8_4, sx, reduceIte, Nat.reduceEqDiff, Nat.reduceAdd, b0, d1]
    simp only [q8_5, sx, reduceIte, Nat.reduceEqDiff, Nat.reduceAdd]
    refine ⟨zerosN bs.length - (k + 1), by omega, k + 1, v7, F7, rfl, by omega, rfl, S.go d3.ch g7, ?_, fun g hg => g7 g (d3.F g hg)⟩
    have e : bs ++ [128] ++ List.replicate (k + 1) 0 = bs ++ [128] ++ List.replicate k (0 : UInt8) ++ [0] := by
      rw [List.replicate_succ', List.append_assoc (bs ++ [128])]
    rw [e]
    exact d2
  · have : k = zerosN bs.length := by
      have he : (bs.length + 1 + k) % 64 = 56 := by
        have h1 : (((bs.length + 1 + k) % 64 : Nat) : Int) = 56 := by simpa using he
        omega
      unfold zerosN at hk0 ⊢
      omega
    subst this
    simp only [q8_6, sx, reduceIte, Nat.reduceEqDiff, Nat.reduceAdd, hb.len t22, conv3_29 _ bs.length (by omega), mulu64 (by omega : bs.length < 1000000000000000000)]
    refine long S.ch.wf S.ch.next hb' (by rw [hlen]; omega) fun v8 h8 F8 d2 d3 => ?_
    have g8 : ∀ g, (F = some g ∨ h'.next ≤ g) → h0.next + 2 ≤ g := fun g hg => by
      rcases hg with hg | hg
      · exact hF g hg
      · have := S.nx; omega
    have hpl := padB_len bs
    exact sum_blocks wf0 hk hkl (p := padB bs) (by omega) (padB_mod bs) (S.go d3.ch g8) d2 (fun g hg => g8 g (d3.F g hg)) (by simp only [sx, reduceIte, Nat.reduceEqDiff, Nat.reduceAdd]) (by simp only [sx, reduceIte, Nat.reduceEqDiff, Nat.reduceAdd]) (by simp only [sx, reduceIte, Nat.reduceEqDiff, Nat.reduceAdd]) hK
end Go.Proofs.YtghmbmblhdgabaaDoor
