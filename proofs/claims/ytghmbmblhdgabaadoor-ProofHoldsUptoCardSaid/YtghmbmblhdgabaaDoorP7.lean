/- The program's keyed digest. -/
import Derived.Test.YtghmbmblhdgabaaDoorP6
import Derived.Test.YtghmbmblhdgabaaDoorCodeQ
set_option linter.all false
namespace Go.Proofs.YtghmbmblhdgabaaDoor
open Go Go.Den Code
set_option maxRecDepth 100000
theorem cp22 : CpT Tryd.prog 22 5 1 := ⟨Tryd.underlying22, by kernel_rfl, by decide⟩
theorem siz49 : size? Tryd.prog 49 = some 64 := by kernel_rfl
theorem agg49 : agg? Tryd.prog 49 = some true := by kernel_rfl
theorem z49 : zero? Tryd.prog 49 = some (.agg ((List.replicate 64 (0 : UInt8)).map byteV)) := by kernel_rfl
theorem addr49 {b i : Nat} {k : IntKind} (hi : i < 64) : addrV Tryd.prog 49 (.ptr b 0) (.int k (i : Int)) = some (.ptr b i) := by
  have hu : Tryd.prog.underlying 49 = some (.array 64 5) := Tryd.underlying49
  have hs : size? Tryd.prog 5 = some 1 := by kernel_rfl
  simp only [addrV, hu]
  rw [if_pos (by omega), hs]
  simp
theorem slice49 {rd : Rd} {b : Nat} {cs : List V} (hr : rd b = some cs) (hl : cs.length = 64) : sliceV Tryd.prog rd 49 (.ptr b 0) none none none = some (.sl b 0 64 (some 64) 1) := by
  have hu : Tryd.prog.underlying 49 = some (.array 64 5) := Tryd.underlying49
  have hs : size? Tryd.prog 5 = some 1 := by kernel_rfl
  unfold sliceV
  simp only [hu, hs, hr, bound_none]
  rw [if_pos (by omega)]
  rfl
theorem slice24 {rd : Rd} {b : Nat} {cs : List V} (hr : rd b = some cs) (hl : cs.length = 32) : sliceV Tryd.prog rd 24 (.ptr b 0) none none none = some (.sl b 0 32 (some 32) 1) := by
  have hu : Tryd.prog.underlying 24 = some (.array 32 5) := Tryd.underlying24
  have hs : size? Tryd.prog 5 = some 1 := by kernel_rfl
  unfold sliceV
  simp only [hu, hs, hr, bound_none]
  rw [if_pos (by omega)]
  rfl
theorem load8 {rd : Rd} {b i : Nat} {xs : List UInt8} (hr : rd b = some (xs.map byteV)) (hi : i < xs.length) : loadV Tryd.prog 5 (.ptr b i) rd = some (byteV (xs.getD i 0)) := by
  refine loadV_one c5 hr ?_
  rw [List.getElem?_map, List.getElem?_eq_getElem hi, getD_at hi]
  rfl
theorem wrap8 {n : Nat} (h : n < 256) : IntKind.wrap .u8 (n : Int) = (n : Int) := by
  simp [IntKind.wrap, IntKind.bits, IntKind.signed]
  omega
theorem xor8 (a b : UInt8) : binV Tryd.prog .xor 5 (byteV a) (byteV b) = some (byteV (a ^^^ b)) := by
  have e : ∀ y : UInt8, BitVec.ofInt 8 (y.toNat : Int) = y.toBitVec := fun y => by
    rw [BitVec.ofInt_natCast]
    apply BitVec.eq_of_toNat_eq
    simp
  unfold byteV
  simp only [binV, intOp, if_true]
  show some (V.int .u8 (IntKind.wrap .u8 ((BitVec.ofInt 8 (a.toNat : Int) ^^^ BitVec.ofInt 8 (b.toNat : Int)).toNat : Int))) = _
  rw [e, e]
  congr 2
  show IntKind.wrap .u8 (((a ^^^ b).toNat : Nat) : Int) = _
  exact wrap8 (a ^^^ b).toNat_lt
theorem xor54 (a : UInt8) : binV Tryd.prog .xor 5 (byteV a) (.int .u8 54) = some (byteV (a ^^^ 54)) := xor8 a 54
theorem xor92 (a : UInt8) : binV Tryd.prog .xor 5 (byteV a) (.int .u8 92) = some (byteV (a ^^^ 92)) := xor8 a 92
def xrun (c : UInt8) (p : List UInt8) : Nat → List UInt8
  | 0 => p
  | i + 1 => (xrun c p i).set i ((xrun c p i).getD i 0 ^^^ c)
theorem xrun_len (c : UInt8) (p : List UInt8) : ∀ i, (xrun c p i).length = p.length
  | 0 => rfl
  | i + 1 => by simp [xrun, xrun_len c p i]
def pad64 (k : List UInt8) : List UInt8 := k ++ List.replicate (64 - k.length) 0
def keyB (ks : List UInt32) (k : List UInt8) : List UInt8 := if 64 < k.length then sha ks k else k
def mac (ks : List UInt32) (k b : List UInt8) : List UInt8 := sha ks (xrun 92 (pad64 (keyB ks k)) 64 ++ sha ks (xrun 54 (pad64 (keyB ks k)) 64 ++ b))
theorem mac_len (ks : List UInt32) (k b : List UInt8) : (mac ks k b).length = 32 := sha_len _ _
theorem keyB_len (ks : List UInt32) (k : List UInt8) : (keyB ks k).length ≤ 64 := by
  unfold keyB
  split
  · rw [sha_len]; omega
  · omega
theorem pad64_len {k : List UInt8} (h : k.length ≤ 64) : (pad64 k).length = 64 := by
  simp [pad64]; omega
/-- a new array of 32 bytes, filled -/
theorem box24 {h : H} {lo : Nat} {xs : List UInt8} (wf : HWF h) (hlo : lo ≤ h.next) (hl : xs.length = 32) :
    ∃ h', storeV Tryd.prog lo 24 (.ptr h.next 0) (.agg (xs.map byteV)) (h.alloc ((List.replicate 32 (0 : UInt8)).map byteV)) = some h' ∧ Own h' lo h.next h.next (xs.map byteV) ∧ Ch None_ None_ h h' ∧ h'.next = h.next + 1 := by
  have c1 := ch_alloc wf ((List.replicate 32 (0 : UInt8)).map byteV)
  have o1 : Own (h.alloc ((List.replicate 32 (0 : UInt8)).map byteV)) lo h.next h.next _ := Own.new hlo
  obtain ⟨h', s1, o', c', n'⟩ := o1.fill (P := Tryd.prog) (t := 24) (n := 32) (c := xs.map byteV) c1.wf siz24 (by simp [hl]) (bytes_scal _) (by simp)
  refine ⟨h', s1, o', ?_, n'⟩
  exact ((c1.mono (None_sub (fun g => g = h.next)) (None_sub _)).trans c').old wf (fun g h1 h2 => by have h1 : g = h.next := h1; omega) fun g h1 h2 => by have h1 : g = h.next := h1; omega
theorem ownBytes {h : H} {lo b f n : Nat} {c : Option Nat} {xs : List UInt8} (wf : HWF h) (o : Own h lo b f (xs.map byteV)) (hl : xs.length = n) : Bytes h.read (.sl b 0 n c 1) xs := by
  subst hl
  exact .inr ⟨b, 0, c, _, rfl, o.read wf, by simp, by rw [List.drop_zero, List.take_of_length_le (by simp)]⟩
theorem ownBuf {h : H} {lo b f n : Nat} {c : Option Nat} {xs : List UInt8} (o : Own h lo b f (xs.map byteV)) (hl : xs.length = n) : BufB h lo (.sl b 0 n c 1) xs (some f) := by
  subst hl
  obtain ⟨low, ho⟩ := o
  exact .inr ⟨b, c, f, low, rfl, ho, by simp, rfl⟩
/-- what Mac holds -/
structure MS (h0 h : H) (b6 : Nat) (xs ys : List UInt8) : Prop where
  ch : Ch (Zr h0) (Zr h0) h0 h
  lt : h0.next < b6
  nx : b6 + 2 ≤ h.next
  o4 : Own h h0.next h0.next h0.next ((List.replicate 32 (0 : UInt8)).map byteV)
  o6 : Own h h0.next b6 b6 (xs.map byteV)
  o7 : Own h h0.next (b6 + 1) (b6 + 1) (ys.map byteV)
theorem MS.go {h0 h h' : H} {b6 : Nat} {xs ys : List UInt8} {Y : Nat → Prop} (S : MS h0 h b6 xs ys) (c : Ch None_ Y h h') (h2 : ∀ g, Y g → b6 + 2 ≤ g) : MS h0 h' b6 xs ys :=
  ⟨S.ch.trans (c.mono (None_sub _) fun g hg => by have := h2 g hg; have := S.lt; show h0.next ≤ g; omega), S.lt, Nat.le_trans S.nx c.next, S.o4.ch c fun h => by have := h2 _ h; have := S.lt; omega, S.o6.ch c fun h => by have := h2 _ h; omega, S.o7.ch c fun h => by have := h2 _ h; omega⟩
theorem res10 {e : E} {h : H} {K : V → H → Prop} {t : V} (hl : loadV Tryd.prog 24 (E.get e 4) h.read = some t) : resX C.P Tryd.f10.results.toList e h K = K t h := by
  have h1 : Tryd.f10.results.toList = [.cell 4 24] := by kernel_rfl
  have hl' : loadV C.P 24 (E.get e 4) h.read = some t := hl
  unfold resX
  rw [h1]
  simp only [resXs, resX1, hl']
  rfl
/-- the two digests -/
theorem mac_end {h0 h : H} {ks : List UInt32} {b6 : Nat} {xs ys bs : List UInt8} {bv : V} (wf0 : HWF h0) (hk : h0.read 0 = some (ks.map w32)) (hkl : ks.length = 64) (hb0 : Bytes h0.read bv bs) (hbl : bs.length < 1000000000) (hx : xs.length = 64) (hy : ys.length = 64) (S : MS h0 h b6 xs ys)
    {K : V → H → Prop} {e : E} (g1 : E.get e 1 = bv) (g4 : E.get e 4 = .ptr h0.next 0) (g6 : E.get e 6 = .ptr b6 0) (g7 : E.get e 7 = .ptr (b6 + 1) 0)
    (hK : ∀ h', Ch None_ None_ h0 h' → K (.agg ((sha ks (ys ++ sha ks (xs ++ bs))).map byteV)) h') : XW C h0.next x10_8 (kF10 K) e h := by
  have rd0 : ∀ {h' : H}, Ch (Zr h0) (Zr h0) h0 h' → Bytes h'.read bv bs := fun c => ((hb0.mono (rb_old wf0)).mono (c.rb fun _ h => h)).mono (rb_le _ _)
  have rk : ∀ {h' : H}, Ch (Zr h0) (Zr h0) h0 h' → h'.read 0 = some (ks.map w32) := fun c => (rb_le _ _) _ _ (c.rb (fun _ h => h) _ _ (rb_old wf0 _ _ hk))
  obtain ⟨v2, h3, F3, e1, e2, e3⟩ := append_bytes (t := 22) (u := 22) (x := bv) (ys := bs) a22 S.ch.wf S.ch.next (ownBuf (c := some 64) S.o6 hx) (rd0 S.ch).elems (by omega)
  have c3 : Ch (Zr h0) (Zr h0) h h3 := e3.ch.mono (None_sub _) fun g hg => by
    have := S.lt
    have := S.nx
    show h0.next ≤ g
    rcases hg with hg | hg
    · have := Option.some.inj hg; omega
    · omega
  have cc3 := S.ch.trans c3
  have y3 : ∀ g, (some b6 = some g ∨ h.next ≤ g) → g = b6 ∨ b6 + 2 ≤ g := fun g hg => by
    have := S.nx
    rcases hg with hg | hg
    · exact .inl (Option.some.inj hg).symm
    · exact .inr (by omega)
  have o4 := S.o4.ch e3.ch fun hg => by have := S.lt; have := y3 _ hg; omega
  have o7 := S.o7.ch e3.ch fun hg => by have := y3 _ hg; omega
  have n3 := e3.ch.next
  have hb2 : Bytes h3.read v2 (xs ++ bs) := (Buf.bytes (X := None_) e3.ch.wf e2 fun _ _ h => h).mono (rb_le _ _)
  simp only [q10_8, sx, reduceIte, Nat.reduceEqDiff, Nat.reduceAdd, g1, g4, g6, g7, slice49 (S.o6.read S.ch.wf) (by simp [hx]), e1]
  refine sum e3.ch.wf (Nat.le_trans S.ch.next n3) hb2 (by simp; omega) (rk cc3) hkl fun h5 c5 => ?_
  have o4' := o4.ch c5 id
  have o7' := o7.ch c5 id
  obtain ⟨h7, s7, o9, c7, n7⟩ := box24 (lo := h0.next) c5.wf (Nat.le_trans S.ch.next (Nat.le_trans n3 c5.next)) (sha_len ks (xs ++ bs))
  have o4a := o4'.ch c7 id
  have o7a := o7'.ch c7 id
  have cc7 : Ch (Zr h0) (Zr h0) h0 h7 := (cc3.trans (c5.mono (None_sub _) (None_sub _))).trans (c7.mono (None_sub _) (None_sub _))
  obtain ⟨v10, h11, F11, d1, d2, d3⟩ := append_bytes (t := 22) (u := 22) (x := .sl h5.next 0 32 (some 32) 1) (ys := sha ks (xs ++ bs)) a22 c7.wf cc7.next (ownBuf (c := some 64) o7a hy) (ownBytes c7.wf o9 (sha_len _ _)).elems (by rw [hy, sha_len]; omega)
  have n5 := c5.next
  have nn := S.nx
  have lt := S.lt
  have o4b := o4a.ch d3.ch fun hg => by
    rcases hg with hg | hg
    · have := Option.some.inj hg; omega
    · omega
  have c11 : Ch (Zr h0) (Zr h0) h7 h11 := d3.ch.mono (None_sub _) fun g hg => by
    show h0.next ≤ g
    rcases hg with hg | hg
    · have := Option.some.inj hg; omega
    · omega
  have cc11 := cc7.trans c11
  have hb10 : Bytes h11.read v10 (ys ++ sha ks (xs ++ bs)) := (Buf.bytes (X := None_) d3.ch.wf d2 fun _ _ h => h).mono (rb_le _ _)
  simp only [sx, reduceIte, Nat.reduceEqDiff, Nat.reduceAdd, z24, s7, slice49 (o7a.read c7.wf) (by simp [hy]), slice24 (o9.read c7.wf) (by simp [sha_len]), d1]
  refine sum d3.ch.wf cc11.next hb10 (by simp [hy, sha_len]) (rk cc11) hkl fun h13 c13 => ?_
  obtain ⟨h14, s14, o4c, c14, n14⟩ := (o4b.ch c13 id).fill (P := Tryd.prog) (t := 24) (n := 32) (c := (sha ks (ys ++ sha ks (xs ++ bs))).map byteV) c13.wf siz24 (by simp [sha_len]) (bytes_scal _) (by simp)
  have cc14 : Ch (Zr h0) (Zr h0) h0 h14 := (cc11.trans (c13.mono (None_sub _) (None_sub _))).trans (c14.mono (fun g (h : g = _) => by show h0.next ≤ g; omega) fun g (h : g = _) => by show h0.next ≤ g; omega)
  simp only [sx, reduceIte, Nat.reduceEqDiff, Nat.reduceAdd, s14, e10_rt]
  rw [res10 (by simp only [sx, reduceIte, Nat.reduceEqDiff, Nat.reduceAdd]; exact (o4c.at cc14.wf).agg agg24 siz24 (by simp [sha_len]) (by decide))]
  exact hK h14 (end_ wf0 cc14)
/-- the key's bytes, turned -/
theorem mac_key {h0 h : H} {ks : List UInt32} {kb bs : List UInt8} {kv bv : V} (wf0 : HWF h0) (hk : h0.read 0 = some (ks.map w32)) (hkl : ks.length = 64) (hb0 : Bytes h0.read bv bs) (hbl : bs.length < 1000000000) (ch : Ch (Zr h0) (Zr h0) h0 h) (nx : h0.next < h.next)
    (o4 : Own h h0.next h0.next h0.next ((List.replicate 32 (0 : UInt8)).map byteV)) (hkb : Bytes h.read kv kb) (hkl64 : kb.length ≤ 64) {K : V → H → Prop} {e : E} (g0 : E.get e 0 = kv) (g1 : E.get e 1 = bv) (g4 : E.get e 4 = .ptr h0.next 0)
    (hK : ∀ h', Ch None_ None_ h0 h' → K (.agg ((sha ks (xrun 92 (pad64 kb) 64 ++ sha ks (xrun 54 (pad64 kb) 64 ++ bs))).map byteV)) h') : XW C h0.next x10_2 (kF10 K) e h := by
  have c1 := ch_alloc ch.wf ((List.replicate 64 (0 : UInt8)).map byteV)
  have c2 := ch_alloc c1.wf ((List.replicate 64 (0 : UInt8)).map byteV)
  have hlo : h0.next ≤ h.next := ch.next
  have oA : Own (h.alloc ((List.replicate 64 (0 : UInt8)).map byteV)) h0.next h.next h.next _ := Own.new hlo
  have oA2 := oA.ch c2 id
  have oB : Own ((h.alloc ((List.replicate 64 (0 : UInt8)).map byteV)).alloc ((List.replicate 64 (0 : UInt8)).map byteV)) h0.next (h.next + 1) (h.next + 1) _ := Own.new (Nat.le_trans hlo (Nat.le_succ _))
  have o4b := (o4.ch c1 id).ch c2 id
  have hkb2 : Bytes ((h.alloc ((List.replicate 64 (0 : UInt8)).map byteV)).alloc ((List.replicate 64 (0 : UInt8)).map byteV)).read kv kb := (hkb.keep (keeps_alloc ch.wf _)).keep (keeps_alloc c1.wf _)
  have cAB := c1.trans c2
  have nAB : ((h.alloc ((List.replicate 64 (0 : UInt8)).map byteV)).alloc ((List.replicate 64 (0 : UInt8)).map byteV)).next = h.next + 2 := rfl
  have nA : (h.alloc ((List.replicate 64 (0 : UInt8)).map byteV)).next = h.next + 1 := rfl
  simp only [q10_2, sx, reduceIte, Nat.reduceEqDiff, Nat.reduceAdd, z49, g0, g1, g4]
  generalize hAB : (h.alloc ((List.replicate 64 (0 : UInt8)).map byteV)).alloc ((List.replicate 64 (0 : UInt8)).map byteV) = hh at cAB oA2 oB o4b hkb2 nAB ⊢
  rw [nA]
  have hr2 := oA2.read cAB.wf
  obtain ⟨low, ho⟩ := oA2
  obtain ⟨h5, low', k1, k2, k3, k4⟩ := copy_ok (u := 22) (c := some 64) (n := 64) (o := 0) cp22 cAB.wf ho hkb2.elems (by simp) (bytes_scal kb) hkl64 (by simp)
  have e6 : ((List.replicate 64 (0 : UInt8)).map byteV).take 0 ++ kb.map byteV ++ ((List.replicate 64 (0 : UInt8)).map byteV).drop (0 + kb.length * 1) = (pad64 kb).map byteV := by
    unfold pad64
    rw [List.take_zero, List.nil_append, Nat.zero_add, Nat.mul_one, ← List.map_drop, List.drop_replicate, List.map_append]
  rw [e6] at k2
  have o6 : Own h5 h0.next h.next h.next ((pad64 kb).map byteV) := ⟨low', k2⟩
  have pl := pad64_len hkl64
  have l6 : loadV Tryd.prog 49 (.ptr h.next 0) h5.read = some (.agg ((pad64 kb).map byteV)) := (o6.at k3.wf).agg agg49 siz49 (by simp [pl]) (by decide)
  obtain ⟨h7, s7, o7, c7, n7⟩ := (oB.ch k3 (by omega)).fill (P := Tryd.prog) (t := 49) (n := 64) (c := (pad64 kb).map byteV) k3.wf siz49 (by simp [pl]) (bytes_scal _) (by simp)
  have cz1 : Ch (Zr h0) (Zr h0) hh h5 := k3.mono (fun g (h : g = _) => by show h0.next ≤ g; omega) fun g (h : g = _) => by show h0.next ≤ g; omega
  have cz2 : Ch (Zr h0) (Zr h0) h5 h7 := c7.mono (fun g (h : g = _) => by show h0.next ≤ g; omega) fun g (h : g = _) => by show h0.next ≤ g; omega
  have S0 : MS h0 h7 h.next (pad64 kb) (pad64 kb) :=
    ⟨((ch.trans (cAB.mono (None_sub _) (None_sub _))).trans cz1).trans cz2, nx, by rw [n7, k4, nAB]; exact Nat.le_refl _, (o4b.ch k3 (by omega)).ch c7 (by omega), o6.ch c7 (by omega), o7⟩
  simp only [slice49 hr2 (by simp), sx, reduceIte, Nat.reduceEqDiff, Nat.reduceAdd, k1, l6, s7, q10_3]
  refine rounds (fun m e' h' => ∃ i : Nat, e' = [(1, bv), (4, .ptr h0.next 0), (6, .ptr h.next 0), (7, .ptr (h.next + 1) 0), (20, .int .i64 (i : Int))] ∧ i ≤ 64 ∧ m = 64 - i ∧ MS h0 h' h.next (xrun 54 (pad64 kb) i) (xrun 92 (pad64 kb) i)) ?_ 64
    ⟨0, by simp only [sx, reduceIte, Nat.reduceEqDiff, Nat.reduceAdd]; rfl, by omega, rfl, S0⟩
  rintro m e' h' ⟨i, rfl, hi, hm, S⟩
  have x6 := xrun_len 54 (pad64 kb) i
  have x7 := xrun_len 92 (pad64 kb) i
  simp only [q10_4, sx, reduceIte, Nat.reduceEqDiff, Nat.reduceAdd]
  refine byT_dec (fun hlt => ?_) (fun hge => ?_)
  · have hlt : i < 64 := by omega
    have a6 := addr49 (b := h.next) (k := .i64) hlt
    have a7 := addr49 (b := h.next + 1) (k := .i64) hlt
    have l6 := load8 (S.o6.read S.ch.wf) (i := i) (by omega)
    obtain ⟨h2, s1, o1, c1, n1⟩ := Own.put8 S.ch.wf S.o6 (i := i) ((xrun 54 (pad64 kb) i).getD i 0 ^^^ 54) (by omega)
    have o7 := S.o7.ch c1 (by omega)
    have l7 := load8 (o7.read c1.wf) (i := i) (by omega)
    obtain ⟨h3, s2, o2, c2, n2⟩ := Own.put8 c1.wf o7 (i := i) ((xrun 92 (pad64 kb) i).getD i 0 ^^^ 92) (by omega)
    simp only [q10_5, q10_6, sx, reduceIte, Nat.reduceEqDiff, Nat.reduceAdd, a6, l6, xor54, s1, a7, l7, xor92, s2]
    simp only [q10_7, sx, reduceIte, Nat.reduceEqDiff, Nat.reduceAdd, inc64 (by omega : i < 9000000000000000000)]
    have cy1 : Ch (Zr h0) (Zr h0) h' h2 := c1.mono (fun g (h : g = _) => by show h0.next ≤ g; omega) fun g (h : g = _) => by show h0.next ≤ g; omega
    have cy2 : Ch (Zr h0) (Zr h0) h2 h3 := c2.mono (fun g (h : g = _) => by show h0.next ≤ g; omega) fun g (h : g = _) => by show h0.next ≤ g; omega
    exact ⟨64 - (i + 1), by omega, i + 1, rfl, by omega, rfl, ⟨(S.ch.trans cy1).trans cy2, S.lt, by rw [n2, n1]; exact S.nx, (S.o4.ch c1 (by omega)).ch c2 (by omega), o1.ch c2 (by omega), o2⟩⟩
  · have : i = 64 := by omega
    subst this
    exact mac_end wf0 hk hkl hb0 hbl (by omega) (by omega) S (by simp only [sx, reduceIte, Nat.reduceEqDiff, Nat.reduceAdd]) (by simp only [sx, reduceIte, Nat.reduceEqDiff, Nat.reduceAdd]) (by simp only [sx, reduceIte, Nat.reduceEqDiff, Nat.reduceAdd]) (by simp only [sx, reduceIte, Nat.reduceEqDiff, Nat.reduceAdd]) hK
theorem macF {kv bv : V} {h0 : H} {ks : List UInt32} {kb bs : List UInt8} {lo : Nat} (wf0 : HWF h0) (hlo : lo ≤ h0.next) (hk : h0.read 0 = some (ks.map w32)) (hkl : ks.length = 64) (hkb : Bytes h0.read kv kb) (hkbl : kb.length < 1000000000) (hb0 : Bytes h0.read bv bs) (hbl : bs.length < 1000000000)
    {K : V → H → Prop} (hK : ∀ h', Ch None_ None_ h0 h' → K (.agg ((mac ks kb bs).map byteV)) h') : CW C 10 [kv, bv] lo h0 K := by
  refine CW.low hS hlo (enter10 rfl ?_)
  have c1 := ch_alloc wf0 ((List.replicate 32 (0 : UInt8)).map byteV)
  have o4 : Own (h0.alloc ((List.replicate 32 (0 : UInt8)).map byteV)) h0.next h0.next h0.next _ := Own.new (Nat.le_refl _)
  have hkb1 := hkb.keep (keeps_alloc wf0 ((List.replicate 32 (0 : UInt8)).map byteV))
  have n1 : (h0.alloc ((List.replicate 32 (0 : UInt8)).map byteV)).next = h0.next + 1 := rfl
  have cz : Ch (Zr h0) (Zr h0) h0 (h0.alloc ((List.replicate 32 (0 : UInt8)).map byteV)) := c1.mono (None_sub _) (None_sub _)
  simp only [q10_0, sx, reduceIte, Nat.reduceEqDiff, Nat.reduceAdd, z24, hkb.len t22]
  generalize hA : h0.alloc ((List.replicate 32 (0 : UInt8)).map byteV) = hh at c1 o4 hkb1 n1 cz ⊢
  unfold mac keyB at hK
  refine byT_dec (fun hlt => ?_) (fun hge => ?_)
  · have hlt : 64 < kb.length := by
      have h1 : (64 : Int) < (kb.length : Int) := hlt
      omega
    rw [if_pos hlt] at hK
    simp only [q10_1, sx, reduceIte, Nat.reduceEqDiff, Nat.reduceAdd]
    refine sum c1.wf (by omega) hkb1 (by omega) ((rb_le _ _) _ _ (cz.rb (fun _ h => h) _ _ (rb_old wf0 _ _ hk))) hkl fun h2 c2 => ?_
    obtain ⟨h4, s4, o5, c4, n4⟩ := box24 (lo := h0.next) c2.wf (Nat.le_trans c1.next c2.next) (sha_len ks kb)
    have n2 := c2.next
    simp only [sx, reduceIte, Nat.reduceEqDiff, Nat.reduceAdd, z24, s4, slice24 (o5.read c4.wf) (by simp [sha_len])]
    refine mac_key (kv := .sl h2.next 0 32 (some 32) 1) wf0 hk hkl hb0 hbl ((cz.trans (c2.mono (None_sub _) (None_sub _))).trans (c4.mono (None_sub _) (None_sub _))) (by omega) ((o4.ch c2 id).ch c4 id) (ownBytes c4.wf o5 (sha_len _ _)) (by rw [sha_len]; omega) ?_ ?_ ?_ hK <;> simp only [sx, reduceIte, Nat.reduceEqDiff, Nat.reduceAdd]
  · have hge : ¬ 64 < kb.length := by
      have h1 : ¬ (64 : Int) < (kb.length : Int) := hge
      omega
    rw [if_neg hge] at hK
    refine mac_key (kv := kv) wf0 hk hkl hb0 hbl cz (by omega) o4 hkb1 (by omega) ?_ ?_ ?_ hK <;> simp only [sx, reduceIte, Nat.reduceEqDiff, Nat.reduceAdd]
end Go.Proofs.YtghmbmblhdgabaaDoor
