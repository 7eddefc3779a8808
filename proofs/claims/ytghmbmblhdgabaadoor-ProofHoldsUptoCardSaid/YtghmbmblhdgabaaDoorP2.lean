/- The schedule of a block: its first loop. -/
import Derived.Test.YtghmbmblhdgabaaDoorP1
set_option linter.all false
namespace Go.Proofs.YtghmbmblhdgabaaDoor
open Go Go.Den Code
set_option maxRecDepth 100000
theorem t22 : SlT Tryd.prog 22 5 1 := ⟨Tryd.underlying22, by kernel_rfl⟩
theorem c5 : Sc Tryd.prog 5 := ⟨by kernel_rfl, by kernel_rfl⟩
theorem c38 : Sc Tryd.prog 38 := ⟨by kernel_rfl, by kernel_rfl⟩
theorem siz39 : size? Tryd.prog 39 = some 8 := by kernel_rfl
theorem agg39 : agg? Tryd.prog 39 = some true := by kernel_rfl
theorem siz44 : size? Tryd.prog 44 = some 64 := by kernel_rfl
theorem wrap64 {x : Int} (h1 : -9223372036854775808 ≤ x) (h2 : x ≤ 9223372036854775807) : IntKind.wrap .i64 x = x := by
  simp [IntKind.wrap, IntKind.bits, IntKind.signed]; omega
theorem addr44 {b i : Nat} {k : IntKind} (hi : i < 64) : addrV Tryd.prog 44 (.ptr b 0) (.int k (i : Int)) = some (.ptr b i) := by
  have hu : Tryd.prog.underlying 44 = some (.array 64 38) := Tryd.underlying44
  have hs : size? Tryd.prog 38 = some 1 := by kernel_rfl
  simp only [addrV, hu]
  rw [if_pos (by omega), hs]
  simp
theorem addr39 {b i : Nat} {k : IntKind} (hi : i < 8) : addrV Tryd.prog 39 (.ptr b 0) (.int k (i : Int)) = some (.ptr b i) := by
  have hu : Tryd.prog.underlying 39 = some (.array 8 38) := Tryd.underlying39
  have hs : size? Tryd.prog 38 = some 1 := by kernel_rfl
  simp only [addrV, hu]
  rw [if_pos (by omega), hs]
  simp
theorem addr24 {b i : Nat} {k : IntKind} (hi : i < 32) : addrV Tryd.prog 24 (.ptr b 0) (.int k (i : Int)) = some (.ptr b i) := by
  have hu : Tryd.prog.underlying 24 = some (.array 32 5) := Tryd.underlying24
  have hs : size? Tryd.prog 5 = some 1 := by kernel_rfl
  simp only [addrV, hu]
  rw [if_pos (by omega), hs]
  simp
theorem getD_at {α : Type} {l : List α} {i : Nat} {d : α} (h : i < l.length) : l.getD i d = l[i] := by
  rw [List.getD, List.getElem?_eq_getElem h]
  rfl
theorem load38 {rd : Rd} {b i : Nat} {xs : List UInt32} (hr : rd b = some (xs.map w32)) (hi : i < xs.length) : loadV Tryd.prog 38 (.ptr b i) rd = some (w32 (xs.getD i 0)) := by
  refine loadV_one c38 hr ?_
  rw [List.getElem?_map, List.getElem?_eq_getElem hi, getD_at hi]
  rfl
theorem set_map {α : Type} (f : α → V) (xs : List α) {i : Nat} (y : α) (hi : i < xs.length) : (xs.map f).take i ++ [f y] ++ (xs.map f).drop (i + 1) = (xs.set i y).map f := by
  rw [List.set_eq_take_append_cons_drop, if_pos hi]
  simp
theorem Own.put32 {h : H} {lo b f : Nat} {xs : List UInt32} (wf : HWF h) (r : Own h lo b f (xs.map w32)) {i : Nat} (y : UInt32) (hi : i < xs.length) :
    ∃ h', storeV Tryd.prog lo 38 (.ptr b i) (w32 y) h = some h' ∧ Own h' lo b f ((xs.set i y).map w32) ∧ Ch (· = f) (· = f) h h' ∧ h'.next = h.next := by
  obtain ⟨h', h1, h2, h3, h4⟩ := r.set (P := Tryd.prog) (t := 38) (w := w32 y) (o := i) wf (by kernel_rfl) rfl rfl (by simpa using hi)
  rw [set_map _ _ _ hi] at h2
  exact ⟨h', h1, h2, h3, h4⟩
abbrev Zr (h0 : H) : Nat → Prop := fun g => h0.next ≤ g
theorem rb_old {h : H} (wf : HWF h) : Le h.read (h.rb (Zr h)) := (rb_none h).trans ((rb_new wf None_).trans (rb_mono fun _ h => .inr h))
/-- the word of four bytes -/
def word (bs : List UInt8) (i : Nat) : UInt32 := (bs.getD (4 * i) 0).toUInt32 <<< 24 ||| (bs.getD (4 * i + 1) 0).toUInt32 <<< 16 ||| (bs.getD (4 * i + 2) 0).toUInt32 <<< 8 ||| (bs.getD (4 * i + 3) 0).toUInt32
def wlate (w : List UInt32) (i : Nat) : UInt32 :=
  (ror (w.getD (i - 2) 0) 17 ^^^ ror (w.getD (i - 2) 0) 19 ^^^ w.getD (i - 2) 0 >>> 10) + w.getD (i - 7) 0 + (ror (w.getD (i - 15) 0) 7 ^^^ ror (w.getD (i - 15) 0) 18 ^^^ w.getD (i - 15) 0 >>> 3) + w.getD (i - 16) 0
def wrun (bs : List UInt8) : Nat → List UInt32
  | 0 => List.replicate 64 0
  | i + 1 => (wrun bs i).set i (if i < 16 then word bs i else wlate (wrun bs i) i)
theorem wrun_len (bs : List UInt8) : ∀ i, (wrun bs i).length = 64
  | 0 => by simp [wrun]
  | i + 1 => by simp [wrun, wrun_len bs i]
theorem shl24 (x : UInt32) : binV Tryd.prog .shl 38 (w32 x) (.int .u64 24) = some (w32 (x <<< 24)) := shl32 _ _ _ _ 24 (by decide)
theorem shl16 (x : UInt32) : binV Tryd.prog .shl 38 (w32 x) (.int .u64 16) = some (w32 (x <<< 16)) := shl32 _ _ _ _ 16 (by decide)
theorem shl8 (x : UInt32) : binV Tryd.prog .shl 38 (w32 x) (.int .u64 8) = some (w32 (x <<< 8)) := shl32 _ _ _ _ 8 (by decide)
theorem shr3 (x : UInt32) : binV Tryd.prog .shr 38 (w32 x) (.int .u64 3) = some (w32 (x >>> 3)) := shr32 _ _ _ _ 3 (by decide)
theorem shr10 (x : UInt32) : binV Tryd.prog .shr 38 (w32 x) (.int .u64 10) = some (w32 (x >>> 10)) := shr32 _ _ _ _ 10 (by decide)
/-- what a block's first loop leaves -/
structure BS (h0 h : H) (bs : List UInt8) (hs w : List UInt32) (bv : V) : Prop where
  ch : Ch (Zr h0) (Zr h0) h0 h
  nx : h.next = h0.next + 3
  o2 : Own h h0.next h0.next h0.next (hs.map w32)
  o4 : Own h h0.next (h0.next + 1) (h0.next + 1) ((List.replicate 8 (0 : UInt32)).map w32)
  o5 : Own h h0.next (h0.next + 2) (h0.next + 2) (w.map w32)
  b : Bytes h.read bv bs
theorem BS.store {h0 h : H} {bs : List UInt8} {hs w : List UInt32} {bv : V} (wf0 : HWF h0) (hb0 : Bytes h0.read bv bs) (S : BS h0 h bs hs w bv) {i : Nat} (y : UInt32) (hi : i < w.length) :
    ∃ h', storeV Tryd.prog h0.next 38 (.ptr (h0.next + 2) i) (w32 y) h = some h' ∧ BS h0 h' bs hs (w.set i y) bv := by
  obtain ⟨h', h1, h2, h3, h4⟩ := Own.put32 S.ch.wf S.o5 y hi
  have ch := S.ch.trans (h3.mono (fun g (h : g = _) => by show h0.next ≤ g; omega) fun g (h : g = _) => by show h0.next ≤ g; omega)
  exact ⟨h', h1, ch, by rw [h4]; exact S.nx, S.o2.ch h3 (by omega), S.o4.ch h3 (by omega), h2, ((hb0.mono (rb_old wf0)).mono (ch.rb fun _ h => h)).mono (rb_le _ _)⟩
theorem sched_early {h0 h : H} {bs : List UInt8} {hs : List UInt32} {bv : V} {i : Nat} {Q : XQ} (wf0 : HWF h0) (hb0 : Bytes h0.read bv bs) (hbl : bs.length = 64) (S : BS h0 h bs hs (wrun bs i) bv) (hi : i < 16) {e : E}
    (g1 : E.get e 1 = bv) (g5 : E.get e 5 = .ptr (h0.next + 2) 0) (g6 : E.get e 6 = .int .i64 (i : Int)) (hq : ∀ h', BS h0 h' bs hs (wrun bs (i + 1)) bv → Q (.ex 1) e h') : XW C h0.next x24_5 Q e h := by
  have m0 : IntKind.wrap .i64 (4 * (i : Int)) = ((4 * i : Nat) : Int) := by rw [wrap64 (by omega) (by omega)]; simp
  have m1 : IntKind.wrap .i64 (((4 * i : Nat) : Int) + 1) = ((4 * i + 1 : Nat) : Int) := by rw [wrap64 (by omega) (by omega)]; simp
  have m2 : IntKind.wrap .i64 (((4 * i : Nat) : Int) + 2) = ((4 * i + 2 : Nat) : Int) := by rw [wrap64 (by omega) (by omega)]; simp
  have m3 : IntKind.wrap .i64 (((4 * i : Nat) : Int) + 3) = ((4 * i + 3 : Nat) : Int) := by rw [wrap64 (by omega) (by omega)]; simp
  obtain ⟨p0, q0, s0⟩ := S.b.at t22 c5 (i := 4 * i) (by omega) (k := .i64)
  obtain ⟨p1, q1, s1⟩ := S.b.at t22 c5 (i := 4 * i + 1) (by omega) (k := .i64)
  obtain ⟨p2, q2, s2⟩ := S.b.at t22 c5 (i := 4 * i + 2) (by omega) (k := .i64)
  obtain ⟨p3, q3, s3⟩ := S.b.at t22 c5 (i := 4 * i + 3) (by omega) (k := .i64)
  have hw : word bs i = bs[4 * i].toUInt32 <<< 24 ||| bs[4 * i + 1].toUInt32 <<< 16 ||| bs[4 * i + 2].toUInt32 <<< 8 ||| bs[4 * i + 3].toUInt32 := by
    unfold word
    rw [getD_at (by omega), getD_at (by omega), getD_at (by omega), getD_at (by omega)]
  obtain ⟨h', h1, h2⟩ := S.store wf0 hb0 (i := i) (word bs i) (by rw [wrun_len]; omega)
  rw [hw] at h1
  simp only [q24_5, sx, reduceIte, Nat.reduceEqDiff, Nat.reduceAdd, g1, g5, g6, m0, m1, m2, m3, q0, q1, q2, q3, s0, s1, s2, s3, conv5_38, shl24, shl16, shl8, or32, addr44 (b := h0.next + 2) (i := i) (k := .i64) (by omega : i < 64), h1]
  refine hq h' ?_
  have : wrun bs (i + 1) = (wrun bs i).set i (word bs i) := by rw [wrun, if_pos hi]
  rw [this]
  exact h2
theorem sched_late {h0 h : H} {bs : List UInt8} {hs : List UInt32} {bv : V} {i : Nat} {Q : XQ} (wf0 : HWF h0) (hb0 : Bytes h0.read bv bs) (S : BS h0 h bs hs (wrun bs i) bv) (hi : 16 ≤ i) (hi2 : i < 64) {e : E}
    (g5 : E.get e 5 = .ptr (h0.next + 2) 0) (g6 : E.get e 6 = .int .i64 (i : Int)) (hq : ∀ a b c d h', BS h0 h' bs hs (wrun bs (i + 1)) bv → Q .nx ((10, a) :: (9, b) :: (7, c) :: (8, d) :: e) h') : XW C h0.next x24_6 Q e h := by
  have m0 : IntKind.wrap .i64 ((i : Int) - 15) = ((i - 15 : Nat) : Int) := by rw [wrap64 (by omega) (by omega)]; omega
  have m1 : IntKind.wrap .i64 ((i : Int) - 2) = ((i - 2 : Nat) : Int) := by rw [wrap64 (by omega) (by omega)]; omega
  have m2 : IntKind.wrap .i64 ((i : Int) - 7) = ((i - 7 : Nat) : Int) := by rw [wrap64 (by omega) (by omega)]; omega
  have m3 : IntKind.wrap .i64 ((i : Int) - 16) = ((i - 16 : Nat) : Int) := by rw [wrap64 (by omega) (by omega)]; omega
  have hr := S.o5.read S.ch.wf
  have hl := wrun_len bs i
  have l0 := load38 hr (i := i - 15) (by omega)
  have l1 := load38 hr (i := i - 2) (by omega)
  have l2 := load38 hr (i := i - 7) (by omega)
  have l3 := load38 hr (i := i - 16) (by omega)
  have a0 := addr44 (b := h0.next + 2) (i := i - 15) (k := .i64) (by omega)
  have a1 := addr44 (b := h0.next + 2) (i := i - 2) (k := .i64) (by omega)
  have a2 := addr44 (b := h0.next + 2) (i := i - 7) (k := .i64) (by omega)
  have a3 := addr44 (b := h0.next + 2) (i := i - 16) (k := .i64) (by omega)
  have a4 := addr44 (b := h0.next + 2) (i := i) (k := .i64) (by omega)
  obtain ⟨h', h1, h2⟩ := S.store wf0 hb0 (i := i) (wlate (wrun bs i) i) (by omega)
  unfold wlate at h1
  simp only [q24_6, sx, reduceIte, Nat.reduceEqDiff, Nat.reduceAdd, g5, g6, m0, m1, a0, a1, l0, l1]
  refine rot 7 (by decide) (by decide) ?_
  refine rot 18 (by decide) (by decide) ?_
  simp only [sx, reduceIte, Nat.reduceEqDiff, Nat.reduceAdd, xor32, shr3]
  refine rot 17 (by decide) (by decide) ?_
  refine rot 19 (by decide) (by decide) ?_
  simp only [sx, reduceIte, Nat.reduceEqDiff, Nat.reduceAdd, xor32, shr10, g5, g6, m2, m3, a2, a3, a4, l2, l3, add32, h1]
  refine hq _ _ _ _ h' ?_
  have : wrun bs (i + 1) = (wrun bs i).set i (wlate (wrun bs i) i) := by rw [wrun, if_neg (by omega)]
  rw [this]
  exact h2
end Go.Proofs.YtghmbmblhdgabaaDoor
