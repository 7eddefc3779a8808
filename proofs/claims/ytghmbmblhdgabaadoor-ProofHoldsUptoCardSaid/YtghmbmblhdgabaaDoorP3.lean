/- The rounds of a block: its second loop. -/
import Derived.Test.YtghmbmblhdgabaaDoorP2
set_option linter.all false
namespace Go.Proofs.YtghmbmblhdgabaaDoor
open Go Go.Den Code
set_option maxRecDepth 100000
def rnd (k w : UInt32) : List UInt32 → List UInt32
  | [a, b, c, d, e, f, g, h] =>
    let t1 := h + (ror e 6 ^^^ ror e 11 ^^^ ror e 25) + (e &&& f ^^^ ~~~e &&& g) + k + w
    let t2 := ror a 2 ^^^ ror a 13 ^^^ ror a 22
    [t1 + (t2 + (a &&& b ^^^ a &&& c ^^^ b &&& c)), a, b, c, d + t1, e, f, g]
  | v => v
def vrun (ks w v : List UInt32) : Nat → List UInt32
  | 0 => v
  | i + 1 => rnd (ks.getD i 0) (w.getD i 0) (vrun ks w v i)
theorem rnd_len {k w : UInt32} {v : List UInt32} (h : v.length = 8) : (rnd k w v).length = 8 := by
  match v, h with
  | [a, b, c, d, e, f, g, h], _ => rfl
theorem vrun_len {ks w v : List UInt32} (h : v.length = 8) : ∀ i, (vrun ks w v i).length = 8
  | 0 => h
  | i + 1 => rnd_len (vrun_len h i)
/-- what a block's second loop leaves -/
structure VS (h0 h : H) (hs w v ks : List UInt32) : Prop where
  ch : Ch (Zr h0) (Zr h0) h0 h
  nx : h.next = h0.next + 4
  o2 : Own h h0.next h0.next h0.next (hs.map w32)
  o4 : Own h h0.next (h0.next + 1) (h0.next + 1) ((List.replicate 8 (0 : UInt32)).map w32)
  o5 : Own h h0.next (h0.next + 2) (h0.next + 2) (w.map w32)
  o11 : Own h h0.next (h0.next + 3) (h0.next + 3) (v.map w32)
  k : h.read 0 = some (ks.map w32)
theorem b39 (a b c d e f g h : UInt32) : buildV Tryd.prog 39 [(0, w32 a), (1, w32 b), (2, w32 c), (3, w32 d), (4, w32 e), (5, w32 f), (6, w32 g), (7, w32 h)] = some (.agg ([a, b, c, d, e, f, g, h].map w32)) := by kernel_rfl
theorem scal32 (l : List UInt32) : (l.map w32).all scal = true := by
  rw [List.all_eq_true]
  intro x hx
  obtain ⟨y, _, rfl⟩ := List.mem_map.1 hx
  rfl
theorem round {h0 h : H} {hs w v ks : List UInt32} {i : Nat} {Q : XQ} (wf0 : HWF h0) (hk : h0.read 0 = some (ks.map w32)) (hkl : ks.length = 64) (hwl : w.length = 64) (hvl : v.length = 8) (S : VS h0 h hs w v ks) (hi : i < 64) {e : E}
    (g5 : E.get e 5 = .ptr (h0.next + 2) 0) (g11 : E.get e 11 = .ptr (h0.next + 3) 0) (g101 : E.get e 101 = .int .i64 (i : Int))
    (hq : ∀ (l : List (Nat × V)) h', VS h0 h' hs w (rnd (ks.getD i 0) (w.getD i 0) v) ks → (∀ t, t ∈ [2, 4, 5, 11, 101] → E.get (l ++ e) t = E.get e t) → Q .nx (l ++ e) h') : XW C h0.next x24_12 Q e h := by
  match v, hvl with
  | [va, vb, vc, vd, ve, vf, vg, vh], _ =>
  have hr := S.o11.read S.ch.wf
  have l0 : loadV Tryd.prog 38 (.ptr (h0.next + 3) 0) h.read = some (w32 va) := loadV_one c38 hr rfl
  have l1 : loadV Tryd.prog 38 (.ptr (h0.next + 3) 1) h.read = some (w32 vb) := loadV_one c38 hr rfl
  have l2 : loadV Tryd.prog 38 (.ptr (h0.next + 3) 2) h.read = some (w32 vc) := loadV_one c38 hr rfl
  have l3 : loadV Tryd.prog 38 (.ptr (h0.next + 3) 3) h.read = some (w32 vd) := loadV_one c38 hr rfl
  have l4 : loadV Tryd.prog 38 (.ptr (h0.next + 3) 4) h.read = some (w32 ve) := loadV_one c38 hr rfl
  have l5 : loadV Tryd.prog 38 (.ptr (h0.next + 3) 5) h.read = some (w32 vf) := loadV_one c38 hr rfl
  have l6 : loadV Tryd.prog 38 (.ptr (h0.next + 3) 6) h.read = some (w32 vg) := loadV_one c38 hr rfl
  have l7 : loadV Tryd.prog 38 (.ptr (h0.next + 3) 7) h.read = some (w32 vh) := loadV_one c38 hr rfl
  have a0 : addrV Tryd.prog 39 (.ptr (h0.next + 3) 0) (.int .i64 0) = some (.ptr (h0.next + 3) 0) := addr39 (i := 0) (by decide)
  have a1 : addrV Tryd.prog 39 (.ptr (h0.next + 3) 0) (.int .i64 1) = some (.ptr (h0.next + 3) 1) := addr39 (i := 1) (by decide)
  have a2 : addrV Tryd.prog 39 (.ptr (h0.next + 3) 0) (.int .i64 2) = some (.ptr (h0.next + 3) 2) := addr39 (i := 2) (by decide)
  have a3 : addrV Tryd.prog 39 (.ptr (h0.next + 3) 0) (.int .i64 3) = some (.ptr (h0.next + 3) 3) := addr39 (i := 3) (by decide)
  have a4 : addrV Tryd.prog 39 (.ptr (h0.next + 3) 0) (.int .i64 4) = some (.ptr (h0.next + 3) 4) := addr39 (i := 4) (by decide)
  have a5 : addrV Tryd.prog 39 (.ptr (h0.next + 3) 0) (.int .i64 5) = some (.ptr (h0.next + 3) 5) := addr39 (i := 5) (by decide)
  have a6 : addrV Tryd.prog 39 (.ptr (h0.next + 3) 0) (.int .i64 6) = some (.ptr (h0.next + 3) 6) := addr39 (i := 6) (by decide)
  have a7 : addrV Tryd.prog 39 (.ptr (h0.next + 3) 0) (.int .i64 7) = some (.ptr (h0.next + 3) 7) := addr39 (i := 7) (by decide)
  have ak := addr44 (b := 0) (i := i) (k := .i64) hi
  have lk := load38 S.k (i := i) (by omega)
  have aw := addr44 (b := h0.next + 2) (i := i) (k := .i64) hi
  have lw := load38 (S.o5.read S.ch.wf) (i := i) (by omega)
  obtain ⟨h', s1, o', c', n'⟩ := S.o11.fill (P := Tryd.prog) (t := 39) (n := 8) (c := (rnd (ks.getD i 0) (w.getD i 0) [va, vb, vc, vd, ve, vf, vg, vh]).map w32) S.ch.wf siz39 (by simp [rnd]) (scal32 _) (by simp)
  simp only [rnd] at s1
  simp only [q24_12, sx, reduceIte, Nat.reduceEqDiff, Nat.reduceAdd, g11, a0, a4, l0, l4]
  refine rot 6 (by decide) (by decide) ?_
  refine rot 11 (by decide) (by decide) ?_
  simp only [sx, reduceIte, Nat.reduceEqDiff, Nat.reduceAdd, xor32]
  refine rot 25 (by decide) (by decide) ?_
  simp only [sx, reduceIte, Nat.reduceEqDiff, Nat.reduceAdd, xor32]
  refine rot 2 (by decide) (by decide) ?_
  refine rot 13 (by decide) (by decide) ?_
  simp only [sx, reduceIte, Nat.reduceEqDiff, Nat.reduceAdd, xor32]
  refine rot 22 (by decide) (by decide) ?_
  simp only [sx, reduceIte, Nat.reduceEqDiff, Nat.reduceAdd, xor32, and32, add32, not32, g5, g11, g101, a1, a2, a3, a5, a6, a7, l1, l2, l3, l5, l6, l7, ak, lk, aw, lw, b39, s1]
  have cz : Ch (Zr h0) (Zr h0) h h' := c'.mono (fun g (h : g = _) => by show h0.next ≤ g; omega) fun g (h : g = _) => by show h0.next ≤ g; omega
  have S' : VS h0 h' hs w (rnd (ks.getD i 0) (w.getD i 0) [va, vb, vc, vd, ve, vf, vg, vh]) ks :=
    ⟨S.ch.trans cz, by rw [n']; exact S.nx, S.o2.ch c' (by omega), S.o4.ch c' (by omega), S.o5.ch c' (by omega), o', (rb_le _ _) _ _ ((S.ch.trans cz).rb (fun _ h => h) _ _ (rb_old wf0 _ _ hk))⟩
  refine hq [(18, _), (17, _), (16, _), (15, _), (13, _), (14, _), (12, _)] h' S' ?_
  intro t ht
  simp only [List.mem_cons, List.mem_nil_iff, or_false] at ht
  rcases ht with rfl | rfl | rfl | rfl | rfl <;> simp only [List.cons_append, List.nil_append, sx, reduceIte, Nat.reduceEqDiff, Nat.reduceAdd]
end Go.Proofs.YtghmbmblhdgabaaDoor
