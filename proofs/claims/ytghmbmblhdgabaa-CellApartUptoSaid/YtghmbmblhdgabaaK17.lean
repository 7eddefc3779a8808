/- The order of keys is the order of values: the plain law. -/
import Derived.Test.YtghmbmblhdgabaaK16
set_option linter.all false
namespace Go.Proofs.Ytghmbmblhdgabaa
open Go Go.Den Code
set_option maxRecDepth 100000
def ordI (a b : Int) : Int := if a < b then -1 else if a > b then 1 else 0
def ordV (x y : Vl) : Int := if ordI x.k.toNat y.k.toNat ≠ 0 then ordI x.k.toNat y.k.toNat else if ordI x.n y.n ≠ 0 then ordI x.n y.n else Lib.compareBytes x.s y.s
/-- the first byte that differs says 'o' -/
def Dif (xs ys : List UInt8) (o : Int) : Prop := ∃ p c d r t, xs = p ++ c :: r ∧ ys = p ++ d :: t ∧ c ≠ d ∧ o = if c < d then -1 else 1
theorem cb_cons (c : UInt8) (xs ys : List UInt8) : Lib.compareBytes (c :: xs) (c :: ys) = Lib.compareBytes xs ys := by
  show (if c < c then _ else if c < c then _ else _) = _
  have : ¬ c < c := UInt8.lt_irrefl c
  rw [if_neg this, if_neg this]
theorem cb_app (p xs ys : List UInt8) : Lib.compareBytes (p ++ xs) (p ++ ys) = Lib.compareBytes xs ys := by
  induction p with
  | nil => rfl
  | cons c r ih => exact (cb_cons c _ _).trans ih
theorem cb_self (xs : List UInt8) : Lib.compareBytes xs xs = 0 := by
  have := cb_app xs [] []
  rw [List.append_nil] at this
  exact this
theorem u8_ne {c d : UInt8} (h : c ≠ d) : c < d ∨ d < c := by
  rcases Nat.lt_trichotomy c.toNat d.toNat with g | g | g
  · exact .inl g
  · exact absurd (UInt8.toNat_inj.1 g) h
  · exact .inr g
theorem Dif.cmp {xs ys : List UInt8} {o : Int} (h : Dif xs ys o) : Lib.compareBytes xs ys = o := by
  obtain ⟨p, c, d, r, t, rfl, rfl, h, rfl⟩ := h
  rw [cb_app]
  show (if c < d then _ else if d < c then _ else _) = _
  rcases u8_ne h with g | g
  · rw [if_pos g, if_pos g]
  · have : ¬ c < d := fun k => absurd (UInt8.lt_iff_toNat_lt.1 k) (by have := UInt8.lt_iff_toNat_lt.1 g; omega)
    rw [if_neg this, if_neg this, if_pos g]
theorem Dif.app {xs ys : List UInt8} {o : Int} (p : List UInt8) (h : Dif xs ys o) : Dif (p ++ xs) (p ++ ys) o := by
  obtain ⟨q, c, d, r, t, rfl, rfl, h⟩ := h
  exact ⟨p ++ q, c, d, r, t, (List.append_assoc _ _ _).symm, (List.append_assoc _ _ _).symm, h⟩
theorem Dif.cons {xs ys : List UInt8} {o : Int} (c : UInt8) (h : Dif xs ys o) : Dif (c :: xs) (c :: ys) o := h.app [c]
theorem Dif.npre {xs ys : List UInt8} {o : Int} (h : Dif xs ys o) : ¬ xs.take ys.length = ys := by
  obtain ⟨p, c, d, r, t, rfl, rfl, h, _⟩ := h
  intro g
  have g1 := congrArg (fun l => l[p.length]?) g
  simp only [List.getElem?_take] at g1
  rw [if_pos (by simp)] at g1
  simp at g1
  exact h g1
theorem Dif.head {c d : UInt8} (xs ys : List UInt8) (h : c ≠ d) : Dif (c :: xs) (d :: ys) (if c < d then -1 else 1) := ⟨[], c, d, xs, ys, rfl, rfl, h, rfl⟩
/-! ### eight bytes -/
theorem lowB_nat (a : Int) : ((lowB a).toNat : Int) = a % 256 := by
  unfold lowB
  rw [UInt8.toNat_ofNat']
  omega
theorem lowB_dif {a b : Int} {xs ys : List UInt8} (h : a % 256 ≠ b % 256) : Dif (lowB a :: xs) (lowB b :: ys) (ordI (a % 256) (b % 256)) := by
  have ha := lowB_nat a
  have hb := lowB_nat b
  have e : ordI (a % 256) (b % 256) = if lowB a < lowB b then -1 else 1 := by
    unfold ordI
    simp only [UInt8.lt_iff_toNat_lt]
    by_cases g : a % 256 < b % 256
    · rw [if_pos g, if_pos (by omega)]
    · rw [if_neg g, if_pos (by omega), if_neg (by omega)]
  rw [e]
  exact Dif.head _ _ fun g => h (by rw [← ha, ← hb, g])
theorem lowB_eq {a b : Int} (h : a % 256 = b % 256) : lowB a = lowB b := by unfold lowB; rw [h]
theorem digit {a b : Int} (k : Int) (n : Nat) {xs ys : List UInt8} (hk : 0 < k) (hd : Dif xs ys (ordI (a % k) (b % k)) ∨ a % k = b % k) (hn : a % (256 * k) ≠ b % (256 * k)) :
    Dif (lowB (a / k) :: xs) (lowB (b / k) :: ys) (ordI (a % (256 * k)) (b % (256 * k))) := by
  have e : ∀ c : Int, c % (256 * k) = (c / k % 256) * k + c % k := fun c => by
    rw [Int.mul_comm 256 k, Int.emod_def c (k * 256), ← Int.ediv_ediv_of_nonneg (Int.le_of_lt hk), Int.emod_def (c / k) 256, Int.emod_def c k, Int.sub_mul, Int.mul_assoc k 256, Int.mul_comm k (256 * (c / k / 256)), Int.mul_comm (c / k) k]
    omega
  have ea := e a
  have eb := e b
  have l1 := Int.emod_nonneg a (Int.ne_of_gt hk)
  have l2 := Int.emod_lt_of_pos a hk
  have l3 := Int.emod_nonneg b (Int.ne_of_gt hk)
  have l4 := Int.emod_lt_of_pos b hk
  generalize a % (256 * k) = A at *
  generalize b % (256 * k) = B at *
  by_cases h : a / k % 256 = b / k % 256
  · rw [lowB_eq h]
    refine Dif.cons _ ?_
    rw [h] at ea
    have : ordI A B = ordI (a % k) (b % k) := by unfold ordI; rw [ea, eb]; congr 1 <;> simp
    rw [this]
    rcases hd with hd | hd
    · exact hd
    · exact absurd (by rw [ea, eb, hd]) hn
  · have h1 : ordI A B = ordI (a / k % 256) (b / k % 256) := by
      unfold ordI
      rcases Int.lt_or_gt_of_ne h with g | g
      · have h2 : (a / k % 256 + 1) * k ≤ (b / k % 256) * k := Int.mul_le_mul_of_nonneg_right (by omega) (by omega)
        rw [Int.add_mul] at h2
        rw [if_pos (by omega), if_pos g]
      · have h2 : (b / k % 256 + 1) * k ≤ (a / k % 256) * k := Int.mul_le_mul_of_nonneg_right (by omega) (by omega)
        rw [Int.add_mul] at h2
        rw [if_neg (by omega), if_pos (by omega), if_neg (by omega), if_pos g]
    rw [h1]
    exact lowB_dif h
theorem digit' {a b : Int} (k : Int) {xs ys : List UInt8} (hk : 0 < k) (hd : a % k ≠ b % k → Dif xs ys (ordI (a % k) (b % k))) (hn : a % (256 * k) ≠ b % (256 * k)) :
    Dif (lowB (a / k) :: xs) (lowB (b / k) :: ys) (ordI (a % (256 * k)) (b % (256 * k))) :=
  digit k 0 hk ((Classical.em _).symm.imp hd id) hn
theorem eight_dif {a b : Int} (a0 : 0 ≤ a) (a1 : a < 2 ^ 64) (b0 : 0 ≤ b) (b1 : b < 2 ^ 64) (h : a ≠ b) : Dif (eightB a) (eightB b) (ordI a b) := by
  have e : ∀ c : Int, 0 ≤ c → c < 2 ^ 64 → c % (256 * 2 ^ 56) = c := fun c _ _ => Int.emod_eq_of_lt (by omega) (by omega)
  have h1 := digit' (a := a) (b := b) (2 ^ 56) (by decide) (digit' (2 ^ 48) (by decide) (digit' (2 ^ 40) (by decide) (digit' (2 ^ 32) (by decide) (digit' (2 ^ 24) (by decide) (digit' (2 ^ 16) (by decide) (digit' (2 ^ 8) (by decide) (fun g => lowB_dif (xs := []) (ys := []) g))))))) (by rw [e a a0 a1, e b b0 b1]; exact h)
  rw [e a a0 a1, e b b0 b1] at h1
  exact h1
theorem xor_top {x : Nat} (h : x < 2 ^ 63) : x ^^^ 2 ^ 63 = 2 ^ 63 + x := by
  have h1 := Nat.two_pow_add_eq_or_of_lt h 1
  rw [Nat.mul_one] at h1
  rw [h1]
  refine Nat.eq_of_testBit_eq fun j => ?_
  rw [Nat.testBit_xor, Nat.testBit_or, Nat.testBit_two_pow]
  by_cases hj : 63 = j
  · subst hj
    rw [Nat.testBit_lt_two_pow h]
    simp
  · simp [hj]
theorem xor_top2 {x : Nat} (h : x < 2 ^ 64) : x ^^^ 2 ^ 63 = (x + 2 ^ 63) % 2 ^ 64 := by
  by_cases g : x < 2 ^ 63
  · rw [xor_top g]; omega
  · obtain ⟨y, rfl⟩ : ∃ y, x = 2 ^ 63 + y := ⟨x - 2 ^ 63, by omega⟩
    have hy : y < 2 ^ 63 := by omega
    rw [← xor_top hy, Nat.xor_assoc, Nat.xor_self, Nat.xor_zero, xor_top hy]
    omega
theorem topX_eq {n : Int} (h1 : -9223372036854775808 ≤ n) (h2 : n ≤ 9223372036854775807) : topX (IntKind.wrap .u64 n) = n + 9223372036854775808 := by
  unfold topX
  have e : (BitVec.ofInt 64 (IntKind.wrap .u64 n) ^^^ BitVec.ofInt 64 9223372036854775808).toNat = ((IntKind.wrap .u64 n) % 2 ^ 64).toNat ^^^ 2 ^ 63 := by
    rw [BitVec.toNat_xor, BitVec.toNat_ofInt]
    rfl
  rw [e, xor_top2 (by omega)]
  simp [IntKind.wrap, IntKind.bits, IntKind.signed]
  omega
/-! ### texts -/
theorem esc_cons (c : UInt8) (r : List UInt8) : esc (c :: r) = (if c = 0 then [0, 255] else [c]) ++ esc r := rfl
theorem esc_dif : ∀ (s t : List UInt8), s ≠ t → Dif (esc s ++ [0, 0]) (esc t ++ [0, 0]) (Lib.compareBytes s t)
  | [], [], h => absurd rfl h
  | [], d :: t, _ => by
    rw [esc_cons]
    by_cases hd : d = 0
    · rw [if_pos hd]
      exact (Dif.head (c := 0) (d := 255) _ _ (by decide)).cons 0
    · rw [if_neg hd]
      have h := Dif.head (c := 0) (d := d) [0] (esc t ++ [0, 0]) (fun g => hd g.symm)
      rw [if_pos (by rw [UInt8.lt_iff_toNat_lt]; have : d.toNat ≠ 0 := fun g => hd (UInt8.toNat_inj.1 g); show 0 < _; omega)] at h
      exact h
  | c :: s, [], _ => by
    rw [esc_cons]
    by_cases hd : c = 0
    · rw [if_pos hd]
      exact (Dif.head (c := 255) (d := 0) _ _ (by decide)).cons 0
    · rw [if_neg hd]
      have h := Dif.head (c := c) (d := 0) (esc s ++ [0, 0]) [0] hd
      rw [if_neg (by rw [UInt8.lt_iff_toNat_lt]; show ¬ _ < 0; omega)] at h
      exact h
  | c :: s, d :: t, h => by
    rw [esc_cons, esc_cons]
    by_cases hcd : c = d
    · subst hcd
      rw [cb_cons, List.append_assoc, List.append_assoc]
      exact (esc_dif s t fun g => h (by rw [g])).app _
    · have e : Lib.compareBytes (c :: s) (d :: t) = if c < d then -1 else 1 := (Dif.head s t hcd).cmp
      rw [e]
      have h0 : ∀ x y : UInt8, x ≠ y → Dif ((if x = 0 then [0, 255] else [x]) ++ esc s ++ [0, 0]) ((if y = 0 then [0, 255] else [y]) ++ esc t ++ [0, 0]) (if x < y then -1 else 1) := by
        intro x y hxy
        by_cases hx : x = 0
        · subst hx
          rw [if_pos rfl, if_neg fun g => hxy g.symm]
          exact Dif.head _ _ hxy
        · by_cases hy : y = 0
          · subst hy
            rw [if_pos rfl, if_neg hx]
            exact Dif.head _ _ hxy
          · rw [if_neg hx, if_neg hy]
            exact Dif.head _ _ hxy
      exact h0 c d hcd
theorem ordI_self (a : Int) : ordI a a = 0 := by simp [ordI]
theorem ordI_ne {a b : Int} (h : a ≠ b) : ordI a b ≠ 0 := by
  unfold ordI
  rcases Int.lt_or_gt_of_ne h with g | g
  · rw [if_pos g]; decide
  · rw [if_neg (by omega), if_pos g]; decide
theorem ordI_zero {a b : Int} : ordI a b ≠ 0 ↔ a ≠ b := ⟨fun h g => h (by rw [g]; exact ordI_self b), ordI_ne⟩
/-- two right values that differ -/
theorem key_dif {x y : Vl} (hx : x.ok) (hy : y.ok) (rx : rightV x = true) (ry : rightV y = true) (h : x ≠ y) : Dif (keyB x) (keyB y) (ordV x y) := by
  obtain ⟨k, n, s⟩ := x
  obtain ⟨k', n', s'⟩ := y
  by_cases hk : k = k'
  · subst hk
    have ek : ordI (k.toNat : Int) (k.toNat : Int) = 0 := ordI_self _
    show Dif (k :: _) (k :: _) _
    refine Dif.cons k ?_
    have eo : ordV ⟨k, n, s⟩ ⟨k, n', s'⟩ = if ordI n n' ≠ 0 then ordI n n' else Lib.compareBytes s s' := by
      show (if ordI (k.toNat : Int) (k.toNat : Int) ≠ 0 then _ else _) = _
      rw [ek, if_neg (by decide)]
    rw [eo]
    unfold rightV at rx ry
    unfold keyBody
    simp only at rx ry ⊢
    by_cases k1 : k.toNat = 1
    · rw [if_pos k1, if_pos k1]
      rw [if_neg (by omega), if_pos k1] at rx ry
      simp at rx ry
      obtain ⟨rfl, rx⟩ := rx
      obtain ⟨rfl, ry⟩ := ry
      have hn : n ≠ n' := fun g => h (by rw [g])
      rw [if_pos (ordI_ne hn)]
      have := lowB_dif (a := n) (b := n') (xs := []) (ys := []) (by omega)
      have e1 : n % 256 = n := by omega
      have e2 : n' % 256 = n' := by omega
      rw [e1, e2] at this
      exact this
    · rw [if_neg k1, if_neg k1]
      by_cases k2 : k.toNat = 2 ∨ k.toNat = 3
      · rw [if_pos k2, if_pos k2]
        rw [if_neg (by omega), if_neg k1, if_pos k2] at rx ry
        simp at rx ry
        subst rx
        subst ry
        have hn : n ≠ n' := fun g => h (by rw [g])
        rw [if_pos (ordI_ne hn), topX_eq hx.1 hx.2.1, topX_eq hy.1 hy.2.1]
        have b1 := hx.1
        have b2 := hx.2.1
        have b3 := hy.1
        have b4 := hy.2.1
        simp only at b1 b2 b3 b4
        have := eight_dif (a := n + 9223372036854775808) (b := n' + 9223372036854775808) (by omega) (by omega) (by omega) (by omega) (by omega)
        have e : ordI (n + 9223372036854775808) (n' + 9223372036854775808) = ordI n n' := by unfold ordI; congr 1 <;> simp
        rw [e] at this
        exact this
      · rw [if_neg k2, if_neg k2]
        by_cases k4 : k.toNat = 4 ∨ k.toNat = 5
        · rw [if_pos k4, if_pos k4]
          rw [if_neg (by omega), if_neg k1, if_neg k2, if_pos k4] at rx ry
          simp at rx ry
          obtain ⟨rfl, rx⟩ := rx
          obtain ⟨rfl, ry⟩ := ry
          rw [if_neg (by rw [ordI_self]; decide)]
          exact esc_dif s s' fun g => h (by rw [g])
        · by_cases k0 : k.toNat = 0
          · rw [if_pos k0] at rx ry
            simp at rx ry
            obtain ⟨rfl, rfl⟩ := rx
            obtain ⟨rfl, rfl⟩ := ry
            exact absurd rfl h
          · rw [if_neg k0, if_neg k1, if_neg k2, if_neg k4] at rx
            cases rx
  · have hk' : ((k.toNat : Int)) ≠ (k'.toNat : Int) := fun g => hk (UInt8.toNat_inj.1 (by omega))
    have eo : ordV ⟨k, n, s⟩ ⟨k', n', s'⟩ = if k < k' then -1 else 1 := by
      show (if ordI (k.toNat : Int) (k'.toNat : Int) ≠ 0 then ordI (k.toNat : Int) (k'.toNat : Int) else _) = _
      rw [if_pos (ordI_ne hk')]
      unfold ordI
      simp only [UInt8.lt_iff_toNat_lt]
      by_cases g : k.toNat < k'.toNat
      · rw [if_pos (by omega), if_pos g]
      · rw [if_neg (by omega), if_pos (by omega), if_neg g]
    rw [eo]
    exact Dif.head _ _ hk
theorem ordV_self (x : Vl) : ordV x x = 0 := by
  unfold ordV
  rw [ordI_self, ordI_self, if_neg (by decide), if_neg (by decide), cb_self]
theorem right_of {x : Vl} (h : keyErr x = 0) : rightV x = true := by
  unfold keyErr at h
  by_cases g : rightV x = false
  · rw [if_pos g] at h; cases h
  · simpa using g
theorem key_cmp {x y : Vl} (hx : x.ok) (hy : y.ok) (ex : keyErr x = 0) (ey : keyErr y = 0) : Lib.compareBytes (keyB x) (keyB y) = ordV x y := by
  by_cases h : x = y
  · subst h; rw [cb_self, ordV_self]
  · exact (key_dif hx hy (right_of ex) (right_of ey) h).cmp
theorem key_npre {x y : Vl} (hx : x.ok) (hy : y.ok) (ex : keyErr x = 0) (ey : keyErr y = 0) (h : x ≠ y) : ¬ (keyB x).take (keyB y).length = keyB y :=
  (key_dif hx hy (right_of ex) (right_of ey) h).npre
end Go.Proofs.Ytghmbmblhdgabaa
