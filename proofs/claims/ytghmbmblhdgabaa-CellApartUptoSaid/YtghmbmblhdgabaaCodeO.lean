/- The code of functions, with short environments; what each part comes to. -/
import Derived.Test.YtghmbmblhdgabaaShort
import Derived.Test.YtghmbmblhdgabaaProg
import Derived.KernelRfl
import Derived.Test.YtghmbmblhdgabaaCodeX
set_option linter.all false
namespace Go.Proofs.Ytghmbmblhdgabaa.Code
open Go Go.Den
set_option maxRecDepth 100000
/-! ### chancery/chancerylaw18.CellOrder -/
def r8_0 : List SI := [⟨some 2, (.box 60 (.tmp 0)), none⟩,
  ⟨some 3, (.box 60 (.tmp 1)), none⟩,
  ⟨some 4, (.assign (.const (.bool false))), none⟩]
def r8_1 : List SI := [⟨some 10, (.load 60 (.tmp 2)), none⟩,
  ⟨some 11, (.call { callee := (.value (.func 33)), args := #[(.tmp 10)], argTypes := #[60] }), none⟩,
  ⟨some 9, (.move (.tmp 11)), none⟩,
  ⟨some 12, (.extract (.tmp 9) 0), none⟩,
  ⟨some 13, (.extract (.tmp 9) 1), none⟩,
  ⟨some 5, (.assign (.tmp 12)), none⟩,
  ⟨some 6, (.assign (.tmp 13)), none⟩]
def r8_2 : List SI := [⟨some 15, (.load 60 (.tmp 3)), none⟩,
  ⟨some 16, (.call { callee := (.value (.func 33)), args := #[(.tmp 15)], argTypes := #[60] }), none⟩,
  ⟨some 14, (.move (.tmp 16)), none⟩,
  ⟨some 17, (.extract (.tmp 14) 0), none⟩,
  ⟨some 18, (.extract (.tmp 14) 1), none⟩,
  ⟨some 7, (.assign (.tmp 17)), none⟩,
  ⟨some 8, (.assign (.tmp 18)), none⟩]
def r8_3 : List SI := [⟨some 19, (.move (.tmp 6)), none⟩,
  ⟨some 20, (.binOp .neq 27 (.tmp 19) (.const (.int .i64 0)) 27), none⟩,
  ⟨some 21, (.move (.tmp 20)), none⟩,
  ⟨some 22, (.move (.tmp 8)), some (some 21, false)⟩,
  ⟨some 23, (.binOp .neq 27 (.tmp 22) (.const (.int .i64 0)) 27), some (some 21, false)⟩,
  ⟨some 24, (.pick (.tmp 21) (.const (.bool true)) (.tmp 23)), none⟩]
def r8_4 : List SI := [⟨some 25, (.call { callee := (.value (.func 26)), args := #[], argTypes := #[] }), none⟩,
  ⟨some 4, (.assign (.tmp 25)), none⟩]
def x8_2 : X := .ops r8_4 [4] .ret
def r8_5a : List SI := [⟨some 26, (.move (.tmp 5)), none⟩,
  ⟨some 27, (.move (.tmp 7)), none⟩,
  ⟨some 28, (.call { callee := (.value (.func 32)), args := #[(.tmp 26), (.tmp 27)], argTypes := #[22, 22] }), none⟩,
  ⟨some 29, (.load 60 (.tmp 2)), none⟩,
  ⟨some 30, (.load 60 (.tmp 3)), none⟩]
def r8_5b : List SI := [⟨some 31, (.call { callee := (.value (.func 34)), args := #[(.tmp 29), (.tmp 30)], argTypes := #[60, 60] }), none⟩,
  ⟨some 32, (.binOp .neq 3 (.tmp 28) (.tmp 31) 3), none⟩]
def r8_6 : List SI := [⟨some 4, (.assign (.const (.bool false))), none⟩]
def x8_4 : X := .ops r8_6 [4] .ret
def r8_7 : List SI := [⟨some 33, (.load 60 (.tmp 2)), none⟩,
  ⟨some 34, (.load 60 (.tmp 3)), none⟩,
  ⟨some 35, (.binOp .eql 60 (.tmp 33) (.tmp 34) 60), none⟩,
  ⟨some 36, (.move (.tmp 35)), none⟩,
  ⟨some 37, (.move (.tmp 5)), some (some 36, false)⟩,
  ⟨some 38, (.move (.tmp 7)), some (some 36, false)⟩,
  ⟨some 39, (.call { callee := (.value (.func 30)), args := #[(.tmp 37), (.tmp 38)], argTypes := #[22, 22] }), some (some 36, false)⟩,
  ⟨some 40, (.unOp .not 4 (.tmp 39)), some (some 36, false)⟩,
  ⟨some 41, (.pick (.tmp 36) (.const (.bool true)) (.tmp 40)), none⟩,
  ⟨some 42, (.move (.tmp 41)), none⟩,
  ⟨some 43, (.call { callee := (.value (.func 26)), args := #[], argTypes := #[] }), some (some 42, true)⟩,
  ⟨some 44, (.pick (.tmp 42) (.tmp 43) (.const (.bool false))), none⟩,
  ⟨some 4, (.assign (.tmp 44)), none⟩]
def x8_5 : X := .ops r8_7 [4] .ret
def x8_3 : X := .front false r8_5a r8_5b [32] (.cond (.tmp 32) x8_4 .skip x8_5)
def x8_1 : X := .cond (.tmp 24) x8_2 .skip x8_3
def x8_0 : X := .ops r8_0 [2, 3] (.ops r8_1 [5, 6] (.ops r8_2 [7, 8] (.ops r8_3 [24] x8_1)))
def n8 : Ann := .ops [2, 3] (.ops [5, 6] (.ops [7, 8] (.ops [24] (.cond (.ops [4] .stop) .stop (.ops [32] (.cond (.ops [4] .stop) .stop (.ops [4] .stop)))))))
theorem ok8 : annFn Try.f8 2 n8 = some x8_0 := by kernel_rfl
noncomputable def kF8 (K : V → H → Prop) : XQ := kFnX C.P Try.f8.results.toList K
theorem e8_nx {K : V → H → Prop} {e : E} {h : H} : kF8 K .nx e h = K (E.get e 4) h := nrfl (by kernel_rfl)
theorem e8_rt {K : V → H → Prop} {e : E} {h : H} : kF8 K .rt e h = K (E.get e 4) h := nrfl (by kernel_rfl)
theorem enter8 {lo : Nat} {h : H} {vs : List V} {K : V → H → Prop} (hl : vs.length = 2) (hw : XW C lo x8_0 (kF8 K) (args 0 vs) h) : CW C 8 vs lo h K := by
  refine CW_X hS rfl Try.func8 ok8 hl ?_ hw
  rw [Try.ntmps8]
  decide
theorem q8_2 {lo : Nat} {Q : XQ} {e : E} {h : H} : XW C lo x8_2 Q e h =
    CW C 26 [] lo h fun t1 h2 =>
    Q .rt ((4, t1) :: e) h2 := nrfl (by kernel_rfl)
theorem q8_4 {lo : Nat} {Q : XQ} {e : E} {h : H} : XW C lo x8_4 Q e h =
    Q .rt ((4, .bool false) :: e) h := nrfl (by kernel_rfl)
theorem q8_5 {lo : Nat} {Q : XQ} {e : E} {h : H} : XW C lo x8_5 Q e h =
    bd (loadV Try.prog 60 (E.get e 2) (H.read h)) fun t1 =>
    bd (loadV Try.prog 60 (E.get e 3) (H.read h)) fun t2 =>
    bdB (binV Try.prog .eql 60 t1 t2) fun b3 =>
    byT b3 (CW C 26 [] lo h fun t4 h5 =>
    Q .rt ((4, t4) :: e) h5) (CW C 30 [E.get e 5, E.get e 7] lo h fun t4 h5 =>
    bd (unV .not t4) fun t6 =>
    byV t6 (CW C 26 [] lo h5 fun t7 h8 =>
    Q .rt ((4, t7) :: e) h8) (Q .rt ((4, .bool false) :: e) h5) (False)) := nrfl (by kernel_rfl)
theorem q8_3 {lo : Nat} {Q : XQ} {e : E} {h : H} : XW C lo x8_3 Q e h =
    CW C 32 [E.get e 5, E.get e 7] (H.next h) h fun t1 h2 =>
    bd (loadV Try.prog 60 (E.get e 2) (H.read h2)) fun t3 =>
    bd (loadV Try.prog 60 (E.get e 3) (H.read h2)) fun t4 =>
    CW C 34 [t3, t4] lo h2 fun t5 h6 =>
    bdB (binV Try.prog .neq 3 t1 t5) fun b7 =>
    byT b7 (XW C lo x8_4 (kX (XW C lo x8_5 Q) Q) ((32, .bool b7) :: e) h6) (XW C lo .skip (kX (XW C lo x8_5 Q) Q) ((32, .bool b7) :: e) h6) := nrfl (by kernel_rfl)
theorem q8_1 {lo : Nat} {Q : XQ} {e : E} {h : H} : XW C lo x8_1 Q e h =
    byV (E.get e 24) (XW C lo x8_2 (kX (XW C lo x8_3 Q) Q) e h) (XW C lo .skip (kX (XW C lo x8_3 Q) Q) e h) False := nrfl (by kernel_rfl)
theorem q8_0 {lo : Nat} {Q : XQ} {e : E} {h : H} : XW C lo x8_0 Q e h =
    bd (loadV Try.prog 60 (.ptr (H.next h) 0) (H.read (H.alloc (H.alloc h (V.cells (E.get e 0))) (V.cells (E.get e 1))))) fun t1 =>
    CW C 33 [t1] lo (H.alloc (H.alloc h (V.cells (E.get e 0))) (V.cells (E.get e 1))) fun t2 h3 =>
    tupX t2 fun l4 => bd (l4[0]?) fun t5 =>
    tupX t2 fun l6 => bd (l6[1]?) fun t7 =>
    bd (loadV Try.prog 60 (.ptr (H.next (H.alloc h (V.cells (E.get e 0)))) 0) (H.read h3)) fun t8 =>
    CW C 33 [t8] lo h3 fun t9 h10 =>
    tupX t9 fun l11 => bd (l11[0]?) fun t12 =>
    tupX t9 fun l13 => bd (l13[1]?) fun t14 =>
    bdB (binV Try.prog .neq 27 t7 (.int .i64 0)) fun b15 =>
    byT b15 (XW C lo x8_2 (kX (XW C lo x8_3 Q) Q) ((24, .bool true) :: (7, t12) :: (8, t14) :: (5, t5) :: (6, t7) :: (2, .ptr (H.next h) 0) :: (3, .ptr (H.next (H.alloc h (V.cells (E.get e 0)))) 0) :: e) h10) (bdB (binV Try.prog .neq 27 t14 (.int .i64 0)) fun b16 =>
    byT b16 (XW C lo x8_2 (kX (XW C lo x8_3 Q) Q) ((24, .bool b16) :: (7, t12) :: (8, t14) :: (5, t5) :: (6, t7) :: (2, .ptr (H.next h) 0) :: (3, .ptr (H.next (H.alloc h (V.cells (E.get e 0)))) 0) :: e) h10) (XW C lo .skip (kX (XW C lo x8_3 Q) Q) ((24, .bool b16) :: (7, t12) :: (8, t14) :: (5, t5) :: (6, t7) :: (2, .ptr (H.next h) 0) :: (3, .ptr (H.next (H.alloc h (V.cells (E.get e 0)))) 0) :: e) h10)) := nrfl (by kernel_rfl)

/-! ### chancery/cell.Key -/
def r33_0 : List SI := [⟨some 1, (.box 60 (.tmp 0)), none⟩,
  ⟨some 2, (.assign (.const (.slice none 0 0))), none⟩,
  ⟨some 3, (.assign (.const (.int .i64 0))), none⟩]
def r33_1 : List SI := [⟨some 6, (.load 60 (.tmp 1)), none⟩,
  ⟨some 7, (.call { callee := (.value (.func 51)), args := #[(.tmp 6)], argTypes := #[60] }), none⟩,
  ⟨some 8, (.unOp .not 4 (.tmp 7)), none⟩]
def r33_2 : List SI := [⟨some 2, (.assign (.const (.slice none 0 0))), none⟩,
  ⟨some 3, (.assign (.const (.int .i64 2))), none⟩]
def x33_1 : X := .ops r33_2 [2, 3] .ret
def r33_3 : List SI := [⟨some 9, (.fieldAddr 60 (.tmp 1) 0), none⟩,
  ⟨some 10, (.load 58 (.tmp 9)), none⟩,
  ⟨some 11, (.buildSlice 22 1 #[(0, (.tmp 10))]), none⟩,
  ⟨some 4, (.assign (.tmp 11)), none⟩]
def r33_4 : List SI := [⟨some 12, (.fieldAddr 60 (.tmp 1) 0), none⟩,
  ⟨some 13, (.load 58 (.tmp 12)), none⟩]
def r33_5 : List SI := [⟨some 15, (.binOp .eql 58 (.tmp 13) (.const (.int .u8 1)) 58), none⟩,
  ⟨some 14, (.assign (.tmp 15)), none⟩]
def r33_6 : List SI := [⟨some 16, (.move (.tmp 4)), none⟩,
  ⟨some 17, (.fieldAddr 60 (.tmp 1) 1), none⟩,
  ⟨some 18, (.load 2 (.tmp 17)), none⟩,
  ⟨some 19, (.convert 2 5 (.tmp 18)), none⟩,
  ⟨some 20, (.buildSlice 22 1 #[(0, (.tmp 19))]), none⟩,
  ⟨some 21, (.call { callee := (.builtin .append), args := #[(.tmp 16), (.tmp 20)], argTypes := #[22, 22] }), none⟩,
  ⟨some 4, (.assign (.tmp 21)), none⟩]
def x33_4 : X := .ops r33_6 [4] .skip
def r33_7 : List SI := [⟨some 23, (.binOp .eql 58 (.tmp 13) (.const (.int .u8 2)) 58), none⟩,
  ⟨some 22, (.assign (.tmp 23)), none⟩]
def r33_8 : List SI := [⟨some 24, (.binOp .eql 58 (.tmp 13) (.const (.int .u8 3)) 58), none⟩,
  ⟨some 22, (.assign (.tmp 24)), none⟩]
def x33_6 : X := .ops r33_8 [22] .skip
def r33_9 : List SI := [⟨some 25, (.move (.tmp 4)), none⟩,
  ⟨some 26, (.fieldAddr 60 (.tmp 1) 1), none⟩,
  ⟨some 27, (.load 2 (.tmp 26)), none⟩,
  ⟨some 28, (.convert 2 92 (.tmp 27)), none⟩,
  ⟨some 29, (.binOp .xor 92 (.tmp 28) (.const (.int .u64 9223372036854775808)) 92), none⟩,
  ⟨some 30, (.call { callee := (.value (.func 52)), args := #[(.tmp 25), (.tmp 29)], argTypes := #[22, 92] }), none⟩,
  ⟨some 4, (.assign (.tmp 30)), none⟩]
def x33_8 : X := .ops r33_9 [4] .skip
def r33_10 : List SI := [⟨some 32, (.binOp .eql 58 (.tmp 13) (.const (.int .u8 4)) 58), none⟩,
  ⟨some 31, (.assign (.tmp 32)), none⟩]
def r33_11 : List SI := [⟨some 33, (.binOp .eql 58 (.tmp 13) (.const (.int .u8 5)) 58), none⟩,
  ⟨some 31, (.assign (.tmp 33)), none⟩]
def x33_10 : X := .ops r33_11 [31] .skip
def r33_12 : List SI := [⟨some 34, (.fieldAddr 60 (.tmp 1) 2), none⟩,
  ⟨some 35, (.load 9 (.tmp 34)), none⟩,
  ⟨some 36, (.call { callee := (.builtin .len), args := #[(.tmp 35)], argTypes := #[9] }), none⟩,
  ⟨some 37, (.binOp .gtr 3 (.tmp 36) (.const (.int .i64 36)) 3), none⟩]
def r33_13 : List SI := [⟨some 2, (.assign (.const (.slice none 0 0))), none⟩,
  ⟨some 3, (.assign (.const (.int .i64 3))), none⟩]
def x33_13 : X := .ops r33_13 [2, 3] .ret
def r33_14 : List SI := [⟨some 38, (.fieldAddr 60 (.tmp 1) 2), none⟩,
  ⟨some 39, (.load 9 (.tmp 38)), none⟩,
  ⟨some 40, (.call { callee := (.builtin .len), args := #[(.tmp 39)], argTypes := #[9] }), none⟩,
  ⟨some 41, (.move (.const (.int .i64 0))), none⟩]
def r33_15 : List SI := [⟨some 42, (.binOp .lss 3 (.tmp 41) (.tmp 40) 3), none⟩]
def r33_16 : List SI := [⟨some 43, (.move (.tmp 41)), none⟩,
  ⟨some 5, (.assign (.tmp 43)), none⟩]
def r33_17 : List SI := [⟨some 44, (.move (.tmp 4)), none⟩,
  ⟨some 45, (.fieldAddr 60 (.tmp 1) 2), none⟩,
  ⟨some 46, (.load 9 (.tmp 45)), none⟩,
  ⟨some 47, (.move (.tmp 5)), none⟩,
  ⟨some 48, (.index 9 (.tmp 46) (.tmp 47)), none⟩,
  ⟨some 49, (.buildSlice 22 1 #[(0, (.tmp 48))]), none⟩,
  ⟨some 50, (.call { callee := (.builtin .append), args := #[(.tmp 44), (.tmp 49)], argTypes := #[22, 22] }), none⟩,
  ⟨some 4, (.assign (.tmp 50)), none⟩]
def r33_18 : List SI := [⟨some 51, (.fieldAddr 60 (.tmp 1) 2), none⟩,
  ⟨some 52, (.load 9 (.tmp 51)), none⟩,
  ⟨some 53, (.move (.tmp 5)), none⟩,
  ⟨some 54, (.index 9 (.tmp 52) (.tmp 53)), none⟩,
  ⟨some 55, (.binOp .eql 5 (.tmp 54) (.const (.int .u8 0)) 5), none⟩]
def r33_19 : List SI := [⟨some 56, (.move (.tmp 4)), none⟩,
  ⟨some 57, (.buildSlice 22 1 #[(0, (.const (.int .u8 255)))]), none⟩,
  ⟨some 58, (.call { callee := (.builtin .append), args := #[(.tmp 56), (.tmp 57)], argTypes := #[22, 22] }), none⟩,
  ⟨some 4, (.assign (.tmp 58)), none⟩]
def x33_19 : X := .ops r33_19 [4] .skip
def x33_20 : X := .trim [1, 4, 40, 41] .skip
def x33_18 : X := .ops r33_16 [5] (.ops r33_17 [4] (.ops r33_18 [55] (.cond (.tmp 55) x33_19 .skip x33_20)))
def r33_20 : List SI := [⟨some 59, (.binOp .add 3 (.tmp 41) (.const (.int .i64 1)) 3), none⟩,
  ⟨some 41, (.move (.tmp 59)), none⟩]
def x33_21 : X := .trim [1, 4, 40, 41] (.ops r33_20 [41] .skip)
def x33_17 : X := .block 2 x33_18 x33_21
def x33_16 : X := .ops r33_15 [42] (.cond (.tmp 42) .skip (.exit 1) x33_17)
def x33_15 : X := .loop [1, 4, 40, 41] x33_16
def r33_21 : List SI := [⟨some 60, (.move (.tmp 4)), none⟩,
  ⟨some 61, (.buildSlice 22 2 #[(0, (.const (.int .u8 0))), (1, (.const (.int .u8 0)))]), none⟩,
  ⟨some 62, (.call { callee := (.builtin .append), args := #[(.tmp 60), (.tmp 61)], argTypes := #[22, 22] }), none⟩,
  ⟨some 4, (.assign (.tmp 62)), none⟩]
def x33_22 : X := .trim [4] (.ops r33_21 [4] .skip)
def x33_14 : X := .ops r33_14 [40, 41] (.block 1 x33_15 x33_22)
def x33_12 : X := .ops r33_12 [37] (.cond (.tmp 37) x33_13 .skip x33_14)
def x33_23 : X := .trim [4] .skip
def x33_11 : X := .trim [1, 4, 31] (.cond (.tmp 31) x33_12 .skip x33_23)
def x33_9 : X := .ops r33_10 [31] (.cond (.tmp 31) .skip x33_10 x33_11)
def x33_24 : X := .trim [4] .skip
def x33_7 : X := .trim [1, 4, 13, 22] (.cond (.tmp 22) x33_8 x33_9 x33_24)
def x33_5 : X := .ops r33_7 [22] (.cond (.tmp 22) .skip x33_6 x33_7)
def x33_25 : X := .trim [4] .skip
def x33_3 : X := .ops r33_5 [14] (.cond (.tmp 14) x33_4 x33_5 x33_25)
def r33_22 : List SI := [⟨some 63, (.move (.tmp 4)), none⟩,
  ⟨some 2, (.assign (.tmp 63)), none⟩,
  ⟨some 3, (.assign (.const (.int .i64 0))), none⟩]
def x33_26 : X := .trim [4] (.ops r33_22 [2, 3] .ret)
def x33_2 : X := .ops r33_3 [4] (.ops r33_4 [13] (.block 0 x33_3 x33_26))
def x33_0 : X := .ops r33_0 [1] (.ops r33_1 [8] (.cond (.tmp 8) x33_1 .skip x33_2))
def n33 : Ann := .ops [1] (.ops [8] (.cond (.ops [2, 3] .stop) .stop (.ops [4] (.ops [13] (.block [4] (.ops [14] (.cond (.ops [4] .stop) (.ops [22] (.cond .stop (.ops [22] .stop) (.trim [1, 4, 13, 22] (.cond (.ops [4] .stop) (.ops [31] (.cond .stop (.ops [31] .stop) (.trim [1, 4, 31] (.cond (.ops [37] (.cond (.ops [2, 3] .stop) .stop (.ops [40, 41] (.block [4] (.loop [1, 4, 40, 41] (.ops [42] (.cond .stop .stop (.block [1, 4, 40, 41] (.ops [5] (.ops [4] (.ops [55] (.cond (.ops [4] .stop) .stop (.trim [1, 4, 40, 41] .stop))))) (.trim [1, 4, 40, 41] (.ops [41] .stop)))))) (.trim [4] (.ops [4] .stop)))))) .stop (.trim [4] .stop))))) (.trim [4] .stop))))) (.trim [4] .stop))) (.trim [4] (.ops [2, 3] .stop)))))))
theorem ok33 : annFn Try.f33 1 n33 = some x33_0 := by kernel_rfl
noncomputable def kF33 (K : V → H → Prop) : XQ := kFnX C.P Try.f33.results.toList K
theorem e33_nx {K : V → H → Prop} {e : E} {h : H} : kF33 K .nx e h = K (.tup [E.get e 2, E.get e 3]) h := nrfl (by kernel_rfl)
theorem e33_rt {K : V → H → Prop} {e : E} {h : H} : kF33 K .rt e h = K (.tup [E.get e 2, E.get e 3]) h := nrfl (by kernel_rfl)
theorem enter33 {lo : Nat} {h : H} {vs : List V} {K : V → H → Prop} (hl : vs.length = 1) (hw : XW C lo x33_0 (kF33 K) (args 0 vs) h) : CW C 33 vs lo h K := by
  refine CW_X hS rfl Try.func33 ok33 hl ?_ hw
  rw [Try.ntmps33]
  decide
theorem q33_1 {lo : Nat} {Q : XQ} {e : E} {h : H} : XW C lo x33_1 Q e h =
    Q .rt ((2, .nils) :: (3, .int .i64 2) :: e) h := nrfl (by kernel_rfl)
theorem q33_4 {lo : Nat} {Q : XQ} {e : E} {h : H} : XW C lo x33_4 Q e h =
    bd (fieldAddrV Try.prog 60 (E.get e 1) 1) fun t1 =>
    bd (loadV Try.prog 2 t1 (H.read h)) fun t2 =>
    bd (convV Try.prog (H.read h) 2 5 t2) fun r3 => KX h (fun t4 h5 =>
    bd (buildSliceV Try.prog 22 1 [(0, t4)]) fun r6 => KX h5 (fun t7 h8 =>
    bd2 (appendV Try.prog lo [22, 22] (E.get e 4) t7 h8) fun t9 h10 =>
    Q .nx ((4, t9) :: e) h10) r6) r3 := nrfl (by kernel_rfl)
theorem q33_6 {lo : Nat} {Q : XQ} {e : E} {h : H} : XW C lo x33_6 Q e h =
    bdB (binV Try.prog .eql 58 (E.get e 13) (.int .u8 3)) fun b1 =>
    Q .nx ((22, .bool b1) :: e) h := nrfl (by kernel_rfl)
theorem q33_8 {lo : Nat} {Q : XQ} {e : E} {h : H} : XW C lo x33_8 Q e h =
    bd (fieldAddrV Try.prog 60 (E.get e 1) 1) fun t1 =>
    bd (loadV Try.prog 2 t1 (H.read h)) fun t2 =>
    bd (convV Try.prog (H.read h) 2 92 t2) fun r3 => KX h (fun t4 h5 =>
    bd (binV Try.prog .xor 92 t4 (.int .u64 9223372036854775808)) fun t6 =>
    CW C 52 [E.get e 4, t6] lo h5 fun t7 h8 =>
    Q .nx ((4, t7) :: e) h8) r3 := nrfl (by kernel_rfl)
theorem q33_10 {lo : Nat} {Q : XQ} {e : E} {h : H} : XW C lo x33_10 Q e h =
    bdB (binV Try.prog .eql 58 (E.get e 13) (.int .u8 5)) fun b1 =>
    Q .nx ((31, .bool b1) :: e) h := nrfl (by kernel_rfl)
theorem q33_13 {lo : Nat} {Q : XQ} {e : E} {h : H} : XW C lo x33_13 Q e h =
    Q .rt ((2, .nils) :: (3, .int .i64 3) :: e) h := nrfl (by kernel_rfl)
theorem q33_19 {lo : Nat} {Q : XQ} {e : E} {h : H} : XW C lo x33_19 Q e h =
    bd (buildSliceV Try.prog 22 1 [(0, .int .u8 255)]) fun r1 => KX h (fun t2 h3 =>
    bd2 (appendV Try.prog lo [22, 22] (E.get e 4) t2 h3) fun t4 h5 =>
    Q .nx ((4, t4) :: e) h5) r1 := nrfl (by kernel_rfl)
theorem q33_20 {lo : Nat} {Q : XQ} {e : E} {h : H} : XW C lo x33_20 Q e h =
    Q .nx [(1, E.get e 1), (4, E.get e 4), (40, E.get e 40), (41, E.get e 41)] h := nrfl (by kernel_rfl)
theorem q33_18 {lo : Nat} {Q : XQ} {e : E} {h : H} : XW C lo x33_18 Q e h =
    bd (fieldAddrV Try.prog 60 (E.get e 1) 2) fun t1 =>
    bd (loadV Try.prog 9 t1 (H.read h)) fun t2 =>
    bd (indexV Try.prog 9 t2 (E.get e 41)) fun t3 =>
    bd (buildSliceV Try.prog 22 1 [(0, t3)]) fun r4 => KX h (fun t5 h6 =>
    bd2 (appendV Try.prog lo [22, 22] (E.get e 4) t5 h6) fun t7 h8 =>
    bd (fieldAddrV Try.prog 60 (E.get e 1) 2) fun t9 =>
    bd (loadV Try.prog 9 t9 (H.read h8)) fun t10 =>
    bd (indexV Try.prog 9 t10 (E.get e 41)) fun t11 =>
    bdB (binV Try.prog .eql 5 t11 (.int .u8 0)) fun b12 =>
    byT b12 (XW C lo x33_19 (kX (XW C lo x33_20 Q) Q) ((55, .bool b12) :: (4, t7) :: (5, E.get e 41) :: e) h8) (XW C lo .skip (kX (XW C lo x33_20 Q) Q) ((55, .bool b12) :: (4, t7) :: (5, E.get e 41) :: e) h8)) r4 := nrfl (by kernel_rfl)
theorem q33_21 {lo : Nat} {Q : XQ} {e : E} {h : H} : XW C lo x33_21 Q e h =
    bd (binV Try.prog .add 3 (E.get e 41) (.int .i64 1)) fun t1 =>
    Q .nx [(41, t1), (1, E.get e 1), (4, E.get e 4), (40, E.get e 40), (41, E.get e 41)] h := nrfl (by kernel_rfl)
theorem q33_17 {lo : Nat} {Q : XQ} {e : E} {h : H} : XW C lo x33_17 Q e h =
    XW C lo x33_18 (kXB 2 (XW C lo x33_21 Q) Q) e h := nrfl (by kernel_rfl)
theorem q33_16 {lo : Nat} {Q : XQ} {e : E} {h : H} : XW C lo x33_16 Q e h =
    bdB (binV Try.prog .lss 3 (E.get e 41) (E.get e 40)) fun b1 =>
    byT b1 (XW C lo .skip (kX (XW C lo x33_17 Q) Q) ((42, .bool b1) :: e) h) (XW C lo (.exit 1) (kX (XW C lo x33_17 Q) Q) ((42, .bool b1) :: e) h) := nrfl (by kernel_rfl)
theorem q33_15 {lo : Nat} {Q : XQ} {e : E} {h : H} : XW C lo x33_15 Q e h =
    ∃ n, loopX [1, 4, 40, 41] (XW C lo x33_16) Q n e h := nrfl (by kernel_rfl)
theorem q33_22 {lo : Nat} {Q : XQ} {e : E} {h : H} : XW C lo x33_22 Q e h =
    bd (buildSliceV Try.prog 22 2 [(0, .int .u8 0), (1, .int .u8 0)]) fun r1 => KX h (fun t2 h3 =>
    bd2 (appendV Try.prog lo [22, 22] (E.get e 4) t2 h3) fun t4 h5 =>
    Q .nx [(4, t4), (4, E.get e 4)] h5) r1 := nrfl (by kernel_rfl)
theorem q33_14 {lo : Nat} {Q : XQ} {e : E} {h : H} : XW C lo x33_14 Q e h =
    bd (fieldAddrV Try.prog 60 (E.get e 1) 2) fun t1 =>
    bd (loadV Try.prog 9 t1 (H.read h)) fun t2 =>
    bd (lenV Try.prog [9] t2) fun t3 =>
    XW C lo x33_15 (kXB 1 (XW C lo x33_22 Q) Q) ((40, t3) :: (41, .int .i64 0) :: e) h := nrfl (by kernel_rfl)
theorem q33_12 {lo : Nat} {Q : XQ} {e : E} {h : H} : XW C lo x33_12 Q e h =
    bd (fieldAddrV Try.prog 60 (E.get e 1) 2) fun t1 =>
    bd (loadV Try.prog 9 t1 (H.read h)) fun t2 =>
    bd (lenV Try.prog [9] t2) fun t3 =>
    bdB (binV Try.prog .gtr 3 t3 (.int .i64 36)) fun b4 =>
    byT b4 (XW C lo x33_13 (kX (XW C lo x33_14 Q) Q) ((37, .bool b4) :: e) h) (XW C lo .skip (kX (XW C lo x33_14 Q) Q) ((37, .bool b4) :: e) h) := nrfl (by kernel_rfl)
theorem q33_23 {lo : Nat} {Q : XQ} {e : E} {h : H} : XW C lo x33_23 Q e h =
    Q .nx [(4, E.get e 4)] h := nrfl (by kernel_rfl)
theorem q33_11 {lo : Nat} {Q : XQ} {e : E} {h : H} : XW C lo x33_11 Q e h =
    byV (E.get e 31) (XW C lo x33_12 (kX (XW C lo x33_23 Q) Q) [(1, E.get e 1), (4, E.get e 4), (31, E.get e 31)] h) (XW C lo .skip (kX (XW C lo x33_23 Q) Q) [(1, E.get e 1), (4, E.get e 4), (31, E.get e 31)] h) False := nrfl (by kernel_rfl)
theorem q33_9 {lo : Nat} {Q : XQ} {e : E} {h : H} : XW C lo x33_9 Q e h =
    bdB (binV Try.prog .eql 58 (E.get e 13) (.int .u8 4)) fun b1 =>
    byT b1 (XW C lo .skip (kX (XW C lo x33_11 Q) Q) ((31, .bool b1) :: e) h) (XW C lo x33_10 (kX (XW C lo x33_11 Q) Q) ((31, .bool b1) :: e) h) := nrfl (by kernel_rfl)
theorem q33_24 {lo : Nat} {Q : XQ} {e : E} {h : H} : XW C lo x33_24 Q e h =
    Q .nx [(4, E.get e 4)] h := nrfl (by kernel_rfl)
theorem q33_7 {lo : Nat} {Q : XQ} {e : E} {h : H} : XW C lo x33_7 Q e h =
    byV (E.get e 22) (XW C lo x33_8 (kX (XW C lo x33_24 Q) Q) [(1, E.get e 1), (4, E.get e 4), (13, E.get e 13), (22, E.get e 22)] h) (XW C lo x33_9 (kX (XW C lo x33_24 Q) Q) [(1, E.get e 1), (4, E.get e 4), (13, E.get e 13), (22, E.get e 22)] h) False := nrfl (by kernel_rfl)
theorem q33_5 {lo : Nat} {Q : XQ} {e : E} {h : H} : XW C lo x33_5 Q e h =
    bdB (binV Try.prog .eql 58 (E.get e 13) (.int .u8 2)) fun b1 =>
    byT b1 (XW C lo .skip (kX (XW C lo x33_7 Q) Q) ((22, .bool b1) :: e) h) (XW C lo x33_6 (kX (XW C lo x33_7 Q) Q) ((22, .bool b1) :: e) h) := nrfl (by kernel_rfl)
theorem q33_25 {lo : Nat} {Q : XQ} {e : E} {h : H} : XW C lo x33_25 Q e h =
    Q .nx [(4, E.get e 4)] h := nrfl (by kernel_rfl)
theorem q33_3 {lo : Nat} {Q : XQ} {e : E} {h : H} : XW C lo x33_3 Q e h =
    bdB (binV Try.prog .eql 58 (E.get e 13) (.int .u8 1)) fun b1 =>
    byT b1 (XW C lo x33_4 (kX (XW C lo x33_25 Q) Q) ((14, .bool b1) :: e) h) (XW C lo x33_5 (kX (XW C lo x33_25 Q) Q) ((14, .bool b1) :: e) h) := nrfl (by kernel_rfl)
theorem q33_26 {lo : Nat} {Q : XQ} {e : E} {h : H} : XW C lo x33_26 Q e h =
    Q .rt [(2, E.get e 4), (3, .int .i64 0), (4, E.get e 4)] h := nrfl (by kernel_rfl)
theorem q33_2 {lo : Nat} {Q : XQ} {e : E} {h : H} : XW C lo x33_2 Q e h =
    bd (fieldAddrV Try.prog 60 (E.get e 1) 0) fun t1 =>
    bd (loadV Try.prog 58 t1 (H.read h)) fun t2 =>
    bd (buildSliceV Try.prog 22 1 [(0, t2)]) fun r3 => KX h (fun t4 h5 =>
    bd (fieldAddrV Try.prog 60 (E.get e 1) 0) fun t6 =>
    bd (loadV Try.prog 58 t6 (H.read h5)) fun t7 =>
    XW C lo x33_3 (kXB 0 (XW C lo x33_26 Q) Q) ((13, t7) :: (4, t4) :: e) h5) r3 := nrfl (by kernel_rfl)
theorem q33_0 {lo : Nat} {Q : XQ} {e : E} {h : H} : XW C lo x33_0 Q e h =
    bd (loadV Try.prog 60 (.ptr (H.next h) 0) (H.read (H.alloc h (V.cells (E.get e 0))))) fun t1 =>
    CW C 51 [t1] lo (H.alloc h (V.cells (E.get e 0))) fun t2 h3 =>
    bd (unV .not t2) fun t4 =>
    byV t4 (XW C lo x33_1 (kX (XW C lo x33_2 Q) Q) ((8, t4) :: (1, .ptr (H.next h) 0) :: e) h3) (XW C lo .skip (kX (XW C lo x33_2 Q) Q) ((8, t4) :: (1, .ptr (H.next h) 0) :: e) h3) False := nrfl (by kernel_rfl)

/-! ### chancery/value.Order -/
def r34_0 : List SI := [⟨some 2, (.box 60 (.tmp 0)), none⟩,
  ⟨some 3, (.box 60 (.tmp 1)), none⟩,
  ⟨some 4, (.assign (.const (.int .i64 0))), none⟩]
def r34_1 : List SI := [⟨some 7, (.fieldAddr 60 (.tmp 2) 0), none⟩,
  ⟨some 8, (.load 58 (.tmp 7)), none⟩,
  ⟨some 9, (.fieldAddr 60 (.tmp 3) 0), none⟩,
  ⟨some 10, (.load 58 (.tmp 9)), none⟩,
  ⟨some 11, (.call { callee := (.value (.func 60)), args := #[(.tmp 8), (.tmp 10)], argTypes := #[58, 58] }), none⟩,
  ⟨some 5, (.assign (.tmp 11)), none⟩]
def r34_2 : List SI := [⟨some 12, (.move (.tmp 5)), none⟩,
  ⟨some 13, (.binOp .neq 3 (.tmp 12) (.const (.int .i64 0)) 3), none⟩]
def r34_3 : List SI := [⟨some 14, (.move (.tmp 5)), none⟩,
  ⟨some 4, (.assign (.tmp 14)), none⟩]
def x34_1 : X := .ops r34_3 [4] .ret
def r34_4 : List SI := [⟨some 15, (.fieldAddr 60 (.tmp 2) 1), none⟩,
  ⟨some 16, (.load 2 (.tmp 15)), none⟩,
  ⟨some 17, (.fieldAddr 60 (.tmp 3) 1), none⟩,
  ⟨some 18, (.load 2 (.tmp 17)), none⟩,
  ⟨some 19, (.call { callee := (.value (.func 61)), args := #[(.tmp 16), (.tmp 18)], argTypes := #[2, 2] }), none⟩,
  ⟨some 6, (.assign (.tmp 19)), none⟩]
def r34_5 : List SI := [⟨some 20, (.move (.tmp 6)), none⟩,
  ⟨some 21, (.binOp .neq 3 (.tmp 20) (.const (.int .i64 0)) 3), none⟩]
def r34_6 : List SI := [⟨some 22, (.move (.tmp 6)), none⟩,
  ⟨some 4, (.assign (.tmp 22)), none⟩]
def x34_3 : X := .ops r34_6 [4] .ret
def r34_7 : List SI := [⟨some 23, (.fieldAddr 60 (.tmp 2) 2), none⟩,
  ⟨some 24, (.load 9 (.tmp 23)), none⟩,
  ⟨some 25, (.fieldAddr 60 (.tmp 3) 2), none⟩,
  ⟨some 26, (.load 9 (.tmp 25)), none⟩,
  ⟨some 27, (.call { callee := (.value (.func 62)), args := #[(.tmp 24), (.tmp 26)], argTypes := #[9, 9] }), none⟩,
  ⟨some 4, (.assign (.tmp 27)), none⟩]
def x34_4 : X := .ops r34_7 [4] .ret
def x34_2 : X := .ops r34_4 [6] (.ops r34_5 [21] (.cond (.tmp 21) x34_3 .skip x34_4))
def x34_0 : X := .ops r34_0 [2, 3] (.ops r34_1 [5] (.ops r34_2 [13] (.cond (.tmp 13) x34_1 .skip x34_2)))
def n34 : Ann := .ops [2, 3] (.ops [5] (.ops [13] (.cond (.ops [4] .stop) .stop (.ops [6] (.ops [21] (.cond (.ops [4] .stop) .stop (.ops [4] .stop)))))))
theorem ok34 : annFn Try.f34 2 n34 = some x34_0 := by kernel_rfl
noncomputable def kF34 (K : V → H → Prop) : XQ := kFnX C.P Try.f34.results.toList K
theorem e34_nx {K : V → H → Prop} {e : E} {h : H} : kF34 K .nx e h = K (E.get e 4) h := nrfl (by kernel_rfl)
theorem e34_rt {K : V → H → Prop} {e : E} {h : H} : kF34 K .rt e h = K (E.get e 4) h := nrfl (by kernel_rfl)
theorem enter34 {lo : Nat} {h : H} {vs : List V} {K : V → H → Prop} (hl : vs.length = 2) (hw : XW C lo x34_0 (kF34 K) (args 0 vs) h) : CW C 34 vs lo h K := by
  refine CW_X hS rfl Try.func34 ok34 hl ?_ hw
  rw [Try.ntmps34]
  decide
theorem q34_1 {lo : Nat} {Q : XQ} {e : E} {h : H} : XW C lo x34_1 Q e h =
    Q .rt ((4, E.get e 5) :: e) h := nrfl (by kernel_rfl)
theorem q34_3 {lo : Nat} {Q : XQ} {e : E} {h : H} : XW C lo x34_3 Q e h =
    Q .rt ((4, E.get e 6) :: e) h := nrfl (by kernel_rfl)
theorem q34_4 {lo : Nat} {Q : XQ} {e : E} {h : H} : XW C lo x34_4 Q e h =
    bd (fieldAddrV Try.prog 60 (E.get e 2) 2) fun t1 =>
    bd (loadV Try.prog 9 t1 (H.read h)) fun t2 =>
    bd (fieldAddrV Try.prog 60 (E.get e 3) 2) fun t3 =>
    bd (loadV Try.prog 9 t3 (H.read h)) fun t4 =>
    CW C 62 [t2, t4] lo h fun t5 h6 =>
    Q .rt ((4, t5) :: e) h6 := nrfl (by kernel_rfl)
theorem q34_2 {lo : Nat} {Q : XQ} {e : E} {h : H} : XW C lo x34_2 Q e h =
    bd (fieldAddrV Try.prog 60 (E.get e 2) 1) fun t1 =>
    bd (loadV Try.prog 2 t1 (H.read h)) fun t2 =>
    bd (fieldAddrV Try.prog 60 (E.get e 3) 1) fun t3 =>
    bd (loadV Try.prog 2 t3 (H.read h)) fun t4 =>
    CW C 61 [t2, t4] lo h fun t5 h6 =>
    bdB (binV Try.prog .neq 3 t5 (.int .i64 0)) fun b7 =>
    byT b7 (XW C lo x34_3 (kX (XW C lo x34_4 Q) Q) ((21, .bool b7) :: (6, t5) :: e) h6) (XW C lo .skip (kX (XW C lo x34_4 Q) Q) ((21, .bool b7) :: (6, t5) :: e) h6) := nrfl (by kernel_rfl)
theorem q34_0 {lo : Nat} {Q : XQ} {e : E} {h : H} : XW C lo x34_0 Q e h =
    bd (fieldAddrV Try.prog 60 (.ptr (H.next h) 0) 0) fun t1 =>
    bd (loadV Try.prog 58 t1 (H.read (H.alloc (H.alloc h (V.cells (E.get e 0))) (V.cells (E.get e 1))))) fun t2 =>
    bd (fieldAddrV Try.prog 60 (.ptr (H.next (H.alloc h (V.cells (E.get e 0)))) 0) 0) fun t3 =>
    bd (loadV Try.prog 58 t3 (H.read (H.alloc (H.alloc h (V.cells (E.get e 0))) (V.cells (E.get e 1))))) fun t4 =>
    CW C 60 [t2, t4] lo (H.alloc (H.alloc h (V.cells (E.get e 0))) (V.cells (E.get e 1))) fun t5 h6 =>
    bdB (binV Try.prog .neq 3 t5 (.int .i64 0)) fun b7 =>
    byT b7 (XW C lo x34_1 (kX (XW C lo x34_2 Q) Q) ((13, .bool b7) :: (5, t5) :: (2, .ptr (H.next h) 0) :: (3, .ptr (H.next (H.alloc h (V.cells (E.get e 0)))) 0) :: e) h6) (XW C lo .skip (kX (XW C lo x34_2 Q) Q) ((13, .bool b7) :: (5, t5) :: (2, .ptr (H.next h) 0) :: (3, .ptr (H.next (H.alloc h (V.cells (E.get e 0)))) 0) :: e) h6) := nrfl (by kernel_rfl)

/-! ### cmp.Compare[chancery/api.Kind] -/
def r60_0 : List SI := [⟨some 4, (.assign (.const (.int .i64 0))), none⟩]
def r60_1 : List SI := [⟨some 7, (.move (.tmp 0)), none⟩,
  ⟨some 8, (.call { callee := (.value (.func 75)), args := #[(.tmp 7)], argTypes := #[58] }), none⟩,
  ⟨some 5, (.assign (.tmp 8)), none⟩]
def r60_2 : List SI := [⟨some 9, (.move (.tmp 1)), none⟩,
  ⟨some 10, (.call { callee := (.value (.func 75)), args := #[(.tmp 9)], argTypes := #[58] }), none⟩,
  ⟨some 6, (.assign (.tmp 10)), none⟩]
def r60_3 : List SI := [⟨some 11, (.move (.tmp 5)), none⟩]
def r60_4 : List SI := [⟨some 12, (.move (.tmp 6)), none⟩]
def r60_5 : List SI := [⟨some 4, (.assign (.const (.int .i64 0))), none⟩]
def x60_2 : X := .ops r60_5 [4] .ret
def r60_6 : List SI := [⟨some 4, (.assign (.const (.int .i64 (-1)))), none⟩]
def x60_3 : X := .ops r60_6 [4] .ret
def x60_1 : X := .ops r60_4 [12] (.cond (.tmp 12) x60_2 .skip x60_3)
def r60_7 : List SI := [⟨some 13, (.move (.tmp 6)), none⟩]
def r60_8 : List SI := [⟨some 4, (.assign (.const (.int .i64 1))), none⟩]
def x60_5 : X := .ops r60_8 [4] .ret
def r60_9 : List SI := [⟨some 14, (.move (.tmp 0)), none⟩,
  ⟨some 15, (.move (.tmp 1)), none⟩,
  ⟨some 16, (.binOp .lss 58 (.tmp 14) (.tmp 15) 58), none⟩]
def r60_10 : List SI := [⟨some 4, (.assign (.const (.int .i64 (-1)))), none⟩]
def x60_7 : X := .ops r60_10 [4] .ret
def r60_11 : List SI := [⟨some 17, (.move (.tmp 0)), none⟩,
  ⟨some 18, (.move (.tmp 1)), none⟩,
  ⟨some 19, (.binOp .gtr 58 (.tmp 17) (.tmp 18) 58), none⟩]
def r60_12 : List SI := [⟨some 4, (.assign (.const (.int .i64 1))), none⟩]
def x60_9 : X := .ops r60_12 [4] .ret
def r60_13 : List SI := [⟨some 4, (.assign (.const (.int .i64 0))), none⟩]
def x60_10 : X := .ops r60_13 [4] .ret
def x60_8 : X := .ops r60_11 [19] (.cond (.tmp 19) x60_9 .skip x60_10)
def x60_6 : X := .ops r60_9 [16] (.cond (.tmp 16) x60_7 .skip x60_8)
def x60_4 : X := .ops r60_7 [13] (.cond (.tmp 13) x60_5 .skip x60_6)
def x60_0 : X := .ops r60_0 [] (.ops r60_1 [5] (.ops r60_2 [6] (.ops r60_3 [11] (.cond (.tmp 11) x60_1 .skip x60_4))))
def n60 : Ann := .ops [] (.ops [5] (.ops [6] (.ops [11] (.cond (.ops [12] (.cond (.ops [4] .stop) .stop (.ops [4] .stop))) .stop (.ops [13] (.cond (.ops [4] .stop) .stop (.ops [16] (.cond (.ops [4] .stop) .stop (.ops [19] (.cond (.ops [4] .stop) .stop (.ops [4] .stop)))))))))))
theorem ok60 : annFn Try.f60 2 n60 = some x60_0 := by kernel_rfl
noncomputable def kF60 (K : V → H → Prop) : XQ := kFnX C.P Try.f60.results.toList K
theorem e60_nx {K : V → H → Prop} {e : E} {h : H} : kF60 K .nx e h = K (E.get e 4) h := nrfl (by kernel_rfl)
theorem e60_rt {K : V → H → Prop} {e : E} {h : H} : kF60 K .rt e h = K (E.get e 4) h := nrfl (by kernel_rfl)
theorem enter60 {lo : Nat} {h : H} {vs : List V} {K : V → H → Prop} (hl : vs.length = 2) (hw : XW C lo x60_0 (kF60 K) (args 0 vs) h) : CW C 60 vs lo h K := by
  refine CW_X hS rfl Try.func60 ok60 hl ?_ hw
  rw [Try.ntmps60]
  decide
theorem q60_2 {lo : Nat} {Q : XQ} {e : E} {h : H} : XW C lo x60_2 Q e h =
    Q .rt ((4, .int .i64 0) :: e) h := nrfl (by kernel_rfl)
theorem q60_3 {lo : Nat} {Q : XQ} {e : E} {h : H} : XW C lo x60_3 Q e h =
    Q .rt ((4, .int .i64 (-1)) :: e) h := nrfl (by kernel_rfl)
theorem q60_1 {lo : Nat} {Q : XQ} {e : E} {h : H} : XW C lo x60_1 Q e h =
    byV (E.get e 6) (XW C lo x60_2 (kX (XW C lo x60_3 Q) Q) ((12, E.get e 6) :: e) h) (XW C lo .skip (kX (XW C lo x60_3 Q) Q) ((12, E.get e 6) :: e) h) False := nrfl (by kernel_rfl)
theorem q60_5 {lo : Nat} {Q : XQ} {e : E} {h : H} : XW C lo x60_5 Q e h =
    Q .rt ((4, .int .i64 1) :: e) h := nrfl (by kernel_rfl)
theorem q60_7 {lo : Nat} {Q : XQ} {e : E} {h : H} : XW C lo x60_7 Q e h =
    Q .rt ((4, .int .i64 (-1)) :: e) h := nrfl (by kernel_rfl)
theorem q60_9 {lo : Nat} {Q : XQ} {e : E} {h : H} : XW C lo x60_9 Q e h =
    Q .rt ((4, .int .i64 1) :: e) h := nrfl (by kernel_rfl)
theorem q60_10 {lo : Nat} {Q : XQ} {e : E} {h : H} : XW C lo x60_10 Q e h =
    Q .rt ((4, .int .i64 0) :: e) h := nrfl (by kernel_rfl)
theorem q60_8 {lo : Nat} {Q : XQ} {e : E} {h : H} : XW C lo x60_8 Q e h =
    bdB (binV Try.prog .gtr 58 (E.get e 0) (E.get e 1)) fun b1 =>
    byT b1 (XW C lo x60_9 (kX (XW C lo x60_10 Q) Q) ((19, .bool b1) :: e) h) (XW C lo .skip (kX (XW C lo x60_10 Q) Q) ((19, .bool b1) :: e) h) := nrfl (by kernel_rfl)
theorem q60_6 {lo : Nat} {Q : XQ} {e : E} {h : H} : XW C lo x60_6 Q e h =
    bdB (binV Try.prog .lss 58 (E.get e 0) (E.get e 1)) fun b1 =>
    byT b1 (XW C lo x60_7 (kX (XW C lo x60_8 Q) Q) ((16, .bool b1) :: e) h) (XW C lo .skip (kX (XW C lo x60_8 Q) Q) ((16, .bool b1) :: e) h) := nrfl (by kernel_rfl)
theorem q60_4 {lo : Nat} {Q : XQ} {e : E} {h : H} : XW C lo x60_4 Q e h =
    byV (E.get e 6) (XW C lo x60_5 (kX (XW C lo x60_6 Q) Q) ((13, E.get e 6) :: e) h) (XW C lo .skip (kX (XW C lo x60_6 Q) Q) ((13, E.get e 6) :: e) h) False := nrfl (by kernel_rfl)
theorem q60_0 {lo : Nat} {Q : XQ} {e : E} {h : H} : XW C lo x60_0 Q e h =
    CW C 75 [E.get e 0] lo h fun t1 h2 =>
    CW C 75 [E.get e 1] lo h2 fun t3 h4 =>
    byV t1 (XW C lo x60_1 (kX (XW C lo x60_4 Q) Q) ((11, t1) :: (6, t3) :: (5, t1) :: e) h4) (XW C lo .skip (kX (XW C lo x60_4 Q) Q) ((11, t1) :: (6, t3) :: (5, t1) :: e) h4) False := nrfl (by kernel_rfl)

/-! ### cmp.Compare[int64] -/
def r61_0 : List SI := [⟨some 4, (.assign (.const (.int .i64 0))), none⟩]
def r61_1 : List SI := [⟨some 7, (.move (.tmp 0)), none⟩,
  ⟨some 8, (.call { callee := (.value (.func 76)), args := #[(.tmp 7)], argTypes := #[2] }), none⟩,
  ⟨some 5, (.assign (.tmp 8)), none⟩]
def r61_2 : List SI := [⟨some 9, (.move (.tmp 1)), none⟩,
  ⟨some 10, (.call { callee := (.value (.func 76)), args := #[(.tmp 9)], argTypes := #[2] }), none⟩,
  ⟨some 6, (.assign (.tmp 10)), none⟩]
def r61_3 : List SI := [⟨some 11, (.move (.tmp 5)), none⟩]
def r61_4 : List SI := [⟨some 12, (.move (.tmp 6)), none⟩]
def r61_5 : List SI := [⟨some 4, (.assign (.const (.int .i64 0))), none⟩]
def x61_2 : X := .ops r61_5 [4] .ret
def r61_6 : List SI := [⟨some 4, (.assign (.const (.int .i64 (-1)))), none⟩]
def x61_3 : X := .ops r61_6 [4] .ret
def x61_1 : X := .ops r61_4 [12] (.cond (.tmp 12) x61_2 .skip x61_3)
def r61_7 : List SI := [⟨some 13, (.move (.tmp 6)), none⟩]
def r61_8 : List SI := [⟨some 4, (.assign (.const (.int .i64 1))), none⟩]
def x61_5 : X := .ops r61_8 [4] .ret
def r61_9 : List SI := [⟨some 14, (.move (.tmp 0)), none⟩,
  ⟨some 15, (.move (.tmp 1)), none⟩,
  ⟨some 16, (.binOp .lss 2 (.tmp 14) (.tmp 15) 2), none⟩]
def r61_10 : List SI := [⟨some 4, (.assign (.const (.int .i64 (-1)))), none⟩]
def x61_7 : X := .ops r61_10 [4] .ret
def r61_11 : List SI := [⟨some 17, (.move (.tmp 0)), none⟩,
  ⟨some 18, (.move (.tmp 1)), none⟩,
  ⟨some 19, (.binOp .gtr 2 (.tmp 17) (.tmp 18) 2), none⟩]
def r61_12 : List SI := [⟨some 4, (.assign (.const (.int .i64 1))), none⟩]
def x61_9 : X := .ops r61_12 [4] .ret
def r61_13 : List SI := [⟨some 4, (.assign (.const (.int .i64 0))), none⟩]
def x61_10 : X := .ops r61_13 [4] .ret
def x61_8 : X := .ops r61_11 [19] (.cond (.tmp 19) x61_9 .skip x61_10)
def x61_6 : X := .ops r61_9 [16] (.cond (.tmp 16) x61_7 .skip x61_8)
def x61_4 : X := .ops r61_7 [13] (.cond (.tmp 13) x61_5 .skip x61_6)
def x61_0 : X := .ops r61_0 [] (.ops r61_1 [5] (.ops r61_2 [6] (.ops r61_3 [11] (.cond (.tmp 11) x61_1 .skip x61_4))))
def n61 : Ann := .ops [] (.ops [5] (.ops [6] (.ops [11] (.cond (.ops [12] (.cond (.ops [4] .stop) .stop (.ops [4] .stop))) .stop (.ops [13] (.cond (.ops [4] .stop) .stop (.ops [16] (.cond (.ops [4] .stop) .stop (.ops [19] (.cond (.ops [4] .stop) .stop (.ops [4] .stop)))))))))))
theorem ok61 : annFn Try.f61 2 n61 = some x61_0 := by kernel_rfl
noncomputable def kF61 (K : V → H → Prop) : XQ := kFnX C.P Try.f61.results.toList K
theorem e61_nx {K : V → H → Prop} {e : E} {h : H} : kF61 K .nx e h = K (E.get e 4) h := nrfl (by kernel_rfl)
theorem e61_rt {K : V → H → Prop} {e : E} {h : H} : kF61 K .rt e h = K (E.get e 4) h := nrfl (by kernel_rfl)
theorem enter61 {lo : Nat} {h : H} {vs : List V} {K : V → H → Prop} (hl : vs.length = 2) (hw : XW C lo x61_0 (kF61 K) (args 0 vs) h) : CW C 61 vs lo h K := by
  refine CW_X hS rfl Try.func61 ok61 hl ?_ hw
  rw [Try.ntmps61]
  decide
theorem q61_2 {lo : Nat} {Q : XQ} {e : E} {h : H} : XW C lo x61_2 Q e h =
    Q .rt ((4, .int .i64 0) :: e) h := nrfl (by kernel_rfl)
theorem q61_3 {lo : Nat} {Q : XQ} {e : E} {h : H} : XW C lo x61_3 Q e h =
    Q .rt ((4, .int .i64 (-1)) :: e) h := nrfl (by kernel_rfl)
theorem q61_1 {lo : Nat} {Q : XQ} {e : E} {h : H} : XW C lo x61_1 Q e h =
    byV (E.get e 6) (XW C lo x61_2 (kX (XW C lo x61_3 Q) Q) ((12, E.get e 6) :: e) h) (XW C lo .skip (kX (XW C lo x61_3 Q) Q) ((12, E.get e 6) :: e) h) False := nrfl (by kernel_rfl)
theorem q61_5 {lo : Nat} {Q : XQ} {e : E} {h : H} : XW C lo x61_5 Q e h =
    Q .rt ((4, .int .i64 1) :: e) h := nrfl (by kernel_rfl)
theorem q61_7 {lo : Nat} {Q : XQ} {e : E} {h : H} : XW C lo x61_7 Q e h =
    Q .rt ((4, .int .i64 (-1)) :: e) h := nrfl (by kernel_rfl)
theorem q61_9 {lo : Nat} {Q : XQ} {e : E} {h : H} : XW C lo x61_9 Q e h =
    Q .rt ((4, .int .i64 1) :: e) h := nrfl (by kernel_rfl)
theorem q61_10 {lo : Nat} {Q : XQ} {e : E} {h : H} : XW C lo x61_10 Q e h =
    Q .rt ((4, .int .i64 0) :: e) h := nrfl (by kernel_rfl)
theorem q61_8 {lo : Nat} {Q : XQ} {e : E} {h : H} : XW C lo x61_8 Q e h =
    bdB (binV Try.prog .gtr 2 (E.get e 0) (E.get e 1)) fun b1 =>
    byT b1 (XW C lo x61_9 (kX (XW C lo x61_10 Q) Q) ((19, .bool b1) :: e) h) (XW C lo .skip (kX (XW C lo x61_10 Q) Q) ((19, .bool b1) :: e) h) := nrfl (by kernel_rfl)
theorem q61_6 {lo : Nat} {Q : XQ} {e : E} {h : H} : XW C lo x61_6 Q e h =
    bdB (binV Try.prog .lss 2 (E.get e 0) (E.get e 1)) fun b1 =>
    byT b1 (XW C lo x61_7 (kX (XW C lo x61_8 Q) Q) ((16, .bool b1) :: e) h) (XW C lo .skip (kX (XW C lo x61_8 Q) Q) ((16, .bool b1) :: e) h) := nrfl (by kernel_rfl)
theorem q61_4 {lo : Nat} {Q : XQ} {e : E} {h : H} : XW C lo x61_4 Q e h =
    byV (E.get e 6) (XW C lo x61_5 (kX (XW C lo x61_6 Q) Q) ((13, E.get e 6) :: e) h) (XW C lo .skip (kX (XW C lo x61_6 Q) Q) ((13, E.get e 6) :: e) h) False := nrfl (by kernel_rfl)
theorem q61_0 {lo : Nat} {Q : XQ} {e : E} {h : H} : XW C lo x61_0 Q e h =
    CW C 76 [E.get e 0] lo h fun t1 h2 =>
    CW C 76 [E.get e 1] lo h2 fun t3 h4 =>
    byV t1 (XW C lo x61_1 (kX (XW C lo x61_4 Q) Q) ((11, t1) :: (6, t3) :: (5, t1) :: e) h4) (XW C lo .skip (kX (XW C lo x61_4 Q) Q) ((11, t1) :: (6, t3) :: (5, t1) :: e) h4) False := nrfl (by kernel_rfl)

/-! ### cmp.isNaN[chancery/api.Kind] -/
def r75_0 : List SI := [⟨some 2, (.assign (.const (.bool false))), none⟩]
def r75_1 : List SI := [⟨some 3, (.move (.tmp 0)), none⟩,
  ⟨some 4, (.move (.tmp 0)), none⟩,
  ⟨some 5, (.binOp .neq 58 (.tmp 3) (.tmp 4) 58), none⟩,
  ⟨some 2, (.assign (.tmp 5)), none⟩]
def x75_0 : X := .ops r75_0 [] (.ops r75_1 [2] .ret)
def n75 : Ann := .ops [] (.ops [2] .stop)
theorem ok75 : annFn Try.f75 1 n75 = some x75_0 := by kernel_rfl
noncomputable def kF75 (K : V → H → Prop) : XQ := kFnX C.P Try.f75.results.toList K
theorem e75_nx {K : V → H → Prop} {e : E} {h : H} : kF75 K .nx e h = K (E.get e 2) h := nrfl (by kernel_rfl)
theorem e75_rt {K : V → H → Prop} {e : E} {h : H} : kF75 K .rt e h = K (E.get e 2) h := nrfl (by kernel_rfl)
theorem enter75 {lo : Nat} {h : H} {vs : List V} {K : V → H → Prop} (hl : vs.length = 1) (hw : XW C lo x75_0 (kF75 K) (args 0 vs) h) : CW C 75 vs lo h K := by
  refine CW_X hS rfl Try.func75 ok75 hl ?_ hw
  rw [Try.ntmps75]
  decide
theorem q75_0 {lo : Nat} {Q : XQ} {e : E} {h : H} : XW C lo x75_0 Q e h =
    bdB (binV Try.prog .neq 58 (E.get e 0) (E.get e 0)) fun b1 =>
    Q .rt ((2, .bool b1) :: e) h := nrfl (by kernel_rfl)

/-! ### cmp.isNaN[int64] -/
def r76_0 : List SI := [⟨some 2, (.assign (.const (.bool false))), none⟩]
def r76_1 : List SI := [⟨some 3, (.move (.tmp 0)), none⟩,
  ⟨some 4, (.move (.tmp 0)), none⟩,
  ⟨some 5, (.binOp .neq 2 (.tmp 3) (.tmp 4) 2), none⟩,
  ⟨some 2, (.assign (.tmp 5)), none⟩]
def x76_0 : X := .ops r76_0 [] (.ops r76_1 [2] .ret)
def n76 : Ann := .ops [] (.ops [2] .stop)
theorem ok76 : annFn Try.f76 1 n76 = some x76_0 := by kernel_rfl
noncomputable def kF76 (K : V → H → Prop) : XQ := kFnX C.P Try.f76.results.toList K
theorem e76_nx {K : V → H → Prop} {e : E} {h : H} : kF76 K .nx e h = K (E.get e 2) h := nrfl (by kernel_rfl)
theorem e76_rt {K : V → H → Prop} {e : E} {h : H} : kF76 K .rt e h = K (E.get e 2) h := nrfl (by kernel_rfl)
theorem enter76 {lo : Nat} {h : H} {vs : List V} {K : V → H → Prop} (hl : vs.length = 1) (hw : XW C lo x76_0 (kF76 K) (args 0 vs) h) : CW C 76 vs lo h K := by
  refine CW_X hS rfl Try.func76 ok76 hl ?_ hw
  rw [Try.ntmps76]
  decide
theorem q76_0 {lo : Nat} {Q : XQ} {e : E} {h : H} : XW C lo x76_0 Q e h =
    bdB (binV Try.prog .neq 2 (E.get e 0) (E.get e 0)) fun b1 =>
    Q .rt ((2, .bool b1) :: e) h := nrfl (by kernel_rfl)

/-! ### strings.Compare -/
def r62_0 : List SI := [⟨some 4, (.assign (.const (.int .i64 0))), none⟩]
def r62_1 : List SI := [⟨some 5, (.move (.tmp 0)), none⟩,
  ⟨some 6, (.move (.tmp 1)), none⟩,
  ⟨some 7, (.call { callee := (.value (.func 77)), args := #[(.tmp 5), (.tmp 6)], argTypes := #[9, 9] }), none⟩,
  ⟨some 4, (.assign (.tmp 7)), none⟩]
def x62_0 : X := .ops r62_0 [] (.ops r62_1 [4] .ret)
def n62 : Ann := .ops [] (.ops [4] .stop)
theorem ok62 : annFn Try.f62 2 n62 = some x62_0 := by kernel_rfl
noncomputable def kF62 (K : V → H → Prop) : XQ := kFnX C.P Try.f62.results.toList K
theorem e62_nx {K : V → H → Prop} {e : E} {h : H} : kF62 K .nx e h = K (E.get e 4) h := nrfl (by kernel_rfl)
theorem e62_rt {K : V → H → Prop} {e : E} {h : H} : kF62 K .rt e h = K (E.get e 4) h := nrfl (by kernel_rfl)
theorem enter62 {lo : Nat} {h : H} {vs : List V} {K : V → H → Prop} (hl : vs.length = 2) (hw : XW C lo x62_0 (kF62 K) (args 0 vs) h) : CW C 62 vs lo h K := by
  refine CW_X hS rfl Try.func62 ok62 hl ?_ hw
  rw [Try.ntmps62]
  decide
theorem q62_0 {lo : Nat} {Q : XQ} {e : E} {h : H} : XW C lo x62_0 Q e h =
    CW C 77 [E.get e 0, E.get e 1] lo h fun t1 h2 =>
    Q .rt ((4, t1) :: e) h2 := nrfl (by kernel_rfl)

/-! ### bytes.HasPrefix -/
def r30_0 : List SI := [⟨some 4, (.assign (.const (.bool false))), none⟩]
def r30_1 : List SI := [⟨some 5, (.move (.tmp 0)), none⟩,
  ⟨some 6, (.call { callee := (.builtin .len), args := #[(.tmp 5)], argTypes := #[22] }), none⟩,
  ⟨some 7, (.move (.tmp 1)), none⟩,
  ⟨some 8, (.call { callee := (.builtin .len), args := #[(.tmp 7)], argTypes := #[22] }), none⟩,
  ⟨some 9, (.binOp .geq 3 (.tmp 6) (.tmp 8) 3), none⟩,
  ⟨some 10, (.move (.tmp 9)), none⟩,
  ⟨some 11, (.move (.tmp 0)), some (some 10, true)⟩,
  ⟨some 12, (.move (.tmp 1)), some (some 10, true)⟩,
  ⟨some 13, (.call { callee := (.builtin .len), args := #[(.tmp 12)], argTypes := #[22] }), some (some 10, true)⟩,
  ⟨some 14, (.slice 22 (.tmp 11) none (some (.tmp 13)) none), some (some 10, true)⟩,
  ⟨some 15, (.move (.tmp 1)), some (some 10, true)⟩,
  ⟨some 16, (.call { callee := (.value (.func 58)), args := #[(.tmp 14), (.tmp 15)], argTypes := #[22, 22] }), some (some 10, true)⟩,
  ⟨some 17, (.pick (.tmp 10) (.tmp 16) (.const (.bool false))), none⟩,
  ⟨some 4, (.assign (.tmp 17)), none⟩]
def x30_0 : X := .ops r30_0 [] (.ops r30_1 [4] .ret)
def n30 : Ann := .ops [] (.ops [4] .stop)
theorem ok30 : annFn Try.f30 2 n30 = some x30_0 := by kernel_rfl
noncomputable def kF30 (K : V → H → Prop) : XQ := kFnX C.P Try.f30.results.toList K
theorem e30_nx {K : V → H → Prop} {e : E} {h : H} : kF30 K .nx e h = K (E.get e 4) h := nrfl (by kernel_rfl)
theorem e30_rt {K : V → H → Prop} {e : E} {h : H} : kF30 K .rt e h = K (E.get e 4) h := nrfl (by kernel_rfl)
theorem enter30 {lo : Nat} {h : H} {vs : List V} {K : V → H → Prop} (hl : vs.length = 2) (hw : XW C lo x30_0 (kF30 K) (args 0 vs) h) : CW C 30 vs lo h K := by
  refine CW_X hS rfl Try.func30 ok30 hl ?_ hw
  rw [Try.ntmps30]
  decide
theorem q30_0 {lo : Nat} {Q : XQ} {e : E} {h : H} : XW C lo x30_0 Q e h =
    bd (lenV Try.prog [22] (E.get e 0)) fun t1 =>
    bd (lenV Try.prog [22] (E.get e 1)) fun t2 =>
    bdB (binV Try.prog .geq 3 t1 t2) fun b3 =>
    byT b3 (bd (lenV Try.prog [22] (E.get e 1)) fun t4 =>
    bd (sliceV Try.prog (H.read h) 22 (E.get e 0) none (some t4) none) fun t5 =>
    CW C 58 [t5, E.get e 1] lo h fun t6 h7 =>
    Q .rt ((4, t6) :: e) h7) (Q .rt ((4, .bool false) :: e) h) := nrfl (by kernel_rfl)

/-! ### bytes.Equal -/
def r58_0 : List SI := [⟨some 4, (.assign (.const (.bool false))), none⟩]
def r58_1 : List SI := [⟨some 5, (.move (.tmp 0)), none⟩,
  ⟨some 6, (.convert 22 9 (.tmp 5)), none⟩,
  ⟨some 7, (.move (.tmp 1)), none⟩,
  ⟨some 8, (.convert 22 9 (.tmp 7)), none⟩,
  ⟨some 9, (.binOp .eql 9 (.tmp 6) (.tmp 8) 9), none⟩,
  ⟨some 4, (.assign (.tmp 9)), none⟩]
def x58_0 : X := .ops r58_0 [] (.ops r58_1 [4] .ret)
def n58 : Ann := .ops [] (.ops [4] .stop)
theorem ok58 : annFn Try.f58 2 n58 = some x58_0 := by kernel_rfl
noncomputable def kF58 (K : V → H → Prop) : XQ := kFnX C.P Try.f58.results.toList K
theorem e58_nx {K : V → H → Prop} {e : E} {h : H} : kF58 K .nx e h = K (E.get e 4) h := nrfl (by kernel_rfl)
theorem e58_rt {K : V → H → Prop} {e : E} {h : H} : kF58 K .rt e h = K (E.get e 4) h := nrfl (by kernel_rfl)
theorem enter58 {lo : Nat} {h : H} {vs : List V} {K : V → H → Prop} (hl : vs.length = 2) (hw : XW C lo x58_0 (kF58 K) (args 0 vs) h) : CW C 58 vs lo h K := by
  refine CW_X hS rfl Try.func58 ok58 hl ?_ hw
  rw [Try.ntmps58]
  decide
theorem q58_0 {lo : Nat} {Q : XQ} {e : E} {h : H} : XW C lo x58_0 Q e h =
    bd (convV Try.prog (H.read h) 22 9 (E.get e 0)) fun r1 => KX h (fun t2 h3 =>
    bd (convV Try.prog (H.read h3) 22 9 (E.get e 1)) fun r4 => KX h3 (fun t5 h6 =>
    bdB (binV Try.prog .eql 9 t2 t5) fun b7 =>
    Q .rt ((4, .bool b7) :: e) h6) r4) r1 := nrfl (by kernel_rfl)

/-! ### chancery/chancerylaw18.CellApart -/
def r7_0 : List SI := [⟨some 3, (.box 57 (.tmp 0)), none⟩,
  ⟨some 4, (.box 57 (.tmp 1)), none⟩,
  ⟨some 5, (.box 62 (.tmp 2)), none⟩,
  ⟨some 6, (.assign (.const (.bool false))), none⟩]
def r7_1a : List SI := [⟨some 23, (.fieldAddr 62 (.tmp 5) 0), none⟩,
  ⟨some 24, (.load 60 (.tmp 23)), none⟩,
  ⟨some 25, (.fieldAddr 62 (.tmp 5) 1), none⟩,
  ⟨some 26, (.load 60 (.tmp 25)), none⟩,
  ⟨some 7, (.alloc 60), none⟩,
  ⟨some 8, (.alloc 60), none⟩,
  ⟨none, (.store 60 (.tmp 7) (.tmp 24)), none⟩]
def r7_1b : List SI := [⟨none, (.store 60 (.tmp 8) (.tmp 26)), none⟩]
def r7_2 : List SI := [⟨some 28, (.fieldAddr 57 (.tmp 3) 0), none⟩,
  ⟨some 29, (.load 3 (.tmp 28)), none⟩,
  ⟨some 30, (.fieldAddr 57 (.tmp 3) 2), none⟩,
  ⟨some 31, (.load 9 (.tmp 30)), none⟩,
  ⟨some 32, (.load 60 (.tmp 7)), none⟩,
  ⟨some 33, (.call { callee := (.value (.func 28)), args := #[(.tmp 29), (.tmp 31), (.tmp 32)], argTypes := #[3, 9, 60] }), none⟩,
  ⟨some 27, (.move (.tmp 33)), none⟩,
  ⟨some 34, (.extract (.tmp 27) 0), none⟩,
  ⟨some 35, (.extract (.tmp 27) 1), none⟩,
  ⟨some 9, (.assign (.tmp 34)), none⟩,
  ⟨some 10, (.assign (.tmp 35)), none⟩]
def r7_3 : List SI := [⟨some 37, (.fieldAddr 57 (.tmp 4) 0), none⟩,
  ⟨some 38, (.load 3 (.tmp 37)), none⟩,
  ⟨some 39, (.fieldAddr 57 (.tmp 4) 2), none⟩,
  ⟨some 40, (.load 9 (.tmp 39)), none⟩,
  ⟨some 41, (.load 60 (.tmp 8)), none⟩,
  ⟨some 42, (.call { callee := (.value (.func 28)), args := #[(.tmp 38), (.tmp 40), (.tmp 41)], argTypes := #[3, 9, 60] }), none⟩,
  ⟨some 36, (.move (.tmp 42)), none⟩,
  ⟨some 43, (.extract (.tmp 36) 0), none⟩,
  ⟨some 44, (.extract (.tmp 36) 1), none⟩,
  ⟨some 11, (.assign (.tmp 43)), none⟩,
  ⟨some 12, (.assign (.tmp 44)), none⟩]
def r7_4 : List SI := [⟨some 46, (.fieldAddr 57 (.tmp 3) 0), none⟩,
  ⟨some 47, (.load 3 (.tmp 46)), none⟩,
  ⟨some 48, (.fieldAddr 57 (.tmp 3) 2), none⟩,
  ⟨some 49, (.load 9 (.tmp 48)), none⟩,
  ⟨some 50, (.fieldAddr 57 (.tmp 3) 3), none⟩,
  ⟨some 51, (.load 9 (.tmp 50)), none⟩,
  ⟨some 52, (.load 60 (.tmp 7)), none⟩,
  ⟨some 53, (.call { callee := (.value (.func 29)), args := #[(.tmp 47), (.tmp 49), (.tmp 51), (.tmp 52)], argTypes := #[3, 9, 9, 60] }), none⟩,
  ⟨some 45, (.move (.tmp 53)), none⟩,
  ⟨some 54, (.extract (.tmp 45) 0), none⟩,
  ⟨some 55, (.extract (.tmp 45) 1), none⟩,
  ⟨some 13, (.assign (.tmp 54)), none⟩,
  ⟨some 14, (.assign (.tmp 55)), none⟩]
def r7_5 : List SI := [⟨some 57, (.fieldAddr 57 (.tmp 4) 0), none⟩,
  ⟨some 58, (.load 3 (.tmp 57)), none⟩,
  ⟨some 59, (.fieldAddr 57 (.tmp 4) 2), none⟩,
  ⟨some 60, (.load 9 (.tmp 59)), none⟩,
  ⟨some 61, (.fieldAddr 57 (.tmp 4) 3), none⟩,
  ⟨some 62, (.load 9 (.tmp 61)), none⟩,
  ⟨some 63, (.load 60 (.tmp 8)), none⟩,
  ⟨some 64, (.call { callee := (.value (.func 29)), args := #[(.tmp 58), (.tmp 60), (.tmp 62), (.tmp 63)], argTypes := #[3, 9, 9, 60] }), none⟩,
  ⟨some 56, (.move (.tmp 64)), none⟩,
  ⟨some 65, (.extract (.tmp 56) 0), none⟩,
  ⟨some 66, (.extract (.tmp 56) 1), none⟩,
  ⟨some 15, (.assign (.tmp 65)), none⟩,
  ⟨some 16, (.assign (.tmp 66)), none⟩]
def r7_6 : List SI := [⟨some 67, (.move (.tmp 10)), none⟩,
  ⟨some 68, (.binOp .neq 27 (.tmp 67) (.const (.int .i64 0)) 27), none⟩,
  ⟨some 69, (.move (.tmp 68)), none⟩,
  ⟨some 70, (.move (.tmp 12)), some (some 69, false)⟩,
  ⟨some 71, (.binOp .neq 27 (.tmp 70) (.const (.int .i64 0)) 27), some (some 69, false)⟩,
  ⟨some 72, (.pick (.tmp 69) (.const (.bool true)) (.tmp 71)), none⟩,
  ⟨some 73, (.move (.tmp 72)), none⟩,
  ⟨some 74, (.move (.tmp 14)), some (some 73, false)⟩,
  ⟨some 75, (.binOp .neq 27 (.tmp 74) (.const (.int .i64 0)) 27), some (some 73, false)⟩,
  ⟨some 76, (.pick (.tmp 73) (.const (.bool true)) (.tmp 75)), none⟩,
  ⟨some 77, (.move (.tmp 76)), none⟩,
  ⟨some 78, (.move (.tmp 16)), some (some 77, false)⟩,
  ⟨some 79, (.binOp .neq 27 (.tmp 78) (.const (.int .i64 0)) 27), some (some 77, false)⟩,
  ⟨some 80, (.pick (.tmp 77) (.const (.bool true)) (.tmp 79)), none⟩]
def r7_7 : List SI := [⟨some 81, (.call { callee := (.value (.func 26)), args := #[], argTypes := #[] }), none⟩,
  ⟨some 6, (.assign (.tmp 81)), none⟩]
def x7_2 : X := .ops r7_7 [6] .ret
def r7_8 : List SI := [⟨some 82, (.fieldAddr 57 (.tmp 3) 0), none⟩,
  ⟨some 83, (.load 3 (.tmp 82)), none⟩,
  ⟨some 84, (.fieldAddr 57 (.tmp 4) 0), none⟩,
  ⟨some 85, (.load 3 (.tmp 84)), none⟩,
  ⟨some 86, (.binOp .eql 3 (.tmp 83) (.tmp 85) 3), none⟩,
  ⟨some 87, (.move (.tmp 86)), none⟩,
  ⟨some 88, (.fieldAddr 57 (.tmp 3) 2), some (some 87, true)⟩,
  ⟨some 89, (.load 9 (.tmp 88)), some (some 87, true)⟩,
  ⟨some 90, (.fieldAddr 57 (.tmp 4) 2), some (some 87, true)⟩,
  ⟨some 91, (.load 9 (.tmp 90)), some (some 87, true)⟩,
  ⟨some 92, (.binOp .eql 9 (.tmp 89) (.tmp 91) 9), some (some 87, true)⟩,
  ⟨some 93, (.pick (.tmp 87) (.tmp 92) (.const (.bool false))), none⟩,
  ⟨some 17, (.assign (.tmp 93)), none⟩]
def r7_9 : List SI := [⟨some 94, (.move (.tmp 9)), none⟩,
  ⟨some 95, (.move (.tmp 11)), none⟩,
  ⟨some 96, (.call { callee := (.value (.func 30)), args := #[(.tmp 94), (.tmp 95)], argTypes := #[22, 22] }), none⟩,
  ⟨some 97, (.move (.tmp 17)), none⟩,
  ⟨some 98, (.move (.tmp 97)), none⟩,
  ⟨some 99, (.load 60 (.tmp 7)), some (some 98, true)⟩,
  ⟨some 100, (.load 60 (.tmp 8)), some (some 98, true)⟩,
  ⟨some 101, (.binOp .eql 60 (.tmp 99) (.tmp 100) 60), some (some 98, true)⟩,
  ⟨some 102, (.pick (.tmp 98) (.tmp 101) (.const (.bool false))), none⟩,
  ⟨some 103, (.binOp .neq 4 (.tmp 96) (.tmp 102) 4), none⟩,
  ⟨some 104, (.move (.tmp 103)), none⟩,
  ⟨some 105, (.move (.tmp 13)), some (some 104, false)⟩,
  ⟨some 106, (.move (.tmp 15)), some (some 104, false)⟩,
  ⟨some 107, (.call { callee := (.value (.func 30)), args := #[(.tmp 105), (.tmp 106)], argTypes := #[22, 22] }), some (some 104, false)⟩,
  ⟨some 108, (.move (.tmp 17)), some (some 104, false)⟩,
  ⟨some 109, (.move (.tmp 108)), some (some 104, false)⟩,
  ⟨some 110, (.fieldAddr 57 (.tmp 3) 3), some (some 109, true)⟩,
  ⟨some 111, (.load 9 (.tmp 110)), some (some 109, true)⟩,
  ⟨some 112, (.fieldAddr 57 (.tmp 4) 3), some (some 109, true)⟩,
  ⟨some 113, (.load 9 (.tmp 112)), some (some 109, true)⟩,
  ⟨some 114, (.binOp .eql 9 (.tmp 111) (.tmp 113) 9), some (some 109, true)⟩,
  ⟨some 115, (.pick (.tmp 109) (.tmp 114) (.const (.bool false))), some (some 104, false)⟩,
  ⟨some 116, (.move (.tmp 115)), some (some 104, false)⟩,
  ⟨some 117, (.load 60 (.tmp 7)), some (some 116, true)⟩,
  ⟨some 118, (.load 60 (.tmp 8)), some (some 116, true)⟩,
  ⟨some 119, (.binOp .eql 60 (.tmp 117) (.tmp 118) 60), some (some 116, true)⟩,
  ⟨some 120, (.pick (.tmp 116) (.tmp 119) (.const (.bool false))), some (some 104, false)⟩,
  ⟨some 121, (.binOp .neq 4 (.tmp 107) (.tmp 120) 4), some (some 104, false)⟩,
  ⟨some 122, (.pick (.tmp 104) (.const (.bool true)) (.tmp 121)), none⟩,
  ⟨some 123, (.move (.tmp 122)), none⟩,
  ⟨some 124, (.move (.tmp 9)), some (some 123, false)⟩,
  ⟨some 125, (.move (.tmp 13)), some (some 123, false)⟩,
  ⟨some 126, (.call { callee := (.value (.func 30)), args := #[(.tmp 124), (.tmp 125)], argTypes := #[22, 22] }), some (some 123, false)⟩,
  ⟨some 127, (.pick (.tmp 123) (.const (.bool true)) (.tmp 126)), none⟩,
  ⟨some 128, (.move (.tmp 127)), none⟩,
  ⟨some 129, (.move (.tmp 13)), some (some 128, false)⟩,
  ⟨some 130, (.move (.tmp 9)), some (some 128, false)⟩,
  ⟨some 131, (.call { callee := (.value (.func 30)), args := #[(.tmp 129), (.tmp 130)], argTypes := #[22, 22] }), some (some 128, false)⟩,
  ⟨some 132, (.pick (.tmp 128) (.const (.bool true)) (.tmp 131)), none⟩,
  ⟨some 133, (.move (.tmp 132)), none⟩,
  ⟨some 134, (.move (.tmp 9)), some (some 133, false)⟩,
  ⟨some 135, (.call { callee := (.builtin .len), args := #[(.tmp 134)], argTypes := #[22] }), some (some 133, false)⟩,
  ⟨some 136, (.move (.tmp 13)), some (some 133, false)⟩,
  ⟨some 137, (.call { callee := (.builtin .len), args := #[(.tmp 136)], argTypes := #[22] }), some (some 133, false)⟩,
  ⟨some 138, (.call { callee := (.builtin .max), args := #[(.tmp 135), (.tmp 137)], argTypes := #[3, 3] }), some (some 133, false)⟩,
  ⟨some 139, (.binOp .gtr 3 (.tmp 138) (.const (.int .i64 128)) 3), some (some 133, false)⟩,
  ⟨some 140, (.pick (.tmp 133) (.const (.bool true)) (.tmp 139)), none⟩]
def r7_10 : List SI := [⟨some 6, (.assign (.const (.bool false))), none⟩]
def x7_6 : X := .ops r7_10 [6] .ret
def r7_11 : List SI := [⟨some 142, (.fieldAddr 57 (.tmp 3) 0), none⟩,
  ⟨some 143, (.load 3 (.tmp 142)), none⟩,
  ⟨some 144, (.fieldAddr 57 (.tmp 3) 2), none⟩,
  ⟨some 145, (.load 9 (.tmp 144)), none⟩,
  ⟨some 146, (.call { callee := (.value (.func 31)), args := #[(.tmp 143), (.tmp 145)], argTypes := #[3, 9] }), none⟩,
  ⟨some 141, (.move (.tmp 146)), none⟩,
  ⟨some 147, (.extract (.tmp 141) 0), none⟩,
  ⟨some 148, (.extract (.tmp 141) 1), none⟩,
  ⟨some 149, (.extract (.tmp 141) 2), none⟩,
  ⟨some 18, (.assign (.tmp 147)), none⟩,
  ⟨some 19, (.assign (.tmp 148)), none⟩,
  ⟨some 20, (.assign (.tmp 149)), none⟩]
def r7_12 : List SI := [⟨some 150, (.move (.tmp 18)), none⟩,
  ⟨some 151, (.move (.tmp 11)), none⟩,
  ⟨some 152, (.call { callee := (.value (.func 32)), args := #[(.tmp 150), (.tmp 151)], argTypes := #[22, 22] }), none⟩,
  ⟨some 153, (.binOp .leq 3 (.tmp 152) (.const (.int .i64 0)) 3), none⟩,
  ⟨some 154, (.move (.tmp 153)), none⟩,
  ⟨some 155, (.move (.tmp 11)), some (some 154, true)⟩,
  ⟨some 156, (.move (.tmp 19)), some (some 154, true)⟩,
  ⟨some 157, (.call { callee := (.value (.func 32)), args := #[(.tmp 155), (.tmp 156)], argTypes := #[22, 22] }), some (some 154, true)⟩,
  ⟨some 158, (.binOp .lss 3 (.tmp 157) (.const (.int .i64 0)) 3), some (some 154, true)⟩,
  ⟨some 159, (.pick (.tmp 154) (.tmp 158) (.const (.bool false))), none⟩,
  ⟨some 21, (.assign (.tmp 159)), none⟩]
def r7_13 : List SI := [⟨some 160, (.move (.tmp 18)), none⟩,
  ⟨some 161, (.move (.tmp 15)), none⟩,
  ⟨some 162, (.call { callee := (.value (.func 32)), args := #[(.tmp 160), (.tmp 161)], argTypes := #[22, 22] }), none⟩,
  ⟨some 163, (.binOp .leq 3 (.tmp 162) (.const (.int .i64 0)) 3), none⟩,
  ⟨some 164, (.move (.tmp 163)), none⟩,
  ⟨some 165, (.move (.tmp 15)), some (some 164, true)⟩,
  ⟨some 166, (.move (.tmp 19)), some (some 164, true)⟩,
  ⟨some 167, (.call { callee := (.value (.func 32)), args := #[(.tmp 165), (.tmp 166)], argTypes := #[22, 22] }), some (some 164, true)⟩,
  ⟨some 168, (.binOp .lss 3 (.tmp 167) (.const (.int .i64 0)) 3), some (some 164, true)⟩,
  ⟨some 169, (.pick (.tmp 164) (.tmp 168) (.const (.bool false))), none⟩,
  ⟨some 22, (.assign (.tmp 169)), none⟩]
def r7_14 : List SI := [⟨some 170, (.move (.tmp 20)), none⟩,
  ⟨some 171, (.binOp .eql 27 (.tmp 170) (.const (.int .i64 0)) 27), none⟩,
  ⟨some 172, (.move (.tmp 171)), none⟩,
  ⟨some 173, (.move (.tmp 21)), some (some 172, true)⟩,
  ⟨some 174, (.move (.tmp 17)), some (some 172, true)⟩,
  ⟨some 175, (.binOp .eql 4 (.tmp 173) (.tmp 174) 4), some (some 172, true)⟩,
  ⟨some 176, (.pick (.tmp 172) (.tmp 175) (.const (.bool false))), none⟩,
  ⟨some 177, (.move (.tmp 176)), none⟩,
  ⟨some 178, (.move (.tmp 22)), some (some 177, true)⟩,
  ⟨some 179, (.unOp .not 4 (.tmp 178)), some (some 177, true)⟩,
  ⟨some 180, (.pick (.tmp 177) (.tmp 179) (.const (.bool false))), none⟩,
  ⟨some 181, (.move (.tmp 180)), none⟩,
  ⟨some 182, (.call { callee := (.value (.func 26)), args := #[], argTypes := #[] }), some (some 181, true)⟩,
  ⟨some 183, (.pick (.tmp 181) (.tmp 182) (.const (.bool false))), none⟩,
  ⟨some 6, (.assign (.tmp 183)), none⟩]
def x7_9 : X := .ops r7_14 [6] .ret
def x7_8 : X := .ops r7_13 [22] x7_9
def x7_7 : X := .ops r7_11 [18, 19, 20] (.ops r7_12 [21] x7_8)
def x7_5 : X := .cond (.tmp 140) x7_6 .skip x7_7
def x7_4 : X := .ops r7_9 [140] x7_5
def x7_3 : X := .ops r7_8 [17] x7_4
def x7_1 : X := .cond (.tmp 80) x7_2 .skip x7_3
def x7_0 : X := .ops r7_0 [3, 4, 5] (.front true r7_1a r7_1b [7, 8] (.ops r7_2 [9, 10] (.ops r7_3 [11, 12] (.ops r7_4 [13, 14] (.ops r7_5 [15, 16] (.ops r7_6 [80] x7_1))))))
def n7 : Ann := .ops [3, 4, 5] (.ops [7, 8] (.ops [9, 10] (.ops [11, 12] (.ops [13, 14] (.ops [15, 16] (.ops [80] (.cond (.ops [6] .stop) .stop (.ops [17] (.ops [140] (.cond (.ops [6] .stop) .stop (.ops [18, 19, 20] (.ops [21] (.ops [22] (.ops [6] .stop))))))))))))))
theorem ok7 : annFn Try.f7 3 n7 = some x7_0 := by kernel_rfl
noncomputable def kF7 (K : V → H → Prop) : XQ := kFnX C.P Try.f7.results.toList K
theorem e7_nx {K : V → H → Prop} {e : E} {h : H} : kF7 K .nx e h = K (E.get e 6) h := nrfl (by kernel_rfl)
theorem e7_rt {K : V → H → Prop} {e : E} {h : H} : kF7 K .rt e h = K (E.get e 6) h := nrfl (by kernel_rfl)
theorem enter7 {lo : Nat} {h : H} {vs : List V} {K : V → H → Prop} (hl : vs.length = 3) (hw : XW C lo x7_0 (kF7 K) (args 0 vs) h) : CW C 7 vs lo h K := by
  refine CW_X hS rfl Try.func7 ok7 hl ?_ hw
  rw [Try.ntmps7]
  decide
theorem q7_2 {lo : Nat} {Q : XQ} {e : E} {h : H} : XW C lo x7_2 Q e h =
    CW C 26 [] lo h fun t1 h2 =>
    Q .rt ((6, t1) :: e) h2 := nrfl (by kernel_rfl)
theorem q7_6 {lo : Nat} {Q : XQ} {e : E} {h : H} : XW C lo x7_6 Q e h =
    Q .rt ((6, .bool false) :: e) h := nrfl (by kernel_rfl)
theorem q7_9 {lo : Nat} {Q : XQ} {e : E} {h : H} : XW C lo x7_9 Q e h =
    bdB (binV Try.prog .eql 27 (E.get e 20) (.int .i64 0)) fun b1 =>
    byT b1 (bdB (binV Try.prog .eql 4 (E.get e 21) (E.get e 17)) fun b2 =>
    byT b2 (bd (unV .not (E.get e 22)) fun t3 =>
    byV t3 (CW C 26 [] lo h fun t4 h5 =>
    Q .rt ((6, t4) :: e) h5) (Q .rt ((6, .bool false) :: e) h) (False)) (Q .rt ((6, .bool false) :: e) h)) (Q .rt ((6, .bool false) :: e) h) := nrfl (by kernel_rfl)
theorem q7_8 {lo : Nat} {Q : XQ} {e : E} {h : H} : XW C lo x7_8 Q e h =
    CW C 32 [E.get e 18, E.get e 15] lo h fun t1 h2 =>
    bdB (binV Try.prog .leq 3 t1 (.int .i64 0)) fun b3 =>
    byT b3 (CW C 32 [E.get e 15, E.get e 19] lo h2 fun t4 h5 =>
    bdB (binV Try.prog .lss 3 t4 (.int .i64 0)) fun b6 =>
    bdB (binV Try.prog .eql 27 (E.get e 20) (.int .i64 0)) fun b7 =>
    byT b7 (bdB (binV Try.prog .eql 4 (E.get e 21) (E.get e 17)) fun b8 =>
    byT b8 (byT (!b6) (CW C 26 [] lo h5 fun t9 h10 =>
    Q .rt ((6, t9) :: (22, .bool b6) :: e) h10) (Q .rt ((6, .bool false) :: (22, .bool b6) :: e) h5)) (Q .rt ((6, .bool false) :: (22, .bool b6) :: e) h5)) (Q .rt ((6, .bool false) :: (22, .bool b6) :: e) h5)) (bdB (binV Try.prog .eql 27 (E.get e 20) (.int .i64 0)) fun b4 =>
    byT b4 (bdB (binV Try.prog .eql 4 (E.get e 21) (E.get e 17)) fun b5 =>
    byT b5 (CW C 26 [] lo h2 fun t6 h7 =>
    Q .rt ((6, t6) :: (22, .bool false) :: e) h7) (Q .rt ((6, .bool false) :: (22, .bool false) :: e) h2)) (Q .rt ((6, .bool false) :: (22, .bool false) :: e) h2)) := nrfl (by kernel_rfl)
theorem q7_7 {lo : Nat} {Q : XQ} {e : E} {h : H} : XW C lo x7_7 Q e h =
    bd (fieldAddrV Try.prog 57 (E.get e 3) 0) fun t1 =>
    bd (loadV Try.prog 3 t1 (H.read h)) fun t2 =>
    bd (fieldAddrV Try.prog 57 (E.get e 3) 2) fun t3 =>
    bd (loadV Try.prog 9 t3 (H.read h)) fun t4 =>
    CW C 31 [t2, t4] lo h fun t5 h6 =>
    tupX t5 fun l7 => bd (l7[0]?) fun t8 =>
    tupX t5 fun l9 => bd (l9[1]?) fun t10 =>
    tupX t5 fun l11 => bd (l11[2]?) fun t12 =>
    CW C 32 [t8, E.get e 11] lo h6 fun t13 h14 =>
    bdB (binV Try.prog .leq 3 t13 (.int .i64 0)) fun b15 =>
    byT b15 (CW C 32 [E.get e 11, t10] lo h14 fun t16 h17 =>
    bdB (binV Try.prog .lss 3 t16 (.int .i64 0)) fun b18 =>
    CW C 32 [t8, E.get e 15] lo h17 fun t19 h20 =>
    bdB (binV Try.prog .leq 3 t19 (.int .i64 0)) fun b21 =>
    byT b21 (CW C 32 [E.get e 15, t10] lo h20 fun t22 h23 =>
    bdB (binV Try.prog .lss 3 t22 (.int .i64 0)) fun b24 =>
    bdB (binV Try.prog .eql 27 t12 (.int .i64 0)) fun b25 =>
    byT b25 (bdB (binV Try.prog .eql 4 (.bool b18) (E.get e 17)) fun b26 =>
    byT b26 (byT (!b24) (CW C 26 [] lo h23 fun t27 h28 =>
    Q .rt ((6, t27) :: (22, .bool b24) :: (21, .bool b18) :: (18, t8) :: (19, t10) :: (20, t12) :: e) h28) (Q .rt ((6, .bool false) :: (22, .bool b24) :: (21, .bool b18) :: (18, t8) :: (19, t10) :: (20, t12) :: e) h23)) (Q .rt ((6, .bool false) :: (22, .bool b24) :: (21, .bool b18) :: (18, t8) :: (19, t10) :: (20, t12) :: e) h23)) (Q .rt ((6, .bool false) :: (22, .bool b24) :: (21, .bool b18) :: (18, t8) :: (19, t10) :: (20, t12) :: e) h23)) (bdB (binV Try.prog .eql 27 t12 (.int .i64 0)) fun b22 =>
    byT b22 (bdB (binV Try.prog .eql 4 (.bool b18) (E.get e 17)) fun b23 =>
    byT b23 (CW C 26 [] lo h20 fun t24 h25 =>
    Q .rt ((6, t24) :: (22, .bool false) :: (21, .bool b18) :: (18, t8) :: (19, t10) :: (20, t12) :: e) h25) (Q .rt ((6, .bool false) :: (22, .bool false) :: (21, .bool b18) :: (18, t8) :: (19, t10) :: (20, t12) :: e) h20)) (Q .rt ((6, .bool false) :: (22, .bool false) :: (21, .bool b18) :: (18, t8) :: (19, t10) :: (20, t12) :: e) h20))) (CW C 32 [t8, E.get e 15] lo h14 fun t16 h17 =>
    bdB (binV Try.prog .leq 3 t16 (.int .i64 0)) fun b18 =>
    byT b18 (CW C 32 [E.get e 15, t10] lo h17 fun t19 h20 =>
    bdB (binV Try.prog .lss 3 t19 (.int .i64 0)) fun b21 =>
    bdB (binV Try.prog .eql 27 t12 (.int .i64 0)) fun b22 =>
    byT b22 (bdB (binV Try.prog .eql 4 (.bool false) (E.get e 17)) fun b23 =>
    byT b23 (byT (!b21) (CW C 26 [] lo h20 fun t24 h25 =>
    Q .rt ((6, t24) :: (22, .bool b21) :: (21, .bool false) :: (18, t8) :: (19, t10) :: (20, t12) :: e) h25) (Q .rt ((6, .bool false) :: (22, .bool b21) :: (21, .bool false) :: (18, t8) :: (19, t10) :: (20, t12) :: e) h20)) (Q .rt ((6, .bool false) :: (22, .bool b21) :: (21, .bool false) :: (18, t8) :: (19, t10) :: (20, t12) :: e) h20)) (Q .rt ((6, .bool false) :: (22, .bool b21) :: (21, .bool false) :: (18, t8) :: (19, t10) :: (20, t12) :: e) h20)) (bdB (binV Try.prog .eql 27 t12 (.int .i64 0)) fun b19 =>
    byT b19 (bdB (binV Try.prog .eql 4 (.bool false) (E.get e 17)) fun b20 =>
    byT b20 (CW C 26 [] lo h17 fun t21 h22 =>
    Q .rt ((6, t21) :: (22, .bool false) :: (21, .bool false) :: (18, t8) :: (19, t10) :: (20, t12) :: e) h22) (Q .rt ((6, .bool false) :: (22, .bool false) :: (21, .bool false) :: (18, t8) :: (19, t10) :: (20, t12) :: e) h17)) (Q .rt ((6, .bool false) :: (22, .bool false) :: (21, .bool false) :: (18, t8) :: (19, t10) :: (20, t12) :: e) h17))) := nrfl (by kernel_rfl)
theorem q7_5 {lo : Nat} {Q : XQ} {e : E} {h : H} : XW C lo x7_5 Q e h =
    byV (E.get e 140) (XW C lo x7_6 (kX (XW C lo x7_7 Q) Q) e h) (XW C lo .skip (kX (XW C lo x7_7 Q) Q) e h) False := nrfl (by kernel_rfl)
theorem q7_4 {lo : Nat} {Q : XQ} {e : E} {h : H} : XW C lo x7_4 Q e h =
    CW C 30 [E.get e 9, E.get e 11] lo h fun t1 h2 =>
    byV (E.get e 17) (bd (loadV Try.prog 60 (E.get e 7) (H.read h2)) fun t3 =>
    bd (loadV Try.prog 60 (E.get e 8) (H.read h2)) fun t4 =>
    bdB (binV Try.prog .eql 60 t3 t4) fun b5 =>
    bdB (binV Try.prog .neq 4 t1 (.bool b5)) fun b6 =>
    byT b6 (XW C lo x7_6 (kX (XW C lo x7_7 Q) Q) ((140, .bool true) :: e) h2) (CW C 30 [E.get e 13, E.get e 15] lo h2 fun t7 h8 =>
    byV (E.get e 17) (bd (fieldAddrV Try.prog 57 (E.get e 3) 3) fun t9 =>
    bd (loadV Try.prog 9 t9 (H.read h8)) fun t10 =>
    bd (fieldAddrV Try.prog 57 (E.get e 4) 3) fun t11 =>
    bd (loadV Try.prog 9 t11 (H.read h8)) fun t12 =>
    bdB (binV Try.prog .eql 9 t10 t12) fun b13 =>
    byT b13 (bd (loadV Try.prog 60 (E.get e 7) (H.read h8)) fun t14 =>
    bd (loadV Try.prog 60 (E.get e 8) (H.read h8)) fun t15 =>
    bdB (binV Try.prog .eql 60 t14 t15) fun b16 =>
    bdB (binV Try.prog .neq 4 t7 (.bool b16)) fun b17 =>
    byT b17 (XW C lo x7_6 (kX (XW C lo x7_7 Q) Q) ((140, .bool true) :: e) h8) (CW C 30 [E.get e 9, E.get e 13] lo h8 fun t18 h19 =>
    byV t18 (XW C lo x7_6 (kX (XW C lo x7_7 Q) Q) ((140, .bool true) :: e) h19) (CW C 30 [E.get e 13, E.get e 9] lo h19 fun t20 h21 =>
    byV t20 (XW C lo x7_6 (kX (XW C lo x7_7 Q) Q) ((140, .bool true) :: e) h21) (bd (lenV Try.prog [22] (E.get e 9)) fun t22 =>
    bd (lenV Try.prog [22] (E.get e 13)) fun t23 =>
    intX t22 fun k23 m23 => intX t23 fun _ n23 =>
    bdB (binV Try.prog .gtr 3 (.int k23 (if n23 > m23 then n23 else m23)) (.int .i64 128)) fun b25 =>
    byT b25 (XW C lo x7_6 (kX (XW C lo x7_7 Q) Q) ((140, .bool b25) :: e) h21) (XW C lo .skip (kX (XW C lo x7_7 Q) Q) ((140, .bool b25) :: e) h21)) (False)) (False))) (bdB (binV Try.prog .neq 4 t7 (.bool false)) fun b14 =>
    byT b14 (XW C lo x7_6 (kX (XW C lo x7_7 Q) Q) ((140, .bool true) :: e) h8) (CW C 30 [E.get e 9, E.get e 13] lo h8 fun t15 h16 =>
    byV t15 (XW C lo x7_6 (kX (XW C lo x7_7 Q) Q) ((140, .bool true) :: e) h16) (CW C 30 [E.get e 13, E.get e 9] lo h16 fun t17 h18 =>
    byV t17 (XW C lo x7_6 (kX (XW C lo x7_7 Q) Q) ((140, .bool true) :: e) h18) (bd (lenV Try.prog [22] (E.get e 9)) fun t19 =>
    bd (lenV Try.prog [22] (E.get e 13)) fun t20 =>
    intX t19 fun k20 m20 => intX t20 fun _ n20 =>
    bdB (binV Try.prog .gtr 3 (.int k20 (if n20 > m20 then n20 else m20)) (.int .i64 128)) fun b22 =>
    byT b22 (XW C lo x7_6 (kX (XW C lo x7_7 Q) Q) ((140, .bool b22) :: e) h18) (XW C lo .skip (kX (XW C lo x7_7 Q) Q) ((140, .bool b22) :: e) h18)) (False)) (False)))) (bdB (binV Try.prog .neq 4 t7 (.bool false)) fun b9 =>
    byT b9 (XW C lo x7_6 (kX (XW C lo x7_7 Q) Q) ((140, .bool true) :: e) h8) (CW C 30 [E.get e 9, E.get e 13] lo h8 fun t10 h11 =>
    byV t10 (XW C lo x7_6 (kX (XW C lo x7_7 Q) Q) ((140, .bool true) :: e) h11) (CW C 30 [E.get e 13, E.get e 9] lo h11 fun t12 h13 =>
    byV t12 (XW C lo x7_6 (kX (XW C lo x7_7 Q) Q) ((140, .bool true) :: e) h13) (bd (lenV Try.prog [22] (E.get e 9)) fun t14 =>
    bd (lenV Try.prog [22] (E.get e 13)) fun t15 =>
    intX t14 fun k15 m15 => intX t15 fun _ n15 =>
    bdB (binV Try.prog .gtr 3 (.int k15 (if n15 > m15 then n15 else m15)) (.int .i64 128)) fun b17 =>
    byT b17 (XW C lo x7_6 (kX (XW C lo x7_7 Q) Q) ((140, .bool b17) :: e) h13) (XW C lo .skip (kX (XW C lo x7_7 Q) Q) ((140, .bool b17) :: e) h13)) (False)) (False))) (False))) (bdB (binV Try.prog .neq 4 t1 (.bool false)) fun b3 =>
    byT b3 (XW C lo x7_6 (kX (XW C lo x7_7 Q) Q) ((140, .bool true) :: e) h2) (CW C 30 [E.get e 13, E.get e 15] lo h2 fun t4 h5 =>
    byV (E.get e 17) (bd (fieldAddrV Try.prog 57 (E.get e 3) 3) fun t6 =>
    bd (loadV Try.prog 9 t6 (H.read h5)) fun t7 =>
    bd (fieldAddrV Try.prog 57 (E.get e 4) 3) fun t8 =>
    bd (loadV Try.prog 9 t8 (H.read h5)) fun t9 =>
    bdB (binV Try.prog .eql 9 t7 t9) fun b10 =>
    byT b10 (bd (loadV Try.prog 60 (E.get e 7) (H.read h5)) fun t11 =>
    bd (loadV Try.prog 60 (E.get e 8) (H.read h5)) fun t12 =>
    bdB (binV Try.prog .eql 60 t11 t12) fun b13 =>
    bdB (binV Try.prog .neq 4 t4 (.bool b13)) fun b14 =>
    byT b14 (XW C lo x7_6 (kX (XW C lo x7_7 Q) Q) ((140, .bool true) :: e) h5) (CW C 30 [E.get e 9, E.get e 13] lo h5 fun t15 h16 =>
    byV t15 (XW C lo x7_6 (kX (XW C lo x7_7 Q) Q) ((140, .bool true) :: e) h16) (CW C 30 [E.get e 13, E.get e 9] lo h16 fun t17 h18 =>
    byV t17 (XW C lo x7_6 (kX (XW C lo x7_7 Q) Q) ((140, .bool true) :: e) h18) (bd (lenV Try.prog [22] (E.get e 9)) fun t19 =>
    bd (lenV Try.prog [22] (E.get e 13)) fun t20 =>
    intX t19 fun k20 m20 => intX t20 fun _ n20 =>
    bdB (binV Try.prog .gtr 3 (.int k20 (if n20 > m20 then n20 else m20)) (.int .i64 128)) fun b22 =>
    byT b22 (XW C lo x7_6 (kX (XW C lo x7_7 Q) Q) ((140, .bool b22) :: e) h18) (XW C lo .skip (kX (XW C lo x7_7 Q) Q) ((140, .bool b22) :: e) h18)) (False)) (False))) (bdB (binV Try.prog .neq 4 t4 (.bool false)) fun b11 =>
    byT b11 (XW C lo x7_6 (kX (XW C lo x7_7 Q) Q) ((140, .bool true) :: e) h5) (CW C 30 [E.get e 9, E.get e 13] lo h5 fun t12 h13 =>
    byV t12 (XW C lo x7_6 (kX (XW C lo x7_7 Q) Q) ((140, .bool true) :: e) h13) (CW C 30 [E.get e 13, E.get e 9] lo h13 fun t14 h15 =>
    byV t14 (XW C lo x7_6 (kX (XW C lo x7_7 Q) Q) ((140, .bool true) :: e) h15) (bd (lenV Try.prog [22] (E.get e 9)) fun t16 =>
    bd (lenV Try.prog [22] (E.get e 13)) fun t17 =>
    intX t16 fun k17 m17 => intX t17 fun _ n17 =>
    bdB (binV Try.prog .gtr 3 (.int k17 (if n17 > m17 then n17 else m17)) (.int .i64 128)) fun b19 =>
    byT b19 (XW C lo x7_6 (kX (XW C lo x7_7 Q) Q) ((140, .bool b19) :: e) h15) (XW C lo .skip (kX (XW C lo x7_7 Q) Q) ((140, .bool b19) :: e) h15)) (False)) (False)))) (bdB (binV Try.prog .neq 4 t4 (.bool false)) fun b6 =>
    byT b6 (XW C lo x7_6 (kX (XW C lo x7_7 Q) Q) ((140, .bool true) :: e) h5) (CW C 30 [E.get e 9, E.get e 13] lo h5 fun t7 h8 =>
    byV t7 (XW C lo x7_6 (kX (XW C lo x7_7 Q) Q) ((140, .bool true) :: e) h8) (CW C 30 [E.get e 13, E.get e 9] lo h8 fun t9 h10 =>
    byV t9 (XW C lo x7_6 (kX (XW C lo x7_7 Q) Q) ((140, .bool true) :: e) h10) (bd (lenV Try.prog [22] (E.get e 9)) fun t11 =>
    bd (lenV Try.prog [22] (E.get e 13)) fun t12 =>
    intX t11 fun k12 m12 => intX t12 fun _ n12 =>
    bdB (binV Try.prog .gtr 3 (.int k12 (if n12 > m12 then n12 else m12)) (.int .i64 128)) fun b14 =>
    byT b14 (XW C lo x7_6 (kX (XW C lo x7_7 Q) Q) ((140, .bool b14) :: e) h10) (XW C lo .skip (kX (XW C lo x7_7 Q) Q) ((140, .bool b14) :: e) h10)) (False)) (False))) (False))) (False) := nrfl (by kernel_rfl)
theorem q7_3 {lo : Nat} {Q : XQ} {e : E} {h : H} : XW C lo x7_3 Q e h =
    bd (fieldAddrV Try.prog 57 (E.get e 3) 0) fun t1 =>
    bd (loadV Try.prog 3 t1 (H.read h)) fun t2 =>
    bd (fieldAddrV Try.prog 57 (E.get e 4) 0) fun t3 =>
    bd (loadV Try.prog 3 t3 (H.read h)) fun t4 =>
    bdB (binV Try.prog .eql 3 t2 t4) fun b5 =>
    byT b5 (bd (fieldAddrV Try.prog 57 (E.get e 3) 2) fun t6 =>
    bd (loadV Try.prog 9 t6 (H.read h)) fun t7 =>
    bd (fieldAddrV Try.prog 57 (E.get e 4) 2) fun t8 =>
    bd (loadV Try.prog 9 t8 (H.read h)) fun t9 =>
    bdB (binV Try.prog .eql 9 t7 t9) fun b10 =>
    CW C 30 [E.get e 9, E.get e 11] lo h fun t11 h12 =>
    byT b10 (bd (loadV Try.prog 60 (E.get e 7) (H.read h12)) fun t13 =>
    bd (loadV Try.prog 60 (E.get e 8) (H.read h12)) fun t14 =>
    bdB (binV Try.prog .eql 60 t13 t14) fun b15 =>
    bdB (binV Try.prog .neq 4 t11 (.bool b15)) fun b16 =>
    byT b16 (XW C lo x7_6 (kX (XW C lo x7_7 Q) Q) ((140, .bool true) :: (17, .bool b10) :: e) h12) (CW C 30 [E.get e 13, E.get e 15] lo h12 fun t17 h18 =>
    byT b10 (bd (fieldAddrV Try.prog 57 (E.get e 3) 3) fun t19 =>
    bd (loadV Try.prog 9 t19 (H.read h18)) fun t20 =>
    bd (fieldAddrV Try.prog 57 (E.get e 4) 3) fun t21 =>
    bd (loadV Try.prog 9 t21 (H.read h18)) fun t22 =>
    bdB (binV Try.prog .eql 9 t20 t22) fun b23 =>
    byT b23 (bd (loadV Try.prog 60 (E.get e 7) (H.read h18)) fun t24 =>
    bd (loadV Try.prog 60 (E.get e 8) (H.read h18)) fun t25 =>
    bdB (binV Try.prog .eql 60 t24 t25) fun b26 =>
    bdB (binV Try.prog .neq 4 t17 (.bool b26)) fun b27 =>
    byT b27 (XW C lo x7_6 (kX (XW C lo x7_7 Q) Q) ((140, .bool true) :: (17, .bool b10) :: e) h18) (CW C 30 [E.get e 9, E.get e 13] lo h18 fun t28 h29 =>
    byV t28 (XW C lo x7_6 (kX (XW C lo x7_7 Q) Q) ((140, .bool true) :: (17, .bool b10) :: e) h29) (CW C 30 [E.get e 13, E.get e 9] lo h29 fun t30 h31 =>
    byV t30 (XW C lo x7_6 (kX (XW C lo x7_7 Q) Q) ((140, .bool true) :: (17, .bool b10) :: e) h31) (bd (lenV Try.prog [22] (E.get e 9)) fun t32 =>
    bd (lenV Try.prog [22] (E.get e 13)) fun t33 =>
    intX t32 fun k33 m33 => intX t33 fun _ n33 =>
    bdB (binV Try.prog .gtr 3 (.int k33 (if n33 > m33 then n33 else m33)) (.int .i64 128)) fun b35 =>
    byT b35 (XW C lo x7_6 (kX (XW C lo x7_7 Q) Q) ((140, .bool b35) :: (17, .bool b10) :: e) h31) (XW C lo .skip (kX (XW C lo x7_7 Q) Q) ((140, .bool b35) :: (17, .bool b10) :: e) h31)) (False)) (False))) (bdB (binV Try.prog .neq 4 t17 (.bool false)) fun b24 =>
    byT b24 (XW C lo x7_6 (kX (XW C lo x7_7 Q) Q) ((140, .bool true) :: (17, .bool b10) :: e) h18) (CW C 30 [E.get e 9, E.get e 13] lo h18 fun t25 h26 =>
    byV t25 (XW C lo x7_6 (kX (XW C lo x7_7 Q) Q) ((140, .bool true) :: (17, .bool b10) :: e) h26) (CW C 30 [E.get e 13, E.get e 9] lo h26 fun t27 h28 =>
    byV t27 (XW C lo x7_6 (kX (XW C lo x7_7 Q) Q) ((140, .bool true) :: (17, .bool b10) :: e) h28) (bd (lenV Try.prog [22] (E.get e 9)) fun t29 =>
    bd (lenV Try.prog [22] (E.get e 13)) fun t30 =>
    intX t29 fun k30 m30 => intX t30 fun _ n30 =>
    bdB (binV Try.prog .gtr 3 (.int k30 (if n30 > m30 then n30 else m30)) (.int .i64 128)) fun b32 =>
    byT b32 (XW C lo x7_6 (kX (XW C lo x7_7 Q) Q) ((140, .bool b32) :: (17, .bool b10) :: e) h28) (XW C lo .skip (kX (XW C lo x7_7 Q) Q) ((140, .bool b32) :: (17, .bool b10) :: e) h28)) (False)) (False)))) (bdB (binV Try.prog .neq 4 t17 (.bool false)) fun b19 =>
    byT b19 (XW C lo x7_6 (kX (XW C lo x7_7 Q) Q) ((140, .bool true) :: (17, .bool b10) :: e) h18) (CW C 30 [E.get e 9, E.get e 13] lo h18 fun t20 h21 =>
    byV t20 (XW C lo x7_6 (kX (XW C lo x7_7 Q) Q) ((140, .bool true) :: (17, .bool b10) :: e) h21) (CW C 30 [E.get e 13, E.get e 9] lo h21 fun t22 h23 =>
    byV t22 (XW C lo x7_6 (kX (XW C lo x7_7 Q) Q) ((140, .bool true) :: (17, .bool b10) :: e) h23) (bd (lenV Try.prog [22] (E.get e 9)) fun t24 =>
    bd (lenV Try.prog [22] (E.get e 13)) fun t25 =>
    intX t24 fun k25 m25 => intX t25 fun _ n25 =>
    bdB (binV Try.prog .gtr 3 (.int k25 (if n25 > m25 then n25 else m25)) (.int .i64 128)) fun b27 =>
    byT b27 (XW C lo x7_6 (kX (XW C lo x7_7 Q) Q) ((140, .bool b27) :: (17, .bool b10) :: e) h23) (XW C lo .skip (kX (XW C lo x7_7 Q) Q) ((140, .bool b27) :: (17, .bool b10) :: e) h23)) (False)) (False))))) (bdB (binV Try.prog .neq 4 t11 (.bool false)) fun b13 =>
    byT b13 (XW C lo x7_6 (kX (XW C lo x7_7 Q) Q) ((140, .bool true) :: (17, .bool b10) :: e) h12) (CW C 30 [E.get e 13, E.get e 15] lo h12 fun t14 h15 =>
    byT b10 (bd (fieldAddrV Try.prog 57 (E.get e 3) 3) fun t16 =>
    bd (loadV Try.prog 9 t16 (H.read h15)) fun t17 =>
    bd (fieldAddrV Try.prog 57 (E.get e 4) 3) fun t18 =>
    bd (loadV Try.prog 9 t18 (H.read h15)) fun t19 =>
    bdB (binV Try.prog .eql 9 t17 t19) fun b20 =>
    byT b20 (bd (loadV Try.prog 60 (E.get e 7) (H.read h15)) fun t21 =>
    bd (loadV Try.prog 60 (E.get e 8) (H.read h15)) fun t22 =>
    bdB (binV Try.prog .eql 60 t21 t22) fun b23 =>
    bdB (binV Try.prog .neq 4 t14 (.bool b23)) fun b24 =>
    byT b24 (XW C lo x7_6 (kX (XW C lo x7_7 Q) Q) ((140, .bool true) :: (17, .bool b10) :: e) h15) (CW C 30 [E.get e 9, E.get e 13] lo h15 fun t25 h26 =>
    byV t25 (XW C lo x7_6 (kX (XW C lo x7_7 Q) Q) ((140, .bool true) :: (17, .bool b10) :: e) h26) (CW C 30 [E.get e 13, E.get e 9] lo h26 fun t27 h28 =>
    byV t27 (XW C lo x7_6 (kX (XW C lo x7_7 Q) Q) ((140, .bool true) :: (17, .bool b10) :: e) h28) (bd (lenV Try.prog [22] (E.get e 9)) fun t29 =>
    bd (lenV Try.prog [22] (E.get e 13)) fun t30 =>
    intX t29 fun k30 m30 => intX t30 fun _ n30 =>
    bdB (binV Try.prog .gtr 3 (.int k30 (if n30 > m30 then n30 else m30)) (.int .i64 128)) fun b32 =>
    byT b32 (XW C lo x7_6 (kX (XW C lo x7_7 Q) Q) ((140, .bool b32) :: (17, .bool b10) :: e) h28) (XW C lo .skip (kX (XW C lo x7_7 Q) Q) ((140, .bool b32) :: (17, .bool b10) :: e) h28)) (False)) (False))) (bdB (binV Try.prog .neq 4 t14 (.bool false)) fun b21 =>
    byT b21 (XW C lo x7_6 (kX (XW C lo x7_7 Q) Q) ((140, .bool true) :: (17, .bool b10) :: e) h15) (CW C 30 [E.get e 9, E.get e 13] lo h15 fun t22 h23 =>
    byV t22 (XW C lo x7_6 (kX (XW C lo x7_7 Q) Q) ((140, .bool true) :: (17, .bool b10) :: e) h23) (CW C 30 [E.get e 13, E.get e 9] lo h23 fun t24 h25 =>
    byV t24 (XW C lo x7_6 (kX (XW C lo x7_7 Q) Q) ((140, .bool true) :: (17, .bool b10) :: e) h25) (bd (lenV Try.prog [22] (E.get e 9)) fun t26 =>
    bd (lenV Try.prog [22] (E.get e 13)) fun t27 =>
    intX t26 fun k27 m27 => intX t27 fun _ n27 =>
    bdB (binV Try.prog .gtr 3 (.int k27 (if n27 > m27 then n27 else m27)) (.int .i64 128)) fun b29 =>
    byT b29 (XW C lo x7_6 (kX (XW C lo x7_7 Q) Q) ((140, .bool b29) :: (17, .bool b10) :: e) h25) (XW C lo .skip (kX (XW C lo x7_7 Q) Q) ((140, .bool b29) :: (17, .bool b10) :: e) h25)) (False)) (False)))) (bdB (binV Try.prog .neq 4 t14 (.bool false)) fun b16 =>
    byT b16 (XW C lo x7_6 (kX (XW C lo x7_7 Q) Q) ((140, .bool true) :: (17, .bool b10) :: e) h15) (CW C 30 [E.get e 9, E.get e 13] lo h15 fun t17 h18 =>
    byV t17 (XW C lo x7_6 (kX (XW C lo x7_7 Q) Q) ((140, .bool true) :: (17, .bool b10) :: e) h18) (CW C 30 [E.get e 13, E.get e 9] lo h18 fun t19 h20 =>
    byV t19 (XW C lo x7_6 (kX (XW C lo x7_7 Q) Q) ((140, .bool true) :: (17, .bool b10) :: e) h20) (bd (lenV Try.prog [22] (E.get e 9)) fun t21 =>
    bd (lenV Try.prog [22] (E.get e 13)) fun t22 =>
    intX t21 fun k22 m22 => intX t22 fun _ n22 =>
    bdB (binV Try.prog .gtr 3 (.int k22 (if n22 > m22 then n22 else m22)) (.int .i64 128)) fun b24 =>
    byT b24 (XW C lo x7_6 (kX (XW C lo x7_7 Q) Q) ((140, .bool b24) :: (17, .bool b10) :: e) h20) (XW C lo .skip (kX (XW C lo x7_7 Q) Q) ((140, .bool b24) :: (17, .bool b10) :: e) h20)) (False)) (False)))))) (CW C 30 [E.get e 9, E.get e 11] lo h fun t6 h7 =>
    bdB (binV Try.prog .neq 4 t6 (.bool false)) fun b8 =>
    byT b8 (XW C lo x7_6 (kX (XW C lo x7_7 Q) Q) ((140, .bool true) :: (17, .bool false) :: e) h7) (CW C 30 [E.get e 13, E.get e 15] lo h7 fun t9 h10 =>
    bdB (binV Try.prog .neq 4 t9 (.bool false)) fun b11 =>
    byT b11 (XW C lo x7_6 (kX (XW C lo x7_7 Q) Q) ((140, .bool true) :: (17, .bool false) :: e) h10) (CW C 30 [E.get e 9, E.get e 13] lo h10 fun t12 h13 =>
    byV t12 (XW C lo x7_6 (kX (XW C lo x7_7 Q) Q) ((140, .bool true) :: (17, .bool false) :: e) h13) (CW C 30 [E.get e 13, E.get e 9] lo h13 fun t14 h15 =>
    byV t14 (XW C lo x7_6 (kX (XW C lo x7_7 Q) Q) ((140, .bool true) :: (17, .bool false) :: e) h15) (bd (lenV Try.prog [22] (E.get e 9)) fun t16 =>
    bd (lenV Try.prog [22] (E.get e 13)) fun t17 =>
    intX t16 fun k17 m17 => intX t17 fun _ n17 =>
    bdB (binV Try.prog .gtr 3 (.int k17 (if n17 > m17 then n17 else m17)) (.int .i64 128)) fun b19 =>
    byT b19 (XW C lo x7_6 (kX (XW C lo x7_7 Q) Q) ((140, .bool b19) :: (17, .bool false) :: e) h15) (XW C lo .skip (kX (XW C lo x7_7 Q) Q) ((140, .bool b19) :: (17, .bool false) :: e) h15)) (False)) (False)))) := nrfl (by kernel_rfl)
theorem q7_1 {lo : Nat} {Q : XQ} {e : E} {h : H} : XW C lo x7_1 Q e h =
    byV (E.get e 80) (XW C lo x7_2 (kX (XW C lo x7_3 Q) Q) e h) (XW C lo .skip (kX (XW C lo x7_3 Q) Q) e h) False := nrfl (by kernel_rfl)
theorem q7_0 {lo : Nat} {Q : XQ} {e : E} {h : H} : XW C lo x7_0 Q e h =
    bd (fieldAddrV Try.prog 62 (.ptr (H.next (H.alloc (H.alloc h (V.cells (E.get e 0))) (V.cells (E.get e 1)))) 0) 0) fun t1 =>
    bd (loadV Try.prog 60 t1 (rdOf true (H.next (H.alloc (H.alloc (H.alloc h (V.cells (E.get e 0))) (V.cells (E.get e 1))) (V.cells (E.get e 2)))) (H.alloc (H.alloc (H.alloc h (V.cells (E.get e 0))) (V.cells (E.get e 1))) (V.cells (E.get e 2))))) fun t2 =>
    bd (fieldAddrV Try.prog 62 (.ptr (H.next (H.alloc (H.alloc h (V.cells (E.get e 0))) (V.cells (E.get e 1)))) 0) 1) fun t3 =>
    bd (loadV Try.prog 60 t3 (rdOf true (H.next (H.alloc (H.alloc (H.alloc h (V.cells (E.get e 0))) (V.cells (E.get e 1))) (V.cells (E.get e 2)))) (H.alloc (H.alloc (H.alloc h (V.cells (E.get e 0))) (V.cells (E.get e 1))) (V.cells (E.get e 2))))) fun t4 =>
    bd (zero? Try.prog 60) fun z5 =>
    bd (zero? Try.prog 60) fun z6 =>
    bd (storeV Try.prog (max lo (H.next (H.alloc (H.alloc (H.alloc h (V.cells (E.get e 0))) (V.cells (E.get e 1))) (V.cells (E.get e 2))))) 60 (.ptr (H.next (H.alloc (H.alloc (H.alloc h (V.cells (E.get e 0))) (V.cells (E.get e 1))) (V.cells (E.get e 2)))) 0) t2 (H.alloc (H.alloc (H.alloc (H.alloc (H.alloc h (V.cells (E.get e 0))) (V.cells (E.get e 1))) (V.cells (E.get e 2))) (V.cells z5)) (V.cells z6))) fun h7 =>
    bd (storeV Try.prog lo 60 (.ptr (H.next (H.alloc (H.alloc (H.alloc (H.alloc h (V.cells (E.get e 0))) (V.cells (E.get e 1))) (V.cells (E.get e 2))) (V.cells z5))) 0) t4 h7) fun h8 =>
    bd (fieldAddrV Try.prog 57 (.ptr (H.next h) 0) 0) fun t9 =>
    bd (loadV Try.prog 3 t9 (H.read h8)) fun t10 =>
    bd (fieldAddrV Try.prog 57 (.ptr (H.next h) 0) 2) fun t11 =>
    bd (loadV Try.prog 9 t11 (H.read h8)) fun t12 =>
    bd (loadV Try.prog 60 (.ptr (H.next (H.alloc (H.alloc (H.alloc h (V.cells (E.get e 0))) (V.cells (E.get e 1))) (V.cells (E.get e 2)))) 0) (H.read h8)) fun t13 =>
    CW C 28 [t10, t12, t13] lo h8 fun t14 h15 =>
    tupX t14 fun l16 => bd (l16[0]?) fun t17 =>
    tupX t14 fun l18 => bd (l18[1]?) fun t19 =>
    bd (fieldAddrV Try.prog 57 (.ptr (H.next (H.alloc h (V.cells (E.get e 0)))) 0) 0) fun t20 =>
    bd (loadV Try.prog 3 t20 (H.read h15)) fun t21 =>
    bd (fieldAddrV Try.prog 57 (.ptr (H.next (H.alloc h (V.cells (E.get e 0)))) 0) 2) fun t22 =>
    bd (loadV Try.prog 9 t22 (H.read h15)) fun t23 =>
    bd (loadV Try.prog 60 (.ptr (H.next (H.alloc (H.alloc (H.alloc (H.alloc h (V.cells (E.get e 0))) (V.cells (E.get e 1))) (V.cells (E.get e 2))) (V.cells z5))) 0) (H.read h15)) fun t24 =>
    CW C 28 [t21, t23, t24] lo h15 fun t25 h26 =>
    tupX t25 fun l27 => bd (l27[0]?) fun t28 =>
    tupX t25 fun l29 => bd (l29[1]?) fun t30 =>
    bd (fieldAddrV Try.prog 57 (.ptr (H.next h) 0) 0) fun t31 =>
    bd (loadV Try.prog 3 t31 (H.read h26)) fun t32 =>
    bd (fieldAddrV Try.prog 57 (.ptr (H.next h) 0) 2) fun t33 =>
    bd (loadV Try.prog 9 t33 (H.read h26)) fun t34 =>
    bd (fieldAddrV Try.prog 57 (.ptr (H.next h) 0) 3) fun t35 =>
    bd (loadV Try.prog 9 t35 (H.read h26)) fun t36 =>
    bd (loadV Try.prog 60 (.ptr (H.next (H.alloc (H.alloc (H.alloc h (V.cells (E.get e 0))) (V.cells (E.get e 1))) (V.cells (E.get e 2)))) 0) (H.read h26)) fun t37 =>
    CW C 29 [t32, t34, t36, t37] lo h26 fun t38 h39 =>
    tupX t38 fun l40 => bd (l40[0]?) fun t41 =>
    tupX t38 fun l42 => bd (l42[1]?) fun t43 =>
    bd (fieldAddrV Try.prog 57 (.ptr (H.next (H.alloc h (V.cells (E.get e 0)))) 0) 0) fun t44 =>
    bd (loadV Try.prog 3 t44 (H.read h39)) fun t45 =>
    bd (fieldAddrV Try.prog 57 (.ptr (H.next (H.alloc h (V.cells (E.get e 0)))) 0) 2) fun t46 =>
    bd (loadV Try.prog 9 t46 (H.read h39)) fun t47 =>
    bd (fieldAddrV Try.prog 57 (.ptr (H.next (H.alloc h (V.cells (E.get e 0)))) 0) 3) fun t48 =>
    bd (loadV Try.prog 9 t48 (H.read h39)) fun t49 =>
    bd (loadV Try.prog 60 (.ptr (H.next (H.alloc (H.alloc (H.alloc (H.alloc h (V.cells (E.get e 0))) (V.cells (E.get e 1))) (V.cells (E.get e 2))) (V.cells z5))) 0) (H.read h39)) fun t50 =>
    CW C 29 [t45, t47, t49, t50] lo h39 fun t51 h52 =>
    tupX t51 fun l53 => bd (l53[0]?) fun t54 =>
    tupX t51 fun l55 => bd (l55[1]?) fun t56 =>
    bdB (binV Try.prog .neq 27 t19 (.int .i64 0)) fun b57 =>
    byT b57 (XW C lo x7_2 (kX (XW C lo x7_3 Q) Q) ((80, .bool true) :: (15, t54) :: (16, t56) :: (13, t41) :: (14, t43) :: (11, t28) :: (12, t30) :: (9, t17) :: (10, t19) :: (7, .ptr (H.next (H.alloc (H.alloc (H.alloc h (V.cells (E.get e 0))) (V.cells (E.get e 1))) (V.cells (E.get e 2)))) 0) :: (8, .ptr (H.next (H.alloc (H.alloc (H.alloc (H.alloc h (V.cells (E.get e 0))) (V.cells (E.get e 1))) (V.cells (E.get e 2))) (V.cells z5))) 0) :: (3, .ptr (H.next h) 0) :: (4, .ptr (H.next (H.alloc h (V.cells (E.get e 0)))) 0) :: (5, .ptr (H.next (H.alloc (H.alloc h (V.cells (E.get e 0))) (V.cells (E.get e 1)))) 0) :: e) h52) (bdB (binV Try.prog .neq 27 t30 (.int .i64 0)) fun b58 =>
    byT b58 (XW C lo x7_2 (kX (XW C lo x7_3 Q) Q) ((80, .bool true) :: (15, t54) :: (16, t56) :: (13, t41) :: (14, t43) :: (11, t28) :: (12, t30) :: (9, t17) :: (10, t19) :: (7, .ptr (H.next (H.alloc (H.alloc (H.alloc h (V.cells (E.get e 0))) (V.cells (E.get e 1))) (V.cells (E.get e 2)))) 0) :: (8, .ptr (H.next (H.alloc (H.alloc (H.alloc (H.alloc h (V.cells (E.get e 0))) (V.cells (E.get e 1))) (V.cells (E.get e 2))) (V.cells z5))) 0) :: (3, .ptr (H.next h) 0) :: (4, .ptr (H.next (H.alloc h (V.cells (E.get e 0)))) 0) :: (5, .ptr (H.next (H.alloc (H.alloc h (V.cells (E.get e 0))) (V.cells (E.get e 1)))) 0) :: e) h52) (bdB (binV Try.prog .neq 27 t43 (.int .i64 0)) fun b59 =>
    byT b59 (XW C lo x7_2 (kX (XW C lo x7_3 Q) Q) ((80, .bool true) :: (15, t54) :: (16, t56) :: (13, t41) :: (14, t43) :: (11, t28) :: (12, t30) :: (9, t17) :: (10, t19) :: (7, .ptr (H.next (H.alloc (H.alloc (H.alloc h (V.cells (E.get e 0))) (V.cells (E.get e 1))) (V.cells (E.get e 2)))) 0) :: (8, .ptr (H.next (H.alloc (H.alloc (H.alloc (H.alloc h (V.cells (E.get e 0))) (V.cells (E.get e 1))) (V.cells (E.get e 2))) (V.cells z5))) 0) :: (3, .ptr (H.next h) 0) :: (4, .ptr (H.next (H.alloc h (V.cells (E.get e 0)))) 0) :: (5, .ptr (H.next (H.alloc (H.alloc h (V.cells (E.get e 0))) (V.cells (E.get e 1)))) 0) :: e) h52) (bdB (binV Try.prog .neq 27 t56 (.int .i64 0)) fun b60 =>
    byT b60 (XW C lo x7_2 (kX (XW C lo x7_3 Q) Q) ((80, .bool b60) :: (15, t54) :: (16, t56) :: (13, t41) :: (14, t43) :: (11, t28) :: (12, t30) :: (9, t17) :: (10, t19) :: (7, .ptr (H.next (H.alloc (H.alloc (H.alloc h (V.cells (E.get e 0))) (V.cells (E.get e 1))) (V.cells (E.get e 2)))) 0) :: (8, .ptr (H.next (H.alloc (H.alloc (H.alloc (H.alloc h (V.cells (E.get e 0))) (V.cells (E.get e 1))) (V.cells (E.get e 2))) (V.cells z5))) 0) :: (3, .ptr (H.next h) 0) :: (4, .ptr (H.next (H.alloc h (V.cells (E.get e 0)))) 0) :: (5, .ptr (H.next (H.alloc (H.alloc h (V.cells (E.get e 0))) (V.cells (E.get e 1)))) 0) :: e) h52) (XW C lo .skip (kX (XW C lo x7_3 Q) Q) ((80, .bool b60) :: (15, t54) :: (16, t56) :: (13, t41) :: (14, t43) :: (11, t28) :: (12, t30) :: (9, t17) :: (10, t19) :: (7, .ptr (H.next (H.alloc (H.alloc (H.alloc h (V.cells (E.get e 0))) (V.cells (E.get e 1))) (V.cells (E.get e 2)))) 0) :: (8, .ptr (H.next (H.alloc (H.alloc (H.alloc (H.alloc h (V.cells (E.get e 0))) (V.cells (E.get e 1))) (V.cells (E.get e 2))) (V.cells z5))) 0) :: (3, .ptr (H.next h) 0) :: (4, .ptr (H.next (H.alloc h (V.cells (E.get e 0)))) 0) :: (5, .ptr (H.next (H.alloc (H.alloc h (V.cells (E.get e 0))) (V.cells (E.get e 1)))) 0) :: e) h52)))) := nrfl (by kernel_rfl)

/-! ### chancery/cell.RowKey -/
def r28_0 : List SI := [⟨some 5, (.box 60 (.tmp 2)), none⟩,
  ⟨some 6, (.assign (.const (.slice none 0 0))), none⟩,
  ⟨some 7, (.assign (.const (.int .i64 0))), none⟩]
def r28_1 : List SI := [⟨some 11, (.move (.tmp 0)), none⟩,
  ⟨some 12, (.convert 3 5 (.tmp 11)), none⟩,
  ⟨some 13, (.buildSlice 22 2 #[(0, (.const (.int .u8 114))), (1, (.tmp 12))]), none⟩,
  ⟨some 14, (.move (.tmp 0)), none⟩,
  ⟨some 15, (.move (.tmp 1)), none⟩,
  ⟨some 16, (.buildSlice 72 1 #[(0, (.tmp 15))]), none⟩,
  ⟨some 17, (.call { callee := (.value (.func 56)), args := #[(.tmp 13), (.tmp 14), (.tmp 16)], argTypes := #[22, 3, 72] }), none⟩,
  ⟨some 10, (.move (.tmp 17)), none⟩,
  ⟨some 18, (.extract (.tmp 10) 0), none⟩,
  ⟨some 19, (.extract (.tmp 10) 1), none⟩,
  ⟨some 8, (.assign (.tmp 18)), none⟩,
  ⟨some 9, (.assign (.tmp 19)), none⟩]
def r28_2 : List SI := [⟨some 20, (.move (.tmp 8)), none⟩,
  ⟨some 21, (.move (.tmp 9)), none⟩,
  ⟨some 22, (.load 60 (.tmp 5)), none⟩,
  ⟨some 23, (.call { callee := (.value (.func 57)), args := #[(.tmp 20), (.tmp 21), (.tmp 22)], argTypes := #[22, 27, 60] }), none⟩,
  ⟨some 24, (.extract (.tmp 23) 0), none⟩,
  ⟨some 25, (.extract (.tmp 23) 1), none⟩,
  ⟨some 6, (.assign (.tmp 24)), none⟩,
  ⟨some 7, (.assign (.tmp 25)), none⟩]
def x28_0 : X := .ops r28_0 [5] (.ops r28_1 [8, 9] (.ops r28_2 [6, 7] .ret))
def n28 : Ann := .ops [5] (.ops [8, 9] (.ops [6, 7] .stop))
theorem ok28 : annFn Try.f28 3 n28 = some x28_0 := by kernel_rfl
noncomputable def kF28 (K : V → H → Prop) : XQ := kFnX C.P Try.f28.results.toList K
theorem e28_nx {K : V → H → Prop} {e : E} {h : H} : kF28 K .nx e h = K (.tup [E.get e 6, E.get e 7]) h := nrfl (by kernel_rfl)
theorem e28_rt {K : V → H → Prop} {e : E} {h : H} : kF28 K .rt e h = K (.tup [E.get e 6, E.get e 7]) h := nrfl (by kernel_rfl)
theorem enter28 {lo : Nat} {h : H} {vs : List V} {K : V → H → Prop} (hl : vs.length = 3) (hw : XW C lo x28_0 (kF28 K) (args 0 vs) h) : CW C 28 vs lo h K := by
  refine CW_X hS rfl Try.func28 ok28 hl ?_ hw
  rw [Try.ntmps28]
  decide
theorem q28_0 {lo : Nat} {Q : XQ} {e : E} {h : H} : XW C lo x28_0 Q e h =
    bd (convV Try.prog (H.read (H.alloc h (V.cells (E.get e 2)))) 3 5 (E.get e 0)) fun r1 => KX (H.alloc h (V.cells (E.get e 2))) (fun t2 h3 =>
    bd (buildSliceV Try.prog 22 2 [(0, .int .u8 114), (1, t2)]) fun r4 => KX h3 (fun t5 h6 =>
    bd (buildSliceV Try.prog 72 1 [(0, E.get e 1)]) fun r7 => KX h6 (fun t8 h9 =>
    CW C 56 [t5, E.get e 0, t8] lo h9 fun t10 h11 =>
    tupX t10 fun l12 => bd (l12[0]?) fun t13 =>
    tupX t10 fun l14 => bd (l14[1]?) fun t15 =>
    bd (loadV Try.prog 60 (.ptr (H.next h) 0) (H.read h11)) fun t16 =>
    CW C 57 [t13, t15, t16] lo h11 fun t17 h18 =>
    tupX t17 fun l19 => bd (l19[0]?) fun t20 =>
    tupX t17 fun l21 => bd (l21[1]?) fun t22 =>
    Q .rt ((6, t20) :: (7, t22) :: (8, t13) :: (9, t15) :: (5, .ptr (H.next h) 0) :: e) h18) r7) r4) r1 := nrfl (by kernel_rfl)

/-! ### chancery/cell.UniqueKey -/
def r29_0 : List SI := [⟨some 7, (.box 60 (.tmp 3)), none⟩,
  ⟨some 8, (.assign (.const (.slice none 0 0))), none⟩,
  ⟨some 9, (.assign (.const (.int .i64 0))), none⟩]
def r29_1 : List SI := [⟨some 13, (.move (.tmp 0)), none⟩,
  ⟨some 14, (.convert 3 5 (.tmp 13)), none⟩,
  ⟨some 15, (.buildSlice 22 2 #[(0, (.const (.int .u8 117))), (1, (.tmp 14))]), none⟩,
  ⟨some 16, (.move (.tmp 0)), none⟩,
  ⟨some 17, (.move (.tmp 1)), none⟩,
  ⟨some 18, (.move (.tmp 2)), none⟩,
  ⟨some 19, (.buildSlice 72 2 #[(0, (.tmp 17)), (1, (.tmp 18))]), none⟩,
  ⟨some 20, (.call { callee := (.value (.func 56)), args := #[(.tmp 15), (.tmp 16), (.tmp 19)], argTypes := #[22, 3, 72] }), none⟩,
  ⟨some 12, (.move (.tmp 20)), none⟩,
  ⟨some 21, (.extract (.tmp 12) 0), none⟩,
  ⟨some 22, (.extract (.tmp 12) 1), none⟩,
  ⟨some 10, (.assign (.tmp 21)), none⟩,
  ⟨some 11, (.assign (.tmp 22)), none⟩]
def r29_2 : List SI := [⟨some 23, (.move (.tmp 10)), none⟩,
  ⟨some 24, (.move (.tmp 11)), none⟩,
  ⟨some 25, (.load 60 (.tmp 7)), none⟩,
  ⟨some 26, (.call { callee := (.value (.func 57)), args := #[(.tmp 23), (.tmp 24), (.tmp 25)], argTypes := #[22, 27, 60] }), none⟩,
  ⟨some 27, (.extract (.tmp 26) 0), none⟩,
  ⟨some 28, (.extract (.tmp 26) 1), none⟩,
  ⟨some 8, (.assign (.tmp 27)), none⟩,
  ⟨some 9, (.assign (.tmp 28)), none⟩]
def x29_0 : X := .ops r29_0 [7] (.ops r29_1 [10, 11] (.ops r29_2 [8, 9] .ret))
def n29 : Ann := .ops [7] (.ops [10, 11] (.ops [8, 9] .stop))
theorem ok29 : annFn Try.f29 4 n29 = some x29_0 := by kernel_rfl
noncomputable def kF29 (K : V → H → Prop) : XQ := kFnX C.P Try.f29.results.toList K
theorem e29_nx {K : V → H → Prop} {e : E} {h : H} : kF29 K .nx e h = K (.tup [E.get e 8, E.get e 9]) h := nrfl (by kernel_rfl)
theorem e29_rt {K : V → H → Prop} {e : E} {h : H} : kF29 K .rt e h = K (.tup [E.get e 8, E.get e 9]) h := nrfl (by kernel_rfl)
theorem enter29 {lo : Nat} {h : H} {vs : List V} {K : V → H → Prop} (hl : vs.length = 4) (hw : XW C lo x29_0 (kF29 K) (args 0 vs) h) : CW C 29 vs lo h K := by
  refine CW_X hS rfl Try.func29 ok29 hl ?_ hw
  rw [Try.ntmps29]
  decide
theorem q29_0 {lo : Nat} {Q : XQ} {e : E} {h : H} : XW C lo x29_0 Q e h =
    bd (convV Try.prog (H.read (H.alloc h (V.cells (E.get e 3)))) 3 5 (E.get e 0)) fun r1 => KX (H.alloc h (V.cells (E.get e 3))) (fun t2 h3 =>
    bd (buildSliceV Try.prog 22 2 [(0, .int .u8 117), (1, t2)]) fun r4 => KX h3 (fun t5 h6 =>
    bd (buildSliceV Try.prog 72 2 [(0, E.get e 1), (1, E.get e 2)]) fun r7 => KX h6 (fun t8 h9 =>
    CW C 56 [t5, E.get e 0, t8] lo h9 fun t10 h11 =>
    tupX t10 fun l12 => bd (l12[0]?) fun t13 =>
    tupX t10 fun l14 => bd (l14[1]?) fun t15 =>
    bd (loadV Try.prog 60 (.ptr (H.next h) 0) (H.read h11)) fun t16 =>
    CW C 57 [t13, t15, t16] lo h11 fun t17 h18 =>
    tupX t17 fun l19 => bd (l19[0]?) fun t20 =>
    tupX t17 fun l21 => bd (l21[1]?) fun t22 =>
    Q .rt ((8, t20) :: (9, t22) :: (10, t13) :: (11, t15) :: (7, .ptr (H.next h) 0) :: e) h18) r7) r4) r1 := nrfl (by kernel_rfl)

/-! ### chancery/cell.Rows -/
def r31_0 : List SI := [⟨some 4, (.assign (.const (.slice none 0 0))), none⟩,
  ⟨some 5, (.assign (.const (.slice none 0 0))), none⟩,
  ⟨some 6, (.assign (.const (.int .i64 0))), none⟩]
def r31_1 : List SI := [⟨some 11, (.move (.tmp 0)), none⟩,
  ⟨some 12, (.convert 3 5 (.tmp 11)), none⟩,
  ⟨some 13, (.buildSlice 22 2 #[(0, (.const (.int .u8 114))), (1, (.tmp 12))]), none⟩,
  ⟨some 14, (.move (.tmp 0)), none⟩,
  ⟨some 15, (.move (.tmp 1)), none⟩,
  ⟨some 16, (.buildSlice 72 1 #[(0, (.tmp 15))]), none⟩,
  ⟨some 17, (.call { callee := (.value (.func 56)), args := #[(.tmp 13), (.tmp 14), (.tmp 16)], argTypes := #[22, 3, 72] }), none⟩,
  ⟨some 10, (.move (.tmp 17)), none⟩,
  ⟨some 18, (.extract (.tmp 10) 0), none⟩,
  ⟨some 19, (.extract (.tmp 10) 1), none⟩,
  ⟨some 7, (.assign (.tmp 18)), none⟩,
  ⟨some 8, (.assign (.tmp 19)), none⟩]
def r31_2 : List SI := [⟨some 20, (.move (.tmp 8)), none⟩,
  ⟨some 21, (.binOp .neq 27 (.tmp 20) (.const (.int .i64 0)) 27), none⟩]
def r31_3 : List SI := [⟨some 22, (.move (.tmp 8)), none⟩,
  ⟨some 4, (.assign (.const (.slice none 0 0))), none⟩,
  ⟨some 5, (.assign (.const (.slice none 0 0))), none⟩,
  ⟨some 6, (.assign (.tmp 22)), none⟩]
def x31_1 : X := .ops r31_3 [4, 5, 6] .ret
def r31_4 : List SI := [⟨some 23, (.move (.tmp 7)), none⟩,
  ⟨some 24, (.call { callee := (.value (.func 47)), args := #[(.tmp 23)], argTypes := #[22] }), none⟩,
  ⟨some 9, (.assign (.tmp 24)), none⟩]
def r31_5 : List SI := [⟨some 25, (.move (.tmp 9)), none⟩,
  ⟨some 26, (.move (.tmp 9)), none⟩,
  ⟨some 27, (.call { callee := (.builtin .len), args := #[(.tmp 26)], argTypes := #[22] }), none⟩,
  ⟨some 28, (.binOp .sub 3 (.tmp 27) (.const (.int .i64 1)) 3), none⟩,
  ⟨some 29, (.indexAddr 22 (.tmp 25) (.tmp 28)), none⟩,
  ⟨none, (.store 5 (.tmp 29) (.const (.int .u8 1))), none⟩]
def r31_6 : List SI := [⟨some 30, (.move (.tmp 7)), none⟩,
  ⟨some 31, (.move (.tmp 9)), none⟩,
  ⟨some 4, (.assign (.tmp 30)), none⟩,
  ⟨some 5, (.assign (.tmp 31)), none⟩,
  ⟨some 6, (.assign (.const (.int .i64 0))), none⟩]
def x31_2 : X := .ops r31_4 [9] (.ops r31_5 [] (.ops r31_6 [4, 5, 6] .ret))
def x31_0 : X := .ops r31_0 [] (.ops r31_1 [7, 8] (.ops r31_2 [21] (.cond (.tmp 21) x31_1 .skip x31_2)))
def n31 : Ann := .ops [] (.ops [7, 8] (.ops [21] (.cond (.ops [4, 5, 6] .stop) .stop (.ops [9] (.ops [] (.ops [4, 5, 6] .stop))))))
theorem ok31 : annFn Try.f31 2 n31 = some x31_0 := by kernel_rfl
noncomputable def kF31 (K : V → H → Prop) : XQ := kFnX C.P Try.f31.results.toList K
theorem e31_nx {K : V → H → Prop} {e : E} {h : H} : kF31 K .nx e h = K (.tup [E.get e 4, E.get e 5, E.get e 6]) h := nrfl (by kernel_rfl)
theorem e31_rt {K : V → H → Prop} {e : E} {h : H} : kF31 K .rt e h = K (.tup [E.get e 4, E.get e 5, E.get e 6]) h := nrfl (by kernel_rfl)
theorem enter31 {lo : Nat} {h : H} {vs : List V} {K : V → H → Prop} (hl : vs.length = 2) (hw : XW C lo x31_0 (kF31 K) (args 0 vs) h) : CW C 31 vs lo h K := by
  refine CW_X hS rfl Try.func31 ok31 hl ?_ hw
  rw [Try.ntmps31]
  decide
theorem q31_1 {lo : Nat} {Q : XQ} {e : E} {h : H} : XW C lo x31_1 Q e h =
    Q .rt ((4, .nils) :: (5, .nils) :: (6, E.get e 8) :: e) h := nrfl (by kernel_rfl)
theorem q31_2 {lo : Nat} {Q : XQ} {e : E} {h : H} : XW C lo x31_2 Q e h =
    CW C 47 [E.get e 7] lo h fun t1 h2 =>
    bd (lenV Try.prog [22] t1) fun t3 =>
    bd (binV Try.prog .sub 3 t3 (.int .i64 1)) fun t4 =>
    bd (addrV Try.prog 22 t1 t4) fun t5 =>
    bd (storeV Try.prog lo 5 t5 (.int .u8 1) h2) fun h6 =>
    Q .rt ((4, E.get e 7) :: (5, t1) :: (6, .int .i64 0) :: (9, t1) :: e) h6 := nrfl (by kernel_rfl)
theorem q31_0 {lo : Nat} {Q : XQ} {e : E} {h : H} : XW C lo x31_0 Q e h =
    bd (convV Try.prog (H.read h) 3 5 (E.get e 0)) fun r1 => KX h (fun t2 h3 =>
    bd (buildSliceV Try.prog 22 2 [(0, .int .u8 114), (1, t2)]) fun r4 => KX h3 (fun t5 h6 =>
    bd (buildSliceV Try.prog 72 1 [(0, E.get e 1)]) fun r7 => KX h6 (fun t8 h9 =>
    CW C 56 [t5, E.get e 0, t8] lo h9 fun t10 h11 =>
    tupX t10 fun l12 => bd (l12[0]?) fun t13 =>
    tupX t10 fun l14 => bd (l14[1]?) fun t15 =>
    bdB (binV Try.prog .neq 27 t15 (.int .i64 0)) fun b16 =>
    byT b16 (XW C lo x31_1 (kX (XW C lo x31_2 Q) Q) ((21, .bool b16) :: (7, t13) :: (8, t15) :: e) h11) (XW C lo .skip (kX (XW C lo x31_2 Q) Q) ((21, .bool b16) :: (7, t13) :: (8, t15) :: e) h11)) r7) r4) r1 := nrfl (by kernel_rfl)

/-! ### chancery/cell.place -/
def r56_0 : List SI := [⟨some 6, (.assign (.const (.slice none 0 0))), none⟩,
  ⟨some 7, (.assign (.const (.int .i64 0))), none⟩]
def r56_1 : List SI := [⟨some 10, (.move (.tmp 1)), none⟩,
  ⟨some 11, (.call { callee := (.value (.func 73)), args := #[(.tmp 10)], argTypes := #[3] }), none⟩,
  ⟨some 12, (.unOp .not 4 (.tmp 11)), none⟩]
def r56_2 : List SI := [⟨some 6, (.assign (.const (.slice none 0 0))), none⟩,
  ⟨some 7, (.assign (.const (.int .i64 2))), none⟩]
def x56_1 : X := .ops r56_2 [6, 7] .ret
def r56_3 : List SI := [⟨some 13, (.move (.tmp 2)), none⟩,
  ⟨some 14, (.call { callee := (.builtin .len), args := #[(.tmp 13)], argTypes := #[72] }), none⟩,
  ⟨some 15, (.move (.const (.int .i64 0))), none⟩]
def r56_4 : List SI := [⟨some 16, (.binOp .lss 3 (.tmp 15) (.tmp 14) 3), none⟩]
def r56_5 : List SI := [⟨some 17, (.indexAddr 72 (.tmp 13) (.tmp 15)), none⟩,
  ⟨some 18, (.load 9 (.tmp 17)), none⟩,
  ⟨some 9, (.assign (.tmp 18)), none⟩]
def r56_6 : List SI := [⟨some 19, (.move (.tmp 9)), none⟩,
  ⟨some 20, (.call { callee := (.value (.func 74)), args := #[(.tmp 19)], argTypes := #[9] }), none⟩,
  ⟨some 21, (.unOp .not 4 (.tmp 20)), none⟩]
def r56_7 : List SI := [⟨some 6, (.assign (.const (.slice none 0 0))), none⟩,
  ⟨some 7, (.assign (.const (.int .i64 2))), none⟩]
def x56_7 : X := .ops r56_7 [6, 7] .ret
def r56_8 : List SI := [⟨some 22, (.move (.tmp 0)), none⟩,
  ⟨some 23, (.move (.tmp 9)), none⟩,
  ⟨some 24, (.call { callee := (.builtin .append), args := #[(.tmp 22), (.tmp 23)], argTypes := #[22, 9] }), none⟩,
  ⟨some 25, (.buildSlice 22 1 #[(0, (.const (.int .u8 0)))]), none⟩,
  ⟨some 26, (.call { callee := (.builtin .append), args := #[(.tmp 24), (.tmp 25)], argTypes := #[22, 22] }), none⟩,
  ⟨some 0, (.assign (.tmp 26)), none⟩]
def x56_8 : X := .ops r56_8 [0] .skip
def x56_6 : X := .ops r56_5 [9] (.ops r56_6 [21] (.cond (.tmp 21) x56_7 .skip x56_8))
def r56_9 : List SI := [⟨some 27, (.binOp .add 3 (.tmp 15) (.const (.int .i64 1)) 3), none⟩,
  ⟨some 15, (.move (.tmp 27)), none⟩]
def x56_9 : X := .trim [0, 13, 14, 15] (.ops r56_9 [15] .skip)
def x56_5 : X := .block 1 x56_6 x56_9
def x56_4 : X := .ops r56_4 [16] (.cond (.tmp 16) .skip (.exit 0) x56_5)
def x56_3 : X := .loop [0, 13, 14, 15] x56_4
def r56_10 : List SI := [⟨some 28, (.move (.tmp 0)), none⟩,
  ⟨some 6, (.assign (.tmp 28)), none⟩,
  ⟨some 7, (.assign (.const (.int .i64 0))), none⟩]
def x56_10 : X := .trim [0] (.ops r56_10 [6, 7] .ret)
def x56_2 : X := .ops r56_3 [13, 14, 15] (.block 0 x56_3 x56_10)
def x56_0 : X := .ops r56_0 [] (.ops r56_1 [12] (.cond (.tmp 12) x56_1 .skip x56_2))
def n56 : Ann := .ops [] (.ops [12] (.cond (.ops [6, 7] .stop) .stop (.ops [13, 14, 15] (.block [0] (.loop [0, 13, 14, 15] (.ops [16] (.cond .stop .stop (.block [0, 13, 14, 15] (.ops [9] (.ops [21] (.cond (.ops [6, 7] .stop) .stop (.ops [0] .stop)))) (.trim [0, 13, 14, 15] (.ops [15] .stop)))))) (.trim [0] (.ops [6, 7] .stop))))))
theorem ok56 : annFn Try.f56 3 n56 = some x56_0 := by kernel_rfl
noncomputable def kF56 (K : V → H → Prop) : XQ := kFnX C.P Try.f56.results.toList K
theorem e56_nx {K : V → H → Prop} {e : E} {h : H} : kF56 K .nx e h = K (.tup [E.get e 6, E.get e 7]) h := nrfl (by kernel_rfl)
theorem e56_rt {K : V → H → Prop} {e : E} {h : H} : kF56 K .rt e h = K (.tup [E.get e 6, E.get e 7]) h := nrfl (by kernel_rfl)
theorem enter56 {lo : Nat} {h : H} {vs : List V} {K : V → H → Prop} (hl : vs.length = 3) (hw : XW C lo x56_0 (kF56 K) (args 0 vs) h) : CW C 56 vs lo h K := by
  refine CW_X hS rfl Try.func56 ok56 hl ?_ hw
  rw [Try.ntmps56]
  decide
theorem q56_1 {lo : Nat} {Q : XQ} {e : E} {h : H} : XW C lo x56_1 Q e h =
    Q .rt ((6, .nils) :: (7, .int .i64 2) :: e) h := nrfl (by kernel_rfl)
theorem q56_7 {lo : Nat} {Q : XQ} {e : E} {h : H} : XW C lo x56_7 Q e h =
    Q .rt ((6, .nils) :: (7, .int .i64 2) :: e) h := nrfl (by kernel_rfl)
theorem q56_8 {lo : Nat} {Q : XQ} {e : E} {h : H} : XW C lo x56_8 Q e h =
    bd2 (appendV Try.prog lo [22, 9] (E.get e 0) (E.get e 9) h) fun t1 h2 =>
    bd (buildSliceV Try.prog 22 1 [(0, .int .u8 0)]) fun r3 => KX h2 (fun t4 h5 =>
    bd2 (appendV Try.prog lo [22, 22] t1 t4 h5) fun t6 h7 =>
    Q .nx ((0, t6) :: e) h7) r3 := nrfl (by kernel_rfl)
theorem q56_6 {lo : Nat} {Q : XQ} {e : E} {h : H} : XW C lo x56_6 Q e h =
    bd (addrV Try.prog 72 (E.get e 13) (E.get e 15)) fun t1 =>
    bd (loadV Try.prog 9 t1 (H.read h)) fun t2 =>
    CW C 74 [t2] lo h fun t3 h4 =>
    bd (unV .not t3) fun t5 =>
    byV t5 (XW C lo x56_7 (kX (XW C lo x56_8 Q) Q) ((21, t5) :: (9, t2) :: e) h4) (XW C lo .skip (kX (XW C lo x56_8 Q) Q) ((21, t5) :: (9, t2) :: e) h4) False := nrfl (by kernel_rfl)
theorem q56_9 {lo : Nat} {Q : XQ} {e : E} {h : H} : XW C lo x56_9 Q e h =
    bd (binV Try.prog .add 3 (E.get e 15) (.int .i64 1)) fun t1 =>
    Q .nx [(15, t1), (0, E.get e 0), (13, E.get e 13), (14, E.get e 14), (15, E.get e 15)] h := nrfl (by kernel_rfl)
theorem q56_5 {lo : Nat} {Q : XQ} {e : E} {h : H} : XW C lo x56_5 Q e h =
    XW C lo x56_6 (kXB 1 (XW C lo x56_9 Q) Q) e h := nrfl (by kernel_rfl)
theorem q56_4 {lo : Nat} {Q : XQ} {e : E} {h : H} : XW C lo x56_4 Q e h =
    bdB (binV Try.prog .lss 3 (E.get e 15) (E.get e 14)) fun b1 =>
    byT b1 (XW C lo .skip (kX (XW C lo x56_5 Q) Q) ((16, .bool b1) :: e) h) (XW C lo (.exit 0) (kX (XW C lo x56_5 Q) Q) ((16, .bool b1) :: e) h) := nrfl (by kernel_rfl)
theorem q56_3 {lo : Nat} {Q : XQ} {e : E} {h : H} : XW C lo x56_3 Q e h =
    ∃ n, loopX [0, 13, 14, 15] (XW C lo x56_4) Q n e h := nrfl (by kernel_rfl)
theorem q56_10 {lo : Nat} {Q : XQ} {e : E} {h : H} : XW C lo x56_10 Q e h =
    Q .rt [(6, E.get e 0), (7, .int .i64 0), (0, E.get e 0)] h := nrfl (by kernel_rfl)
theorem q56_2 {lo : Nat} {Q : XQ} {e : E} {h : H} : XW C lo x56_2 Q e h =
    bd (lenV Try.prog [72] (E.get e 2)) fun t1 =>
    XW C lo x56_3 (kXB 0 (XW C lo x56_10 Q) Q) ((13, E.get e 2) :: (14, t1) :: (15, .int .i64 0) :: e) h := nrfl (by kernel_rfl)
theorem q56_0 {lo : Nat} {Q : XQ} {e : E} {h : H} : XW C lo x56_0 Q e h =
    CW C 73 [E.get e 1] lo h fun t1 h2 =>
    bd (unV .not t1) fun t3 =>
    byV t3 (XW C lo x56_1 (kX (XW C lo x56_2 Q) Q) ((12, t3) :: e) h2) (XW C lo .skip (kX (XW C lo x56_2 Q) Q) ((12, t3) :: e) h2) False := nrfl (by kernel_rfl)

/-! ### chancery/cell.keyed -/
def r57_0 : List SI := [⟨some 5, (.box 60 (.tmp 2)), none⟩,
  ⟨some 6, (.assign (.const (.slice none 0 0))), none⟩,
  ⟨some 7, (.assign (.const (.int .i64 0))), none⟩]
def r57_1 : List SI := [⟨some 9, (.move (.tmp 1)), none⟩,
  ⟨some 10, (.binOp .neq 27 (.tmp 9) (.const (.int .i64 0)) 27), none⟩]
def r57_2 : List SI := [⟨some 11, (.move (.tmp 1)), none⟩,
  ⟨some 6, (.assign (.const (.slice none 0 0))), none⟩,
  ⟨some 7, (.assign (.tmp 11)), none⟩]
def x57_1 : X := .ops r57_2 [6, 7] .ret
def r57_3 : List SI := [⟨some 13, (.load 60 (.tmp 5)), none⟩,
  ⟨some 14, (.call { callee := (.value (.func 33)), args := #[(.tmp 13)], argTypes := #[60] }), none⟩,
  ⟨some 12, (.move (.tmp 14)), none⟩,
  ⟨some 15, (.extract (.tmp 12) 0), none⟩,
  ⟨some 16, (.extract (.tmp 12) 1), none⟩,
  ⟨some 8, (.assign (.tmp 15)), none⟩,
  ⟨some 1, (.assign (.tmp 16)), none⟩]
def r57_4 : List SI := [⟨some 17, (.move (.tmp 1)), none⟩,
  ⟨some 18, (.binOp .neq 27 (.tmp 17) (.const (.int .i64 0)) 27), none⟩]
def r57_5 : List SI := [⟨some 19, (.move (.tmp 1)), none⟩,
  ⟨some 6, (.assign (.const (.slice none 0 0))), none⟩,
  ⟨some 7, (.assign (.tmp 19)), none⟩]
def x57_3 : X := .ops r57_5 [6, 7] .ret
def r57_6 : List SI := [⟨some 20, (.move (.tmp 0)), none⟩,
  ⟨some 21, (.move (.tmp 8)), none⟩,
  ⟨some 22, (.call { callee := (.builtin .append), args := #[(.tmp 20), (.tmp 21)], argTypes := #[22, 22] }), none⟩,
  ⟨some 6, (.assign (.tmp 22)), none⟩,
  ⟨some 7, (.assign (.const (.int .i64 0))), none⟩]
def x57_4 : X := .ops r57_6 [6, 7] .ret
def x57_2 : X := .ops r57_3 [1, 8] (.ops r57_4 [18] (.cond (.tmp 18) x57_3 .skip x57_4))
def x57_0 : X := .ops r57_0 [5] (.ops r57_1 [10] (.cond (.tmp 10) x57_1 .skip x57_2))
def n57 : Ann := .ops [5] (.ops [10] (.cond (.ops [6, 7] .stop) .stop (.ops [1, 8] (.ops [18] (.cond (.ops [6, 7] .stop) .stop (.ops [6, 7] .stop))))))
theorem ok57 : annFn Try.f57 3 n57 = some x57_0 := by kernel_rfl
noncomputable def kF57 (K : V → H → Prop) : XQ := kFnX C.P Try.f57.results.toList K
theorem e57_nx {K : V → H → Prop} {e : E} {h : H} : kF57 K .nx e h = K (.tup [E.get e 6, E.get e 7]) h := nrfl (by kernel_rfl)
theorem e57_rt {K : V → H → Prop} {e : E} {h : H} : kF57 K .rt e h = K (.tup [E.get e 6, E.get e 7]) h := nrfl (by kernel_rfl)
theorem enter57 {lo : Nat} {h : H} {vs : List V} {K : V → H → Prop} (hl : vs.length = 3) (hw : XW C lo x57_0 (kF57 K) (args 0 vs) h) : CW C 57 vs lo h K := by
  refine CW_X hS rfl Try.func57 ok57 hl ?_ hw
  rw [Try.ntmps57]
  decide
theorem q57_1 {lo : Nat} {Q : XQ} {e : E} {h : H} : XW C lo x57_1 Q e h =
    Q .rt ((6, .nils) :: (7, E.get e 1) :: e) h := nrfl (by kernel_rfl)
theorem q57_3 {lo : Nat} {Q : XQ} {e : E} {h : H} : XW C lo x57_3 Q e h =
    Q .rt ((6, .nils) :: (7, E.get e 1) :: e) h := nrfl (by kernel_rfl)
theorem q57_4 {lo : Nat} {Q : XQ} {e : E} {h : H} : XW C lo x57_4 Q e h =
    bd2 (appendV Try.prog lo [22, 22] (E.get e 0) (E.get e 8) h) fun t1 h2 =>
    Q .rt ((6, t1) :: (7, .int .i64 0) :: e) h2 := nrfl (by kernel_rfl)
theorem q57_2 {lo : Nat} {Q : XQ} {e : E} {h : H} : XW C lo x57_2 Q e h =
    bd (loadV Try.prog 60 (E.get e 5) (H.read h)) fun t1 =>
    CW C 33 [t1] lo h fun t2 h3 =>
    tupX t2 fun l4 => bd (l4[0]?) fun t5 =>
    tupX t2 fun l6 => bd (l6[1]?) fun t7 =>
    bdB (binV Try.prog .neq 27 t7 (.int .i64 0)) fun b8 =>
    byT b8 (XW C lo x57_3 (kX (XW C lo x57_4 Q) Q) ((18, .bool b8) :: (1, t7) :: (8, t5) :: e) h3) (XW C lo .skip (kX (XW C lo x57_4 Q) Q) ((18, .bool b8) :: (1, t7) :: (8, t5) :: e) h3) := nrfl (by kernel_rfl)
theorem q57_0 {lo : Nat} {Q : XQ} {e : E} {h : H} : XW C lo x57_0 Q e h =
    bdB (binV Try.prog .neq 27 (E.get e 1) (.int .i64 0)) fun b1 =>
    byT b1 (XW C lo x57_1 (kX (XW C lo x57_2 Q) Q) ((10, .bool b1) :: (5, .ptr (H.next h) 0) :: e) (H.alloc h (V.cells (E.get e 2)))) (XW C lo .skip (kX (XW C lo x57_2 Q) Q) ((10, .bool b1) :: (5, .ptr (H.next h) 0) :: e) (H.alloc h (V.cells (E.get e 2)))) := nrfl (by kernel_rfl)

/-! ### chancery/cell.tenanted -/
def r73_0 : List SI := [⟨some 2, (.assign (.const (.bool false))), none⟩]
def r73_1 : List SI := [⟨some 3, (.move (.tmp 0)), none⟩,
  ⟨some 4, (.binOp .geq 3 (.tmp 3) (.const (.int .i64 0)) 3), none⟩,
  ⟨some 5, (.move (.tmp 4)), none⟩,
  ⟨some 6, (.move (.tmp 0)), some (some 5, true)⟩,
  ⟨some 7, (.binOp .lss 3 (.tmp 6) (.const (.int .i64 4)) 3), some (some 5, true)⟩,
  ⟨some 8, (.pick (.tmp 5) (.tmp 7) (.const (.bool false))), none⟩,
  ⟨some 2, (.assign (.tmp 8)), none⟩]
def x73_0 : X := .ops r73_0 [] (.ops r73_1 [2] .ret)
def n73 : Ann := .ops [] (.ops [2] .stop)
theorem ok73 : annFn Try.f73 1 n73 = some x73_0 := by kernel_rfl
noncomputable def kF73 (K : V → H → Prop) : XQ := kFnX C.P Try.f73.results.toList K
theorem e73_nx {K : V → H → Prop} {e : E} {h : H} : kF73 K .nx e h = K (E.get e 2) h := nrfl (by kernel_rfl)
theorem e73_rt {K : V → H → Prop} {e : E} {h : H} : kF73 K .rt e h = K (E.get e 2) h := nrfl (by kernel_rfl)
theorem enter73 {lo : Nat} {h : H} {vs : List V} {K : V → H → Prop} (hl : vs.length = 1) (hw : XW C lo x73_0 (kF73 K) (args 0 vs) h) : CW C 73 vs lo h K := by
  refine CW_X hS rfl Try.func73 ok73 hl ?_ hw
  rw [Try.ntmps73]
  decide
theorem q73_0 {lo : Nat} {Q : XQ} {e : E} {h : H} : XW C lo x73_0 Q e h =
    bdB (binV Try.prog .geq 3 (E.get e 0) (.int .i64 0)) fun b1 =>
    byT b1 (bdB (binV Try.prog .lss 3 (E.get e 0) (.int .i64 4)) fun b2 =>
    Q .rt ((2, .bool b2) :: e) h) (Q .rt ((2, .bool false) :: e) h) := nrfl (by kernel_rfl)

/-! ### chancery/cell.named -/
def r74_0 : List SI := [⟨some 2, (.assign (.const (.bool false))), none⟩]
def r74_1 : List SI := [⟨some 5, (.move (.tmp 0)), none⟩,
  ⟨some 6, (.call { callee := (.builtin .len), args := #[(.tmp 5)], argTypes := #[9] }), none⟩,
  ⟨some 7, (.move (.const (.int .i64 0))), none⟩]
def r74_2 : List SI := [⟨some 8, (.binOp .lss 3 (.tmp 7) (.tmp 6) 3), none⟩]
def r74_3 : List SI := [⟨some 9, (.move (.tmp 7)), none⟩,
  ⟨some 3, (.assign (.tmp 9)), none⟩]
def r74_4 : List SI := [⟨some 10, (.move (.tmp 0)), none⟩,
  ⟨some 11, (.move (.tmp 3)), none⟩,
  ⟨some 12, (.index 9 (.tmp 10) (.tmp 11)), none⟩,
  ⟨some 4, (.assign (.tmp 12)), none⟩]
def r74_5 : List SI := [⟨some 13, (.move (.tmp 4)), none⟩,
  ⟨some 14, (.binOp .neq 5 (.tmp 13) (.const (.int .u8 95)) 5), none⟩,
  ⟨some 15, (.move (.tmp 14)), none⟩,
  ⟨some 16, (.move (.tmp 4)), some (some 15, true)⟩,
  ⟨some 17, (.binOp .lss 5 (.tmp 16) (.const (.int .u8 97)) 5), some (some 15, true)⟩,
  ⟨some 18, (.move (.tmp 17)), some (some 15, true)⟩,
  ⟨some 19, (.move (.tmp 4)), some (some 18, false)⟩,
  ⟨some 20, (.binOp .gtr 5 (.tmp 19) (.const (.int .u8 122)) 5), some (some 18, false)⟩,
  ⟨some 21, (.pick (.tmp 18) (.const (.bool true)) (.tmp 20)), some (some 15, true)⟩,
  ⟨some 22, (.pick (.tmp 15) (.tmp 21) (.const (.bool false))), none⟩,
  ⟨some 23, (.move (.tmp 22)), none⟩,
  ⟨some 24, (.move (.tmp 3)), some (some 23, true)⟩,
  ⟨some 25, (.binOp .eql 3 (.tmp 24) (.const (.int .i64 0)) 3), some (some 23, true)⟩,
  ⟨some 26, (.move (.tmp 25)), some (some 23, true)⟩,
  ⟨some 27, (.move (.tmp 4)), some (some 26, false)⟩,
  ⟨some 28, (.binOp .lss 5 (.tmp 27) (.const (.int .u8 48)) 5), some (some 26, false)⟩,
  ⟨some 29, (.pick (.tmp 26) (.const (.bool true)) (.tmp 28)), some (some 23, true)⟩,
  ⟨some 30, (.move (.tmp 29)), some (some 23, true)⟩,
  ⟨some 31, (.move (.tmp 4)), some (some 30, false)⟩,
  ⟨some 32, (.binOp .gtr 5 (.tmp 31) (.const (.int .u8 57)) 5), some (some 30, false)⟩,
  ⟨some 33, (.pick (.tmp 30) (.const (.bool true)) (.tmp 32)), some (some 23, true)⟩,
  ⟨some 34, (.pick (.tmp 23) (.tmp 33) (.const (.bool false))), none⟩]
def r74_6 : List SI := [⟨some 2, (.assign (.const (.bool false))), none⟩]
def x74_6 : X := .ops r74_6 [2] .ret
def x74_5 : X := .cond (.tmp 34) x74_6 .skip .skip
def x74_4 : X := .ops r74_3 [3] (.ops r74_4 [4] (.ops r74_5 [34] x74_5))
def r74_7 : List SI := [⟨some 35, (.binOp .add 3 (.tmp 7) (.const (.int .i64 1)) 3), none⟩,
  ⟨some 7, (.move (.tmp 35)), none⟩]
def x74_7 : X := .trim [0, 6, 7] (.ops r74_7 [7] .skip)
def x74_3 : X := .block 1 x74_4 x74_7
def x74_2 : X := .ops r74_2 [8] (.cond (.tmp 8) .skip (.exit 0) x74_3)
def x74_1 : X := .loop [0, 6, 7] x74_2
def r74_8 : List SI := [⟨some 36, (.move (.tmp 0)), none⟩,
  ⟨some 37, (.call { callee := (.builtin .len), args := #[(.tmp 36)], argTypes := #[9] }), none⟩,
  ⟨some 38, (.binOp .gtr 3 (.tmp 37) (.const (.int .i64 0)) 3), none⟩,
  ⟨some 39, (.move (.tmp 38)), none⟩,
  ⟨some 40, (.move (.tmp 0)), some (some 39, true)⟩,
  ⟨some 41, (.call { callee := (.builtin .len), args := #[(.tmp 40)], argTypes := #[9] }), some (some 39, true)⟩,
  ⟨some 42, (.binOp .leq 3 (.tmp 41) (.const (.int .i64 24)) 3), some (some 39, true)⟩,
  ⟨some 43, (.pick (.tmp 39) (.tmp 42) (.const (.bool false))), none⟩,
  ⟨some 2, (.assign (.tmp 43)), none⟩]
def x74_8 : X := .trim [0] (.ops r74_8 [2] .ret)
def x74_0 : X := .ops r74_0 [] (.ops r74_1 [6, 7] (.block 0 x74_1 x74_8))
def n74 : Ann := .ops [] (.ops [6, 7] (.block [0] (.loop [0, 6, 7] (.ops [8] (.cond .stop .stop (.block [0, 6, 7] (.ops [3] (.ops [4] (.ops [34] (.cond (.ops [2] .stop) .stop .stop)))) (.trim [0, 6, 7] (.ops [7] .stop)))))) (.trim [0] (.ops [2] .stop))))
theorem ok74 : annFn Try.f74 1 n74 = some x74_0 := by kernel_rfl
noncomputable def kF74 (K : V → H → Prop) : XQ := kFnX C.P Try.f74.results.toList K
theorem e74_nx {K : V → H → Prop} {e : E} {h : H} : kF74 K .nx e h = K (E.get e 2) h := nrfl (by kernel_rfl)
theorem e74_rt {K : V → H → Prop} {e : E} {h : H} : kF74 K .rt e h = K (E.get e 2) h := nrfl (by kernel_rfl)
theorem enter74 {lo : Nat} {h : H} {vs : List V} {K : V → H → Prop} (hl : vs.length = 1) (hw : XW C lo x74_0 (kF74 K) (args 0 vs) h) : CW C 74 vs lo h K := by
  refine CW_X hS rfl Try.func74 ok74 hl ?_ hw
  rw [Try.ntmps74]
  decide
theorem q74_6 {lo : Nat} {Q : XQ} {e : E} {h : H} : XW C lo x74_6 Q e h =
    Q .rt ((2, .bool false) :: e) h := nrfl (by kernel_rfl)
theorem q74_5 {lo : Nat} {Q : XQ} {e : E} {h : H} : XW C lo x74_5 Q e h =
    byV (E.get e 34) (XW C lo x74_6 (kX (XW C lo .skip Q) Q) e h) (XW C lo .skip (kX (XW C lo .skip Q) Q) e h) False := nrfl (by kernel_rfl)
theorem q74_4 {lo : Nat} {Q : XQ} {e : E} {h : H} : XW C lo x74_4 Q e h =
    bd (indexV Try.prog 9 (E.get e 0) (E.get e 7)) fun t1 =>
    bdB (binV Try.prog .neq 5 t1 (.int .u8 95)) fun b2 =>
    byT b2 (bdB (binV Try.prog .lss 5 t1 (.int .u8 97)) fun b3 =>
    byT b3 (bdB (binV Try.prog .eql 3 (E.get e 7) (.int .i64 0)) fun b4 =>
    byT b4 (XW C lo x74_6 (kX (XW C lo .skip Q) Q) ((34, .bool true) :: (4, t1) :: (3, E.get e 7) :: e) h) (bdB (binV Try.prog .lss 5 t1 (.int .u8 48)) fun b5 =>
    byT b5 (XW C lo x74_6 (kX (XW C lo .skip Q) Q) ((34, .bool true) :: (4, t1) :: (3, E.get e 7) :: e) h) (bdB (binV Try.prog .gtr 5 t1 (.int .u8 57)) fun b6 =>
    byT b6 (XW C lo x74_6 (kX (XW C lo .skip Q) Q) ((34, .bool b6) :: (4, t1) :: (3, E.get e 7) :: e) h) (XW C lo .skip (kX (XW C lo .skip Q) Q) ((34, .bool b6) :: (4, t1) :: (3, E.get e 7) :: e) h)))) (bdB (binV Try.prog .gtr 5 t1 (.int .u8 122)) fun b4 =>
    byT b4 (bdB (binV Try.prog .eql 3 (E.get e 7) (.int .i64 0)) fun b5 =>
    byT b5 (XW C lo x74_6 (kX (XW C lo .skip Q) Q) ((34, .bool true) :: (4, t1) :: (3, E.get e 7) :: e) h) (bdB (binV Try.prog .lss 5 t1 (.int .u8 48)) fun b6 =>
    byT b6 (XW C lo x74_6 (kX (XW C lo .skip Q) Q) ((34, .bool true) :: (4, t1) :: (3, E.get e 7) :: e) h) (bdB (binV Try.prog .gtr 5 t1 (.int .u8 57)) fun b7 =>
    byT b7 (XW C lo x74_6 (kX (XW C lo .skip Q) Q) ((34, .bool b7) :: (4, t1) :: (3, E.get e 7) :: e) h) (XW C lo .skip (kX (XW C lo .skip Q) Q) ((34, .bool b7) :: (4, t1) :: (3, E.get e 7) :: e) h)))) (XW C lo .skip (kX (XW C lo .skip Q) Q) ((34, .bool false) :: (4, t1) :: (3, E.get e 7) :: e) h))) (XW C lo .skip (kX (XW C lo .skip Q) Q) ((34, .bool false) :: (4, t1) :: (3, E.get e 7) :: e) h) := nrfl (by kernel_rfl)
theorem q74_7 {lo : Nat} {Q : XQ} {e : E} {h : H} : XW C lo x74_7 Q e h =
    bd (binV Try.prog .add 3 (E.get e 7) (.int .i64 1)) fun t1 =>
    Q .nx [(7, t1), (0, E.get e 0), (6, E.get e 6), (7, E.get e 7)] h := nrfl (by kernel_rfl)
theorem q74_3 {lo : Nat} {Q : XQ} {e : E} {h : H} : XW C lo x74_3 Q e h =
    XW C lo x74_4 (kXB 1 (XW C lo x74_7 Q) Q) e h := nrfl (by kernel_rfl)
theorem q74_2 {lo : Nat} {Q : XQ} {e : E} {h : H} : XW C lo x74_2 Q e h =
    bdB (binV Try.prog .lss 3 (E.get e 7) (E.get e 6)) fun b1 =>
    byT b1 (XW C lo .skip (kX (XW C lo x74_3 Q) Q) ((8, .bool b1) :: e) h) (XW C lo (.exit 0) (kX (XW C lo x74_3 Q) Q) ((8, .bool b1) :: e) h) := nrfl (by kernel_rfl)
theorem q74_1 {lo : Nat} {Q : XQ} {e : E} {h : H} : XW C lo x74_1 Q e h =
    ∃ n, loopX [0, 6, 7] (XW C lo x74_2) Q n e h := nrfl (by kernel_rfl)
theorem q74_8 {lo : Nat} {Q : XQ} {e : E} {h : H} : XW C lo x74_8 Q e h =
    bd (lenV Try.prog [9] (E.get e 0)) fun t1 =>
    bdB (binV Try.prog .gtr 3 t1 (.int .i64 0)) fun b2 =>
    byT b2 (bd (lenV Try.prog [9] (E.get e 0)) fun t3 =>
    bdB (binV Try.prog .leq 3 t3 (.int .i64 24)) fun b4 =>
    Q .rt [(2, .bool b4), (0, E.get e 0)] h) (Q .rt [(2, .bool false), (0, E.get e 0)] h) := nrfl (by kernel_rfl)
theorem q74_0 {lo : Nat} {Q : XQ} {e : E} {h : H} : XW C lo x74_0 Q e h =
    bd (lenV Try.prog [9] (E.get e 0)) fun t1 =>
    XW C lo x74_1 (kXB 0 (XW C lo x74_8 Q) Q) ((6, t1) :: (7, .int .i64 0) :: e) h := nrfl (by kernel_rfl)

end Go.Proofs.Ytghmbmblhdgabaa.Code
