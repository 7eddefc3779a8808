/- The code of functions, with short environments; what each part comes to. -/
import Derived.Test.YtghmbmblhdgabaaSxA
import Derived.Test.YtghmbmblhdgabaaProg
import Derived.KernelRfl
import Derived.Test.YtghmbmblhdgabaaCodeX
set_option linter.all false
namespace Go.Proofs.Ytghmbmblhdgabaa.Code
open Go Go.Den
set_option maxRecDepth 100000
/-! ### chancery/chancerylaw18.CellBack -/
def r6_0 : List SI := [⟨some 4, (.assign (.const (.bool false))), none⟩]
def r6_1 : List SI := [⟨some 14, (.move (.tmp 0)), none⟩,
  ⟨some 15, (.call { callee := (.value (.func 23)), args := #[(.tmp 14)], argTypes := #[48] }), none⟩,
  ⟨some 16, (.call { callee := (.value (.func 22)), args := #[(.tmp 15)], argTypes := #[48] }), none⟩,
  ⟨some 13, (.move (.tmp 16)), none⟩,
  ⟨some 17, (.extract (.tmp 13) 0), none⟩,
  ⟨some 18, (.extract (.tmp 13) 1), none⟩,
  ⟨some 5, (.assign (.tmp 17)), none⟩,
  ⟨some 6, (.assign (.tmp 18)), none⟩]
def r6_2 : List SI := [⟨some 19, (.move (.tmp 6)), none⟩,
  ⟨some 20, (.binOp .eql 27 (.tmp 19) (.const (.int .i64 0)) 27), none⟩]
def r6_3 : List SI := [⟨some 22, (.move (.tmp 5)), none⟩,
  ⟨some 23, (.call { callee := (.value (.func 24)), args := #[(.tmp 22)], argTypes := #[22] }), none⟩,
  ⟨some 21, (.move (.tmp 23)), none⟩,
  ⟨some 24, (.extract (.tmp 21) 0), none⟩,
  ⟨some 25, (.extract (.tmp 21) 1), none⟩,
  ⟨some 7, (.assign (.tmp 24)), none⟩,
  ⟨some 8, (.assign (.tmp 25)), none⟩]
def r6_4 : List SI := [⟨some 26, (.move (.tmp 8)), none⟩,
  ⟨some 27, (.binOp .neq 27 (.tmp 26) (.const (.int .i64 0)) 27), none⟩,
  ⟨some 28, (.move (.tmp 27)), none⟩,
  ⟨some 29, (.move (.tmp 7)), some (some 28, false)⟩,
  ⟨some 30, (.move (.tmp 0)), some (some 28, false)⟩,
  ⟨some 31, (.call { callee := (.value (.func 25)), args := #[(.tmp 29), (.tmp 30)], argTypes := #[48, 48] }), some (some 28, false)⟩,
  ⟨some 32, (.unOp .not 4 (.tmp 31)), some (some 28, false)⟩,
  ⟨some 33, (.pick (.tmp 28) (.const (.bool true)) (.tmp 32)), none⟩,
  ⟨some 34, (.move (.tmp 33)), none⟩,
  ⟨some 35, (.move (.tmp 5)), some (some 34, false)⟩,
  ⟨some 36, (.call { callee := (.builtin .len), args := #[(.tmp 35)], argTypes := #[22] }), some (some 34, false)⟩,
  ⟨some 37, (.binOp .gtr 3 (.tmp 36) (.const (.int .i64 480)) 3), some (some 34, false)⟩,
  ⟨some 38, (.pick (.tmp 34) (.const (.bool true)) (.tmp 37)), none⟩]
def r6_5 : List SI := [⟨some 4, (.assign (.const (.bool false))), none⟩]
def x6_3 : X := .ops r6_5 [4] .ret
def x6_2 : X := .cond (.tmp 38) x6_3 .skip .skip
def x6_1 : X := .ops r6_3 [7, 8] (.ops r6_4 [38] x6_2)
def r6_6 : List SI := [⟨some 40, (.move (.tmp 1)), none⟩,
  ⟨some 41, (.call { callee := (.value (.func 13)), args := #[(.tmp 40)], argTypes := #[22] }), none⟩,
  ⟨some 42, (.call { callee := (.value (.func 24)), args := #[(.tmp 41)], argTypes := #[22] }), none⟩,
  ⟨some 39, (.move (.tmp 42)), none⟩,
  ⟨some 43, (.extract (.tmp 39) 0), none⟩,
  ⟨some 44, (.extract (.tmp 39) 1), none⟩,
  ⟨some 9, (.assign (.tmp 43)), none⟩,
  ⟨some 10, (.assign (.tmp 44)), none⟩]
def r6_7 : List SI := [⟨some 45, (.move (.tmp 10)), none⟩,
  ⟨some 46, (.binOp .neq 27 (.tmp 45) (.const (.int .i64 0)) 27), none⟩]
def r6_8 : List SI := [⟨some 47, (.move (.tmp 9)), none⟩,
  ⟨some 48, (.call { callee := (.builtin .len), args := #[(.tmp 47)], argTypes := #[48] }), none⟩,
  ⟨some 49, (.binOp .eql 3 (.tmp 48) (.const (.int .i64 0)) 3), none⟩,
  ⟨some 50, (.move (.tmp 49)), none⟩,
  ⟨some 51, (.call { callee := (.value (.func 26)), args := #[], argTypes := #[] }), some (some 50, true)⟩,
  ⟨some 52, (.pick (.tmp 50) (.tmp 51) (.const (.bool false))), none⟩,
  ⟨some 4, (.assign (.tmp 52)), none⟩]
def x6_5 : X := .ops r6_8 [4] .ret
def r6_9 : List SI := [⟨some 54, (.move (.tmp 9)), none⟩,
  ⟨some 55, (.call { callee := (.value (.func 22)), args := #[(.tmp 54)], argTypes := #[48] }), none⟩,
  ⟨some 53, (.move (.tmp 55)), none⟩,
  ⟨some 56, (.extract (.tmp 53) 0), none⟩,
  ⟨some 57, (.extract (.tmp 53) 1), none⟩,
  ⟨some 11, (.assign (.tmp 56)), none⟩,
  ⟨some 12, (.assign (.tmp 57)), none⟩]
def r6_10 : List SI := [⟨some 58, (.move (.tmp 12)), none⟩,
  ⟨some 59, (.binOp .eql 27 (.tmp 58) (.const (.int .i64 0)) 27), none⟩,
  ⟨some 60, (.move (.tmp 59)), none⟩,
  ⟨some 61, (.move (.tmp 11)), some (some 60, true)⟩,
  ⟨some 62, (.move (.tmp 1)), some (some 60, true)⟩,
  ⟨some 63, (.call { callee := (.value (.func 27)), args := #[(.tmp 61), (.tmp 62)], argTypes := #[22, 22] }), some (some 60, true)⟩,
  ⟨some 64, (.pick (.tmp 60) (.tmp 63) (.const (.bool false))), none⟩,
  ⟨some 65, (.move (.tmp 64)), none⟩,
  ⟨some 66, (.call { callee := (.value (.func 26)), args := #[], argTypes := #[] }), some (some 65, true)⟩,
  ⟨some 67, (.pick (.tmp 65) (.tmp 66) (.const (.bool false))), none⟩,
  ⟨some 4, (.assign (.tmp 67)), none⟩]
def x6_6 : X := .ops r6_9 [11, 12] (.ops r6_10 [4] .ret)
def x6_4 : X := .trim [1] (.ops r6_6 [9, 10] (.ops r6_7 [46] (.cond (.tmp 46) x6_5 .skip x6_6)))
def x6_0 : X := .ops r6_0 [] (.ops r6_1 [5, 6] (.ops r6_2 [20] (.cond (.tmp 20) x6_1 .skip x6_4)))
def n6 : Ann := .ops [] (.ops [5, 6] (.ops [20] (.cond (.ops [7, 8] (.ops [38] (.cond (.ops [4] .stop) .stop .stop))) .stop (.trim [1] (.ops [9, 10] (.ops [46] (.cond (.ops [4] .stop) .stop (.ops [11, 12] (.ops [4] .stop)))))))))
theorem ok6 : annFn Try.f6 2 n6 = some x6_0 := by kernel_rfl
noncomputable def kF6 (K : V → H → Prop) : XQ := kFnX C.P Try.f6.results.toList K
theorem e6_nx {K : V → H → Prop} {e : E} {h : H} : kF6 K .nx e h = K (E.get e 4) h := nrfl (by kernel_rfl)
theorem e6_rt {K : V → H → Prop} {e : E} {h : H} : kF6 K .rt e h = K (E.get e 4) h := nrfl (by kernel_rfl)
theorem enter6 {lo : Nat} {h : H} {vs : List V} {K : V → H → Prop} (hl : vs.length = 2) (hw : XW C lo x6_0 (kF6 K) (args 0 vs) h) : CW C 6 vs lo h K := by
  refine CW_X hS rfl Try.func6 ok6 hl ?_ hw
  rw [Try.ntmps6]
  decide
theorem q6_3 {lo : Nat} {Q : XQ} {e : E} {h : H} : XW C lo x6_3 Q e h =
    Q .rt ((4, .bool false) :: e) h := nrfl (by kernel_rfl)
theorem q6_2 {lo : Nat} {Q : XQ} {e : E} {h : H} : XW C lo x6_2 Q e h =
    byV (E.get e 38) (XW C lo x6_3 (kX (XW C lo .skip Q) Q) e h) (XW C lo .skip (kX (XW C lo .skip Q) Q) e h) False := nrfl (by kernel_rfl)
theorem q6_1 {lo : Nat} {Q : XQ} {e : E} {h : H} : XW C lo x6_1 Q e h =
    CW C 24 [E.get e 5] lo h fun t1 h2 =>
    tupX t1 fun l3 => bd (l3[0]?) fun t4 =>
    tupX t1 fun l5 => bd (l5[1]?) fun t6 =>
    bdB (binV Try.prog .neq 27 t6 (.int .i64 0)) fun b7 =>
    byT b7 (XW C lo x6_3 (kX (XW C lo .skip Q) Q) ((38, .bool true) :: (7, t4) :: (8, t6) :: e) h2) (CW C 25 [t4, E.get e 0] lo h2 fun t8 h9 =>
    bd (unV .not t8) fun t10 =>
    byV t10 (XW C lo x6_3 (kX (XW C lo .skip Q) Q) ((38, .bool true) :: (7, t4) :: (8, t6) :: e) h9) (bd (lenV Try.prog [22] (E.get e 5)) fun t11 =>
    bdB (binV Try.prog .gtr 3 t11 (.int .i64 480)) fun b12 =>
    byT b12 (XW C lo x6_3 (kX (XW C lo .skip Q) Q) ((38, .bool b12) :: (7, t4) :: (8, t6) :: e) h9) (XW C lo .skip (kX (XW C lo .skip Q) Q) ((38, .bool b12) :: (7, t4) :: (8, t6) :: e) h9)) (False)) := nrfl (by kernel_rfl)
theorem q6_5 {lo : Nat} {Q : XQ} {e : E} {h : H} : XW C lo x6_5 Q e h =
    bd (lenV Try.prog [48] (E.get e 9)) fun t1 =>
    bdB (binV Try.prog .eql 3 t1 (.int .i64 0)) fun b2 =>
    byT b2 (CW C 26 [] lo h fun t3 h4 =>
    Q .rt ((4, t3) :: e) h4) (Q .rt ((4, .bool false) :: e) h) := nrfl (by kernel_rfl)
theorem q6_6 {lo : Nat} {Q : XQ} {e : E} {h : H} : XW C lo x6_6 Q e h =
    CW C 22 [E.get e 9] lo h fun t1 h2 =>
    tupX t1 fun l3 => bd (l3[0]?) fun t4 =>
    tupX t1 fun l5 => bd (l5[1]?) fun t6 =>
    bdB (binV Try.prog .eql 27 t6 (.int .i64 0)) fun b7 =>
    byT b7 (CW C 27 [t4, E.get e 1] lo h2 fun t8 h9 =>
    byV t8 (CW C 26 [] lo h9 fun t10 h11 =>
    Q .rt ((4, t10) :: (11, t4) :: (12, t6) :: e) h11) (Q .rt ((4, .bool false) :: (11, t4) :: (12, t6) :: e) h9) (False)) (Q .rt ((4, .bool false) :: (11, t4) :: (12, t6) :: e) h2) := nrfl (by kernel_rfl)
theorem q6_4 {lo : Nat} {Q : XQ} {e : E} {h : H} : XW C lo x6_4 Q e h =
    CW C 13 [E.get e 1] lo h fun t1 h2 =>
    CW C 24 [t1] lo h2 fun t3 h4 =>
    tupX t3 fun l5 => bd (l5[0]?) fun t6 =>
    tupX t3 fun l7 => bd (l7[1]?) fun t8 =>
    bdB (binV Try.prog .neq 27 t8 (.int .i64 0)) fun b9 =>
    byT b9 (XW C lo x6_5 (kX (XW C lo x6_6 Q) Q) [(46, .bool b9), (9, t6), (10, t8), (1, E.get e 1)] h4) (XW C lo .skip (kX (XW C lo x6_6 Q) Q) [(46, .bool b9), (9, t6), (10, t8), (1, E.get e 1)] h4) := nrfl (by kernel_rfl)
theorem q6_0 {lo : Nat} {Q : XQ} {e : E} {h : H} : XW C lo x6_0 Q e h =
    CW C 23 [E.get e 0] lo h fun t1 h2 =>
    CW C 22 [t1] lo h2 fun t3 h4 =>
    tupX t3 fun l5 => bd (l5[0]?) fun t6 =>
    tupX t3 fun l7 => bd (l7[1]?) fun t8 =>
    bdB (binV Try.prog .eql 27 t8 (.int .i64 0)) fun b9 =>
    byT b9 (XW C lo x6_1 (kX (XW C lo x6_4 Q) Q) ((20, .bool b9) :: (5, t6) :: (6, t8) :: e) h4) (XW C lo .skip (kX (XW C lo x6_4 Q) Q) ((20, .bool b9) :: (5, t6) :: (6, t8) :: e) h4) := nrfl (by kernel_rfl)

/-! ### chancery/cell.Row -/
def r22_0 : List SI := [⟨some 2, (.assign (.const (.slice none 0 0))), none⟩,
  ⟨some 3, (.assign (.const (.int .i64 0))), none⟩]
def r22_1 : List SI := [⟨some 7, (.move (.tmp 0)), none⟩,
  ⟨some 8, (.call { callee := (.value (.func 49)), args := #[(.tmp 7), (.func 50)], argTypes := #[48, 90] }), none⟩]
def r22_2 : List SI := [⟨some 2, (.assign (.const (.slice none 0 0))), none⟩,
  ⟨some 3, (.assign (.const (.int .i64 2))), none⟩]
def x22_1 : X := .ops r22_2 [2, 3] .ret
def r22_3 : List SI := [⟨some 9, (.move (.tmp 0)), none⟩,
  ⟨some 10, (.call { callee := (.builtin .len), args := #[(.tmp 9)], argTypes := #[48] }), none⟩,
  ⟨some 11, (.binOp .gtr 3 (.tmp 10) (.const (.int .i64 12)) 3), none⟩]
def r22_4 : List SI := [⟨some 2, (.assign (.const (.slice none 0 0))), none⟩,
  ⟨some 3, (.assign (.const (.int .i64 3))), none⟩]
def x22_3 : X := .ops r22_4 [2, 3] .ret
def r22_5 : List SI := [⟨some 12, (.move (.tmp 0)), none⟩,
  ⟨some 13, (.call { callee := (.builtin .len), args := #[(.tmp 12)], argTypes := #[48] }), none⟩,
  ⟨some 14, (.convert 3 5 (.tmp 13)), none⟩,
  ⟨some 15, (.buildSlice 22 1 #[(0, (.tmp 14))]), none⟩,
  ⟨some 4, (.assign (.tmp 15)), none⟩]
def r22_6 : List SI := [⟨some 16, (.move (.tmp 0)), none⟩,
  ⟨some 17, (.call { callee := (.builtin .len), args := #[(.tmp 16)], argTypes := #[48] }), none⟩,
  ⟨some 18, (.move (.const (.int .i64 0))), none⟩]
def r22_7 : List SI := [⟨some 19, (.binOp .lss 3 (.tmp 18) (.tmp 17) 3), none⟩]
def r22_8 : List SI := [⟨some 20, (.indexAddr 48 (.tmp 16) (.tmp 18)), none⟩,
  ⟨some 21, (.load 60 (.tmp 20)), none⟩,
  ⟨some 6, (.alloc 60), none⟩,
  ⟨none, (.store 60 (.tmp 6) (.tmp 21)), none⟩]
def r22_9 : List SI := [⟨some 22, (.move (.tmp 4)), none⟩,
  ⟨some 23, (.fieldAddr 60 (.tmp 6) 0), none⟩,
  ⟨some 24, (.load 58 (.tmp 23)), none⟩,
  ⟨some 25, (.buildSlice 22 1 #[(0, (.tmp 24))]), none⟩,
  ⟨some 26, (.call { callee := (.builtin .append), args := #[(.tmp 22), (.tmp 25)], argTypes := #[22, 22] }), none⟩,
  ⟨some 4, (.assign (.tmp 26)), none⟩]
def r22_10 : List SI := [⟨some 27, (.fieldAddr 60 (.tmp 6) 0), none⟩,
  ⟨some 28, (.load 58 (.tmp 27)), none⟩]
def r22_11 : List SI := [⟨some 30, (.binOp .eql 58 (.tmp 28) (.const (.int .u8 1)) 58), none⟩,
  ⟨some 29, (.assign (.tmp 30)), none⟩]
def r22_12 : List SI := [⟨some 31, (.move (.tmp 4)), none⟩,
  ⟨some 32, (.fieldAddr 60 (.tmp 6) 1), none⟩,
  ⟨some 33, (.load 2 (.tmp 32)), none⟩,
  ⟨some 34, (.convert 2 5 (.tmp 33)), none⟩,
  ⟨some 35, (.buildSlice 22 1 #[(0, (.tmp 34))]), none⟩,
  ⟨some 36, (.call { callee := (.builtin .append), args := #[(.tmp 31), (.tmp 35)], argTypes := #[22, 22] }), none⟩,
  ⟨some 4, (.assign (.tmp 36)), none⟩]
def x22_10 : X := .ops r22_12 [4] .skip
def r22_13 : List SI := [⟨some 38, (.binOp .eql 58 (.tmp 28) (.const (.int .u8 2)) 58), none⟩,
  ⟨some 37, (.assign (.tmp 38)), none⟩]
def r22_14 : List SI := [⟨some 39, (.binOp .eql 58 (.tmp 28) (.const (.int .u8 3)) 58), none⟩,
  ⟨some 37, (.assign (.tmp 39)), none⟩]
def x22_12 : X := .ops r22_14 [37] .skip
def r22_15 : List SI := [⟨some 40, (.move (.tmp 4)), none⟩,
  ⟨some 41, (.fieldAddr 60 (.tmp 6) 1), none⟩,
  ⟨some 42, (.load 2 (.tmp 41)), none⟩,
  ⟨some 43, (.convert 2 92 (.tmp 42)), none⟩,
  ⟨some 44, (.call { callee := (.value (.func 52)), args := #[(.tmp 40), (.tmp 43)], argTypes := #[22, 92] }), none⟩,
  ⟨some 4, (.assign (.tmp 44)), none⟩]
def x22_14 : X := .ops r22_15 [4] .skip
def r22_16 : List SI := [⟨some 46, (.binOp .eql 58 (.tmp 28) (.const (.int .u8 4)) 58), none⟩,
  ⟨some 45, (.assign (.tmp 46)), none⟩]
def r22_17 : List SI := [⟨some 47, (.binOp .eql 58 (.tmp 28) (.const (.int .u8 5)) 58), none⟩,
  ⟨some 45, (.assign (.tmp 47)), none⟩]
def x22_16 : X := .ops r22_17 [45] .skip
def r22_18a : List SI := [⟨some 48, (.move (.tmp 4)), none⟩,
  ⟨some 49, (.fieldAddr 60 (.tmp 6) 2), none⟩,
  ⟨some 50, (.load 9 (.tmp 49)), none⟩,
  ⟨some 51, (.call { callee := (.builtin .len), args := #[(.tmp 50)], argTypes := #[9] }), none⟩,
  ⟨some 52, (.convert 3 5 (.tmp 51)), none⟩,
  ⟨some 53, (.buildSlice 22 1 #[(0, (.tmp 52))]), none⟩,
  ⟨some 54, (.call { callee := (.builtin .append), args := #[(.tmp 48), (.tmp 53)], argTypes := #[22, 22] }), none⟩,
  ⟨some 55, (.fieldAddr 60 (.tmp 6) 2), none⟩,
  ⟨some 56, (.load 9 (.tmp 55)), none⟩]
def r22_18b : List SI := [⟨some 57, (.call { callee := (.builtin .append), args := #[(.tmp 54), (.tmp 56)], argTypes := #[22, 9] }), none⟩,
  ⟨some 4, (.assign (.tmp 57)), none⟩]
def x22_18 : X := .front false r22_18a r22_18b [4] .skip
def x22_19 : X := .trim [4, 16, 17, 18] .skip
def x22_17 : X := .trim [4, 6, 16, 17, 18, 45] (.cond (.tmp 45) x22_18 .skip x22_19)
def x22_15 : X := .ops r22_16 [45] (.cond (.tmp 45) .skip x22_16 x22_17)
def x22_20 : X := .trim [4, 16, 17, 18] .skip
def x22_13 : X := .trim [4, 6, 16, 17, 18, 28, 37] (.cond (.tmp 37) x22_14 x22_15 x22_20)
def x22_11 : X := .ops r22_13 [37] (.cond (.tmp 37) .skip x22_12 x22_13)
def x22_21 : X := .trim [4, 16, 17, 18] .skip
def x22_9 : X := .ops r22_11 [29] (.cond (.tmp 29) x22_10 x22_11 x22_21)
def x22_22 : X := .trim [4, 16, 17, 18] .skip
def x22_8 : X := .ops r22_8 [6] (.ops r22_9 [4] (.ops r22_10 [28] (.block 2 x22_9 x22_22)))
def r22_19 : List SI := [⟨some 58, (.binOp .add 3 (.tmp 18) (.const (.int .i64 1)) 3), none⟩,
  ⟨some 18, (.move (.tmp 58)), none⟩]
def x22_23 : X := .trim [4, 16, 17, 18] (.ops r22_19 [18] .skip)
def x22_7 : X := .block 1 x22_8 x22_23
def x22_6 : X := .ops r22_7 [19] (.cond (.tmp 19) .skip (.exit 0) x22_7)
def x22_5 : X := .loop [4, 16, 17, 18] x22_6
def r22_20 : List SI := [⟨some 59, (.move (.tmp 4)), none⟩,
  ⟨some 60, (.call { callee := (.builtin .len), args := #[(.tmp 59)], argTypes := #[22] }), none⟩,
  ⟨some 61, (.binOp .gtr 3 (.tmp 60) (.const (.int .i64 480)) 3), none⟩]
def r22_21 : List SI := [⟨some 2, (.assign (.const (.slice none 0 0))), none⟩,
  ⟨some 3, (.assign (.const (.int .i64 3))), none⟩]
def x22_25 : X := .ops r22_21 [2, 3] .ret
def r22_22 : List SI := [⟨some 62, (.move (.tmp 4)), none⟩,
  ⟨some 2, (.assign (.tmp 62)), none⟩,
  ⟨some 3, (.assign (.const (.int .i64 0))), none⟩]
def x22_26 : X := .ops r22_22 [2, 3] .ret
def x22_24 : X := .trim [4] (.ops r22_20 [61] (.cond (.tmp 61) x22_25 .skip x22_26))
def x22_4 : X := .ops r22_5 [4] (.ops r22_6 [16, 17, 18] (.block 0 x22_5 x22_24))
def x22_2 : X := .ops r22_3 [11] (.cond (.tmp 11) x22_3 .skip x22_4)
def x22_0 : X := .ops r22_0 [] (.ops r22_1 [8] (.cond (.tmp 8) x22_1 .skip x22_2))
def n22 : Ann := .ops [] (.ops [8] (.cond (.ops [2, 3] .stop) .stop (.ops [11] (.cond (.ops [2, 3] .stop) .stop (.ops [4] (.ops [16, 17, 18] (.block [4] (.loop [4, 16, 17, 18] (.ops [19] (.cond .stop .stop (.block [4, 16, 17, 18] (.ops [6] (.ops [4] (.ops [28] (.block [4, 16, 17, 18] (.ops [29] (.cond (.ops [4] .stop) (.ops [37] (.cond .stop (.ops [37] .stop) (.trim [4, 6, 16, 17, 18, 28, 37] (.cond (.ops [4] .stop) (.ops [45] (.cond .stop (.ops [45] .stop) (.trim [4, 6, 16, 17, 18, 45] (.cond (.ops [4] .stop) .stop (.trim [4, 16, 17, 18] .stop))))) (.trim [4, 16, 17, 18] .stop))))) (.trim [4, 16, 17, 18] .stop))) (.trim [4, 16, 17, 18] .stop))))) (.trim [4, 16, 17, 18] (.ops [18] .stop)))))) (.trim [4] (.ops [61] (.cond (.ops [2, 3] .stop) .stop (.ops [2, 3] .stop)))))))))))
theorem ok22 : annFn Try.f22 1 n22 = some x22_0 := by kernel_rfl
noncomputable def kF22 (K : V → H → Prop) : XQ := kFnX C.P Try.f22.results.toList K
theorem e22_nx {K : V → H → Prop} {e : E} {h : H} : kF22 K .nx e h = K (.tup [E.get e 2, E.get e 3]) h := nrfl (by kernel_rfl)
theorem e22_rt {K : V → H → Prop} {e : E} {h : H} : kF22 K .rt e h = K (.tup [E.get e 2, E.get e 3]) h := nrfl (by kernel_rfl)
theorem enter22 {lo : Nat} {h : H} {vs : List V} {K : V → H → Prop} (hl : vs.length = 1) (hw : XW C lo x22_0 (kF22 K) (args 0 vs) h) : CW C 22 vs lo h K := by
  refine CW_X hS rfl Try.func22 ok22 hl ?_ hw
  rw [Try.ntmps22]
  decide
theorem q22_1 {lo : Nat} {Q : XQ} {e : E} {h : H} : XW C lo x22_1 Q e h =
    Q .rt ((2, .nils) :: (3, .int .i64 2) :: e) h := nrfl (by kernel_rfl)
theorem q22_3 {lo : Nat} {Q : XQ} {e : E} {h : H} : XW C lo x22_3 Q e h =
    Q .rt ((2, .nils) :: (3, .int .i64 3) :: e) h := nrfl (by kernel_rfl)
theorem q22_10 {lo : Nat} {Q : XQ} {e : E} {h : H} : XW C lo x22_10 Q e h =
    bd (fieldAddrV Try.prog 60 (E.get e 6) 1) fun t1 =>
    bd (loadV Try.prog 2 t1 (H.read h)) fun t2 =>
    bd (convV Try.prog (H.read h) 2 5 t2) fun r3 => KX h (fun t4 h5 =>
    bd (buildSliceV Try.prog 22 1 [(0, t4)]) fun r6 => KX h5 (fun t7 h8 =>
    bd2 (appendV Try.prog lo [22, 22] (E.get e 4) t7 h8) fun t9 h10 =>
    Q .nx ((4, t9) :: e) h10) r6) r3 := nrfl (by kernel_rfl)
theorem q22_12 {lo : Nat} {Q : XQ} {e : E} {h : H} : XW C lo x22_12 Q e h =
    bdB (binV Try.prog .eql 58 (E.get e 28) (.int .u8 3)) fun b1 =>
    Q .nx ((37, .bool b1) :: e) h := nrfl (by kernel_rfl)
theorem q22_14 {lo : Nat} {Q : XQ} {e : E} {h : H} : XW C lo x22_14 Q e h =
    bd (fieldAddrV Try.prog 60 (E.get e 6) 1) fun t1 =>
    bd (loadV Try.prog 2 t1 (H.read h)) fun t2 =>
    bd (convV Try.prog (H.read h) 2 92 t2) fun r3 => KX h (fun t4 h5 =>
    CW C 52 [E.get e 4, t4] lo h5 fun t6 h7 =>
    Q .nx ((4, t6) :: e) h7) r3 := nrfl (by kernel_rfl)
theorem q22_16 {lo : Nat} {Q : XQ} {e : E} {h : H} : XW C lo x22_16 Q e h =
    bdB (binV Try.prog .eql 58 (E.get e 28) (.int .u8 5)) fun b1 =>
    Q .nx ((45, .bool b1) :: e) h := nrfl (by kernel_rfl)
theorem q22_18 {lo : Nat} {Q : XQ} {e : E} {h : H} : XW C lo x22_18 Q e h =
    bd (fieldAddrV Try.prog 60 (E.get e 6) 2) fun t1 =>
    bd (loadV Try.prog 9 t1 (H.read h)) fun t2 =>
    bd (lenV Try.prog [9] t2) fun t3 =>
    bd (convV Try.prog (H.read h) 3 5 t3) fun r4 => KX h (fun t5 h6 =>
    bd (buildSliceV Try.prog 22 1 [(0, t5)]) fun r7 => KX h6 (fun t8 h9 =>
    endX h9 (E.get e 4) (bd2 (appendV Try.prog lo [22, 22] (E.get e 4) t8 h9) fun t10 h11 =>
    bd (fieldAddrV Try.prog 60 (E.get e 6) 2) fun t12 =>
    bd (loadV Try.prog 9 t12 (H.read h11)) fun t13 =>
    bd2 (appendV Try.prog lo [22, 9] t10 t13 h11) fun t14 h15 =>
    Q .nx ((4, t14) :: e) h15)) r7) r4 := nrfl (by kernel_rfl)
theorem q22_19 {lo : Nat} {Q : XQ} {e : E} {h : H} : XW C lo x22_19 Q e h =
    Q .nx [(4, E.get e 4), (16, E.get e 16), (17, E.get e 17), (18, E.get e 18)] h := nrfl (by kernel_rfl)
theorem q22_17 {lo : Nat} {Q : XQ} {e : E} {h : H} : XW C lo x22_17 Q e h =
    byV (E.get e 45) (XW C lo x22_18 (kX (XW C lo x22_19 Q) Q) [(4, E.get e 4), (6, E.get e 6), (16, E.get e 16), (17, E.get e 17), (18, E.get e 18), (45, E.get e 45)] h) (XW C lo .skip (kX (XW C lo x22_19 Q) Q) [(4, E.get e 4), (6, E.get e 6), (16, E.get e 16), (17, E.get e 17), (18, E.get e 18), (45, E.get e 45)] h) False := nrfl (by kernel_rfl)
theorem q22_15 {lo : Nat} {Q : XQ} {e : E} {h : H} : XW C lo x22_15 Q e h =
    bdB (binV Try.prog .eql 58 (E.get e 28) (.int .u8 4)) fun b1 =>
    byT b1 (XW C lo .skip (kX (XW C lo x22_17 Q) Q) ((45, .bool b1) :: e) h) (XW C lo x22_16 (kX (XW C lo x22_17 Q) Q) ((45, .bool b1) :: e) h) := nrfl (by kernel_rfl)
theorem q22_20 {lo : Nat} {Q : XQ} {e : E} {h : H} : XW C lo x22_20 Q e h =
    Q .nx [(4, E.get e 4), (16, E.get e 16), (17, E.get e 17), (18, E.get e 18)] h := nrfl (by kernel_rfl)
theorem q22_13 {lo : Nat} {Q : XQ} {e : E} {h : H} : XW C lo x22_13 Q e h =
    byV (E.get e 37) (XW C lo x22_14 (kX (XW C lo x22_20 Q) Q) [(4, E.get e 4), (6, E.get e 6), (16, E.get e 16), (17, E.get e 17), (18, E.get e 18), (28, E.get e 28), (37, E.get e 37)] h) (XW C lo x22_15 (kX (XW C lo x22_20 Q) Q) [(4, E.get e 4), (6, E.get e 6), (16, E.get e 16), (17, E.get e 17), (18, E.get e 18), (28, E.get e 28), (37, E.get e 37)] h) False := nrfl (by kernel_rfl)
theorem q22_11 {lo : Nat} {Q : XQ} {e : E} {h : H} : XW C lo x22_11 Q e h =
    bdB (binV Try.prog .eql 58 (E.get e 28) (.int .u8 2)) fun b1 =>
    byT b1 (XW C lo .skip (kX (XW C lo x22_13 Q) Q) ((37, .bool b1) :: e) h) (XW C lo x22_12 (kX (XW C lo x22_13 Q) Q) ((37, .bool b1) :: e) h) := nrfl (by kernel_rfl)
theorem q22_21 {lo : Nat} {Q : XQ} {e : E} {h : H} : XW C lo x22_21 Q e h =
    Q .nx [(4, E.get e 4), (16, E.get e 16), (17, E.get e 17), (18, E.get e 18)] h := nrfl (by kernel_rfl)
theorem q22_9 {lo : Nat} {Q : XQ} {e : E} {h : H} : XW C lo x22_9 Q e h =
    bdB (binV Try.prog .eql 58 (E.get e 28) (.int .u8 1)) fun b1 =>
    byT b1 (XW C lo x22_10 (kX (XW C lo x22_21 Q) Q) ((29, .bool b1) :: e) h) (XW C lo x22_11 (kX (XW C lo x22_21 Q) Q) ((29, .bool b1) :: e) h) := nrfl (by kernel_rfl)
theorem q22_22 {lo : Nat} {Q : XQ} {e : E} {h : H} : XW C lo x22_22 Q e h =
    Q .nx [(4, E.get e 4), (16, E.get e 16), (17, E.get e 17), (18, E.get e 18)] h := nrfl (by kernel_rfl)
theorem q22_8 {lo : Nat} {Q : XQ} {e : E} {h : H} : XW C lo x22_8 Q e h =
    bd (addrV Try.prog 48 (E.get e 16) (E.get e 18)) fun t1 =>
    bd (loadV Try.prog 60 t1 (H.read h)) fun t2 =>
    bd (zero? Try.prog 60) fun z3 =>
    bd (storeV Try.prog lo 60 (.ptr (H.next h) 0) t2 (H.alloc h (V.cells z3))) fun h4 =>
    bd (fieldAddrV Try.prog 60 (.ptr (H.next h) 0) 0) fun t5 =>
    bd (loadV Try.prog 58 t5 (H.read h4)) fun t6 =>
    bd (buildSliceV Try.prog 22 1 [(0, t6)]) fun r7 => KX h4 (fun t8 h9 =>
    bd2 (appendV Try.prog lo [22, 22] (E.get e 4) t8 h9) fun t10 h11 =>
    bd (fieldAddrV Try.prog 60 (.ptr (H.next h) 0) 0) fun t12 =>
    bd (loadV Try.prog 58 t12 (H.read h11)) fun t13 =>
    XW C lo x22_9 (kXB 2 (XW C lo x22_22 Q) Q) ((28, t13) :: (4, t10) :: (6, .ptr (H.next h) 0) :: e) h11) r7 := nrfl (by kernel_rfl)
theorem q22_23 {lo : Nat} {Q : XQ} {e : E} {h : H} : XW C lo x22_23 Q e h =
    bd (binV Try.prog .add 3 (E.get e 18) (.int .i64 1)) fun t1 =>
    Q .nx [(18, t1), (4, E.get e 4), (16, E.get e 16), (17, E.get e 17), (18, E.get e 18)] h := nrfl (by kernel_rfl)
theorem q22_7 {lo : Nat} {Q : XQ} {e : E} {h : H} : XW C lo x22_7 Q e h =
    XW C lo x22_8 (kXB 1 (XW C lo x22_23 Q) Q) e h := nrfl (by kernel_rfl)
theorem q22_6 {lo : Nat} {Q : XQ} {e : E} {h : H} : XW C lo x22_6 Q e h =
    bdB (binV Try.prog .lss 3 (E.get e 18) (E.get e 17)) fun b1 =>
    byT b1 (XW C lo .skip (kX (XW C lo x22_7 Q) Q) ((19, .bool b1) :: e) h) (XW C lo (.exit 0) (kX (XW C lo x22_7 Q) Q) ((19, .bool b1) :: e) h) := nrfl (by kernel_rfl)
theorem q22_5 {lo : Nat} {Q : XQ} {e : E} {h : H} : XW C lo x22_5 Q e h =
    ∃ n, loopX [4, 16, 17, 18] (XW C lo x22_6) Q n e h := nrfl (by kernel_rfl)
theorem q22_25 {lo : Nat} {Q : XQ} {e : E} {h : H} : XW C lo x22_25 Q e h =
    Q .rt ((2, .nils) :: (3, .int .i64 3) :: e) h := nrfl (by kernel_rfl)
theorem q22_26 {lo : Nat} {Q : XQ} {e : E} {h : H} : XW C lo x22_26 Q e h =
    Q .rt ((2, E.get e 4) :: (3, .int .i64 0) :: e) h := nrfl (by kernel_rfl)
theorem q22_24 {lo : Nat} {Q : XQ} {e : E} {h : H} : XW C lo x22_24 Q e h =
    bd (lenV Try.prog [22] (E.get e 4)) fun t1 =>
    bdB (binV Try.prog .gtr 3 t1 (.int .i64 480)) fun b2 =>
    byT b2 (XW C lo x22_25 (kX (XW C lo x22_26 Q) Q) [(61, .bool b2), (4, E.get e 4)] h) (XW C lo .skip (kX (XW C lo x22_26 Q) Q) [(61, .bool b2), (4, E.get e 4)] h) := nrfl (by kernel_rfl)
theorem q22_4 {lo : Nat} {Q : XQ} {e : E} {h : H} : XW C lo x22_4 Q e h =
    bd (lenV Try.prog [48] (E.get e 0)) fun t1 =>
    bd (convV Try.prog (H.read h) 3 5 t1) fun r2 => KX h (fun t3 h4 =>
    bd (buildSliceV Try.prog 22 1 [(0, t3)]) fun r5 => KX h4 (fun t6 h7 =>
    bd (lenV Try.prog [48] (E.get e 0)) fun t8 =>
    XW C lo x22_5 (kXB 0 (XW C lo x22_24 Q) Q) ((16, E.get e 0) :: (17, t8) :: (18, .int .i64 0) :: (4, t6) :: e) h7) r5) r2 := nrfl (by kernel_rfl)
theorem q22_2 {lo : Nat} {Q : XQ} {e : E} {h : H} : XW C lo x22_2 Q e h =
    bd (lenV Try.prog [48] (E.get e 0)) fun t1 =>
    bdB (binV Try.prog .gtr 3 t1 (.int .i64 12)) fun b2 =>
    byT b2 (XW C lo x22_3 (kX (XW C lo x22_4 Q) Q) ((11, .bool b2) :: e) h) (XW C lo .skip (kX (XW C lo x22_4 Q) Q) ((11, .bool b2) :: e) h) := nrfl (by kernel_rfl)
theorem q22_0 {lo : Nat} {Q : XQ} {e : E} {h : H} : XW C lo x22_0 Q e h =
    CW C 49 [E.get e 0, .fn (.func 50) [] []] lo h fun t1 h2 =>
    byV t1 (XW C lo x22_1 (kX (XW C lo x22_2 Q) Q) ((8, t1) :: e) h2) (XW C lo .skip (kX (XW C lo x22_2 Q) Q) ((8, t1) :: e) h2) False := nrfl (by kernel_rfl)

/-! ### chancery/chancerykit.CopyRow -/
def r23_0 : List SI := [⟨some 2, (.assign (.const (.slice none 0 0))), none⟩]
def r23_1 : List SI := [⟨some 3, (.move (.tmp 0)), none⟩,
  ⟨some 4, (.call { callee := (.value (.func 53)), args := #[(.tmp 3)], argTypes := #[47] }), none⟩,
  ⟨some 2, (.assign (.tmp 4)), none⟩]
def x23_0 : X := .ops r23_0 [] (.ops r23_1 [2] .ret)
def n23 : Ann := .ops [] (.ops [2] .stop)
theorem ok23 : annFn Try.f23 1 n23 = some x23_0 := by kernel_rfl
noncomputable def kF23 (K : V → H → Prop) : XQ := kFnX C.P Try.f23.results.toList K
theorem e23_nx {K : V → H → Prop} {e : E} {h : H} : kF23 K .nx e h = K (E.get e 2) h := nrfl (by kernel_rfl)
theorem e23_rt {K : V → H → Prop} {e : E} {h : H} : kF23 K .rt e h = K (E.get e 2) h := nrfl (by kernel_rfl)
theorem enter23 {lo : Nat} {h : H} {vs : List V} {K : V → H → Prop} (hl : vs.length = 1) (hw : XW C lo x23_0 (kF23 K) (args 0 vs) h) : CW C 23 vs lo h K := by
  refine CW_X hS rfl Try.func23 ok23 hl ?_ hw
  rw [Try.ntmps23]
  decide
theorem q23_0 {lo : Nat} {Q : XQ} {e : E} {h : H} : XW C lo x23_0 Q e h =
    CW C 53 [E.get e 0] lo h fun t1 h2 =>
    Q .rt ((2, t1) :: e) h2 := nrfl (by kernel_rfl)

/-! ### chancery/cell.Read -/
def r24_0 : List SI := [⟨some 2, (.assign (.const (.slice none 0 0))), none⟩,
  ⟨some 3, (.assign (.const (.int .i64 0))), none⟩]
def r24_1 : List SI := [⟨some 12, (.move (.tmp 0)), none⟩,
  ⟨some 13, (.call { callee := (.builtin .len), args := #[(.tmp 12)], argTypes := #[22] }), none⟩,
  ⟨some 14, (.binOp .gtr 3 (.tmp 13) (.const (.int .i64 480)) 3), none⟩]
def r24_2 : List SI := [⟨some 2, (.assign (.const (.slice none 0 0))), none⟩,
  ⟨some 3, (.assign (.const (.int .i64 280))), none⟩]
def x24_1 : X := .ops r24_2 [2, 3] .ret
def r24_3 : List SI := [⟨some 15, (.move (.tmp 0)), none⟩,
  ⟨some 4, (.alloc 22), none⟩,
  ⟨some 5, (.alloc 4), none⟩,
  ⟨none, (.store 22 (.tmp 4) (.tmp 15)), none⟩,
  ⟨none, (.store 4 (.tmp 5) (.const (.bool true))), none⟩]
def r24_4 : List SI := [⟨some 16, (.makeFunc (Go.Fn.func 54) #[] #[(.tmp 4), (.tmp 5)]), none⟩,
  ⟨some 6, (.assign (.tmp 16)), none⟩]
def r24_5 : List SI := [⟨some 17, (.move (.tmp 6)), none⟩,
  ⟨some 18, (.call { callee := (.value (.tmp 17)), args := #[(.const (.int .i64 1))], argTypes := #[3] }), none⟩,
  ⟨some 19, (.indexAddr 22 (.tmp 18) (.const (.int .i64 0))), none⟩,
  ⟨some 20, (.load 5 (.tmp 19)), none⟩,
  ⟨some 7, (.assign (.tmp 20)), none⟩]
def r24_6 : List SI := [⟨some 21, (.move (.tmp 7)), none⟩,
  ⟨some 22, (.binOp .gtr 5 (.tmp 21) (.const (.int .u8 12)) 5), none⟩]
def r24_7 : List SI := [⟨some 2, (.assign (.const (.slice none 0 0))), none⟩,
  ⟨some 3, (.assign (.const (.int .i64 280))), none⟩]
def x24_3 : X := .ops r24_7 [2, 3] .ret
def r24_8 : List SI := [⟨some 8, (.assign (.const (.slice none 0 0))), none⟩]
def r24_9 : List SI := [⟨some 23, (.move (.tmp 7)), none⟩,
  ⟨some 24, (.move (.const (.int .u8 0))), none⟩]
def r24_10 : List SI := [⟨some 25, (.binOp .lss 5 (.tmp 24) (.tmp 23) 5), none⟩]
def r24_11 : List SI := [⟨some 26, (.move (.tmp 6)), none⟩,
  ⟨some 27, (.call { callee := (.value (.tmp 26)), args := #[(.const (.int .i64 1))], argTypes := #[3] }), none⟩,
  ⟨some 28, (.indexAddr 22 (.tmp 27) (.const (.int .i64 0))), none⟩,
  ⟨some 29, (.load 5 (.tmp 28)), none⟩,
  ⟨some 30, (.build 60 #[(0, (.tmp 29))]), none⟩,
  ⟨some 9, (.alloc 60), none⟩,
  ⟨none, (.store 60 (.tmp 9) (.tmp 30)), none⟩]
def r24_12 : List SI := [⟨some 31, (.fieldAddr 60 (.tmp 9) 0), none⟩,
  ⟨some 32, (.load 58 (.tmp 31)), none⟩]
def r24_13 : List SI := [⟨some 34, (.binOp .eql 58 (.tmp 32) (.const (.int .u8 1)) 58), none⟩,
  ⟨some 33, (.assign (.tmp 34)), none⟩]
def r24_14 : List SI := [⟨some 35, (.move (.tmp 6)), none⟩,
  ⟨some 36, (.call { callee := (.value (.tmp 35)), args := #[(.const (.int .i64 1))], argTypes := #[3] }), none⟩,
  ⟨some 37, (.indexAddr 22 (.tmp 36) (.const (.int .i64 0))), none⟩,
  ⟨some 38, (.load 5 (.tmp 37)), none⟩,
  ⟨some 39, (.convert 5 2 (.tmp 38)), none⟩,
  ⟨some 40, (.fieldAddr 60 (.tmp 9) 1), none⟩,
  ⟨none, (.store 2 (.tmp 40) (.tmp 39)), none⟩]
def x24_10 : X := .ops r24_14 [] .skip
def r24_15 : List SI := [⟨some 42, (.binOp .eql 58 (.tmp 32) (.const (.int .u8 2)) 58), none⟩,
  ⟨some 41, (.assign (.tmp 42)), none⟩]
def r24_16 : List SI := [⟨some 43, (.binOp .eql 58 (.tmp 32) (.const (.int .u8 3)) 58), none⟩,
  ⟨some 41, (.assign (.tmp 43)), none⟩]
def x24_12 : X := .ops r24_16 [41] .skip
def r24_17 : List SI := [⟨some 44, (.move (.tmp 6)), none⟩,
  ⟨some 45, (.call { callee := (.value (.tmp 44)), args := #[(.const (.int .i64 8))], argTypes := #[3] }), none⟩,
  ⟨some 46, (.call { callee := (.builtin .len), args := #[(.tmp 45)], argTypes := #[22] }), none⟩,
  ⟨some 47, (.move (.const (.int .i64 0))), none⟩]
def r24_18 : List SI := [⟨some 48, (.binOp .lss 3 (.tmp 47) (.tmp 46) 3), none⟩]
def r24_19 : List SI := [⟨some 49, (.indexAddr 22 (.tmp 45) (.tmp 47)), none⟩,
  ⟨some 50, (.load 5 (.tmp 49)), none⟩,
  ⟨some 11, (.assign (.tmp 50)), none⟩]
def r24_20 : List SI := [⟨some 51, (.fieldAddr 60 (.tmp 9) 1), none⟩,
  ⟨some 52, (.load 2 (.tmp 51)), none⟩,
  ⟨some 53, (.binOp .shl 2 (.tmp 52) (.const (.int .u64 8)) 95), none⟩,
  ⟨some 54, (.move (.tmp 11)), none⟩,
  ⟨some 55, (.convert 5 2 (.tmp 54)), none⟩,
  ⟨some 56, (.binOp .or 2 (.tmp 53) (.tmp 55) 2), none⟩,
  ⟨some 57, (.fieldAddr 60 (.tmp 9) 1), none⟩,
  ⟨none, (.store 2 (.tmp 57) (.tmp 56)), none⟩]
def x24_18 : X := .ops r24_19 [11] (.ops r24_20 [] .skip)
def r24_21 : List SI := [⟨some 58, (.binOp .add 3 (.tmp 47) (.const (.int .i64 1)) 3), none⟩,
  ⟨some 47, (.move (.tmp 58)), none⟩]
def x24_19 : X := .trim [4, 5, 6, 8, 9, 23, 24, 45, 46, 47] (.ops r24_21 [47] .skip)
def x24_17 : X := .block 4 x24_18 x24_19
def x24_16 : X := .ops r24_18 [48] (.cond (.tmp 48) .skip (.exit 3) x24_17)
def x24_15 : X := .loop [4, 5, 6, 8, 9, 23, 24, 45, 46, 47] x24_16
def x24_20 : X := .trim [4, 5, 6, 8, 9, 23, 24] .skip
def x24_14 : X := .ops r24_17 [45, 46, 47] (.block 3 x24_15 x24_20)
def r24_22 : List SI := [⟨some 60, (.binOp .eql 58 (.tmp 32) (.const (.int .u8 4)) 58), none⟩,
  ⟨some 59, (.assign (.tmp 60)), none⟩]
def r24_23 : List SI := [⟨some 61, (.binOp .eql 58 (.tmp 32) (.const (.int .u8 5)) 58), none⟩,
  ⟨some 59, (.assign (.tmp 61)), none⟩]
def x24_22 : X := .ops r24_23 [59] .skip
def r24_24 : List SI := [⟨some 62, (.move (.tmp 6)), none⟩,
  ⟨some 63, (.move (.tmp 6)), none⟩,
  ⟨some 64, (.call { callee := (.value (.tmp 63)), args := #[(.const (.int .i64 1))], argTypes := #[3] }), none⟩,
  ⟨some 65, (.indexAddr 22 (.tmp 64) (.const (.int .i64 0))), none⟩,
  ⟨some 66, (.load 5 (.tmp 65)), none⟩,
  ⟨some 67, (.convert 5 3 (.tmp 66)), none⟩,
  ⟨some 68, (.call { callee := (.value (.tmp 62)), args := #[(.tmp 67)], argTypes := #[3] }), none⟩,
  ⟨some 69, (.convert 22 9 (.tmp 68)), none⟩,
  ⟨some 70, (.fieldAddr 60 (.tmp 9) 2), none⟩,
  ⟨none, (.store 9 (.tmp 70) (.tmp 69)), none⟩]
def x24_24 : X := .ops r24_24 [] .skip
def x24_25 : X := .trim [4, 5, 6, 8, 9, 23, 24] .skip
def x24_23 : X := .trim [4, 5, 6, 8, 9, 23, 24, 59] (.cond (.tmp 59) x24_24 .skip x24_25)
def x24_21 : X := .ops r24_22 [59] (.cond (.tmp 59) .skip x24_22 x24_23)
def x24_26 : X := .trim [4, 5, 6, 8, 9, 23, 24] .skip
def x24_13 : X := .trim [4, 5, 6, 8, 9, 23, 24, 32, 41] (.cond (.tmp 41) x24_14 x24_21 x24_26)
def x24_11 : X := .ops r24_15 [41] (.cond (.tmp 41) .skip x24_12 x24_13)
def x24_27 : X := .trim [4, 5, 6, 8, 9, 23, 24] .skip
def x24_9 : X := .ops r24_13 [33] (.cond (.tmp 33) x24_10 x24_11 x24_27)
def r24_25 : List SI := [⟨some 71, (.load 4 (.tmp 5)), none⟩,
  ⟨some 72, (.move (.tmp 71)), none⟩,
  ⟨some 73, (.load 60 (.tmp 9)), some (some 72, true)⟩,
  ⟨some 74, (.call { callee := (.value (.func 51)), args := #[(.tmp 73)], argTypes := #[60] }), some (some 72, true)⟩,
  ⟨some 75, (.pick (.tmp 72) (.tmp 74) (.const (.bool false))), none⟩,
  ⟨none, (.store 4 (.tmp 5) (.tmp 75)), none⟩]
def r24_26 : List SI := [⟨some 76, (.move (.tmp 8)), none⟩,
  ⟨some 77, (.load 60 (.tmp 9)), none⟩,
  ⟨some 78, (.buildSlice 48 1 #[(0, (.tmp 77))]), none⟩,
  ⟨some 79, (.call { callee := (.builtin .append), args := #[(.tmp 76), (.tmp 78)], argTypes := #[48, 48] }), none⟩,
  ⟨some 8, (.assign (.tmp 79)), none⟩]
def x24_29 : X := .ops r24_26 [8] .skip
def x24_28 : X := .trim [4, 5, 6, 8, 9, 23, 24] (.ops r24_25 [] x24_29)
def x24_8 : X := .ops r24_11 [9] (.ops r24_12 [32] (.block 2 x24_9 x24_28))
def r24_27 : List SI := [⟨some 80, (.binOp .add 5 (.tmp 24) (.const (.int .u8 1)) 5), none⟩,
  ⟨some 24, (.move (.tmp 80)), none⟩]
def x24_30 : X := .trim [4, 5, 6, 8, 23, 24] (.ops r24_27 [24] .skip)
def x24_7 : X := .block 1 x24_8 x24_30
def x24_6 : X := .ops r24_10 [25] (.cond (.tmp 25) .skip (.exit 0) x24_7)
def x24_5 : X := .loop [4, 5, 6, 8, 23, 24] x24_6
def r24_28 : List SI := [⟨some 81, (.load 4 (.tmp 5)), none⟩,
  ⟨some 82, (.unOp .not 4 (.tmp 81)), none⟩,
  ⟨some 83, (.move (.tmp 82)), none⟩,
  ⟨some 84, (.load 22 (.tmp 4)), some (some 83, false)⟩,
  ⟨some 85, (.call { callee := (.builtin .len), args := #[(.tmp 84)], argTypes := #[22] }), some (some 83, false)⟩,
  ⟨some 86, (.binOp .gtr 3 (.tmp 85) (.const (.int .i64 0)) 3), some (some 83, false)⟩,
  ⟨some 87, (.pick (.tmp 83) (.const (.bool true)) (.tmp 86)), none⟩]
def r24_29 : List SI := [⟨some 2, (.assign (.const (.slice none 0 0))), none⟩,
  ⟨some 3, (.assign (.const (.int .i64 280))), none⟩]
def x24_33 : X := .ops r24_29 [2, 3] .ret
def r24_30 : List SI := [⟨some 88, (.move (.tmp 8)), none⟩,
  ⟨some 2, (.assign (.tmp 88)), none⟩,
  ⟨some 3, (.assign (.const (.int .i64 0))), none⟩]
def x24_34 : X := .ops r24_30 [2, 3] .ret
def x24_32 : X := .cond (.tmp 87) x24_33 .skip x24_34
def x24_31 : X := .trim [4, 5, 8] (.ops r24_28 [87] x24_32)
def x24_4 : X := .ops r24_8 [8] (.ops r24_9 [23, 24] (.block 0 x24_5 x24_31))
def x24_2 : X := .ops r24_3 [4, 5] (.ops r24_4 [6] (.ops r24_5 [7] (.ops r24_6 [22] (.cond (.tmp 22) x24_3 .skip x24_4))))
def x24_0 : X := .ops r24_0 [] (.ops r24_1 [14] (.cond (.tmp 14) x24_1 .skip x24_2))
def n24 : Ann := .ops [] (.ops [14] (.cond (.ops [2, 3] .stop) .stop (.ops [4, 5] (.ops [6] (.ops [7] (.ops [22] (.cond (.ops [2, 3] .stop) .stop (.ops [8] (.ops [23, 24] (.block [4, 5, 8] (.loop [4, 5, 6, 8, 23, 24] (.ops [25] (.cond .stop .stop (.block [4, 5, 6, 8, 23, 24] (.ops [9] (.ops [32] (.block [4, 5, 6, 8, 9, 23, 24] (.ops [33] (.cond (.ops [] .stop) (.ops [41] (.cond .stop (.ops [41] .stop) (.trim [4, 5, 6, 8, 9, 23, 24, 32, 41] (.cond (.ops [45, 46, 47] (.block [4, 5, 6, 8, 9, 23, 24] (.loop [4, 5, 6, 8, 9, 23, 24, 45, 46, 47] (.ops [48] (.cond .stop .stop (.block [4, 5, 6, 8, 9, 23, 24, 45, 46, 47] (.ops [11] (.ops [] .stop)) (.trim [4, 5, 6, 8, 9, 23, 24, 45, 46, 47] (.ops [47] .stop)))))) (.trim [4, 5, 6, 8, 9, 23, 24] .stop))) (.ops [59] (.cond .stop (.ops [59] .stop) (.trim [4, 5, 6, 8, 9, 23, 24, 59] (.cond (.ops [] .stop) .stop (.trim [4, 5, 6, 8, 9, 23, 24] .stop))))) (.trim [4, 5, 6, 8, 9, 23, 24] .stop))))) (.trim [4, 5, 6, 8, 9, 23, 24] .stop))) (.trim [4, 5, 6, 8, 9, 23, 24] (.ops [] (.ops [8] .stop)))))) (.trim [4, 5, 6, 8, 23, 24] (.ops [24] .stop)))))) (.trim [4, 5, 8] (.ops [87] (.cond (.ops [2, 3] .stop) .stop (.ops [2, 3] .stop))))))))))))))
theorem ok24 : annFn Try.f24 1 n24 = some x24_0 := by kernel_rfl
noncomputable def kF24 (K : V → H → Prop) : XQ := kFnX C.P Try.f24.results.toList K
theorem e24_nx {K : V → H → Prop} {e : E} {h : H} : kF24 K .nx e h = K (.tup [E.get e 2, E.get e 3]) h := nrfl (by kernel_rfl)
theorem e24_rt {K : V → H → Prop} {e : E} {h : H} : kF24 K .rt e h = K (.tup [E.get e 2, E.get e 3]) h := nrfl (by kernel_rfl)
theorem enter24 {lo : Nat} {h : H} {vs : List V} {K : V → H → Prop} (hl : vs.length = 1) (hw : XW C lo x24_0 (kF24 K) (args 0 vs) h) : CW C 24 vs lo h K := by
  refine CW_X hS rfl Try.func24 ok24 hl ?_ hw
  rw [Try.ntmps24]
  decide
theorem q24_1 {lo : Nat} {Q : XQ} {e : E} {h : H} : XW C lo x24_1 Q e h =
    Q .rt ((2, .nils) :: (3, .int .i64 280) :: e) h := nrfl (by kernel_rfl)
theorem q24_3 {lo : Nat} {Q : XQ} {e : E} {h : H} : XW C lo x24_3 Q e h =
    Q .rt ((2, .nils) :: (3, .int .i64 280) :: e) h := nrfl (by kernel_rfl)
theorem q24_10 {lo : Nat} {Q : XQ} {e : E} {h : H} : XW C lo x24_10 Q e h =
    callX C (E.get e 6) [.int .i64 1] lo h fun t1 h2 =>
    bd (addrV Try.prog 22 t1 (.int .i64 0)) fun t3 =>
    bd (loadV Try.prog 5 t3 (H.read h2)) fun t4 =>
    bd (convV Try.prog (H.read h2) 5 2 t4) fun r5 => KX h2 (fun t6 h7 =>
    bd (fieldAddrV Try.prog 60 (E.get e 9) 1) fun t8 =>
    bd (storeV Try.prog lo 2 t8 t6 h7) fun h9 =>
    Q .nx e h9) r5 := nrfl (by kernel_rfl)
theorem q24_12 {lo : Nat} {Q : XQ} {e : E} {h : H} : XW C lo x24_12 Q e h =
    bdB (binV Try.prog .eql 58 (E.get e 32) (.int .u8 3)) fun b1 =>
    Q .nx ((41, .bool b1) :: e) h := nrfl (by kernel_rfl)
theorem q24_18 {lo : Nat} {Q : XQ} {e : E} {h : H} : XW C lo x24_18 Q e h =
    bd (addrV Try.prog 22 (E.get e 45) (E.get e 47)) fun t1 =>
    bd (loadV Try.prog 5 t1 (H.read h)) fun t2 =>
    bd (fieldAddrV Try.prog 60 (E.get e 9) 1) fun t3 =>
    bd (loadV Try.prog 2 t3 (H.read h)) fun t4 =>
    bd (binV Try.prog .shl 2 t4 (.int .u64 8)) fun t5 =>
    bd (convV Try.prog (H.read h) 5 2 t2) fun r6 => KX h (fun t7 h8 =>
    bd (binV Try.prog .or 2 t5 t7) fun t9 =>
    bd (fieldAddrV Try.prog 60 (E.get e 9) 1) fun t10 =>
    bd (storeV Try.prog lo 2 t10 t9 h8) fun h11 =>
    Q .nx ((11, t2) :: e) h11) r6 := nrfl (by kernel_rfl)
theorem q24_19 {lo : Nat} {Q : XQ} {e : E} {h : H} : XW C lo x24_19 Q e h =
    bd (binV Try.prog .add 3 (E.get e 47) (.int .i64 1)) fun t1 =>
    Q .nx [(47, t1), (4, E.get e 4), (5, E.get e 5), (6, E.get e 6), (8, E.get e 8), (9, E.get e 9), (23, E.get e 23), (24, E.get e 24), (45, E.get e 45), (46, E.get e 46), (47, E.get e 47)] h := nrfl (by kernel_rfl)
theorem q24_17 {lo : Nat} {Q : XQ} {e : E} {h : H} : XW C lo x24_17 Q e h =
    XW C lo x24_18 (kXB 4 (XW C lo x24_19 Q) Q) e h := nrfl (by kernel_rfl)
theorem q24_16 {lo : Nat} {Q : XQ} {e : E} {h : H} : XW C lo x24_16 Q e h =
    bdB (binV Try.prog .lss 3 (E.get e 47) (E.get e 46)) fun b1 =>
    byT b1 (XW C lo .skip (kX (XW C lo x24_17 Q) Q) ((48, .bool b1) :: e) h) (XW C lo (.exit 3) (kX (XW C lo x24_17 Q) Q) ((48, .bool b1) :: e) h) := nrfl (by kernel_rfl)
theorem q24_15 {lo : Nat} {Q : XQ} {e : E} {h : H} : XW C lo x24_15 Q e h =
    ∃ n, loopX [4, 5, 6, 8, 9, 23, 24, 45, 46, 47] (XW C lo x24_16) Q n e h := nrfl (by kernel_rfl)
theorem q24_20 {lo : Nat} {Q : XQ} {e : E} {h : H} : XW C lo x24_20 Q e h =
    Q .nx [(4, E.get e 4), (5, E.get e 5), (6, E.get e 6), (8, E.get e 8), (9, E.get e 9), (23, E.get e 23), (24, E.get e 24)] h := nrfl (by kernel_rfl)
theorem q24_14 {lo : Nat} {Q : XQ} {e : E} {h : H} : XW C lo x24_14 Q e h =
    callX C (E.get e 6) [.int .i64 8] lo h fun t1 h2 =>
    bd (lenV Try.prog [22] t1) fun t3 =>
    XW C lo x24_15 (kXB 3 (XW C lo x24_20 Q) Q) ((45, t1) :: (46, t3) :: (47, .int .i64 0) :: e) h2 := nrfl (by kernel_rfl)
theorem q24_22 {lo : Nat} {Q : XQ} {e : E} {h : H} : XW C lo x24_22 Q e h =
    bdB (binV Try.prog .eql 58 (E.get e 32) (.int .u8 5)) fun b1 =>
    Q .nx ((59, .bool b1) :: e) h := nrfl (by kernel_rfl)
theorem q24_24 {lo : Nat} {Q : XQ} {e : E} {h : H} : XW C lo x24_24 Q e h =
    callX C (E.get e 6) [.int .i64 1] lo h fun t1 h2 =>
    bd (addrV Try.prog 22 t1 (.int .i64 0)) fun t3 =>
    bd (loadV Try.prog 5 t3 (H.read h2)) fun t4 =>
    bd (convV Try.prog (H.read h2) 5 3 t4) fun r5 => KX h2 (fun t6 h7 =>
    callX C (E.get e 6) [t6] lo h7 fun t8 h9 =>
    bd (convV Try.prog (H.read h9) 22 9 t8) fun r10 => KX h9 (fun t11 h12 =>
    bd (fieldAddrV Try.prog 60 (E.get e 9) 2) fun t13 =>
    bd (storeV Try.prog lo 9 t13 t11 h12) fun h14 =>
    Q .nx e h14) r10) r5 := nrfl (by kernel_rfl)
theorem q24_25 {lo : Nat} {Q : XQ} {e : E} {h : H} : XW C lo x24_25 Q e h =
    Q .nx [(4, E.get e 4), (5, E.get e 5), (6, E.get e 6), (8, E.get e 8), (9, E.get e 9), (23, E.get e 23), (24, E.get e 24)] h := nrfl (by kernel_rfl)
theorem q24_23 {lo : Nat} {Q : XQ} {e : E} {h : H} : XW C lo x24_23 Q e h =
    byV (E.get e 59) (XW C lo x24_24 (kX (XW C lo x24_25 Q) Q) [(4, E.get e 4), (5, E.get e 5), (6, E.get e 6), (8, E.get e 8), (9, E.get e 9), (23, E.get e 23), (24, E.get e 24), (59, E.get e 59)] h) (XW C lo .skip (kX (XW C lo x24_25 Q) Q) [(4, E.get e 4), (5, E.get e 5), (6, E.get e 6), (8, E.get e 8), (9, E.get e 9), (23, E.get e 23), (24, E.get e 24), (59, E.get e 59)] h) False := nrfl (by kernel_rfl)
theorem q24_21 {lo : Nat} {Q : XQ} {e : E} {h : H} : XW C lo x24_21 Q e h =
    bdB (binV Try.prog .eql 58 (E.get e 32) (.int .u8 4)) fun b1 =>
    byT b1 (XW C lo .skip (kX (XW C lo x24_23 Q) Q) ((59, .bool b1) :: e) h) (XW C lo x24_22 (kX (XW C lo x24_23 Q) Q) ((59, .bool b1) :: e) h) := nrfl (by kernel_rfl)
theorem q24_26 {lo : Nat} {Q : XQ} {e : E} {h : H} : XW C lo x24_26 Q e h =
    Q .nx [(4, E.get e 4), (5, E.get e 5), (6, E.get e 6), (8, E.get e 8), (9, E.get e 9), (23, E.get e 23), (24, E.get e 24)] h := nrfl (by kernel_rfl)
theorem q24_13 {lo : Nat} {Q : XQ} {e : E} {h : H} : XW C lo x24_13 Q e h =
    byV (E.get e 41) (XW C lo x24_14 (kX (XW C lo x24_26 Q) Q) [(4, E.get e 4), (5, E.get e 5), (6, E.get e 6), (8, E.get e 8), (9, E.get e 9), (23, E.get e 23), (24, E.get e 24), (32, E.get e 32), (41, E.get e 41)] h) (XW C lo x24_21 (kX (XW C lo x24_26 Q) Q) [(4, E.get e 4), (5, E.get e 5), (6, E.get e 6), (8, E.get e 8), (9, E.get e 9), (23, E.get e 23), (24, E.get e 24), (32, E.get e 32), (41, E.get e 41)] h) False := nrfl (by kernel_rfl)
theorem q24_11 {lo : Nat} {Q : XQ} {e : E} {h : H} : XW C lo x24_11 Q e h =
    bdB (binV Try.prog .eql 58 (E.get e 32) (.int .u8 2)) fun b1 =>
    byT b1 (XW C lo .skip (kX (XW C lo x24_13 Q) Q) ((41, .bool b1) :: e) h) (XW C lo x24_12 (kX (XW C lo x24_13 Q) Q) ((41, .bool b1) :: e) h) := nrfl (by kernel_rfl)
theorem q24_27 {lo : Nat} {Q : XQ} {e : E} {h : H} : XW C lo x24_27 Q e h =
    Q .nx [(4, E.get e 4), (5, E.get e 5), (6, E.get e 6), (8, E.get e 8), (9, E.get e 9), (23, E.get e 23), (24, E.get e 24)] h := nrfl (by kernel_rfl)
theorem q24_9 {lo : Nat} {Q : XQ} {e : E} {h : H} : XW C lo x24_9 Q e h =
    bdB (binV Try.prog .eql 58 (E.get e 32) (.int .u8 1)) fun b1 =>
    byT b1 (XW C lo x24_10 (kX (XW C lo x24_27 Q) Q) ((33, .bool b1) :: e) h) (XW C lo x24_11 (kX (XW C lo x24_27 Q) Q) ((33, .bool b1) :: e) h) := nrfl (by kernel_rfl)
theorem q24_29 {lo : Nat} {Q : XQ} {e : E} {h : H} : XW C lo x24_29 Q e h =
    bd (loadV Try.prog 60 (E.get e 9) (H.read h)) fun t1 =>
    bd (buildSliceV Try.prog 48 1 [(0, t1)]) fun r2 => KX h (fun t3 h4 =>
    bd2 (appendV Try.prog lo [48, 48] (E.get e 8) t3 h4) fun t5 h6 =>
    Q .nx ((8, t5) :: e) h6) r2 := nrfl (by kernel_rfl)
theorem q24_28 {lo : Nat} {Q : XQ} {e : E} {h : H} : XW C lo x24_28 Q e h =
    bd (loadV Try.prog 4 (E.get e 5) (H.read h)) fun t1 =>
    byV t1 (bd (loadV Try.prog 60 (E.get e 9) (H.read h)) fun t2 =>
    CW C 51 [t2] lo h fun t3 h4 =>
    bd (storeV Try.prog lo 4 (E.get e 5) t3 h4) fun h5 =>
    bd (loadV Try.prog 60 (E.get e 9) (H.read h5)) fun t6 =>
    bd (buildSliceV Try.prog 48 1 [(0, t6)]) fun r7 => KX h5 (fun t8 h9 =>
    bd2 (appendV Try.prog lo [48, 48] (E.get e 8) t8 h9) fun t10 h11 =>
    Q .nx [(8, t10), (4, E.get e 4), (5, E.get e 5), (6, E.get e 6), (8, E.get e 8), (9, E.get e 9), (23, E.get e 23), (24, E.get e 24)] h11) r7) (bd (storeV Try.prog lo 4 (E.get e 5) (.bool false) h) fun h2 =>
    bd (loadV Try.prog 60 (E.get e 9) (H.read h2)) fun t3 =>
    bd (buildSliceV Try.prog 48 1 [(0, t3)]) fun r4 => KX h2 (fun t5 h6 =>
    bd2 (appendV Try.prog lo [48, 48] (E.get e 8) t5 h6) fun t7 h8 =>
    Q .nx [(8, t7), (4, E.get e 4), (5, E.get e 5), (6, E.get e 6), (8, E.get e 8), (9, E.get e 9), (23, E.get e 23), (24, E.get e 24)] h8) r4) (False) := nrfl (by kernel_rfl)
theorem q24_8 {lo : Nat} {Q : XQ} {e : E} {h : H} : XW C lo x24_8 Q e h =
    callX C (E.get e 6) [.int .i64 1] lo h fun t1 h2 =>
    bd (addrV Try.prog 22 t1 (.int .i64 0)) fun t3 =>
    bd (loadV Try.prog 5 t3 (H.read h2)) fun t4 =>
    bd (buildV Try.prog 60 [(0, t4)]) fun t5 =>
    bd (zero? Try.prog 60) fun z6 =>
    bd (storeV Try.prog lo 60 (.ptr (H.next h2) 0) t5 (H.alloc h2 (V.cells z6))) fun h7 =>
    bd (fieldAddrV Try.prog 60 (.ptr (H.next h2) 0) 0) fun t8 =>
    bd (loadV Try.prog 58 t8 (H.read h7)) fun t9 =>
    XW C lo x24_9 (kXB 2 (XW C lo x24_28 Q) Q) ((32, t9) :: (9, .ptr (H.next h2) 0) :: e) h7 := nrfl (by kernel_rfl)
theorem q24_30 {lo : Nat} {Q : XQ} {e : E} {h : H} : XW C lo x24_30 Q e h =
    bd (binV Try.prog .add 5 (E.get e 24) (.int .u8 1)) fun t1 =>
    Q .nx [(24, t1), (4, E.get e 4), (5, E.get e 5), (6, E.get e 6), (8, E.get e 8), (23, E.get e 23), (24, E.get e 24)] h := nrfl (by kernel_rfl)
theorem q24_7 {lo : Nat} {Q : XQ} {e : E} {h : H} : XW C lo x24_7 Q e h =
    XW C lo x24_8 (kXB 1 (XW C lo x24_30 Q) Q) e h := nrfl (by kernel_rfl)
theorem q24_6 {lo : Nat} {Q : XQ} {e : E} {h : H} : XW C lo x24_6 Q e h =
    bdB (binV Try.prog .lss 5 (E.get e 24) (E.get e 23)) fun b1 =>
    byT b1 (XW C lo .skip (kX (XW C lo x24_7 Q) Q) ((25, .bool b1) :: e) h) (XW C lo (.exit 0) (kX (XW C lo x24_7 Q) Q) ((25, .bool b1) :: e) h) := nrfl (by kernel_rfl)
theorem q24_5 {lo : Nat} {Q : XQ} {e : E} {h : H} : XW C lo x24_5 Q e h =
    ∃ n, loopX [4, 5, 6, 8, 23, 24] (XW C lo x24_6) Q n e h := nrfl (by kernel_rfl)
theorem q24_33 {lo : Nat} {Q : XQ} {e : E} {h : H} : XW C lo x24_33 Q e h =
    Q .rt ((2, .nils) :: (3, .int .i64 280) :: e) h := nrfl (by kernel_rfl)
theorem q24_34 {lo : Nat} {Q : XQ} {e : E} {h : H} : XW C lo x24_34 Q e h =
    Q .rt ((2, E.get e 8) :: (3, .int .i64 0) :: e) h := nrfl (by kernel_rfl)
theorem q24_32 {lo : Nat} {Q : XQ} {e : E} {h : H} : XW C lo x24_32 Q e h =
    byV (E.get e 87) (XW C lo x24_33 (kX (XW C lo x24_34 Q) Q) e h) (XW C lo .skip (kX (XW C lo x24_34 Q) Q) e h) False := nrfl (by kernel_rfl)
theorem q24_31 {lo : Nat} {Q : XQ} {e : E} {h : H} : XW C lo x24_31 Q e h =
    bd (loadV Try.prog 4 (E.get e 5) (H.read h)) fun t1 =>
    bd (unV .not t1) fun t2 =>
    byV t2 (XW C lo x24_33 (kX (XW C lo x24_34 Q) Q) [(87, .bool true), (4, E.get e 4), (5, E.get e 5), (8, E.get e 8)] h) (bd (loadV Try.prog 22 (E.get e 4) (H.read h)) fun t3 =>
    bd (lenV Try.prog [22] t3) fun t4 =>
    bdB (binV Try.prog .gtr 3 t4 (.int .i64 0)) fun b5 =>
    byT b5 (XW C lo x24_33 (kX (XW C lo x24_34 Q) Q) [(87, .bool b5), (4, E.get e 4), (5, E.get e 5), (8, E.get e 8)] h) (XW C lo .skip (kX (XW C lo x24_34 Q) Q) [(87, .bool b5), (4, E.get e 4), (5, E.get e 5), (8, E.get e 8)] h)) (False) := nrfl (by kernel_rfl)
theorem q24_4 {lo : Nat} {Q : XQ} {e : E} {h : H} : XW C lo x24_4 Q e h =
    XW C lo x24_5 (kXB 0 (XW C lo x24_31 Q) Q) ((23, E.get e 7) :: (24, .int .u8 0) :: (8, .nils) :: e) h := nrfl (by kernel_rfl)
theorem q24_2 {lo : Nat} {Q : XQ} {e : E} {h : H} : XW C lo x24_2 Q e h =
    bd (zero? Try.prog 22) fun z1 =>
    bd (zero? Try.prog 4) fun z2 =>
    bd (storeV Try.prog lo 22 (.ptr (H.next h) 0) (E.get e 0) (H.alloc (H.alloc h (V.cells z1)) (V.cells z2))) fun h3 =>
    bd (storeV Try.prog lo 4 (.ptr (H.next (H.alloc h (V.cells z1))) 0) (.bool true) h3) fun h4 =>
    callX C (.fn (Go.Fn.func 54) [] [.ptr (H.next h) 0, .ptr (H.next (H.alloc h (V.cells z1))) 0]) [.int .i64 1] lo h4 fun t5 h6 =>
    bd (addrV Try.prog 22 t5 (.int .i64 0)) fun t7 =>
    bd (loadV Try.prog 5 t7 (H.read h6)) fun t8 =>
    bdB (binV Try.prog .gtr 5 t8 (.int .u8 12)) fun b9 =>
    byT b9 (XW C lo x24_3 (kX (XW C lo x24_4 Q) Q) ((22, .bool b9) :: (7, t8) :: (6, .fn (Go.Fn.func 54) [] [.ptr (H.next h) 0, .ptr (H.next (H.alloc h (V.cells z1))) 0]) :: (4, .ptr (H.next h) 0) :: (5, .ptr (H.next (H.alloc h (V.cells z1))) 0) :: e) h6) (XW C lo .skip (kX (XW C lo x24_4 Q) Q) ((22, .bool b9) :: (7, t8) :: (6, .fn (Go.Fn.func 54) [] [.ptr (H.next h) 0, .ptr (H.next (H.alloc h (V.cells z1))) 0]) :: (4, .ptr (H.next h) 0) :: (5, .ptr (H.next (H.alloc h (V.cells z1))) 0) :: e) h6) := nrfl (by kernel_rfl)
theorem q24_0 {lo : Nat} {Q : XQ} {e : E} {h : H} : XW C lo x24_0 Q e h =
    bd (lenV Try.prog [22] (E.get e 0)) fun t1 =>
    bdB (binV Try.prog .gtr 3 t1 (.int .i64 480)) fun b2 =>
    byT b2 (XW C lo x24_1 (kX (XW C lo x24_2 Q) Q) ((14, .bool b2) :: e) h) (XW C lo .skip (kX (XW C lo x24_2 Q) Q) ((14, .bool b2) :: e) h) := nrfl (by kernel_rfl)

/-! ### chancery/chancerykit.SameRow -/
def r25_0 : List SI := [⟨some 4, (.assign (.const (.bool false))), none⟩]
def r25_1 : List SI := [⟨some 5, (.move (.tmp 0)), none⟩,
  ⟨some 6, (.move (.tmp 1)), none⟩,
  ⟨some 7, (.call { callee := (.value (.func 55)), args := #[(.tmp 5), (.tmp 6)], argTypes := #[47, 47] }), none⟩,
  ⟨some 4, (.assign (.tmp 7)), none⟩]
def x25_0 : X := .ops r25_0 [] (.ops r25_1 [4] .ret)
def n25 : Ann := .ops [] (.ops [4] .stop)
theorem ok25 : annFn Try.f25 2 n25 = some x25_0 := by kernel_rfl
noncomputable def kF25 (K : V → H → Prop) : XQ := kFnX C.P Try.f25.results.toList K
theorem e25_nx {K : V → H → Prop} {e : E} {h : H} : kF25 K .nx e h = K (E.get e 4) h := nrfl (by kernel_rfl)
theorem e25_rt {K : V → H → Prop} {e : E} {h : H} : kF25 K .rt e h = K (E.get e 4) h := nrfl (by kernel_rfl)
theorem enter25 {lo : Nat} {h : H} {vs : List V} {K : V → H → Prop} (hl : vs.length = 2) (hw : XW C lo x25_0 (kF25 K) (args 0 vs) h) : CW C 25 vs lo h K := by
  refine CW_X hS rfl Try.func25 ok25 hl ?_ hw
  rw [Try.ntmps25]
  decide
theorem q25_0 {lo : Nat} {Q : XQ} {e : E} {h : H} : XW C lo x25_0 Q e h =
    CW C 55 [E.get e 0, E.get e 1] lo h fun t1 h2 =>
    Q .rt ((4, t1) :: e) h2 := nrfl (by kernel_rfl)

/-! ### slices.ContainsFunc[chancery/api.Row,chancery/api.Value] -/
def r49_0 : List SI := [⟨some 4, (.assign (.const (.bool false))), none⟩]
def r49_1 : List SI := [⟨some 5, (.move (.tmp 0)), none⟩,
  ⟨some 6, (.move (.tmp 1)), none⟩,
  ⟨some 7, (.call { callee := (.value (.func 72)), args := #[(.tmp 5), (.tmp 6)], argTypes := #[48, 90] }), none⟩,
  ⟨some 8, (.binOp .geq 3 (.tmp 7) (.const (.int .i64 0)) 3), none⟩,
  ⟨some 4, (.assign (.tmp 8)), none⟩]
def x49_0 : X := .ops r49_0 [] (.ops r49_1 [4] .ret)
def n49 : Ann := .ops [] (.ops [4] .stop)
theorem ok49 : annFn Try.f49 2 n49 = some x49_0 := by kernel_rfl
noncomputable def kF49 (K : V → H → Prop) : XQ := kFnX C.P Try.f49.results.toList K
theorem e49_nx {K : V → H → Prop} {e : E} {h : H} : kF49 K .nx e h = K (E.get e 4) h := nrfl (by kernel_rfl)
theorem e49_rt {K : V → H → Prop} {e : E} {h : H} : kF49 K .rt e h = K (E.get e 4) h := nrfl (by kernel_rfl)
theorem enter49 {lo : Nat} {h : H} {vs : List V} {K : V → H → Prop} (hl : vs.length = 2) (hw : XW C lo x49_0 (kF49 K) (args 0 vs) h) : CW C 49 vs lo h K := by
  refine CW_X hS rfl Try.func49 ok49 hl ?_ hw
  rw [Try.ntmps49]
  decide
theorem q49_0 {lo : Nat} {Q : XQ} {e : E} {h : H} : XW C lo x49_0 Q e h =
    CW C 72 [E.get e 0, E.get e 1] lo h fun t1 h2 =>
    bdB (binV Try.prog .geq 3 t1 (.int .i64 0)) fun b3 =>
    Q .rt ((4, .bool b3) :: e) h2 := nrfl (by kernel_rfl)

/-! ### chancery/cell.Row$1 -/
def r50_0 : List SI := [⟨some 1, (.box 60 (.tmp 0)), none⟩,
  ⟨some 2, (.assign (.const (.bool false))), none⟩]
def r50_1 : List SI := [⟨some 3, (.load 60 (.tmp 1)), none⟩,
  ⟨some 4, (.call { callee := (.value (.func 51)), args := #[(.tmp 3)], argTypes := #[60] }), none⟩,
  ⟨some 5, (.unOp .not 4 (.tmp 4)), none⟩,
  ⟨some 2, (.assign (.tmp 5)), none⟩]
def x50_0 : X := .ops r50_0 [1] (.ops r50_1 [2] .ret)
def n50 : Ann := .ops [1] (.ops [2] .stop)
theorem ok50 : annFn Try.f50 1 n50 = some x50_0 := by kernel_rfl
noncomputable def kF50 (K : V → H → Prop) : XQ := kFnX C.P Try.f50.results.toList K
theorem e50_nx {K : V → H → Prop} {e : E} {h : H} : kF50 K .nx e h = K (E.get e 2) h := nrfl (by kernel_rfl)
theorem e50_rt {K : V → H → Prop} {e : E} {h : H} : kF50 K .rt e h = K (E.get e 2) h := nrfl (by kernel_rfl)
theorem enter50 {lo : Nat} {h : H} {vs : List V} {K : V → H → Prop} (hl : vs.length = 1) (hw : XW C lo x50_0 (kF50 K) (args 0 vs) h) : CW C 50 vs lo h K := by
  refine CW_X hS rfl Try.func50 ok50 hl ?_ hw
  rw [Try.ntmps50]
  decide
theorem q50_0 {lo : Nat} {Q : XQ} {e : E} {h : H} : XW C lo x50_0 Q e h =
    bd (loadV Try.prog 60 (.ptr (H.next h) 0) (H.read (H.alloc h (V.cells (E.get e 0))))) fun t1 =>
    CW C 51 [t1] lo (H.alloc h (V.cells (E.get e 0))) fun t2 h3 =>
    bd (unV .not t2) fun t4 =>
    Q .rt ((2, t4) :: (1, .ptr (H.next h) 0) :: e) h3 := nrfl (by kernel_rfl)

/-! ### chancery/value.Right -/
def r51_0 : List SI := [⟨some 1, (.box 60 (.tmp 0)), none⟩,
  ⟨some 2, (.assign (.const (.bool false))), none⟩]
def r51_1 : List SI := [⟨some 3, (.fieldAddr 60 (.tmp 1) 0), none⟩,
  ⟨some 4, (.load 58 (.tmp 3)), none⟩]
def r51_2 : List SI := [⟨some 6, (.binOp .eql 58 (.tmp 4) (.const (.int .u8 0)) 58), none⟩,
  ⟨some 5, (.assign (.tmp 6)), none⟩]
def r51_3 : List SI := [⟨some 7, (.load 60 (.tmp 1)), none⟩,
  ⟨some 8, (.build 60 #[]), none⟩,
  ⟨some 9, (.binOp .eql 60 (.tmp 7) (.tmp 8) 60), none⟩,
  ⟨some 2, (.assign (.tmp 9)), none⟩]
def x51_2 : X := .ops r51_3 [2] .ret
def r51_4 : List SI := [⟨some 11, (.binOp .eql 58 (.tmp 4) (.const (.int .u8 1)) 58), none⟩,
  ⟨some 10, (.assign (.tmp 11)), none⟩]
def r51_5 : List SI := [⟨some 12, (.fieldAddr 60 (.tmp 1) 2), none⟩,
  ⟨some 13, (.load 9 (.tmp 12)), none⟩,
  ⟨some 14, (.binOp .eql 9 (.tmp 13) (.const (.string { data := #[] })) 9), none⟩,
  ⟨some 15, (.move (.tmp 14)), none⟩,
  ⟨some 16, (.fieldAddr 60 (.tmp 1) 1), some (some 15, true)⟩,
  ⟨some 17, (.load 2 (.tmp 16)), some (some 15, true)⟩,
  ⟨some 18, (.binOp .shr 2 (.tmp 17) (.const (.int .u64 1)) 95), some (some 15, true)⟩,
  ⟨some 19, (.binOp .eql 2 (.tmp 18) (.const (.int .i64 0)) 2), some (some 15, true)⟩,
  ⟨some 20, (.pick (.tmp 15) (.tmp 19) (.const (.bool false))), none⟩,
  ⟨some 2, (.assign (.tmp 20)), none⟩]
def x51_4 : X := .ops r51_5 [2] .ret
def r51_6 : List SI := [⟨some 22, (.binOp .eql 58 (.tmp 4) (.const (.int .u8 2)) 58), none⟩,
  ⟨some 21, (.assign (.tmp 22)), none⟩]
def r51_7 : List SI := [⟨some 23, (.binOp .eql 58 (.tmp 4) (.const (.int .u8 3)) 58), none⟩,
  ⟨some 21, (.assign (.tmp 23)), none⟩]
def x51_6 : X := .ops r51_7 [21] .skip
def r51_8 : List SI := [⟨some 24, (.fieldAddr 60 (.tmp 1) 2), none⟩,
  ⟨some 25, (.load 9 (.tmp 24)), none⟩,
  ⟨some 26, (.binOp .eql 9 (.tmp 25) (.const (.string { data := #[] })) 9), none⟩,
  ⟨some 2, (.assign (.tmp 26)), none⟩]
def x51_8 : X := .ops r51_8 [2] .ret
def r51_9 : List SI := [⟨some 28, (.binOp .eql 58 (.tmp 4) (.const (.int .u8 4)) 58), none⟩,
  ⟨some 27, (.assign (.tmp 28)), none⟩]
def r51_10 : List SI := [⟨some 29, (.binOp .eql 58 (.tmp 4) (.const (.int .u8 5)) 58), none⟩,
  ⟨some 27, (.assign (.tmp 29)), none⟩]
def x51_10 : X := .ops r51_10 [27] .skip
def r51_11 : List SI := [⟨some 30, (.fieldAddr 60 (.tmp 1) 1), none⟩,
  ⟨some 31, (.load 2 (.tmp 30)), none⟩,
  ⟨some 32, (.binOp .eql 2 (.tmp 31) (.const (.int .i64 0)) 2), none⟩,
  ⟨some 33, (.move (.tmp 32)), none⟩,
  ⟨some 34, (.fieldAddr 60 (.tmp 1) 2), some (some 33, true)⟩,
  ⟨some 35, (.load 9 (.tmp 34)), some (some 33, true)⟩,
  ⟨some 36, (.call { callee := (.builtin .len), args := #[(.tmp 35)], argTypes := #[9] }), some (some 33, true)⟩,
  ⟨some 37, (.binOp .leq 3 (.tmp 36) (.const (.int .i64 200)) 3), some (some 33, true)⟩,
  ⟨some 38, (.pick (.tmp 33) (.tmp 37) (.const (.bool false))), none⟩,
  ⟨some 2, (.assign (.tmp 38)), none⟩]
def x51_12 : X := .ops r51_11 [2] .ret
def x51_11 : X := .trim [1, 27] (.cond (.tmp 27) x51_12 .skip .skip)
def x51_9 : X := .ops r51_9 [27] (.cond (.tmp 27) .skip x51_10 x51_11)
def x51_7 : X := .trim [1, 4, 21] (.cond (.tmp 21) x51_8 x51_9 .skip)
def x51_5 : X := .ops r51_6 [21] (.cond (.tmp 21) .skip x51_6 x51_7)
def x51_3 : X := .ops r51_4 [10] (.cond (.tmp 10) x51_4 x51_5 .skip)
def x51_1 : X := .ops r51_2 [5] (.cond (.tmp 5) x51_2 x51_3 .skip)
def r51_12 : List SI := [⟨some 2, (.assign (.const (.bool false))), none⟩]
def x51_13 : X := .trim [] (.ops r51_12 [2] .ret)
def x51_0 : X := .ops r51_0 [1] (.ops r51_1 [4] (.block 0 x51_1 x51_13))
def n51 : Ann := .ops [1] (.ops [4] (.block [] (.ops [5] (.cond (.ops [2] .stop) (.ops [10] (.cond (.ops [2] .stop) (.ops [21] (.cond .stop (.ops [21] .stop) (.trim [1, 4, 21] (.cond (.ops [2] .stop) (.ops [27] (.cond .stop (.ops [27] .stop) (.trim [1, 27] (.cond (.ops [2] .stop) .stop .stop)))) .stop)))) .stop)) .stop)) (.trim [] (.ops [2] .stop))))
theorem ok51 : annFn Try.f51 1 n51 = some x51_0 := by kernel_rfl
noncomputable def kF51 (K : V → H → Prop) : XQ := kFnX C.P Try.f51.results.toList K
theorem e51_nx {K : V → H → Prop} {e : E} {h : H} : kF51 K .nx e h = K (E.get e 2) h := nrfl (by kernel_rfl)
theorem e51_rt {K : V → H → Prop} {e : E} {h : H} : kF51 K .rt e h = K (E.get e 2) h := nrfl (by kernel_rfl)
theorem enter51 {lo : Nat} {h : H} {vs : List V} {K : V → H → Prop} (hl : vs.length = 1) (hw : XW C lo x51_0 (kF51 K) (args 0 vs) h) : CW C 51 vs lo h K := by
  refine CW_X hS rfl Try.func51 ok51 hl ?_ hw
  rw [Try.ntmps51]
  decide
theorem q51_2 {lo : Nat} {Q : XQ} {e : E} {h : H} : XW C lo x51_2 Q e h =
    bd (loadV Try.prog 60 (E.get e 1) (H.read h)) fun t1 =>
    bd (buildV Try.prog 60 []) fun t2 =>
    bdB (binV Try.prog .eql 60 t1 t2) fun b3 =>
    Q .rt ((2, .bool b3) :: e) h := nrfl (by kernel_rfl)
theorem q51_4 {lo : Nat} {Q : XQ} {e : E} {h : H} : XW C lo x51_4 Q e h =
    bd (fieldAddrV Try.prog 60 (E.get e 1) 2) fun t1 =>
    bd (loadV Try.prog 9 t1 (H.read h)) fun t2 =>
    bdB (binV Try.prog .eql 9 t2 (.str [])) fun b3 =>
    byT b3 (bd (fieldAddrV Try.prog 60 (E.get e 1) 1) fun t4 =>
    bd (loadV Try.prog 2 t4 (H.read h)) fun t5 =>
    bd (binV Try.prog .shr 2 t5 (.int .u64 1)) fun t6 =>
    bdB (binV Try.prog .eql 2 t6 (.int .i64 0)) fun b7 =>
    Q .rt ((2, .bool b7) :: e) h) (Q .rt ((2, .bool false) :: e) h) := nrfl (by kernel_rfl)
theorem q51_6 {lo : Nat} {Q : XQ} {e : E} {h : H} : XW C lo x51_6 Q e h =
    bdB (binV Try.prog .eql 58 (E.get e 4) (.int .u8 3)) fun b1 =>
    Q .nx ((21, .bool b1) :: e) h := nrfl (by kernel_rfl)
theorem q51_8 {lo : Nat} {Q : XQ} {e : E} {h : H} : XW C lo x51_8 Q e h =
    bd (fieldAddrV Try.prog 60 (E.get e 1) 2) fun t1 =>
    bd (loadV Try.prog 9 t1 (H.read h)) fun t2 =>
    bdB (binV Try.prog .eql 9 t2 (.str [])) fun b3 =>
    Q .rt ((2, .bool b3) :: e) h := nrfl (by kernel_rfl)
theorem q51_10 {lo : Nat} {Q : XQ} {e : E} {h : H} : XW C lo x51_10 Q e h =
    bdB (binV Try.prog .eql 58 (E.get e 4) (.int .u8 5)) fun b1 =>
    Q .nx ((27, .bool b1) :: e) h := nrfl (by kernel_rfl)
theorem q51_12 {lo : Nat} {Q : XQ} {e : E} {h : H} : XW C lo x51_12 Q e h =
    bd (fieldAddrV Try.prog 60 (E.get e 1) 1) fun t1 =>
    bd (loadV Try.prog 2 t1 (H.read h)) fun t2 =>
    bdB (binV Try.prog .eql 2 t2 (.int .i64 0)) fun b3 =>
    byT b3 (bd (fieldAddrV Try.prog 60 (E.get e 1) 2) fun t4 =>
    bd (loadV Try.prog 9 t4 (H.read h)) fun t5 =>
    bd (lenV Try.prog [9] t5) fun t6 =>
    bdB (binV Try.prog .leq 3 t6 (.int .i64 200)) fun b7 =>
    Q .rt ((2, .bool b7) :: e) h) (Q .rt ((2, .bool false) :: e) h) := nrfl (by kernel_rfl)
theorem q51_11 {lo : Nat} {Q : XQ} {e : E} {h : H} : XW C lo x51_11 Q e h =
    byV (E.get e 27) (XW C lo x51_12 (kX (XW C lo .skip Q) Q) [(1, E.get e 1), (27, E.get e 27)] h) (XW C lo .skip (kX (XW C lo .skip Q) Q) [(1, E.get e 1), (27, E.get e 27)] h) False := nrfl (by kernel_rfl)
theorem q51_9 {lo : Nat} {Q : XQ} {e : E} {h : H} : XW C lo x51_9 Q e h =
    bdB (binV Try.prog .eql 58 (E.get e 4) (.int .u8 4)) fun b1 =>
    byT b1 (XW C lo .skip (kX (XW C lo x51_11 Q) Q) ((27, .bool b1) :: e) h) (XW C lo x51_10 (kX (XW C lo x51_11 Q) Q) ((27, .bool b1) :: e) h) := nrfl (by kernel_rfl)
theorem q51_7 {lo : Nat} {Q : XQ} {e : E} {h : H} : XW C lo x51_7 Q e h =
    byV (E.get e 21) (XW C lo x51_8 (kX (XW C lo .skip Q) Q) [(1, E.get e 1), (4, E.get e 4), (21, E.get e 21)] h) (XW C lo x51_9 (kX (XW C lo .skip Q) Q) [(1, E.get e 1), (4, E.get e 4), (21, E.get e 21)] h) False := nrfl (by kernel_rfl)
theorem q51_5 {lo : Nat} {Q : XQ} {e : E} {h : H} : XW C lo x51_5 Q e h =
    bdB (binV Try.prog .eql 58 (E.get e 4) (.int .u8 2)) fun b1 =>
    byT b1 (XW C lo .skip (kX (XW C lo x51_7 Q) Q) ((21, .bool b1) :: e) h) (XW C lo x51_6 (kX (XW C lo x51_7 Q) Q) ((21, .bool b1) :: e) h) := nrfl (by kernel_rfl)
theorem q51_3 {lo : Nat} {Q : XQ} {e : E} {h : H} : XW C lo x51_3 Q e h =
    bdB (binV Try.prog .eql 58 (E.get e 4) (.int .u8 1)) fun b1 =>
    byT b1 (XW C lo x51_4 (kX (XW C lo .skip Q) Q) ((10, .bool b1) :: e) h) (XW C lo x51_5 (kX (XW C lo .skip Q) Q) ((10, .bool b1) :: e) h) := nrfl (by kernel_rfl)
theorem q51_1 {lo : Nat} {Q : XQ} {e : E} {h : H} : XW C lo x51_1 Q e h =
    bdB (binV Try.prog .eql 58 (E.get e 4) (.int .u8 0)) fun b1 =>
    byT b1 (XW C lo x51_2 (kX (XW C lo .skip Q) Q) ((5, .bool b1) :: e) h) (XW C lo x51_3 (kX (XW C lo .skip Q) Q) ((5, .bool b1) :: e) h) := nrfl (by kernel_rfl)
theorem q51_13 {lo : Nat} {Q : XQ} {e : E} {h : H} : XW C lo x51_13 Q e h =
    Q .rt [(2, .bool false)] h := nrfl (by kernel_rfl)
theorem q51_0 {lo : Nat} {Q : XQ} {e : E} {h : H} : XW C lo x51_0 Q e h =
    bd (fieldAddrV Try.prog 60 (.ptr (H.next h) 0) 0) fun t1 =>
    bd (loadV Try.prog 58 t1 (H.read (H.alloc h (V.cells (E.get e 0))))) fun t2 =>
    XW C lo x51_1 (kXB 0 (XW C lo x51_13 Q) Q) ((4, t2) :: (1, .ptr (H.next h) 0) :: e) (H.alloc h (V.cells (E.get e 0))) := nrfl (by kernel_rfl)

/-! ### chancery/cell.eight -/
def r52_0 : List SI := [⟨some 4, (.assign (.const (.slice none 0 0))), none⟩]
def r52_1 : List SI := [⟨some 6, (.move (.const (.int .i64 0))), none⟩]
def r52_2 : List SI := [⟨some 7, (.binOp .lss 3 (.tmp 6) (.const (.int .i64 8)) 3), none⟩]
def r52_3 : List SI := [⟨some 8, (.move (.tmp 6)), none⟩,
  ⟨some 5, (.assign (.tmp 8)), none⟩]
def r52_4 : List SI := [⟨some 9, (.move (.tmp 0)), none⟩,
  ⟨some 10, (.move (.tmp 1)), none⟩,
  ⟨some 11, (.move (.tmp 5)), none⟩,
  ⟨some 12, (.binOp .mul 3 (.const (.int .i64 8)) (.tmp 11) 3), none⟩,
  ⟨some 13, (.binOp .sub 3 (.const (.int .i64 56)) (.tmp 12) 3), none⟩,
  ⟨some 14, (.binOp .shr 92 (.tmp 10) (.tmp 13) 3), none⟩,
  ⟨some 15, (.convert 92 5 (.tmp 14)), none⟩,
  ⟨some 16, (.buildSlice 22 1 #[(0, (.tmp 15))]), none⟩,
  ⟨some 17, (.call { callee := (.builtin .append), args := #[(.tmp 9), (.tmp 16)], argTypes := #[22, 22] }), none⟩,
  ⟨some 0, (.assign (.tmp 17)), none⟩]
def x52_4 : X := .ops r52_3 [5] (.ops r52_4 [0] .skip)
def r52_5 : List SI := [⟨some 18, (.binOp .add 3 (.tmp 6) (.const (.int .i64 1)) 3), none⟩,
  ⟨some 6, (.move (.tmp 18)), none⟩]
def x52_5 : X := .trim [0, 1, 6] (.ops r52_5 [6] .skip)
def x52_3 : X := .block 1 x52_4 x52_5
def x52_2 : X := .ops r52_2 [7] (.cond (.tmp 7) .skip (.exit 0) x52_3)
def x52_1 : X := .loop [0, 1, 6] x52_2
def r52_6 : List SI := [⟨some 19, (.move (.tmp 0)), none⟩,
  ⟨some 4, (.assign (.tmp 19)), none⟩]
def x52_6 : X := .trim [0] (.ops r52_6 [4] .ret)
def x52_0 : X := .ops r52_0 [] (.ops r52_1 [6] (.block 0 x52_1 x52_6))
def n52 : Ann := .ops [] (.ops [6] (.block [0] (.loop [0, 1, 6] (.ops [7] (.cond .stop .stop (.block [0, 1, 6] (.ops [5] (.ops [0] .stop)) (.trim [0, 1, 6] (.ops [6] .stop)))))) (.trim [0] (.ops [4] .stop))))
theorem ok52 : annFn Try.f52 2 n52 = some x52_0 := by kernel_rfl
noncomputable def kF52 (K : V → H → Prop) : XQ := kFnX C.P Try.f52.results.toList K
theorem e52_nx {K : V → H → Prop} {e : E} {h : H} : kF52 K .nx e h = K (E.get e 4) h := nrfl (by kernel_rfl)
theorem e52_rt {K : V → H → Prop} {e : E} {h : H} : kF52 K .rt e h = K (E.get e 4) h := nrfl (by kernel_rfl)
theorem enter52 {lo : Nat} {h : H} {vs : List V} {K : V → H → Prop} (hl : vs.length = 2) (hw : XW C lo x52_0 (kF52 K) (args 0 vs) h) : CW C 52 vs lo h K := by
  refine CW_X hS rfl Try.func52 ok52 hl ?_ hw
  rw [Try.ntmps52]
  decide
theorem q52_4 {lo : Nat} {Q : XQ} {e : E} {h : H} : XW C lo x52_4 Q e h =
    bd (binV Try.prog .mul 3 (.int .i64 8) (E.get e 6)) fun t1 =>
    bd (binV Try.prog .sub 3 (.int .i64 56) t1) fun t2 =>
    bd (binV Try.prog .shr 92 (E.get e 1) t2) fun t3 =>
    bd (convV Try.prog (H.read h) 92 5 t3) fun r4 => KX h (fun t5 h6 =>
    bd (buildSliceV Try.prog 22 1 [(0, t5)]) fun r7 => KX h6 (fun t8 h9 =>
    bd2 (appendV Try.prog lo [22, 22] (E.get e 0) t8 h9) fun t10 h11 =>
    Q .nx ((0, t10) :: (5, E.get e 6) :: e) h11) r7) r4 := nrfl (by kernel_rfl)
theorem q52_5 {lo : Nat} {Q : XQ} {e : E} {h : H} : XW C lo x52_5 Q e h =
    bd (binV Try.prog .add 3 (E.get e 6) (.int .i64 1)) fun t1 =>
    Q .nx [(6, t1), (0, E.get e 0), (1, E.get e 1), (6, E.get e 6)] h := nrfl (by kernel_rfl)
theorem q52_3 {lo : Nat} {Q : XQ} {e : E} {h : H} : XW C lo x52_3 Q e h =
    XW C lo x52_4 (kXB 1 (XW C lo x52_5 Q) Q) e h := nrfl (by kernel_rfl)
theorem q52_2 {lo : Nat} {Q : XQ} {e : E} {h : H} : XW C lo x52_2 Q e h =
    bdB (binV Try.prog .lss 3 (E.get e 6) (.int .i64 8)) fun b1 =>
    byT b1 (XW C lo .skip (kX (XW C lo x52_3 Q) Q) ((7, .bool b1) :: e) h) (XW C lo (.exit 0) (kX (XW C lo x52_3 Q) Q) ((7, .bool b1) :: e) h) := nrfl (by kernel_rfl)
theorem q52_1 {lo : Nat} {Q : XQ} {e : E} {h : H} : XW C lo x52_1 Q e h =
    ∃ n, loopX [0, 1, 6] (XW C lo x52_2) Q n e h := nrfl (by kernel_rfl)
theorem q52_6 {lo : Nat} {Q : XQ} {e : E} {h : H} : XW C lo x52_6 Q e h =
    Q .rt [(4, E.get e 0), (0, E.get e 0)] h := nrfl (by kernel_rfl)
theorem q52_0 {lo : Nat} {Q : XQ} {e : E} {h : H} : XW C lo x52_0 Q e h =
    XW C lo x52_1 (kXB 0 (XW C lo x52_6 Q) Q) ((6, .int .i64 0) :: e) h := nrfl (by kernel_rfl)

/-! ### chancery/chancerykit.CopyValues -/
def r53_0 : List SI := [⟨some 2, (.assign (.const (.slice none 0 0))), none⟩]
def r53_1 : List SI := [⟨some 3, (.assign (.const (.slice none 0 0))), none⟩]
def r53_2 : List SI := [⟨some 4, (.assign (.const (.int .i64 0))), none⟩]
def r53_3 : List SI := [⟨some 5, (.move (.tmp 4)), none⟩,
  ⟨some 6, (.move (.tmp 0)), none⟩,
  ⟨some 7, (.call { callee := (.builtin .len), args := #[(.tmp 6)], argTypes := #[47] }), none⟩,
  ⟨some 8, (.binOp .lss 3 (.tmp 5) (.tmp 7) 3), none⟩]
def r53_5 : List SI := [⟨some 11, (.move (.tmp 3)), none⟩,
  ⟨some 12, (.move (.tmp 0)), none⟩,
  ⟨some 13, (.move (.tmp 4)), none⟩,
  ⟨some 14, (.indexAddr 47 (.tmp 12) (.tmp 13)), none⟩,
  ⟨some 15, (.load 60 (.tmp 14)), none⟩,
  ⟨some 16, (.buildSlice 47 1 #[(0, (.tmp 15))]), none⟩,
  ⟨some 17, (.call { callee := (.builtin .append), args := #[(.tmp 11), (.tmp 16)], argTypes := #[47, 47] }), none⟩,
  ⟨some 3, (.assign (.tmp 17)), none⟩]
def x53_4 : X := .ops r53_5 [3] .skip
def r53_4 : List SI := [⟨some 9, (.move (.tmp 4)), none⟩,
  ⟨some 10, (.binOp .add 3 (.tmp 9) (.const (.int .i64 1)) 3), none⟩,
  ⟨some 4, (.assign (.tmp 10)), none⟩]
def x53_5 : X := .trim [0, 3, 4] (.ops r53_4 [4] .skip)
def x53_3 : X := .block 1 x53_4 x53_5
def x53_2 : X := .ops r53_3 [8] (.cond (.tmp 8) .skip (.exit 0) x53_3)
def x53_1 : X := .loop [0, 3, 4] x53_2
def r53_6 : List SI := [⟨some 18, (.move (.tmp 3)), none⟩,
  ⟨some 2, (.assign (.tmp 18)), none⟩]
def x53_6 : X := .trim [3] (.ops r53_6 [2] .ret)
def x53_0 : X := .ops r53_0 [] (.ops r53_1 [3] (.ops r53_2 [4] (.block 0 x53_1 x53_6)))
def n53 : Ann := .ops [] (.ops [3] (.ops [4] (.block [3] (.loop [0, 3, 4] (.ops [8] (.cond .stop .stop (.block [0, 3, 4] (.ops [3] .stop) (.trim [0, 3, 4] (.ops [4] .stop)))))) (.trim [3] (.ops [2] .stop)))))
theorem ok53 : annFn Try.f53 1 n53 = some x53_0 := by kernel_rfl
noncomputable def kF53 (K : V → H → Prop) : XQ := kFnX C.P Try.f53.results.toList K
theorem e53_nx {K : V → H → Prop} {e : E} {h : H} : kF53 K .nx e h = K (E.get e 2) h := nrfl (by kernel_rfl)
theorem e53_rt {K : V → H → Prop} {e : E} {h : H} : kF53 K .rt e h = K (E.get e 2) h := nrfl (by kernel_rfl)
theorem enter53 {lo : Nat} {h : H} {vs : List V} {K : V → H → Prop} (hl : vs.length = 1) (hw : XW C lo x53_0 (kF53 K) (args 0 vs) h) : CW C 53 vs lo h K := by
  refine CW_X hS rfl Try.func53 ok53 hl ?_ hw
  rw [Try.ntmps53]
  decide
theorem q53_4 {lo : Nat} {Q : XQ} {e : E} {h : H} : XW C lo x53_4 Q e h =
    bd (addrV Try.prog 47 (E.get e 0) (E.get e 4)) fun t1 =>
    bd (loadV Try.prog 60 t1 (H.read h)) fun t2 =>
    bd (buildSliceV Try.prog 47 1 [(0, t2)]) fun r3 => KX h (fun t4 h5 =>
    bd2 (appendV Try.prog lo [47, 47] (E.get e 3) t4 h5) fun t6 h7 =>
    Q .nx ((3, t6) :: e) h7) r3 := nrfl (by kernel_rfl)
theorem q53_5 {lo : Nat} {Q : XQ} {e : E} {h : H} : XW C lo x53_5 Q e h =
    bd (binV Try.prog .add 3 (E.get e 4) (.int .i64 1)) fun t1 =>
    Q .nx [(4, t1), (0, E.get e 0), (3, E.get e 3), (4, E.get e 4)] h := nrfl (by kernel_rfl)
theorem q53_3 {lo : Nat} {Q : XQ} {e : E} {h : H} : XW C lo x53_3 Q e h =
    XW C lo x53_4 (kXB 1 (XW C lo x53_5 Q) Q) e h := nrfl (by kernel_rfl)
theorem q53_2 {lo : Nat} {Q : XQ} {e : E} {h : H} : XW C lo x53_2 Q e h =
    bd (lenV Try.prog [47] (E.get e 0)) fun t1 =>
    bdB (binV Try.prog .lss 3 (E.get e 4) t1) fun b2 =>
    byT b2 (XW C lo .skip (kX (XW C lo x53_3 Q) Q) ((8, .bool b2) :: e) h) (XW C lo (.exit 0) (kX (XW C lo x53_3 Q) Q) ((8, .bool b2) :: e) h) := nrfl (by kernel_rfl)
theorem q53_1 {lo : Nat} {Q : XQ} {e : E} {h : H} : XW C lo x53_1 Q e h =
    ∃ n, loopX [0, 3, 4] (XW C lo x53_2) Q n e h := nrfl (by kernel_rfl)
theorem q53_6 {lo : Nat} {Q : XQ} {e : E} {h : H} : XW C lo x53_6 Q e h =
    Q .rt [(2, E.get e 3), (3, E.get e 3)] h := nrfl (by kernel_rfl)
theorem q53_0 {lo : Nat} {Q : XQ} {e : E} {h : H} : XW C lo x53_0 Q e h =
    XW C lo x53_1 (kXB 0 (XW C lo x53_6 Q) Q) ((4, .int .i64 0) :: (3, .nils) :: e) h := nrfl (by kernel_rfl)

/-! ### chancery/cell.Read$1 -/
def r54_0 : List SI := [⟨some 4, (.assign (.const (.slice none 0 0))), none⟩]
def r54_1 : List SI := [⟨some 6, (.move (.tmp 0)), none⟩,
  ⟨some 7, (.load 22 (.tmp 1)), none⟩,
  ⟨some 8, (.call { callee := (.builtin .len), args := #[(.tmp 7)], argTypes := #[22] }), none⟩,
  ⟨some 9, (.binOp .gtr 3 (.tmp 6) (.tmp 8) 3), none⟩]
def r54_2 : List SI := [⟨none, (.store 4 (.tmp 2) (.const (.bool false))), none⟩]
def r54_3 : List SI := [⟨some 10, (.move (.tmp 0)), none⟩,
  ⟨some 11, (.makeSlice 22 (.tmp 10) (.tmp 10)), none⟩,
  ⟨some 4, (.assign (.tmp 11)), none⟩]
def x54_1 : X := .ops r54_2 [] (.ops r54_3 [4] .ret)
def r54_4 : List SI := [⟨some 12, (.load 22 (.tmp 1)), none⟩,
  ⟨some 13, (.move (.tmp 0)), none⟩,
  ⟨some 14, (.slice 22 (.tmp 12) none (some (.tmp 13)) none), none⟩,
  ⟨some 5, (.assign (.tmp 14)), none⟩]
def r54_5 : List SI := [⟨some 15, (.load 22 (.tmp 1)), none⟩,
  ⟨some 16, (.move (.tmp 0)), none⟩,
  ⟨some 17, (.slice 22 (.tmp 15) (some (.tmp 16)) none none), none⟩,
  ⟨none, (.store 22 (.tmp 1) (.tmp 17)), none⟩]
def r54_6 : List SI := [⟨some 18, (.move (.tmp 5)), none⟩,
  ⟨some 4, (.assign (.tmp 18)), none⟩]
def x54_2 : X := .ops r54_4 [5] (.ops r54_5 [] (.ops r54_6 [4] .ret))
def x54_0 : X := .ops r54_0 [] (.ops r54_1 [9] (.cond (.tmp 9) x54_1 .skip x54_2))
def n54 : Ann := .ops [] (.ops [9] (.cond (.ops [] (.ops [4] .stop)) .stop (.ops [5] (.ops [] (.ops [4] .stop)))))
theorem ok54 : annFn Try.f54 3 n54 = some x54_0 := by kernel_rfl
noncomputable def kF54 (K : V → H → Prop) : XQ := kFnX C.P Try.f54.results.toList K
theorem e54_nx {K : V → H → Prop} {e : E} {h : H} : kF54 K .nx e h = K (E.get e 4) h := nrfl (by kernel_rfl)
theorem e54_rt {K : V → H → Prop} {e : E} {h : H} : kF54 K .rt e h = K (E.get e 4) h := nrfl (by kernel_rfl)
theorem enter54 {lo : Nat} {h : H} {vs : List V} {K : V → H → Prop} (hl : vs.length = 3) (hw : XW C lo x54_0 (kF54 K) (args 0 vs) h) : CW C 54 vs lo h K := by
  refine CW_X hS rfl Try.func54 ok54 hl ?_ hw
  rw [Try.ntmps54]
  decide
theorem q54_1 {lo : Nat} {Q : XQ} {e : E} {h : H} : XW C lo x54_1 Q e h =
    bd (storeV Try.prog lo 4 (E.get e 2) (.bool false) h) fun h1 =>
    bd (makeSliceV Try.prog 22 (E.get e 0) (E.get e 0)) fun r2 => KX h1 (fun t3 h4 =>
    Q .rt ((4, t3) :: e) h4) r2 := nrfl (by kernel_rfl)
theorem q54_2 {lo : Nat} {Q : XQ} {e : E} {h : H} : XW C lo x54_2 Q e h =
    bd (loadV Try.prog 22 (E.get e 1) (H.read h)) fun t1 =>
    bd (sliceV Try.prog (H.read h) 22 t1 none (some (E.get e 0)) none) fun t2 =>
    bd (loadV Try.prog 22 (E.get e 1) (H.read h)) fun t3 =>
    bd (sliceV Try.prog (H.read h) 22 t3 (some (E.get e 0)) none none) fun t4 =>
    bd (storeV Try.prog lo 22 (E.get e 1) t4 h) fun h5 =>
    Q .rt ((4, t2) :: (5, t2) :: e) h5 := nrfl (by kernel_rfl)
theorem q54_0 {lo : Nat} {Q : XQ} {e : E} {h : H} : XW C lo x54_0 Q e h =
    bd (loadV Try.prog 22 (E.get e 1) (H.read h)) fun t1 =>
    bd (lenV Try.prog [22] t1) fun t2 =>
    bdB (binV Try.prog .gtr 3 (E.get e 0) t2) fun b3 =>
    byT b3 (XW C lo x54_1 (kX (XW C lo x54_2 Q) Q) ((9, .bool b3) :: e) h) (XW C lo .skip (kX (XW C lo x54_2 Q) Q) ((9, .bool b3) :: e) h) := nrfl (by kernel_rfl)

/-! ### chancery/chancerykit.SameValues -/
def r55_0 : List SI := [⟨some 4, (.assign (.const (.bool false))), none⟩]
def r55_1 : List SI := [⟨some 6, (.move (.tmp 0)), none⟩,
  ⟨some 7, (.call { callee := (.builtin .len), args := #[(.tmp 6)], argTypes := #[47] }), none⟩,
  ⟨some 8, (.move (.tmp 1)), none⟩,
  ⟨some 9, (.call { callee := (.builtin .len), args := #[(.tmp 8)], argTypes := #[47] }), none⟩,
  ⟨some 10, (.binOp .neq 3 (.tmp 7) (.tmp 9) 3), none⟩]
def r55_2 : List SI := [⟨some 4, (.assign (.const (.bool false))), none⟩]
def x55_1 : X := .ops r55_2 [4] .ret
def r55_3 : List SI := [⟨some 5, (.assign (.const (.int .i64 0))), none⟩]
def r55_4 : List SI := [⟨some 11, (.move (.tmp 5)), none⟩,
  ⟨some 12, (.move (.tmp 0)), none⟩,
  ⟨some 13, (.call { callee := (.builtin .len), args := #[(.tmp 12)], argTypes := #[47] }), none⟩,
  ⟨some 14, (.binOp .lss 3 (.tmp 11) (.tmp 13) 3), none⟩]
def r55_6a : List SI := [⟨some 17, (.move (.tmp 0)), none⟩,
  ⟨some 18, (.move (.tmp 5)), none⟩,
  ⟨some 19, (.indexAddr 47 (.tmp 17) (.tmp 18)), none⟩,
  ⟨some 20, (.load 60 (.tmp 19)), none⟩,
  ⟨some 21, (.move (.tmp 1)), none⟩,
  ⟨some 22, (.move (.tmp 5)), none⟩,
  ⟨some 23, (.indexAddr 47 (.tmp 21) (.tmp 22)), none⟩,
  ⟨some 24, (.load 60 (.tmp 23)), none⟩]
def r55_6b : List SI := [⟨some 25, (.binOp .neq 60 (.tmp 20) (.tmp 24) 60), none⟩]
def r55_7 : List SI := [⟨some 4, (.assign (.const (.bool false))), none⟩]
def x55_7 : X := .ops r55_7 [4] .ret
def x55_6 : X := .front false r55_6a r55_6b [25] (.cond (.tmp 25) x55_7 .skip .skip)
def r55_5 : List SI := [⟨some 15, (.move (.tmp 5)), none⟩,
  ⟨some 16, (.binOp .add 3 (.tmp 15) (.const (.int .i64 1)) 3), none⟩,
  ⟨some 5, (.assign (.tmp 16)), none⟩]
def x55_8 : X := .trim [0, 1, 5] (.ops r55_5 [5] .skip)
def x55_5 : X := .block 1 x55_6 x55_8
def x55_4 : X := .ops r55_4 [14] (.cond (.tmp 14) .skip (.exit 0) x55_5)
def x55_3 : X := .loop [0, 1, 5] x55_4
def r55_8 : List SI := [⟨some 4, (.assign (.const (.bool true))), none⟩]
def x55_9 : X := .trim [] (.ops r55_8 [4] .ret)
def x55_2 : X := .ops r55_3 [5] (.block 0 x55_3 x55_9)
def x55_0 : X := .ops r55_0 [] (.ops r55_1 [10] (.cond (.tmp 10) x55_1 .skip x55_2))
def n55 : Ann := .ops [] (.ops [10] (.cond (.ops [4] .stop) .stop (.ops [5] (.block [] (.loop [0, 1, 5] (.ops [14] (.cond .stop .stop (.block [0, 1, 5] (.ops [25] (.cond (.ops [4] .stop) .stop .stop)) (.trim [0, 1, 5] (.ops [5] .stop)))))) (.trim [] (.ops [4] .stop))))))
theorem ok55 : annFn Try.f55 2 n55 = some x55_0 := by kernel_rfl
noncomputable def kF55 (K : V → H → Prop) : XQ := kFnX C.P Try.f55.results.toList K
theorem e55_nx {K : V → H → Prop} {e : E} {h : H} : kF55 K .nx e h = K (E.get e 4) h := nrfl (by kernel_rfl)
theorem e55_rt {K : V → H → Prop} {e : E} {h : H} : kF55 K .rt e h = K (E.get e 4) h := nrfl (by kernel_rfl)
theorem enter55 {lo : Nat} {h : H} {vs : List V} {K : V → H → Prop} (hl : vs.length = 2) (hw : XW C lo x55_0 (kF55 K) (args 0 vs) h) : CW C 55 vs lo h K := by
  refine CW_X hS rfl Try.func55 ok55 hl ?_ hw
  rw [Try.ntmps55]
  decide
theorem q55_1 {lo : Nat} {Q : XQ} {e : E} {h : H} : XW C lo x55_1 Q e h =
    Q .rt ((4, .bool false) :: e) h := nrfl (by kernel_rfl)
theorem q55_7 {lo : Nat} {Q : XQ} {e : E} {h : H} : XW C lo x55_7 Q e h =
    Q .rt ((4, .bool false) :: e) h := nrfl (by kernel_rfl)
theorem q55_6 {lo : Nat} {Q : XQ} {e : E} {h : H} : XW C lo x55_6 Q e h =
    bd (addrV Try.prog 47 (E.get e 0) (E.get e 5)) fun t1 =>
    bd (loadV Try.prog 60 t1 (H.read h)) fun t2 =>
    bd (addrV Try.prog 47 (E.get e 1) (E.get e 5)) fun t3 =>
    bd (loadV Try.prog 60 t3 (H.read h)) fun t4 =>
    bdB (binV Try.prog .neq 60 t2 t4) fun b5 =>
    byT b5 (XW C lo x55_7 (kX (XW C lo .skip Q) Q) ((25, .bool b5) :: e) h) (XW C lo .skip (kX (XW C lo .skip Q) Q) ((25, .bool b5) :: e) h) := nrfl (by kernel_rfl)
theorem q55_8 {lo : Nat} {Q : XQ} {e : E} {h : H} : XW C lo x55_8 Q e h =
    bd (binV Try.prog .add 3 (E.get e 5) (.int .i64 1)) fun t1 =>
    Q .nx [(5, t1), (0, E.get e 0), (1, E.get e 1), (5, E.get e 5)] h := nrfl (by kernel_rfl)
theorem q55_5 {lo : Nat} {Q : XQ} {e : E} {h : H} : XW C lo x55_5 Q e h =
    XW C lo x55_6 (kXB 1 (XW C lo x55_8 Q) Q) e h := nrfl (by kernel_rfl)
theorem q55_4 {lo : Nat} {Q : XQ} {e : E} {h : H} : XW C lo x55_4 Q e h =
    bd (lenV Try.prog [47] (E.get e 0)) fun t1 =>
    bdB (binV Try.prog .lss 3 (E.get e 5) t1) fun b2 =>
    byT b2 (XW C lo .skip (kX (XW C lo x55_5 Q) Q) ((14, .bool b2) :: e) h) (XW C lo (.exit 0) (kX (XW C lo x55_5 Q) Q) ((14, .bool b2) :: e) h) := nrfl (by kernel_rfl)
theorem q55_3 {lo : Nat} {Q : XQ} {e : E} {h : H} : XW C lo x55_3 Q e h =
    ∃ n, loopX [0, 1, 5] (XW C lo x55_4) Q n e h := nrfl (by kernel_rfl)
theorem q55_9 {lo : Nat} {Q : XQ} {e : E} {h : H} : XW C lo x55_9 Q e h =
    Q .rt [(4, .bool true)] h := nrfl (by kernel_rfl)
theorem q55_2 {lo : Nat} {Q : XQ} {e : E} {h : H} : XW C lo x55_2 Q e h =
    XW C lo x55_3 (kXB 0 (XW C lo x55_9 Q) Q) ((5, .int .i64 0) :: e) h := nrfl (by kernel_rfl)
theorem q55_0 {lo : Nat} {Q : XQ} {e : E} {h : H} : XW C lo x55_0 Q e h =
    bd (lenV Try.prog [47] (E.get e 0)) fun t1 =>
    bd (lenV Try.prog [47] (E.get e 1)) fun t2 =>
    bdB (binV Try.prog .neq 3 t1 t2) fun b3 =>
    byT b3 (XW C lo x55_1 (kX (XW C lo x55_2 Q) Q) ((10, .bool b3) :: e) h) (XW C lo .skip (kX (XW C lo x55_2 Q) Q) ((10, .bool b3) :: e) h) := nrfl (by kernel_rfl)

/-! ### slices.IndexFunc[chancery/api.Row,chancery/api.Value] -/
def r72_0 : List SI := [⟨some 4, (.assign (.const (.int .i64 0))), none⟩]
def r72_1 : List SI := [⟨some 6, (.move (.tmp 0)), none⟩,
  ⟨some 7, (.call { callee := (.builtin .len), args := #[(.tmp 6)], argTypes := #[48] }), none⟩,
  ⟨some 8, (.move (.const (.int .i64 0))), none⟩]
def r72_2 : List SI := [⟨some 9, (.binOp .lss 3 (.tmp 8) (.tmp 7) 3), none⟩]
def r72_3 : List SI := [⟨some 10, (.move (.tmp 8)), none⟩,
  ⟨some 5, (.assign (.tmp 10)), none⟩]
def r72_4 : List SI := [⟨some 11, (.move (.tmp 1)), none⟩,
  ⟨some 12, (.move (.tmp 0)), none⟩,
  ⟨some 13, (.move (.tmp 5)), none⟩,
  ⟨some 14, (.indexAddr 48 (.tmp 12) (.tmp 13)), none⟩,
  ⟨some 15, (.load 60 (.tmp 14)), none⟩,
  ⟨some 16, (.call { callee := (.value (.tmp 11)), args := #[(.tmp 15)], argTypes := #[60] }), none⟩]
def r72_5 : List SI := [⟨some 17, (.move (.tmp 5)), none⟩,
  ⟨some 4, (.assign (.tmp 17)), none⟩]
def x72_5 : X := .ops r72_5 [4] .ret
def x72_4 : X := .ops r72_3 [5] (.ops r72_4 [16] (.cond (.tmp 16) x72_5 .skip .skip))
def r72_6 : List SI := [⟨some 18, (.binOp .add 3 (.tmp 8) (.const (.int .i64 1)) 3), none⟩,
  ⟨some 8, (.move (.tmp 18)), none⟩]
def x72_6 : X := .trim [0, 1, 7, 8] (.ops r72_6 [8] .skip)
def x72_3 : X := .block 1 x72_4 x72_6
def x72_2 : X := .ops r72_2 [9] (.cond (.tmp 9) .skip (.exit 0) x72_3)
def x72_1 : X := .loop [0, 1, 7, 8] x72_2
def r72_7 : List SI := [⟨some 4, (.assign (.const (.int .i64 (-1)))), none⟩]
def x72_7 : X := .trim [] (.ops r72_7 [4] .ret)
def x72_0 : X := .ops r72_0 [] (.ops r72_1 [7, 8] (.block 0 x72_1 x72_7))
def n72 : Ann := .ops [] (.ops [7, 8] (.block [] (.loop [0, 1, 7, 8] (.ops [9] (.cond .stop .stop (.block [0, 1, 7, 8] (.ops [5] (.ops [16] (.cond (.ops [4] .stop) .stop .stop))) (.trim [0, 1, 7, 8] (.ops [8] .stop)))))) (.trim [] (.ops [4] .stop))))
theorem ok72 : annFn Try.f72 2 n72 = some x72_0 := by kernel_rfl
noncomputable def kF72 (K : V → H → Prop) : XQ := kFnX C.P Try.f72.results.toList K
theorem e72_nx {K : V → H → Prop} {e : E} {h : H} : kF72 K .nx e h = K (E.get e 4) h := nrfl (by kernel_rfl)
theorem e72_rt {K : V → H → Prop} {e : E} {h : H} : kF72 K .rt e h = K (E.get e 4) h := nrfl (by kernel_rfl)
theorem enter72 {lo : Nat} {h : H} {vs : List V} {K : V → H → Prop} (hl : vs.length = 2) (hw : XW C lo x72_0 (kF72 K) (args 0 vs) h) : CW C 72 vs lo h K := by
  refine CW_X hS rfl Try.func72 ok72 hl ?_ hw
  rw [Try.ntmps72]
  decide
theorem q72_5 {lo : Nat} {Q : XQ} {e : E} {h : H} : XW C lo x72_5 Q e h =
    Q .rt ((4, E.get e 5) :: e) h := nrfl (by kernel_rfl)
theorem q72_4 {lo : Nat} {Q : XQ} {e : E} {h : H} : XW C lo x72_4 Q e h =
    bd (addrV Try.prog 48 (E.get e 0) (E.get e 8)) fun t1 =>
    bd (loadV Try.prog 60 t1 (H.read h)) fun t2 =>
    callX C (E.get e 1) [t2] lo h fun t3 h4 =>
    byV t3 (XW C lo x72_5 (kX (XW C lo .skip Q) Q) ((16, t3) :: (5, E.get e 8) :: e) h4) (XW C lo .skip (kX (XW C lo .skip Q) Q) ((16, t3) :: (5, E.get e 8) :: e) h4) False := nrfl (by kernel_rfl)
theorem q72_6 {lo : Nat} {Q : XQ} {e : E} {h : H} : XW C lo x72_6 Q e h =
    bd (binV Try.prog .add 3 (E.get e 8) (.int .i64 1)) fun t1 =>
    Q .nx [(8, t1), (0, E.get e 0), (1, E.get e 1), (7, E.get e 7), (8, E.get e 8)] h := nrfl (by kernel_rfl)
theorem q72_3 {lo : Nat} {Q : XQ} {e : E} {h : H} : XW C lo x72_3 Q e h =
    XW C lo x72_4 (kXB 1 (XW C lo x72_6 Q) Q) e h := nrfl (by kernel_rfl)
theorem q72_2 {lo : Nat} {Q : XQ} {e : E} {h : H} : XW C lo x72_2 Q e h =
    bdB (binV Try.prog .lss 3 (E.get e 8) (E.get e 7)) fun b1 =>
    byT b1 (XW C lo .skip (kX (XW C lo x72_3 Q) Q) ((9, .bool b1) :: e) h) (XW C lo (.exit 0) (kX (XW C lo x72_3 Q) Q) ((9, .bool b1) :: e) h) := nrfl (by kernel_rfl)
theorem q72_1 {lo : Nat} {Q : XQ} {e : E} {h : H} : XW C lo x72_1 Q e h =
    ∃ n, loopX [0, 1, 7, 8] (XW C lo x72_2) Q n e h := nrfl (by kernel_rfl)
theorem q72_7 {lo : Nat} {Q : XQ} {e : E} {h : H} : XW C lo x72_7 Q e h =
    Q .rt [(4, .int .i64 (-1))] h := nrfl (by kernel_rfl)
theorem q72_0 {lo : Nat} {Q : XQ} {e : E} {h : H} : XW C lo x72_0 Q e h =
    bd (lenV Try.prog [48] (E.get e 0)) fun t1 =>
    XW C lo x72_1 (kXB 0 (XW C lo x72_7 Q) Q) ((7, t1) :: (8, .int .i64 0) :: e) h := nrfl (by kernel_rfl)

end Go.Proofs.Ytghmbmblhdgabaa.Code
