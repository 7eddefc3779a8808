/- The code of functions, with short environments; what each part comes to. -/
import Derived.Test.YtghmbmblhdgabaaShort
import Derived.Test.YtghmbmblhdgabaaProg
import Derived.KernelRfl
import Derived.Test.YtghmbmblhdgabaaCodeX
set_option linter.all false
namespace Go.Proofs.Ytghmbmblhdgabaa.Code
open Go Go.Den
set_option maxRecDepth 100000
theorem opsblkCodeF {lo : Nat} {Q : XQ} {e : E} {h : H} {l : List SI} {out : List Nat} {id : Nat} {b k : X} : XW C lo (.ops l out (.block id b k)) Q e h = LX C lo l (fun e1 h1 => XW C lo b (kXB id (XW C lo k Q) Q) (outs out e1 e) h1) e h := propext Iff.rfl
theorem opsblkCodeFT {lo : Nat} {Q : XQ} {e : E} {h : H} {l : List SI} {out : List Nat} {id : Nat} {b k : X} {L : List Nat} : XW C lo (.trim L (.ops l out (.block id b k))) Q e h = LX C lo l (fun e1 h1 => XW C lo b (kXB id (XW C lo k Q) Q) (outs out e1 (only L e)) h1) (only L e) h := propext Iff.rfl
theorem opsblkCodeFF {lo : Nat} {Q : XQ} {e : E} {h : H} {l : List SI} {out : List Nat} {id : Nat} {b k : X} {r : List SI} {st : Bool} : XW C lo (.front st l r out (.block id b k)) Q e h = FX C lo (H.next h) st l (LX C lo r (fun e1 h1 => XW C lo b (kXB id (XW C lo k Q) Q) (outs out e1 e) h1)) e h := propext Iff.rfl
theorem opsblkCodeFFT {lo : Nat} {Q : XQ} {e : E} {h : H} {l : List SI} {out : List Nat} {id : Nat} {b k : X} {r : List SI} {st : Bool} {L : List Nat} : XW C lo (.trim L (.front st l r out (.block id b k))) Q e h = FX C lo (H.next h) st l (LX C lo r (fun e1 h1 => XW C lo b (kXB id (XW C lo k Q) Q) (outs out e1 (only L e)) h1)) (only L e) h := propext Iff.rfl
/-! ### chancery/chancerylaw29.WireFeeds -/
def r4_0 : List SI := [⟨some 4, (.assign (.const (.bool false))), none⟩]
def r4_1 : List SI := [⟨some 19, (.call { callee := (.value (.func 11)), args := #[], argTypes := #[] }), none⟩,
  ⟨some 5, (.assign (.tmp 19)), none⟩]
def r4_2 : List SI := [⟨some 20, (.move (.tmp 5)), none⟩,
  ⟨some 21, (.binOp .eql 24 (.tmp 20) (.const (.pointer none)) 24), none⟩]
def r4_3 : List SI := [⟨some 4, (.assign (.const (.bool false))), none⟩]
def x4_1 : X := .ops r4_3 [4] .ret
def r4_4 : List SI := [⟨some 6, (.assign (.const (.slice none 0 0))), none⟩]
def r4_5 : List SI := [⟨some 7, (.assign (.const (.bool false))), none⟩]
def r4_6 : List SI := [⟨some 8, (.assign (.const (.int .i64 0))), none⟩]
def r4_7 : List SI := [⟨some 22, (.move (.tmp 8)), none⟩,
  ⟨some 23, (.move (.tmp 0)), none⟩,
  ⟨some 24, (.call { callee := (.builtin .len), args := #[(.tmp 23)], argTypes := #[36] }), none⟩,
  ⟨some 25, (.binOp .lss 3 (.tmp 22) (.tmp 24) 3), none⟩,
  ⟨some 26, (.move (.tmp 25)), none⟩,
  ⟨some 27, (.move (.tmp 8)), some (some 26, true)⟩,
  ⟨some 28, (.binOp .lss 3 (.tmp 27) (.const (.int .i64 200)) 3), some (some 26, true)⟩,
  ⟨some 29, (.pick (.tmp 26) (.tmp 28) (.const (.bool false))), none⟩]
def r4_9 : List SI := [⟨some 32, (.move (.tmp 0)), none⟩,
  ⟨some 33, (.move (.tmp 8)), none⟩,
  ⟨some 34, (.indexAddr 36 (.tmp 32) (.tmp 33)), none⟩,
  ⟨some 35, (.load 22 (.tmp 34)), none⟩,
  ⟨some 36, (.call { callee := (.value (.func 18)), args := #[(.tmp 35)], argTypes := #[22] }), none⟩,
  ⟨some 9, (.assign (.tmp 36)), none⟩]
def r4_10 : List SI := [⟨some 37, (.move (.tmp 8)), none⟩,
  ⟨some 38, (.move (.tmp 1)), none⟩,
  ⟨some 39, (.binOp .eql 3 (.tmp 37) (.tmp 38) 3), none⟩]
def r4_11 : List SI := [⟨some 40, (.move (.tmp 5)), none⟩,
  ⟨some 41, (.call { callee := (.value (.func 19)), args := #[(.tmp 40)], argTypes := #[24] }), none⟩,
  ⟨some 10, (.assign (.tmp 41)), none⟩]
def r4_12 : List SI := [⟨some 42, (.move (.tmp 10)), none⟩,
  ⟨some 43, (.binOp .eql 24 (.tmp 42) (.const (.pointer none)) 24), none⟩]
def r4_13 : List SI := [⟨some 4, (.assign (.const (.bool false))), none⟩]
def x4_9 : X := .ops r4_13 [4] .ret
def r4_14 : List SI := [⟨some 44, (.move (.tmp 5)), none⟩,
  ⟨some 45, (.buildSlice 22 7 #[(0, (.const (.int .u8 0))), (1, (.const (.int .u8 0))), (2, (.const (.int .u8 0))), (3, (.const (.int .u8 1))), (4, (.const (.int .u8 9))), (5, (.const (.int .u8 1))), (6, (.const (.int .u8 2)))]), none⟩,
  ⟨some 46, (.call { callee := (.value (.func 12)), args := #[(.tmp 44), (.tmp 45)], argTypes := #[24, 22] }), none⟩]
def r4_15 : List SI := [⟨some 47, (.move (.tmp 10)), none⟩,
  ⟨some 5, (.assign (.tmp 47)), none⟩]
def x4_10 : X := .ops r4_14 [] (.ops r4_15 [5] .skip)
def x4_8 : X := .ops r4_11 [10] (.ops r4_12 [43] (.cond (.tmp 43) x4_9 .skip x4_10))
def r4_16 : List SI := [⟨some 49, (.move (.tmp 5)), none⟩,
  ⟨some 50, (.move (.tmp 9)), none⟩,
  ⟨some 51, (.call { callee := (.value (.func 12)), args := #[(.tmp 49), (.tmp 50)], argTypes := #[24, 22] }), none⟩,
  ⟨some 48, (.move (.tmp 51)), none⟩,
  ⟨some 52, (.extract (.tmp 48) 0), none⟩,
  ⟨some 53, (.extract (.tmp 48) 1), none⟩,
  ⟨some 11, (.assign (.tmp 52)), none⟩,
  ⟨some 12, (.assign (.tmp 53)), none⟩]
def r4_17 : List SI := [⟨some 54, (.move (.tmp 9)), none⟩,
  ⟨some 55, (.move (.tmp 0)), none⟩,
  ⟨some 56, (.move (.tmp 8)), none⟩,
  ⟨some 57, (.indexAddr 36 (.tmp 55) (.tmp 56)), none⟩,
  ⟨some 58, (.load 22 (.tmp 57)), none⟩,
  ⟨some 59, (.call { callee := (.value (.func 20)), args := #[(.tmp 54), (.tmp 58)], argTypes := #[22, 22] }), none⟩,
  ⟨some 60, (.unOp .not 4 (.tmp 59)), none⟩]
def r4_18 : List SI := [⟨some 4, (.assign (.const (.bool false))), none⟩]
def x4_12 : X := .ops r4_18 [4] .ret
def r4_19 : List SI := [⟨some 13, (.assign (.const (.int .i64 0))), none⟩]
def r4_20 : List SI := [⟨some 61, (.move (.tmp 13)), none⟩,
  ⟨some 62, (.move (.tmp 9)), none⟩,
  ⟨some 63, (.call { callee := (.builtin .len), args := #[(.tmp 62)], argTypes := #[22] }), none⟩,
  ⟨some 64, (.binOp .lss 3 (.tmp 61) (.tmp 63) 3), none⟩]
def r4_22 : List SI := [⟨some 67, (.move (.tmp 9)), none⟩,
  ⟨some 68, (.move (.tmp 13)), none⟩,
  ⟨some 69, (.indexAddr 22 (.tmp 67) (.tmp 68)), none⟩,
  ⟨none, (.store 5 (.tmp 69) (.const (.int .u8 255))), none⟩]
def x4_17 : X := .ops r4_22 [] .skip
def r4_21 : List SI := [⟨some 65, (.move (.tmp 13)), none⟩,
  ⟨some 66, (.binOp .add 3 (.tmp 65) (.const (.int .i64 1)) 3), none⟩,
  ⟨some 13, (.assign (.tmp 66)), none⟩]
def x4_18 : X := .trim [0, 1, 5, 6, 7, 8, 9, 11, 12, 13] (.ops r4_21 [13] .skip)
def x4_16 : X := .block 3 x4_17 x4_18
def x4_15 : X := .ops r4_20 [64] (.cond (.tmp 64) .skip (.exit 2) x4_16)
def x4_14 : X := .loop [0, 1, 5, 6, 7, 8, 9, 11, 12, 13] x4_15
def r4_23 : List SI := [⟨some 70, (.move (.tmp 7)), none⟩]
def r4_24 : List SI := [⟨some 71, (.move (.tmp 11)), none⟩,
  ⟨some 72, (.call { callee := (.builtin .len), args := #[(.tmp 71)], argTypes := #[26] }), none⟩,
  ⟨some 73, (.binOp .neq 3 (.tmp 72) (.const (.int .i64 0)) 3), none⟩,
  ⟨some 74, (.move (.tmp 73)), none⟩,
  ⟨some 75, (.move (.tmp 12)), some (some 74, false)⟩,
  ⟨some 76, (.binOp .neq 27 (.tmp 75) (.const (.int .i64 390)) 27), some (some 74, false)⟩,
  ⟨some 77, (.pick (.tmp 74) (.const (.bool true)) (.tmp 76)), none⟩,
  ⟨some 78, (.move (.tmp 77)), none⟩,
  ⟨some 79, (.move (.tmp 5)), some (some 78, false)⟩,
  ⟨some 80, (.call { callee := (.value (.func 17)), args := #[(.tmp 79)], argTypes := #[24] }), some (some 78, false)⟩,
  ⟨some 81, (.binOp .neq 3 (.tmp 80) (.const (.int .i64 0)) 3), some (some 78, false)⟩,
  ⟨some 82, (.pick (.tmp 78) (.const (.bool true)) (.tmp 81)), none⟩]
def r4_25 : List SI := [⟨some 4, (.assign (.const (.bool false))), none⟩]
def x4_22 : X := .ops r4_25 [4] .ret
def x4_21 : X := .cond (.tmp 82) x4_22 .skip (.exit 1)
def x4_20 : X := .ops r4_24 [82] x4_21
def r4_26a : List SI := [⟨some 84, (.move (.tmp 6)), none⟩,
  ⟨some 85, (.call { callee := (.value (.func 13)), args := #[(.tmp 84)], argTypes := #[22] }), none⟩,
  ⟨some 86, (.move (.tmp 0)), none⟩,
  ⟨some 87, (.move (.tmp 8)), none⟩,
  ⟨some 88, (.indexAddr 36 (.tmp 86) (.tmp 87)), none⟩,
  ⟨some 89, (.load 22 (.tmp 88)), none⟩,
  ⟨some 90, (.call { callee := (.builtin .append), args := #[(.tmp 85), (.tmp 89)], argTypes := #[22, 22] }), none⟩,
  ⟨some 91, (.call { callee := (.value (.func 21)), args := #[(.tmp 90)], argTypes := #[22] }), none⟩,
  ⟨some 83, (.move (.tmp 91)), none⟩,
  ⟨some 92, (.extract (.tmp 83) 0), none⟩,
  ⟨some 93, (.extract (.tmp 83) 1), none⟩,
  ⟨some 94, (.extract (.tmp 83) 2), none⟩,
  ⟨some 14, (.assign (.tmp 92)), none⟩,
  ⟨some 15, (.assign (.tmp 93)), none⟩]
def r4_26b : List SI := [⟨some 16, (.assign (.tmp 94)), none⟩]
def r4_27 : List SI := [⟨some 95, (.move (.tmp 15)), none⟩,
  ⟨some 96, (.move (.tmp 16)), none⟩,
  ⟨some 6, (.assign (.tmp 95)), none⟩,
  ⟨some 7, (.assign (.tmp 96)), none⟩]
def r4_28 : List SI := [⟨some 97, (.move (.tmp 11)), none⟩,
  ⟨some 98, (.move (.tmp 14)), none⟩,
  ⟨some 99, (.call { callee := (.value (.func 16)), args := #[(.tmp 97), (.tmp 98)], argTypes := #[26, 26] }), none⟩,
  ⟨some 100, (.unOp .not 4 (.tmp 99)), none⟩,
  ⟨some 101, (.move (.tmp 100)), none⟩,
  ⟨some 102, (.move (.tmp 12)), some (some 101, false)⟩,
  ⟨some 103, (.binOp .eql 27 (.tmp 102) (.const (.int .i64 390)) 27), some (some 101, false)⟩,
  ⟨some 104, (.move (.tmp 16)), some (some 101, false)⟩,
  ⟨some 105, (.binOp .neq 4 (.tmp 103) (.tmp 104) 4), some (some 101, false)⟩,
  ⟨some 106, (.pick (.tmp 101) (.const (.bool true)) (.tmp 105)), none⟩,
  ⟨some 107, (.move (.tmp 106)), none⟩,
  ⟨some 108, (.move (.tmp 12)), some (some 107, false)⟩,
  ⟨some 109, (.binOp .neq 27 (.tmp 108) (.const (.int .i64 0)) 27), some (some 107, false)⟩,
  ⟨some 110, (.move (.tmp 109)), some (some 107, false)⟩,
  ⟨some 111, (.move (.tmp 12)), some (some 110, true)⟩,
  ⟨some 112, (.binOp .neq 27 (.tmp 111) (.const (.int .i64 390)) 27), some (some 110, true)⟩,
  ⟨some 113, (.pick (.tmp 110) (.tmp 112) (.const (.bool false))), some (some 107, false)⟩,
  ⟨some 114, (.pick (.tmp 107) (.const (.bool true)) (.tmp 113)), none⟩,
  ⟨some 115, (.move (.tmp 114)), none⟩,
  ⟨some 116, (.move (.tmp 5)), some (some 115, false)⟩,
  ⟨some 117, (.call { callee := (.value (.func 17)), args := #[(.tmp 116)], argTypes := #[24] }), some (some 115, false)⟩,
  ⟨some 118, (.move (.tmp 6)), some (some 115, false)⟩,
  ⟨some 119, (.call { callee := (.builtin .len), args := #[(.tmp 118)], argTypes := #[22] }), some (some 115, false)⟩,
  ⟨some 120, (.binOp .neq 3 (.tmp 117) (.tmp 119) 3), some (some 115, false)⟩,
  ⟨some 121, (.pick (.tmp 115) (.const (.bool true)) (.tmp 120)), none⟩]
def r4_29 : List SI := [⟨some 4, (.assign (.const (.bool false))), none⟩]
def x4_25 : X := .ops r4_29 [4] .ret
def r4_30 : List SI := [⟨some 17, (.assign (.const (.int .i64 0))), none⟩]
def r4_31 : List SI := [⟨some 122, (.move (.tmp 17)), none⟩,
  ⟨some 123, (.move (.tmp 11)), none⟩,
  ⟨some 124, (.call { callee := (.builtin .len), args := #[(.tmp 123)], argTypes := #[26] }), none⟩,
  ⟨some 125, (.binOp .lss 3 (.tmp 122) (.tmp 124) 3), none⟩]
def r4_33 : List SI := [⟨some 18, (.assign (.const (.int .i64 0))), none⟩]
def r4_34 : List SI := [⟨some 128, (.move (.tmp 18)), none⟩,
  ⟨some 129, (.move (.tmp 11)), none⟩,
  ⟨some 130, (.move (.tmp 17)), none⟩,
  ⟨some 131, (.indexAddr 26 (.tmp 129) (.tmp 130)), none⟩,
  ⟨some 132, (.fieldAddr 42 (.tmp 131) 1), none⟩,
  ⟨some 133, (.load 22 (.tmp 132)), none⟩,
  ⟨some 134, (.call { callee := (.builtin .len), args := #[(.tmp 133)], argTypes := #[22] }), none⟩,
  ⟨some 135, (.binOp .lss 3 (.tmp 128) (.tmp 134) 3), none⟩]
def r4_36 : List SI := [⟨some 138, (.move (.tmp 11)), none⟩,
  ⟨some 139, (.move (.tmp 17)), none⟩,
  ⟨some 140, (.indexAddr 26 (.tmp 138) (.tmp 139)), none⟩,
  ⟨some 141, (.fieldAddr 42 (.tmp 140) 1), none⟩,
  ⟨some 142, (.load 22 (.tmp 141)), none⟩,
  ⟨some 143, (.move (.tmp 18)), none⟩,
  ⟨some 144, (.indexAddr 22 (.tmp 142) (.tmp 143)), none⟩,
  ⟨none, (.store 5 (.tmp 144) (.const (.int .u8 1))), none⟩]
def x4_34 : X := .ops r4_36 [] .skip
def r4_35 : List SI := [⟨some 136, (.move (.tmp 18)), none⟩,
  ⟨some 137, (.binOp .add 3 (.tmp 136) (.const (.int .i64 1)) 3), none⟩,
  ⟨some 18, (.assign (.tmp 137)), none⟩]
def x4_35 : X := .trim [0, 1, 5, 6, 7, 8, 11, 17, 18] (.ops r4_35 [18] .skip)
def x4_33 : X := .block 7 x4_34 x4_35
def x4_32 : X := .ops r4_34 [135] (.cond (.tmp 135) .skip (.exit 6) x4_33)
def x4_31 : X := .loop [0, 1, 5, 6, 7, 8, 11, 17, 18] x4_32
def x4_36 : X := .trim [0, 1, 5, 6, 7, 8, 11, 17] .skip
def x4_30 : X := .ops r4_33 [18] (.block 6 x4_31 x4_36)
def r4_32 : List SI := [⟨some 126, (.move (.tmp 17)), none⟩,
  ⟨some 127, (.binOp .add 3 (.tmp 126) (.const (.int .i64 1)) 3), none⟩,
  ⟨some 17, (.assign (.tmp 127)), none⟩]
def x4_37 : X := .trim [0, 1, 5, 6, 7, 8, 11, 17] (.ops r4_32 [17] .skip)
def x4_29 : X := .block 5 x4_30 x4_37
def x4_28 : X := .ops r4_31 [125] (.cond (.tmp 125) .skip (.exit 4) x4_29)
def x4_27 : X := .loop [0, 1, 5, 6, 7, 8, 11, 17] x4_28
def x4_38 : X := .trim [0, 1, 5, 6, 7, 8] .skip
def x4_26 : X := .ops r4_30 [17] (.block 4 x4_27 x4_38)
def x4_24 : X := .cond (.tmp 121) x4_25 .skip x4_26
def x4_23 : X := .front false r4_26a r4_26b [14, 15, 16] (.ops r4_27 [6, 7] (.ops r4_28 [121] x4_24))
def x4_19 : X := .trim [0, 1, 5, 6, 7, 8, 11, 12] (.ops r4_23 [70] (.cond (.tmp 70) x4_20 .skip x4_23))
def x4_13 : X := .ops r4_19 [13] (.block 2 x4_14 x4_19)
def x4_11 : X := .trim [0, 1, 5, 6, 7, 8, 9] (.ops r4_16 [11, 12] (.ops r4_17 [60] (.cond (.tmp 60) x4_12 .skip x4_13)))
def x4_7 : X := .ops r4_9 [9] (.ops r4_10 [39] (.cond (.tmp 39) x4_8 .skip x4_11))
def r4_8 : List SI := [⟨some 30, (.move (.tmp 8)), none⟩,
  ⟨some 31, (.binOp .add 3 (.tmp 30) (.const (.int .i64 1)) 3), none⟩,
  ⟨some 8, (.assign (.tmp 31)), none⟩]
def x4_39 : X := .trim [0, 1, 5, 6, 7, 8] (.ops r4_8 [8] .skip)
def x4_6 : X := .block 1 x4_7 x4_39
def x4_5 : X := .cond (.tmp 29) .skip (.exit 0) x4_6
def x4_4 : X := .ops r4_7 [29] x4_5
def x4_3 : X := .loop [0, 1, 5, 6, 7, 8] x4_4
def r4_37 : List SI := [⟨some 145, (.call { callee := (.value (.func 15)), args := #[], argTypes := #[] }), none⟩,
  ⟨some 4, (.assign (.tmp 145)), none⟩]
def x4_40 : X := .trim [] (.ops r4_37 [4] .ret)
def x4_2 : X := .ops r4_4 [6] (.ops r4_5 [7] (.ops r4_6 [8] (.block 0 x4_3 x4_40)))
def x4_0 : X := .ops r4_0 [] (.ops r4_1 [5] (.ops r4_2 [21] (.cond (.tmp 21) x4_1 .skip x4_2)))
def n4 : Ann := .ops [] (.ops [5] (.ops [21] (.cond (.ops [4] .stop) .stop (.ops [6] (.ops [7] (.ops [8] (.block [] (.loop [0, 1, 5, 6, 7, 8] (.ops [29] (.cond .stop .stop (.block [0, 1, 5, 6, 7, 8] (.ops [9] (.ops [39] (.cond (.ops [10] (.ops [43] (.cond (.ops [4] .stop) .stop (.ops [] (.ops [5] .stop))))) .stop (.trim [0, 1, 5, 6, 7, 8, 9] (.ops [11, 12] (.ops [60] (.cond (.ops [4] .stop) .stop (.ops [13] (.block [0, 1, 5, 6, 7, 8, 11, 12] (.loop [0, 1, 5, 6, 7, 8, 9, 11, 12, 13] (.ops [64] (.cond .stop .stop (.block [0, 1, 5, 6, 7, 8, 9, 11, 12, 13] (.ops [] .stop) (.trim [0, 1, 5, 6, 7, 8, 9, 11, 12, 13] (.ops [13] .stop)))))) (.trim [0, 1, 5, 6, 7, 8, 11, 12] (.ops [70] (.cond (.ops [82] (.cond (.ops [4] .stop) .stop .stop)) .stop (.ops [14, 15, 16] (.ops [6, 7] (.ops [121] (.cond (.ops [4] .stop) .stop (.ops [17] (.block [0, 1, 5, 6, 7, 8] (.loop [0, 1, 5, 6, 7, 8, 11, 17] (.ops [125] (.cond .stop .stop (.block [0, 1, 5, 6, 7, 8, 11, 17] (.ops [18] (.block [0, 1, 5, 6, 7, 8, 11, 17] (.loop [0, 1, 5, 6, 7, 8, 11, 17, 18] (.ops [135] (.cond .stop .stop (.block [0, 1, 5, 6, 7, 8, 11, 17, 18] (.ops [] .stop) (.trim [0, 1, 5, 6, 7, 8, 11, 17, 18] (.ops [18] .stop)))))) (.trim [0, 1, 5, 6, 7, 8, 11, 17] .stop))) (.trim [0, 1, 5, 6, 7, 8, 11, 17] (.ops [17] .stop)))))) (.trim [0, 1, 5, 6, 7, 8] .stop))))))))))))))))))) (.trim [0, 1, 5, 6, 7, 8] (.ops [8] .stop)))))) (.trim [] (.ops [4] .stop)))))))))
theorem ok4 : annFn Try.f4 2 n4 = some x4_0 := by kernel_rfl
noncomputable def kF4 (K : V → H → Prop) : XQ := kFnX C.P Try.f4.results.toList K
theorem e4_nx {K : V → H → Prop} {e : E} {h : H} : kF4 K .nx e h = K (E.get e 4) h := nrfl (by kernel_rfl)
theorem e4_rt {K : V → H → Prop} {e : E} {h : H} : kF4 K .rt e h = K (E.get e 4) h := nrfl (by kernel_rfl)
theorem enter4 {lo : Nat} {h : H} {vs : List V} {K : V → H → Prop} (hl : vs.length = 2) (hw : XW C lo x4_0 (kF4 K) (args 0 vs) h) : CW C 4 vs lo h K := by
  refine CW_X hS rfl Try.func4 ok4 hl ?_ hw
  rw [Try.ntmps4]
  decide
theorem q4_1 {lo : Nat} {Q : XQ} {e : E} {h : H} : XW C lo x4_1 Q e h =
    Q .rt ((4, .bool false) :: e) h := nrfl (by kernel_rfl)
theorem q4_9 {lo : Nat} {Q : XQ} {e : E} {h : H} : XW C lo x4_9 Q e h =
    Q .rt ((4, .bool false) :: e) h := nrfl (by kernel_rfl)
theorem q4_10 {lo : Nat} {Q : XQ} {e : E} {h : H} : XW C lo x4_10 Q e h =
    bd (buildSliceV Try.prog 22 7 [(0, .int .u8 0), (1, .int .u8 0), (2, .int .u8 0), (3, .int .u8 1), (4, .int .u8 9), (5, .int .u8 1), (6, .int .u8 2)]) fun r1 => KX h (fun t2 h3 =>
    CW C 12 [E.get e 5, t2] lo h3 fun t4 h5 =>
    Q .nx ((5, E.get e 10) :: e) h5) r1 := nrfl (by kernel_rfl)
theorem q4_8 {lo : Nat} {Q : XQ} {e : E} {h : H} : XW C lo x4_8 Q e h =
    CW C 19 [E.get e 5] lo h fun t1 h2 =>
    bdB (binV Try.prog .eql 24 t1 .nilp) fun b3 =>
    byT b3 (XW C lo x4_9 (kX (XW C lo x4_10 Q) Q) ((43, .bool b3) :: (10, t1) :: e) h2) (XW C lo .skip (kX (XW C lo x4_10 Q) Q) ((43, .bool b3) :: (10, t1) :: e) h2) := nrfl (by kernel_rfl)
theorem q4_12 {lo : Nat} {Q : XQ} {e : E} {h : H} : XW C lo x4_12 Q e h =
    Q .rt ((4, .bool false) :: e) h := nrfl (by kernel_rfl)
theorem q4_17 {lo : Nat} {Q : XQ} {e : E} {h : H} : XW C lo x4_17 Q e h =
    bd (addrV Try.prog 22 (E.get e 9) (E.get e 13)) fun t1 =>
    bd (storeV Try.prog lo 5 t1 (.int .u8 255) h) fun h2 =>
    Q .nx e h2 := nrfl (by kernel_rfl)
theorem q4_18 {lo : Nat} {Q : XQ} {e : E} {h : H} : XW C lo x4_18 Q e h =
    bd (binV Try.prog .add 3 (E.get e 13) (.int .i64 1)) fun t1 =>
    Q .nx [(13, t1), (0, E.get e 0), (1, E.get e 1), (5, E.get e 5), (6, E.get e 6), (7, E.get e 7), (8, E.get e 8), (9, E.get e 9), (11, E.get e 11), (12, E.get e 12), (13, E.get e 13)] h := nrfl (by kernel_rfl)
theorem q4_16 {lo : Nat} {Q : XQ} {e : E} {h : H} : XW C lo x4_16 Q e h =
    XW C lo x4_17 (kXB 3 (XW C lo x4_18 Q) Q) e h := nrfl (by kernel_rfl)
theorem q4_15 {lo : Nat} {Q : XQ} {e : E} {h : H} : XW C lo x4_15 Q e h =
    bd (lenV Try.prog [22] (E.get e 9)) fun t1 =>
    bdB (binV Try.prog .lss 3 (E.get e 13) t1) fun b2 =>
    byT b2 (XW C lo .skip (kX (XW C lo x4_16 Q) Q) ((64, .bool b2) :: e) h) (XW C lo (.exit 2) (kX (XW C lo x4_16 Q) Q) ((64, .bool b2) :: e) h) := nrfl (by kernel_rfl)
theorem q4_14 {lo : Nat} {Q : XQ} {e : E} {h : H} : XW C lo x4_14 Q e h =
    ∃ n, loopX [0, 1, 5, 6, 7, 8, 9, 11, 12, 13] (XW C lo x4_15) Q n e h := nrfl (by kernel_rfl)
theorem q4_22 {lo : Nat} {Q : XQ} {e : E} {h : H} : XW C lo x4_22 Q e h =
    Q .rt ((4, .bool false) :: e) h := nrfl (by kernel_rfl)
theorem q4_21 {lo : Nat} {Q : XQ} {e : E} {h : H} : XW C lo x4_21 Q e h =
    byV (E.get e 82) (XW C lo x4_22 (kX (XW C lo (.exit 1) Q) Q) e h) (XW C lo .skip (kX (XW C lo (.exit 1) Q) Q) e h) False := nrfl (by kernel_rfl)
theorem q4_20 {lo : Nat} {Q : XQ} {e : E} {h : H} : XW C lo x4_20 Q e h =
    bd (lenV Try.prog [26] (E.get e 11)) fun t1 =>
    bdB (binV Try.prog .neq 3 t1 (.int .i64 0)) fun b2 =>
    byT b2 (XW C lo x4_22 (kX (XW C lo (.exit 1) Q) Q) ((82, .bool true) :: e) h) (bdB (binV Try.prog .neq 27 (E.get e 12) (.int .i64 390)) fun b3 =>
    byT b3 (XW C lo x4_22 (kX (XW C lo (.exit 1) Q) Q) ((82, .bool true) :: e) h) (CW C 17 [E.get e 5] lo h fun t4 h5 =>
    bdB (binV Try.prog .neq 3 t4 (.int .i64 0)) fun b6 =>
    byT b6 (XW C lo x4_22 (kX (XW C lo (.exit 1) Q) Q) ((82, .bool b6) :: e) h5) (XW C lo .skip (kX (XW C lo (.exit 1) Q) Q) ((82, .bool b6) :: e) h5))) := nrfl (by kernel_rfl)
theorem q4_25 {lo : Nat} {Q : XQ} {e : E} {h : H} : XW C lo x4_25 Q e h =
    Q .rt ((4, .bool false) :: e) h := nrfl (by kernel_rfl)
theorem q4_34 {lo : Nat} {Q : XQ} {e : E} {h : H} : XW C lo x4_34 Q e h =
    bd (addrV Try.prog 26 (E.get e 11) (E.get e 17)) fun t1 =>
    bd (fieldAddrV Try.prog 42 t1 1) fun t2 =>
    bd (loadV Try.prog 22 t2 (H.read h)) fun t3 =>
    bd (addrV Try.prog 22 t3 (E.get e 18)) fun t4 =>
    bd (storeV Try.prog lo 5 t4 (.int .u8 1) h) fun h5 =>
    Q .nx e h5 := nrfl (by kernel_rfl)
theorem q4_35 {lo : Nat} {Q : XQ} {e : E} {h : H} : XW C lo x4_35 Q e h =
    bd (binV Try.prog .add 3 (E.get e 18) (.int .i64 1)) fun t1 =>
    Q .nx [(18, t1), (0, E.get e 0), (1, E.get e 1), (5, E.get e 5), (6, E.get e 6), (7, E.get e 7), (8, E.get e 8), (11, E.get e 11), (17, E.get e 17), (18, E.get e 18)] h := nrfl (by kernel_rfl)
theorem q4_33 {lo : Nat} {Q : XQ} {e : E} {h : H} : XW C lo x4_33 Q e h =
    XW C lo x4_34 (kXB 7 (XW C lo x4_35 Q) Q) e h := nrfl (by kernel_rfl)
theorem q4_32 {lo : Nat} {Q : XQ} {e : E} {h : H} : XW C lo x4_32 Q e h =
    bd (addrV Try.prog 26 (E.get e 11) (E.get e 17)) fun t1 =>
    bd (fieldAddrV Try.prog 42 t1 1) fun t2 =>
    bd (loadV Try.prog 22 t2 (H.read h)) fun t3 =>
    bd (lenV Try.prog [22] t3) fun t4 =>
    bdB (binV Try.prog .lss 3 (E.get e 18) t4) fun b5 =>
    byT b5 (XW C lo .skip (kX (XW C lo x4_33 Q) Q) ((135, .bool b5) :: e) h) (XW C lo (.exit 6) (kX (XW C lo x4_33 Q) Q) ((135, .bool b5) :: e) h) := nrfl (by kernel_rfl)
theorem q4_31 {lo : Nat} {Q : XQ} {e : E} {h : H} : XW C lo x4_31 Q e h =
    ∃ n, loopX [0, 1, 5, 6, 7, 8, 11, 17, 18] (XW C lo x4_32) Q n e h := nrfl (by kernel_rfl)
theorem q4_36 {lo : Nat} {Q : XQ} {e : E} {h : H} : XW C lo x4_36 Q e h =
    Q .nx [(0, E.get e 0), (1, E.get e 1), (5, E.get e 5), (6, E.get e 6), (7, E.get e 7), (8, E.get e 8), (11, E.get e 11), (17, E.get e 17)] h := nrfl (by kernel_rfl)
theorem z4_30 {lo : Nat} {Q : XQ} {Z : E → H → Prop} {e : E} {h : H} : LX C lo r4_33 (fun e1 h1 => Z (outs [18] e1 e) h1) e h =
    Z ((18, .int .i64 0) :: e) h := nrfl (by kernel_rfl)
theorem q4_30 {lo : Nat} {Q : XQ} {e : E} {h : H} : XW C lo x4_30 Q e h =
    XW C lo x4_31 (kXB 6 (XW C lo x4_36 Q) Q) ((18, .int .i64 0) :: e) h :=
  (opsblkCodeF (l := r4_33) (out := [18]) (id := 6) (b := x4_31) (k := x4_36)).trans (z4_30 (Q := Q) (Z := fun e1 h1 => XW C lo x4_31 (kXB 6 (XW C lo x4_36 Q) Q) e1 h1))
theorem q4_37 {lo : Nat} {Q : XQ} {e : E} {h : H} : XW C lo x4_37 Q e h =
    bd (binV Try.prog .add 3 (E.get e 17) (.int .i64 1)) fun t1 =>
    Q .nx [(17, t1), (0, E.get e 0), (1, E.get e 1), (5, E.get e 5), (6, E.get e 6), (7, E.get e 7), (8, E.get e 8), (11, E.get e 11), (17, E.get e 17)] h := nrfl (by kernel_rfl)
theorem q4_29 {lo : Nat} {Q : XQ} {e : E} {h : H} : XW C lo x4_29 Q e h =
    XW C lo x4_30 (kXB 5 (XW C lo x4_37 Q) Q) e h := nrfl (by kernel_rfl)
theorem q4_28 {lo : Nat} {Q : XQ} {e : E} {h : H} : XW C lo x4_28 Q e h =
    bd (lenV Try.prog [26] (E.get e 11)) fun t1 =>
    bdB (binV Try.prog .lss 3 (E.get e 17) t1) fun b2 =>
    byT b2 (XW C lo .skip (kX (XW C lo x4_29 Q) Q) ((125, .bool b2) :: e) h) (XW C lo (.exit 4) (kX (XW C lo x4_29 Q) Q) ((125, .bool b2) :: e) h) := nrfl (by kernel_rfl)
theorem q4_27 {lo : Nat} {Q : XQ} {e : E} {h : H} : XW C lo x4_27 Q e h =
    ∃ n, loopX [0, 1, 5, 6, 7, 8, 11, 17] (XW C lo x4_28) Q n e h := nrfl (by kernel_rfl)
theorem q4_38 {lo : Nat} {Q : XQ} {e : E} {h : H} : XW C lo x4_38 Q e h =
    Q .nx [(0, E.get e 0), (1, E.get e 1), (5, E.get e 5), (6, E.get e 6), (7, E.get e 7), (8, E.get e 8)] h := nrfl (by kernel_rfl)
theorem z4_26 {lo : Nat} {Q : XQ} {Z : E → H → Prop} {e : E} {h : H} : LX C lo r4_30 (fun e1 h1 => Z (outs [17] e1 e) h1) e h =
    Z ((17, .int .i64 0) :: e) h := nrfl (by kernel_rfl)
theorem q4_26 {lo : Nat} {Q : XQ} {e : E} {h : H} : XW C lo x4_26 Q e h =
    XW C lo x4_27 (kXB 4 (XW C lo x4_38 Q) Q) ((17, .int .i64 0) :: e) h :=
  (opsblkCodeF (l := r4_30) (out := [17]) (id := 4) (b := x4_27) (k := x4_38)).trans (z4_26 (Q := Q) (Z := fun e1 h1 => XW C lo x4_27 (kXB 4 (XW C lo x4_38 Q) Q) e1 h1))
theorem q4_24 {lo : Nat} {Q : XQ} {e : E} {h : H} : XW C lo x4_24 Q e h =
    byV (E.get e 121) (XW C lo x4_25 (kX (XW C lo x4_26 Q) Q) e h) (XW C lo .skip (kX (XW C lo x4_26 Q) Q) e h) False := nrfl (by kernel_rfl)
theorem q4_23 {lo : Nat} {Q : XQ} {e : E} {h : H} : XW C lo x4_23 Q e h =
    CW C 13 [E.get e 6] (H.next h) h fun t1 h2 =>
    bd (addrV Try.prog 36 (E.get e 0) (E.get e 8)) fun t3 =>
    bd (loadV Try.prog 22 t3 (H.read h2)) fun t4 =>
    endX h2 t1 (bd2 (appendV Try.prog lo [22, 22] t1 t4 h2) fun t5 h6 =>
    CW C 21 [t5] (H.next h6) h6 fun t7 h8 =>
    tupX t7 fun l9 => bd (l9[0]?) fun t10 =>
    tupX t7 fun l11 => bd (l11[1]?) fun t12 =>
    tupX t7 fun l13 => bd (l13[2]?) fun t14 =>
    CW C 16 [E.get e 11, t10] lo h8 fun t15 h16 =>
    bd (unV .not t15) fun t17 =>
    byV t17 (XW C lo x4_25 (kX (XW C lo x4_26 Q) Q) ((121, .bool true) :: (6, t12) :: (7, t14) :: (14, t10) :: (15, t12) :: (16, t14) :: e) h16) (bdB (binV Try.prog .eql 27 (E.get e 12) (.int .i64 390)) fun b18 =>
    bdB (binV Try.prog .neq 4 (.bool b18) t14) fun b19 =>
    byT b19 (XW C lo x4_25 (kX (XW C lo x4_26 Q) Q) ((121, .bool true) :: (6, t12) :: (7, t14) :: (14, t10) :: (15, t12) :: (16, t14) :: e) h16) (bdB (binV Try.prog .neq 27 (E.get e 12) (.int .i64 0)) fun b20 =>
    byT b20 (bdB (binV Try.prog .neq 27 (E.get e 12) (.int .i64 390)) fun b21 =>
    byT b21 (XW C lo x4_25 (kX (XW C lo x4_26 Q) Q) ((121, .bool true) :: (6, t12) :: (7, t14) :: (14, t10) :: (15, t12) :: (16, t14) :: e) h16) (CW C 17 [E.get e 5] lo h16 fun t22 h23 =>
    bd (lenV Try.prog [22] t12) fun t24 =>
    bdB (binV Try.prog .neq 3 t22 t24) fun b25 =>
    byT b25 (XW C lo x4_25 (kX (XW C lo x4_26 Q) Q) ((121, .bool b25) :: (6, t12) :: (7, t14) :: (14, t10) :: (15, t12) :: (16, t14) :: e) h23) (XW C lo .skip (kX (XW C lo x4_26 Q) Q) ((121, .bool b25) :: (6, t12) :: (7, t14) :: (14, t10) :: (15, t12) :: (16, t14) :: e) h23))) (CW C 17 [E.get e 5] lo h16 fun t21 h22 =>
    bd (lenV Try.prog [22] t12) fun t23 =>
    bdB (binV Try.prog .neq 3 t21 t23) fun b24 =>
    byT b24 (XW C lo x4_25 (kX (XW C lo x4_26 Q) Q) ((121, .bool b24) :: (6, t12) :: (7, t14) :: (14, t10) :: (15, t12) :: (16, t14) :: e) h22) (XW C lo .skip (kX (XW C lo x4_26 Q) Q) ((121, .bool b24) :: (6, t12) :: (7, t14) :: (14, t10) :: (15, t12) :: (16, t14) :: e) h22)))) (False)) := nrfl (by kernel_rfl)
theorem q4_19 {lo : Nat} {Q : XQ} {e : E} {h : H} : XW C lo x4_19 Q e h =
    byV (E.get e 7) (XW C lo x4_20 (kX (XW C lo x4_23 Q) Q) [(70, E.get e 7), (0, E.get e 0), (1, E.get e 1), (5, E.get e 5), (6, E.get e 6), (7, E.get e 7), (8, E.get e 8), (11, E.get e 11), (12, E.get e 12)] h) (XW C lo .skip (kX (XW C lo x4_23 Q) Q) [(70, E.get e 7), (0, E.get e 0), (1, E.get e 1), (5, E.get e 5), (6, E.get e 6), (7, E.get e 7), (8, E.get e 8), (11, E.get e 11), (12, E.get e 12)] h) False := nrfl (by kernel_rfl)
theorem z4_13 {lo : Nat} {Q : XQ} {Z : E → H → Prop} {e : E} {h : H} : LX C lo r4_19 (fun e1 h1 => Z (outs [13] e1 e) h1) e h =
    Z ((13, .int .i64 0) :: e) h := nrfl (by kernel_rfl)
theorem q4_13 {lo : Nat} {Q : XQ} {e : E} {h : H} : XW C lo x4_13 Q e h =
    XW C lo x4_14 (kXB 2 (XW C lo x4_19 Q) Q) ((13, .int .i64 0) :: e) h :=
  (opsblkCodeF (l := r4_19) (out := [13]) (id := 2) (b := x4_14) (k := x4_19)).trans (z4_13 (Q := Q) (Z := fun e1 h1 => XW C lo x4_14 (kXB 2 (XW C lo x4_19 Q) Q) e1 h1))
theorem q4_11 {lo : Nat} {Q : XQ} {e : E} {h : H} : XW C lo x4_11 Q e h =
    CW C 12 [E.get e 5, E.get e 9] lo h fun t1 h2 =>
    tupX t1 fun l3 => bd (l3[0]?) fun t4 =>
    tupX t1 fun l5 => bd (l5[1]?) fun t6 =>
    bd (addrV Try.prog 36 (E.get e 0) (E.get e 8)) fun t7 =>
    bd (loadV Try.prog 22 t7 (H.read h2)) fun t8 =>
    CW C 20 [E.get e 9, t8] lo h2 fun t9 h10 =>
    bd (unV .not t9) fun t11 =>
    byV t11 (XW C lo x4_12 (kX (XW C lo x4_13 Q) Q) [(60, t11), (11, t4), (12, t6), (0, E.get e 0), (1, E.get e 1), (5, E.get e 5), (6, E.get e 6), (7, E.get e 7), (8, E.get e 8), (9, E.get e 9)] h10) (XW C lo .skip (kX (XW C lo x4_13 Q) Q) [(60, t11), (11, t4), (12, t6), (0, E.get e 0), (1, E.get e 1), (5, E.get e 5), (6, E.get e 6), (7, E.get e 7), (8, E.get e 8), (9, E.get e 9)] h10) False := nrfl (by kernel_rfl)
theorem q4_7 {lo : Nat} {Q : XQ} {e : E} {h : H} : XW C lo x4_7 Q e h =
    bd (addrV Try.prog 36 (E.get e 0) (E.get e 8)) fun t1 =>
    bd (loadV Try.prog 22 t1 (H.read h)) fun t2 =>
    CW C 18 [t2] lo h fun t3 h4 =>
    bdB (binV Try.prog .eql 3 (E.get e 8) (E.get e 1)) fun b5 =>
    byT b5 (XW C lo x4_8 (kX (XW C lo x4_11 Q) Q) ((39, .bool b5) :: (9, t3) :: e) h4) (XW C lo .skip (kX (XW C lo x4_11 Q) Q) ((39, .bool b5) :: (9, t3) :: e) h4) := nrfl (by kernel_rfl)
theorem q4_39 {lo : Nat} {Q : XQ} {e : E} {h : H} : XW C lo x4_39 Q e h =
    bd (binV Try.prog .add 3 (E.get e 8) (.int .i64 1)) fun t1 =>
    Q .nx [(8, t1), (0, E.get e 0), (1, E.get e 1), (5, E.get e 5), (6, E.get e 6), (7, E.get e 7), (8, E.get e 8)] h := nrfl (by kernel_rfl)
theorem q4_6 {lo : Nat} {Q : XQ} {e : E} {h : H} : XW C lo x4_6 Q e h =
    XW C lo x4_7 (kXB 1 (XW C lo x4_39 Q) Q) e h := nrfl (by kernel_rfl)
theorem q4_5 {lo : Nat} {Q : XQ} {e : E} {h : H} : XW C lo x4_5 Q e h =
    byV (E.get e 29) (XW C lo .skip (kX (XW C lo x4_6 Q) Q) e h) (XW C lo (.exit 0) (kX (XW C lo x4_6 Q) Q) e h) False := nrfl (by kernel_rfl)
theorem q4_4 {lo : Nat} {Q : XQ} {e : E} {h : H} : XW C lo x4_4 Q e h =
    bd (lenV Try.prog [36] (E.get e 0)) fun t1 =>
    bdB (binV Try.prog .lss 3 (E.get e 8) t1) fun b2 =>
    byT b2 (bdB (binV Try.prog .lss 3 (E.get e 8) (.int .i64 200)) fun b3 =>
    byT b3 (XW C lo .skip (kX (XW C lo x4_6 Q) Q) ((29, .bool b3) :: e) h) (XW C lo (.exit 0) (kX (XW C lo x4_6 Q) Q) ((29, .bool b3) :: e) h)) (XW C lo (.exit 0) (kX (XW C lo x4_6 Q) Q) ((29, .bool false) :: e) h) := nrfl (by kernel_rfl)
theorem q4_3 {lo : Nat} {Q : XQ} {e : E} {h : H} : XW C lo x4_3 Q e h =
    ∃ n, loopX [0, 1, 5, 6, 7, 8] (XW C lo x4_4) Q n e h := nrfl (by kernel_rfl)
theorem q4_40 {lo : Nat} {Q : XQ} {e : E} {h : H} : XW C lo x4_40 Q e h =
    CW C 15 [] lo h fun t1 h2 =>
    Q .rt [(4, t1)] h2 := nrfl (by kernel_rfl)
theorem q4_2 {lo : Nat} {Q : XQ} {e : E} {h : H} : XW C lo x4_2 Q e h =
    XW C lo x4_3 (kXB 0 (XW C lo x4_40 Q) Q) ((8, .int .i64 0) :: (7, .bool false) :: (6, .nils) :: e) h := nrfl (by kernel_rfl)
theorem q4_0 {lo : Nat} {Q : XQ} {e : E} {h : H} : XW C lo x4_0 Q e h =
    CW C 11 [] lo h fun t1 h2 =>
    bdB (binV Try.prog .eql 24 t1 .nilp) fun b3 =>
    byT b3 (XW C lo x4_1 (kX (XW C lo x4_2 Q) Q) ((21, .bool b3) :: (5, t1) :: e) h2) (XW C lo .skip (kX (XW C lo x4_2 Q) Q) ((21, .bool b3) :: (5, t1) :: e) h2) := nrfl (by kernel_rfl)

/-! ### chancery/chancerykit.LentBytes -/
def r18_0 : List SI := [⟨some 2, (.assign (.const (.slice none 0 0))), none⟩]
def r18_1 : List SI := [⟨some 4, (.move (.tmp 0)), none⟩,
  ⟨some 5, (.call { callee := (.value (.func 13)), args := #[(.tmp 4)], argTypes := #[22] }), none⟩,
  ⟨some 6, (.buildSlice 22 2 #[(0, (.const (.int .u8 77))), (1, (.const (.int .u8 78)))]), none⟩,
  ⟨some 7, (.call { callee := (.builtin .append), args := #[(.tmp 5), (.tmp 6)], argTypes := #[22, 22] }), none⟩,
  ⟨some 3, (.assign (.tmp 7)), none⟩]
def r18_2 : List SI := [⟨some 8, (.move (.tmp 3)), none⟩,
  ⟨some 9, (.move (.tmp 0)), none⟩,
  ⟨some 10, (.call { callee := (.builtin .len), args := #[(.tmp 9)], argTypes := #[22] }), none⟩,
  ⟨some 11, (.slice 22 (.tmp 8) none (some (.tmp 10)) none), none⟩,
  ⟨some 2, (.assign (.tmp 11)), none⟩]
def x18_0 : X := .ops r18_0 [] (.ops r18_1 [3] (.ops r18_2 [2] .ret))
def n18 : Ann := .ops [] (.ops [3] (.ops [2] .stop))
theorem ok18 : annFn Try.f18 1 n18 = some x18_0 := by kernel_rfl
noncomputable def kF18 (K : V → H → Prop) : XQ := kFnX C.P Try.f18.results.toList K
theorem e18_nx {K : V → H → Prop} {e : E} {h : H} : kF18 K .nx e h = K (E.get e 2) h := nrfl (by kernel_rfl)
theorem e18_rt {K : V → H → Prop} {e : E} {h : H} : kF18 K .rt e h = K (E.get e 2) h := nrfl (by kernel_rfl)
theorem enter18 {lo : Nat} {h : H} {vs : List V} {K : V → H → Prop} (hl : vs.length = 1) (hw : XW C lo x18_0 (kF18 K) (args 0 vs) h) : CW C 18 vs lo h K := by
  refine CW_X hS rfl Try.func18 ok18 hl ?_ hw
  rw [Try.ntmps18]
  decide
theorem q18_0 {lo : Nat} {Q : XQ} {e : E} {h : H} : XW C lo x18_0 Q e h =
    CW C 13 [E.get e 0] lo h fun t1 h2 =>
    bd (buildSliceV Try.prog 22 2 [(0, .int .u8 77), (1, .int .u8 78)]) fun r3 => KX h2 (fun t4 h5 =>
    bd2 (appendV Try.prog lo [22, 22] t1 t4 h5) fun t6 h7 =>
    bd (lenV Try.prog [22] (E.get e 0)) fun t8 =>
    bd (sliceV Try.prog (H.read h7) 22 t6 none (some t8) none) fun t9 =>
    Q .rt ((2, t9) :: (3, t6) :: e) h7) r3 := nrfl (by kernel_rfl)

/-! ### (*chancery/wire.Reader).Copy -/
def r19_0 : List SI := [⟨some 2, (.assign (.const (.pointer none))), none⟩]
def r19_1 : List SI := [⟨some 3, (.move (.tmp 0)), none⟩,
  ⟨some 4, (.call { callee := (.value (.func 44)), args := #[(.tmp 3)], argTypes := #[24] }), none⟩,
  ⟨some 5, (.unOp .not 4 (.tmp 4)), none⟩]
def r19_2 : List SI := [⟨some 2, (.assign (.const (.pointer none))), none⟩]
def x19_1 : X := .ops r19_2 [2] .ret
def r19_3a : List SI := [⟨some 6, (.move (.tmp 0)), none⟩,
  ⟨some 7, (.nilCheck (.tmp 6)), none⟩,
  ⟨some 8, (.fieldAddr 45 (.tmp 7) 0), none⟩,
  ⟨some 9, (.load 22 (.tmp 8)), none⟩,
  ⟨some 10, (.call { callee := (.value (.func 47)), args := #[(.tmp 9)], argTypes := #[22] }), none⟩,
  ⟨some 11, (.move (.tmp 0)), none⟩,
  ⟨some 12, (.nilCheck (.tmp 11)), none⟩,
  ⟨some 13, (.fieldAddr 45 (.tmp 12) 1), none⟩,
  ⟨some 14, (.load 4 (.tmp 13)), none⟩]
def r19_3b : List SI := [⟨some 15, (.build 45 #[(0, (.tmp 10)), (1, (.tmp 14)), (2, (.const (.bool true)))]), none⟩,
  ⟨some 16, (.box 45 (.tmp 15)), none⟩,
  ⟨some 2, (.assign (.tmp 16)), none⟩]
def x19_2 : X := .front false r19_3a r19_3b [2] .ret
def x19_0 : X := .ops r19_0 [] (.ops r19_1 [5] (.cond (.tmp 5) x19_1 .skip x19_2))
def n19 : Ann := .ops [] (.ops [5] (.cond (.ops [2] .stop) .stop (.ops [2] .stop)))
theorem ok19 : annFn Try.f19 1 n19 = some x19_0 := by kernel_rfl
noncomputable def kF19 (K : V → H → Prop) : XQ := kFnX C.P Try.f19.results.toList K
theorem e19_nx {K : V → H → Prop} {e : E} {h : H} : kF19 K .nx e h = K (E.get e 2) h := nrfl (by kernel_rfl)
theorem e19_rt {K : V → H → Prop} {e : E} {h : H} : kF19 K .rt e h = K (E.get e 2) h := nrfl (by kernel_rfl)
theorem enter19 {lo : Nat} {h : H} {vs : List V} {K : V → H → Prop} (hl : vs.length = 1) (hw : XW C lo x19_0 (kF19 K) (args 0 vs) h) : CW C 19 vs lo h K := by
  refine CW_X hS rfl Try.func19 ok19 hl ?_ hw
  rw [Try.ntmps19]
  decide
theorem q19_1 {lo : Nat} {Q : XQ} {e : E} {h : H} : XW C lo x19_1 Q e h =
    Q .rt ((2, .nilp) :: e) h := nrfl (by kernel_rfl)
theorem q19_2 {lo : Nat} {Q : XQ} {e : E} {h : H} : XW C lo x19_2 Q e h =
    bd (ncV (E.get e 0)) fun t1 =>
    bd (fieldAddrV Try.prog 45 t1 0) fun t2 =>
    bd (loadV Try.prog 22 t2 (H.read h)) fun t3 =>
    CW C 47 [t3] (H.next h) h fun t4 h5 =>
    bd (ncV (E.get e 0)) fun t6 =>
    bd (fieldAddrV Try.prog 45 t6 1) fun t7 =>
    bd (loadV Try.prog 4 t7 (H.read h5)) fun t8 =>
    bd (buildV Try.prog 45 [(0, t4), (1, t8), (2, .bool true)]) fun t9 =>
    Q .rt ((2, .ptr (H.next h5) 0) :: e) (H.alloc h5 (V.cells t9)) := nrfl (by kernel_rfl)
theorem q19_0 {lo : Nat} {Q : XQ} {e : E} {h : H} : XW C lo x19_0 Q e h =
    CW C 44 [E.get e 0] lo h fun t1 h2 =>
    bd (unV .not t1) fun t3 =>
    byV t3 (XW C lo x19_1 (kX (XW C lo x19_2 Q) Q) ((5, t3) :: e) h2) (XW C lo .skip (kX (XW C lo x19_2 Q) Q) ((5, t3) :: e) h2) False := nrfl (by kernel_rfl)

/-! ### chancery/chancerykit.KeptBytes -/
def r20_0 : List SI := [⟨some 4, (.assign (.const (.bool false))), none⟩]
def r20_1 : List SI := [⟨some 6, (.move (.tmp 0)), none⟩,
  ⟨some 7, (.move (.tmp 0)), none⟩,
  ⟨some 8, (.call { callee := (.builtin .len), args := #[(.tmp 7)], argTypes := #[22] }), none⟩,
  ⟨some 9, (.binOp .add 3 (.tmp 8) (.const (.int .i64 2)) 3), none⟩,
  ⟨some 10, (.slice 22 (.tmp 6) none (some (.tmp 9)) none), none⟩,
  ⟨some 5, (.assign (.tmp 10)), none⟩]
def r20_2 : List SI := [⟨some 11, (.move (.tmp 0)), none⟩,
  ⟨some 12, (.move (.tmp 1)), none⟩,
  ⟨some 13, (.call { callee := (.value (.func 27)), args := #[(.tmp 11), (.tmp 12)], argTypes := #[22, 22] }), none⟩,
  ⟨some 14, (.move (.tmp 13)), none⟩,
  ⟨some 15, (.move (.tmp 5)), some (some 14, true)⟩,
  ⟨some 16, (.move (.tmp 1)), some (some 14, true)⟩,
  ⟨some 17, (.call { callee := (.builtin .len), args := #[(.tmp 16)], argTypes := #[22] }), some (some 14, true)⟩,
  ⟨some 18, (.indexAddr 22 (.tmp 15) (.tmp 17)), some (some 14, true)⟩,
  ⟨some 19, (.load 5 (.tmp 18)), some (some 14, true)⟩,
  ⟨some 20, (.binOp .eql 5 (.tmp 19) (.const (.int .u8 77)) 5), some (some 14, true)⟩,
  ⟨some 21, (.pick (.tmp 14) (.tmp 20) (.const (.bool false))), none⟩,
  ⟨some 22, (.move (.tmp 21)), none⟩,
  ⟨some 23, (.move (.tmp 5)), some (some 22, true)⟩,
  ⟨some 24, (.move (.tmp 1)), some (some 22, true)⟩,
  ⟨some 25, (.call { callee := (.builtin .len), args := #[(.tmp 24)], argTypes := #[22] }), some (some 22, true)⟩,
  ⟨some 26, (.binOp .add 3 (.tmp 25) (.const (.int .i64 1)) 3), some (some 22, true)⟩,
  ⟨some 27, (.indexAddr 22 (.tmp 23) (.tmp 26)), some (some 22, true)⟩,
  ⟨some 28, (.load 5 (.tmp 27)), some (some 22, true)⟩,
  ⟨some 29, (.binOp .eql 5 (.tmp 28) (.const (.int .u8 78)) 5), some (some 22, true)⟩,
  ⟨some 30, (.pick (.tmp 22) (.tmp 29) (.const (.bool false))), none⟩,
  ⟨some 4, (.assign (.tmp 30)), none⟩]
def x20_0 : X := .ops r20_0 [] (.ops r20_1 [5] (.ops r20_2 [4] .ret))
def n20 : Ann := .ops [] (.ops [5] (.ops [4] .stop))
theorem ok20 : annFn Try.f20 2 n20 = some x20_0 := by kernel_rfl
noncomputable def kF20 (K : V → H → Prop) : XQ := kFnX C.P Try.f20.results.toList K
theorem e20_nx {K : V → H → Prop} {e : E} {h : H} : kF20 K .nx e h = K (E.get e 4) h := nrfl (by kernel_rfl)
theorem e20_rt {K : V → H → Prop} {e : E} {h : H} : kF20 K .rt e h = K (E.get e 4) h := nrfl (by kernel_rfl)
theorem enter20 {lo : Nat} {h : H} {vs : List V} {K : V → H → Prop} (hl : vs.length = 2) (hw : XW C lo x20_0 (kF20 K) (args 0 vs) h) : CW C 20 vs lo h K := by
  refine CW_X hS rfl Try.func20 ok20 hl ?_ hw
  rw [Try.ntmps20]
  decide
theorem q20_0 {lo : Nat} {Q : XQ} {e : E} {h : H} : XW C lo x20_0 Q e h =
    bd (lenV Try.prog [22] (E.get e 0)) fun t1 =>
    bd (binV Try.prog .add 3 t1 (.int .i64 2)) fun t2 =>
    bd (sliceV Try.prog (H.read h) 22 (E.get e 0) none (some t2) none) fun t3 =>
    CW C 27 [E.get e 0, E.get e 1] lo h fun t4 h5 =>
    byV t4 (bd (lenV Try.prog [22] (E.get e 1)) fun t6 =>
    bd (addrV Try.prog 22 t3 t6) fun t7 =>
    bd (loadV Try.prog 5 t7 (H.read h5)) fun t8 =>
    bdB (binV Try.prog .eql 5 t8 (.int .u8 77)) fun b9 =>
    byT b9 (bd (lenV Try.prog [22] (E.get e 1)) fun t10 =>
    bd (binV Try.prog .add 3 t10 (.int .i64 1)) fun t11 =>
    bd (addrV Try.prog 22 t3 t11) fun t12 =>
    bd (loadV Try.prog 5 t12 (H.read h5)) fun t13 =>
    bdB (binV Try.prog .eql 5 t13 (.int .u8 78)) fun b14 =>
    Q .rt ((4, .bool b14) :: (5, t3) :: e) h5) (Q .rt ((4, .bool false) :: (5, t3) :: e) h5)) (Q .rt ((4, .bool false) :: (5, t3) :: e) h5) (False) := nrfl (by kernel_rfl)

/-! ### chancery/chanceryref29.Cut -/
def r21_0 : List SI := [⟨some 2, (.assign (.const (.slice none 0 0))), none⟩,
  ⟨some 3, (.assign (.const (.slice none 0 0))), none⟩,
  ⟨some 4, (.assign (.const (.bool false))), none⟩]
def r21_1 : List SI := [⟨some 5, (.assign (.const (.slice none 0 0))), none⟩]
def r21_2 : List SI := [⟨some 7, (.move (.tmp 0)), none⟩,
  ⟨some 8, (.call { callee := (.builtin .len), args := #[(.tmp 7)], argTypes := #[22] }), none⟩,
  ⟨some 9, (.binOp .geq 3 (.tmp 8) (.const (.int .i64 4)) 3), none⟩]
def r21_3a : List SI := [⟨some 10, (.move (.tmp 0)), none⟩,
  ⟨some 11, (.indexAddr 22 (.tmp 10) (.const (.int .i64 0))), none⟩,
  ⟨some 12, (.load 5 (.tmp 11)), none⟩,
  ⟨some 13, (.convert 5 3 (.tmp 12)), none⟩,
  ⟨some 14, (.binOp .mul 3 (.tmp 13) (.const (.int .i64 16777216)) 3), none⟩,
  ⟨some 15, (.move (.tmp 0)), none⟩,
  ⟨some 16, (.indexAddr 22 (.tmp 15) (.const (.int .i64 1))), none⟩,
  ⟨some 17, (.load 5 (.tmp 16)), none⟩,
  ⟨some 18, (.convert 5 3 (.tmp 17)), none⟩,
  ⟨some 19, (.binOp .mul 3 (.tmp 18) (.const (.int .i64 65536)) 3), none⟩,
  ⟨some 20, (.binOp .add 3 (.tmp 14) (.tmp 19) 3), none⟩,
  ⟨some 21, (.move (.tmp 0)), none⟩,
  ⟨some 22, (.indexAddr 22 (.tmp 21) (.const (.int .i64 2))), none⟩,
  ⟨some 23, (.load 5 (.tmp 22)), none⟩,
  ⟨some 24, (.convert 5 3 (.tmp 23)), none⟩,
  ⟨some 25, (.binOp .mul 3 (.tmp 24) (.const (.int .i64 256)) 3), none⟩,
  ⟨some 26, (.binOp .add 3 (.tmp 20) (.tmp 25) 3), none⟩,
  ⟨some 27, (.move (.tmp 0)), none⟩,
  ⟨some 28, (.indexAddr 22 (.tmp 27) (.const (.int .i64 3))), none⟩,
  ⟨some 29, (.load 5 (.tmp 28)), none⟩,
  ⟨some 30, (.convert 5 3 (.tmp 29)), none⟩]
def r21_3b : List SI := [⟨some 31, (.binOp .add 3 (.tmp 26) (.tmp 30) 3), none⟩,
  ⟨some 6, (.assign (.tmp 31)), none⟩]
def r21_4 : List SI := [⟨some 32, (.move (.tmp 6)), none⟩,
  ⟨some 33, (.binOp .lss 3 (.tmp 32) (.const (.int .i64 1)) 3), none⟩,
  ⟨some 34, (.move (.tmp 33)), none⟩,
  ⟨some 35, (.move (.tmp 6)), some (some 34, false)⟩,
  ⟨some 36, (.binOp .gtr 3 (.tmp 35) (.const (.int .i64 8192)) 3), some (some 34, false)⟩,
  ⟨some 37, (.pick (.tmp 34) (.const (.bool true)) (.tmp 36)), none⟩,
  ⟨some 38, (.move (.tmp 37)), none⟩,
  ⟨some 39, (.move (.tmp 0)), some (some 38, false)⟩,
  ⟨some 40, (.call { callee := (.builtin .len), args := #[(.tmp 39)], argTypes := #[22] }), some (some 38, false)⟩,
  ⟨some 41, (.binOp .geq 3 (.tmp 40) (.const (.int .i64 5)) 3), some (some 38, false)⟩,
  ⟨some 42, (.move (.tmp 41)), some (some 38, false)⟩,
  ⟨some 43, (.move (.tmp 0)), some (some 42, true)⟩,
  ⟨some 44, (.indexAddr 22 (.tmp 43) (.const (.int .i64 4))), some (some 42, true)⟩,
  ⟨some 45, (.load 5 (.tmp 44)), some (some 42, true)⟩,
  ⟨some 46, (.call { callee := (.value (.func 48)), args := #[(.tmp 45)], argTypes := #[40] }), some (some 42, true)⟩,
  ⟨some 47, (.unOp .not 4 (.tmp 46)), some (some 42, true)⟩,
  ⟨some 48, (.pick (.tmp 42) (.tmp 47) (.const (.bool false))), some (some 38, false)⟩,
  ⟨some 49, (.pick (.tmp 38) (.const (.bool true)) (.tmp 48)), none⟩]
def r21_5 : List SI := [⟨some 50, (.move (.tmp 5)), none⟩,
  ⟨some 2, (.assign (.tmp 50)), none⟩,
  ⟨some 3, (.assign (.const (.slice none 0 0))), none⟩,
  ⟨some 4, (.assign (.const (.bool true))), none⟩]
def x21_6 : X := .ops r21_5 [2, 3, 4] .ret
def r21_6 : List SI := [⟨some 51, (.move (.tmp 0)), none⟩,
  ⟨some 52, (.call { callee := (.builtin .len), args := #[(.tmp 51)], argTypes := #[22] }), none⟩,
  ⟨some 53, (.move (.tmp 6)), none⟩,
  ⟨some 54, (.binOp .add 3 (.const (.int .i64 4)) (.tmp 53) 3), none⟩,
  ⟨some 55, (.binOp .lss 3 (.tmp 52) (.tmp 54) 3), none⟩]
def r21_7a : List SI := [⟨some 56, (.move (.tmp 5)), none⟩,
  ⟨some 57, (.move (.tmp 0)), none⟩,
  ⟨some 58, (.indexAddr 22 (.tmp 57) (.const (.int .i64 4))), none⟩,
  ⟨some 59, (.load 5 (.tmp 58)), none⟩,
  ⟨some 60, (.move (.tmp 0)), none⟩,
  ⟨some 61, (.move (.tmp 6)), none⟩,
  ⟨some 62, (.binOp .add 3 (.const (.int .i64 4)) (.tmp 61) 3), none⟩,
  ⟨some 63, (.slice 22 (.tmp 60) (some (.const (.int .i64 5))) (some (.tmp 62)) none), none⟩,
  ⟨some 64, (.call { callee := (.value (.func 13)), args := #[(.tmp 63)], argTypes := #[22] }), none⟩,
  ⟨some 65, (.build 42 #[(0, (.tmp 59)), (1, (.tmp 64))]), none⟩,
  ⟨some 66, (.buildSlice 26 1 #[(0, (.tmp 65))]), none⟩]
def r21_7b : List SI := [⟨some 67, (.call { callee := (.builtin .append), args := #[(.tmp 56), (.tmp 66)], argTypes := #[26, 26] }), none⟩,
  ⟨some 5, (.assign (.tmp 67)), none⟩]
def r21_8 : List SI := [⟨some 68, (.move (.tmp 0)), none⟩,
  ⟨some 69, (.move (.tmp 6)), none⟩,
  ⟨some 70, (.binOp .add 3 (.const (.int .i64 4)) (.tmp 69) 3), none⟩,
  ⟨some 71, (.slice 22 (.tmp 68) (some (.tmp 70)) none none), none⟩,
  ⟨some 0, (.assign (.tmp 71)), none⟩]
def x21_8 : X := .front false r21_7a r21_7b [5] (.ops r21_8 [0] .skip)
def x21_7 : X := .ops r21_6 [55] (.cond (.tmp 55) (.exit 0) .skip x21_8)
def x21_5 : X := .cond (.tmp 49) x21_6 .skip x21_7
def x21_4 : X := .front false r21_3a r21_3b [6] (.ops r21_4 [49] x21_5)
def x21_9 : X := .trim [0, 5] .skip
def x21_3 : X := .block 1 x21_4 x21_9
def x21_2 : X := .ops r21_2 [9] (.cond (.tmp 9) .skip (.exit 0) x21_3)
def x21_1 : X := .loop [0, 5] x21_2
def r21_9 : List SI := [⟨some 72, (.move (.tmp 5)), none⟩,
  ⟨some 73, (.move (.tmp 0)), none⟩,
  ⟨some 2, (.assign (.tmp 72)), none⟩,
  ⟨some 3, (.assign (.tmp 73)), none⟩,
  ⟨some 4, (.assign (.const (.bool false))), none⟩]
def x21_10 : X := .trim [0, 5] (.ops r21_9 [2, 3, 4] .ret)
def x21_0 : X := .ops r21_0 [] (.ops r21_1 [5] (.block 0 x21_1 x21_10))
def n21 : Ann := .ops [] (.ops [5] (.block [0, 5] (.loop [0, 5] (.ops [9] (.cond .stop .stop (.block [0, 5] (.ops [6] (.ops [49] (.cond (.ops [2, 3, 4] .stop) .stop (.ops [55] (.cond .stop .stop (.ops [5] (.ops [0] .stop))))))) (.trim [0, 5] .stop))))) (.trim [0, 5] (.ops [2, 3, 4] .stop))))
theorem ok21 : annFn Try.f21 1 n21 = some x21_0 := by kernel_rfl
noncomputable def kF21 (K : V → H → Prop) : XQ := kFnX C.P Try.f21.results.toList K
theorem e21_nx {K : V → H → Prop} {e : E} {h : H} : kF21 K .nx e h = K (.tup [E.get e 2, E.get e 3, E.get e 4]) h := nrfl (by kernel_rfl)
theorem e21_rt {K : V → H → Prop} {e : E} {h : H} : kF21 K .rt e h = K (.tup [E.get e 2, E.get e 3, E.get e 4]) h := nrfl (by kernel_rfl)
theorem enter21 {lo : Nat} {h : H} {vs : List V} {K : V → H → Prop} (hl : vs.length = 1) (hw : XW C lo x21_0 (kF21 K) (args 0 vs) h) : CW C 21 vs lo h K := by
  refine CW_X hS rfl Try.func21 ok21 hl ?_ hw
  rw [Try.ntmps21]
  decide
theorem q21_6 {lo : Nat} {Q : XQ} {e : E} {h : H} : XW C lo x21_6 Q e h =
    Q .rt ((2, E.get e 5) :: (3, .nils) :: (4, .bool true) :: e) h := nrfl (by kernel_rfl)
theorem q21_8 {lo : Nat} {Q : XQ} {e : E} {h : H} : XW C lo x21_8 Q e h =
    bd (addrV Try.prog 22 (E.get e 0) (.int .i64 4)) fun t1 =>
    bd (loadV Try.prog 5 t1 (H.read h)) fun t2 =>
    bd (binV Try.prog .add 3 (.int .i64 4) (E.get e 6)) fun t3 =>
    bd (sliceV Try.prog (H.read h) 22 (E.get e 0) (some (.int .i64 5)) (some t3) none) fun t4 =>
    CW C 13 [t4] (H.next h) h fun t5 h6 =>
    bd (buildV Try.prog 42 [(0, t2), (1, t5)]) fun t7 =>
    bd (buildSliceV Try.prog 26 1 [(0, t7)]) fun r8 => KX h6 (fun t9 h10 =>
    bd2 (appendV Try.prog lo [26, 26] (E.get e 5) t9 h10) fun t11 h12 =>
    bd (binV Try.prog .add 3 (.int .i64 4) (E.get e 6)) fun t13 =>
    bd (sliceV Try.prog (H.read h12) 22 (E.get e 0) (some t13) none none) fun t14 =>
    Q .nx ((0, t14) :: (5, t11) :: e) h12) r8 := nrfl (by kernel_rfl)
theorem q21_7 {lo : Nat} {Q : XQ} {e : E} {h : H} : XW C lo x21_7 Q e h =
    bd (lenV Try.prog [22] (E.get e 0)) fun t1 =>
    bd (binV Try.prog .add 3 (.int .i64 4) (E.get e 6)) fun t2 =>
    bdB (binV Try.prog .lss 3 t1 t2) fun b3 =>
    byT b3 (XW C lo (.exit 0) (kX (XW C lo x21_8 Q) Q) ((55, .bool b3) :: e) h) (XW C lo .skip (kX (XW C lo x21_8 Q) Q) ((55, .bool b3) :: e) h) := nrfl (by kernel_rfl)
theorem q21_5 {lo : Nat} {Q : XQ} {e : E} {h : H} : XW C lo x21_5 Q e h =
    byV (E.get e 49) (XW C lo x21_6 (kX (XW C lo x21_7 Q) Q) e h) (XW C lo .skip (kX (XW C lo x21_7 Q) Q) e h) False := nrfl (by kernel_rfl)
theorem q21_4 {lo : Nat} {Q : XQ} {e : E} {h : H} : XW C lo x21_4 Q e h =
    bd (addrV Try.prog 22 (E.get e 0) (.int .i64 0)) fun t1 =>
    bd (loadV Try.prog 5 t1 (H.read h)) fun t2 =>
    bd (convV Try.prog (H.read h) 5 3 t2) fun r3 => KX h (fun t4 h5 =>
    bd (binV Try.prog .mul 3 t4 (.int .i64 16777216)) fun t6 =>
    bd (addrV Try.prog 22 (E.get e 0) (.int .i64 1)) fun t7 =>
    bd (loadV Try.prog 5 t7 (H.read h5)) fun t8 =>
    bd (convV Try.prog (H.read h5) 5 3 t8) fun r9 => KX h5 (fun t10 h11 =>
    bd (binV Try.prog .mul 3 t10 (.int .i64 65536)) fun t12 =>
    bd (binV Try.prog .add 3 t6 t12) fun t13 =>
    bd (addrV Try.prog 22 (E.get e 0) (.int .i64 2)) fun t14 =>
    bd (loadV Try.prog 5 t14 (H.read h11)) fun t15 =>
    bd (convV Try.prog (H.read h11) 5 3 t15) fun r16 => KX h11 (fun t17 h18 =>
    bd (binV Try.prog .mul 3 t17 (.int .i64 256)) fun t19 =>
    bd (binV Try.prog .add 3 t13 t19) fun t20 =>
    bd (addrV Try.prog 22 (E.get e 0) (.int .i64 3)) fun t21 =>
    bd (loadV Try.prog 5 t21 (H.read h18)) fun t22 =>
    bd (convV Try.prog (H.read h18) 5 3 t22) fun r23 => KX h18 (fun t24 h25 =>
    bd (binV Try.prog .add 3 t20 t24) fun t26 =>
    bdB (binV Try.prog .lss 3 t26 (.int .i64 1)) fun b27 =>
    byT b27 (XW C lo x21_6 (kX (XW C lo x21_7 Q) Q) ((49, .bool true) :: (6, t26) :: e) h25) (bdB (binV Try.prog .gtr 3 t26 (.int .i64 8192)) fun b28 =>
    byT b28 (XW C lo x21_6 (kX (XW C lo x21_7 Q) Q) ((49, .bool true) :: (6, t26) :: e) h25) (bd (lenV Try.prog [22] (E.get e 0)) fun t29 =>
    bdB (binV Try.prog .geq 3 t29 (.int .i64 5)) fun b30 =>
    byT b30 (bd (addrV Try.prog 22 (E.get e 0) (.int .i64 4)) fun t31 =>
    bd (loadV Try.prog 5 t31 (H.read h25)) fun t32 =>
    CW C 48 [t32] lo h25 fun t33 h34 =>
    bd (unV .not t33) fun t35 =>
    byV t35 (XW C lo x21_6 (kX (XW C lo x21_7 Q) Q) ((49, t35) :: (6, t26) :: e) h34) (XW C lo .skip (kX (XW C lo x21_7 Q) Q) ((49, t35) :: (6, t26) :: e) h34) False) (XW C lo .skip (kX (XW C lo x21_7 Q) Q) ((49, .bool false) :: (6, t26) :: e) h25)))) r23) r16) r9) r3 := nrfl (by kernel_rfl)
theorem q21_9 {lo : Nat} {Q : XQ} {e : E} {h : H} : XW C lo x21_9 Q e h =
    Q .nx [(0, E.get e 0), (5, E.get e 5)] h := nrfl (by kernel_rfl)
theorem q21_3 {lo : Nat} {Q : XQ} {e : E} {h : H} : XW C lo x21_3 Q e h =
    XW C lo x21_4 (kXB 1 (XW C lo x21_9 Q) Q) e h := nrfl (by kernel_rfl)
theorem q21_2 {lo : Nat} {Q : XQ} {e : E} {h : H} : XW C lo x21_2 Q e h =
    bd (lenV Try.prog [22] (E.get e 0)) fun t1 =>
    bdB (binV Try.prog .geq 3 t1 (.int .i64 4)) fun b2 =>
    byT b2 (XW C lo .skip (kX (XW C lo x21_3 Q) Q) ((9, .bool b2) :: e) h) (XW C lo (.exit 0) (kX (XW C lo x21_3 Q) Q) ((9, .bool b2) :: e) h) := nrfl (by kernel_rfl)
theorem q21_1 {lo : Nat} {Q : XQ} {e : E} {h : H} : XW C lo x21_1 Q e h =
    ∃ n, loopX [0, 5] (XW C lo x21_2) Q n e h := nrfl (by kernel_rfl)
theorem q21_10 {lo : Nat} {Q : XQ} {e : E} {h : H} : XW C lo x21_10 Q e h =
    Q .rt [(2, E.get e 5), (3, E.get e 0), (4, .bool false), (0, E.get e 0), (5, E.get e 5)] h := nrfl (by kernel_rfl)
theorem q21_0 {lo : Nat} {Q : XQ} {e : E} {h : H} : XW C lo x21_0 Q e h =
    XW C lo x21_1 (kXB 0 (XW C lo x21_10 Q) Q) ((5, .nils) :: e) h := nrfl (by kernel_rfl)

/-! ### chancery/chanceryref29.kind -/
def r48_0 : List SI := [⟨some 2, (.assign (.const (.bool false))), none⟩]
def r48_1 : List SI := [⟨some 3, (.move (.tmp 0)), none⟩,
  ⟨some 4, (.binOp .geq 40 (.tmp 3) (.const (.int .u8 1)) 40), none⟩,
  ⟨some 5, (.move (.tmp 4)), none⟩,
  ⟨some 6, (.move (.tmp 0)), some (some 5, true)⟩,
  ⟨some 7, (.binOp .leq 40 (.tmp 6) (.const (.int .u8 9)) 40), some (some 5, true)⟩,
  ⟨some 8, (.pick (.tmp 5) (.tmp 7) (.const (.bool false))), none⟩,
  ⟨some 2, (.assign (.tmp 8)), none⟩]
def x48_0 : X := .ops r48_0 [] (.ops r48_1 [2] .ret)
def n48 : Ann := .ops [] (.ops [2] .stop)
theorem ok48 : annFn Try.f48 1 n48 = some x48_0 := by kernel_rfl
noncomputable def kF48 (K : V → H → Prop) : XQ := kFnX C.P Try.f48.results.toList K
theorem e48_nx {K : V → H → Prop} {e : E} {h : H} : kF48 K .nx e h = K (E.get e 2) h := nrfl (by kernel_rfl)
theorem e48_rt {K : V → H → Prop} {e : E} {h : H} : kF48 K .rt e h = K (E.get e 2) h := nrfl (by kernel_rfl)
theorem enter48 {lo : Nat} {h : H} {vs : List V} {K : V → H → Prop} (hl : vs.length = 1) (hw : XW C lo x48_0 (kF48 K) (args 0 vs) h) : CW C 48 vs lo h K := by
  refine CW_X hS rfl Try.func48 ok48 hl ?_ hw
  rw [Try.ntmps48]
  decide
theorem q48_0 {lo : Nat} {Q : XQ} {e : E} {h : H} : XW C lo x48_0 Q e h =
    bdB (binV Try.prog .geq 40 (E.get e 0) (.int .u8 1)) fun b1 =>
    byT b1 (bdB (binV Try.prog .leq 40 (E.get e 0) (.int .u8 9)) fun b2 =>
    Q .rt ((2, .bool b2) :: e) h) (Q .rt ((2, .bool false) :: e) h) := nrfl (by kernel_rfl)

end Go.Proofs.Ytghmbmblhdgabaa.Code
