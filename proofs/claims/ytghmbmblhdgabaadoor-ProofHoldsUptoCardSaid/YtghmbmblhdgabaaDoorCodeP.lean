/- The code of functions, with short environments; what each part comes to. -/
import Derived.Test.YtghmbmblhdgabaaDoorShort
import Derived.Test.YtghmbmblhdgabaaDoorProg
import Derived.KernelRfl
set_option linter.all false
namespace Go.Proofs.YtghmbmblhdgabaaDoor.Code
open Go Go.Den
set_option maxRecDepth 100000
noncomputable abbrev C : Cfg := { P := Tryd.prog, S := shortS [] [] }
theorem hS : ShortLow C := shortS_low _ _
theorem opsblkCodeP {lo : Nat} {Q : XQ} {e : E} {h : H} {l : List SI} {out : List Nat} {id : Nat} {b k : X} : XW C lo (.ops l out (.block id b k)) Q e h = LX C lo l (fun e1 h1 => XW C lo b (kXB id (XW C lo k Q) Q) (outs out e1 e) h1) e h := propext Iff.rfl
theorem opsblkCodePT {lo : Nat} {Q : XQ} {e : E} {h : H} {l : List SI} {out : List Nat} {id : Nat} {b k : X} {L : List Nat} : XW C lo (.trim L (.ops l out (.block id b k))) Q e h = LX C lo l (fun e1 h1 => XW C lo b (kXB id (XW C lo k Q) Q) (outs out e1 (only L e)) h1) (only L e) h := propext Iff.rfl
theorem opsblkCodePF {lo : Nat} {Q : XQ} {e : E} {h : H} {l : List SI} {out : List Nat} {id : Nat} {b k : X} {r : List SI} {st : Bool} : XW C lo (.front st l r out (.block id b k)) Q e h = FX C lo (H.next h) st l (LX C lo r (fun e1 h1 => XW C lo b (kXB id (XW C lo k Q) Q) (outs out e1 e) h1)) e h := propext Iff.rfl
theorem opsblkCodePFT {lo : Nat} {Q : XQ} {e : E} {h : H} {l : List SI} {out : List Nat} {id : Nat} {b k : X} {r : List SI} {st : Bool} {L : List Nat} : XW C lo (.trim L (.front st l r out (.block id b k))) Q e h = FX C lo (H.next h) st l (LX C lo r (fun e1 h1 => XW C lo b (kXB id (XW C lo k Q) Q) (outs out e1 (only L e)) h1)) (only L e) h := propext Iff.rfl
/-! ### chancery/proof.block -/
def r24_0 : List SI := [⟨some 2, (.box 39 (.tmp 0)), none⟩,
  ⟨some 4, (.alloc 39), none⟩]
def r24_1 : List SI := [⟨some 5, (.alloc 44), none⟩]
def r24_2 : List SI := [⟨some 20, (.move (.const (.int .i64 0))), none⟩]
def r24_3 : List SI := [⟨some 21, (.binOp .lss 3 (.tmp 20) (.const (.int .i64 64)) 3), none⟩]
def r24_4 : List SI := [⟨some 22, (.move (.tmp 20)), none⟩,
  ⟨some 6, (.assign (.tmp 22)), none⟩]
def r24_5 : List SI := [⟨some 23, (.move (.tmp 6)), none⟩,
  ⟨some 24, (.binOp .lss 3 (.tmp 23) (.const (.int .i64 16)) 3), none⟩]
def r24_6a : List SI := [⟨some 25, (.move (.tmp 6)), none⟩,
  ⟨some 26, (.move (.tmp 1)), none⟩,
  ⟨some 27, (.move (.tmp 6)), none⟩,
  ⟨some 28, (.binOp .mul 3 (.const (.int .i64 4)) (.tmp 27) 3), none⟩,
  ⟨some 29, (.indexAddr 22 (.tmp 26) (.tmp 28)), none⟩,
  ⟨some 30, (.load 5 (.tmp 29)), none⟩,
  ⟨some 31, (.convert 5 38 (.tmp 30)), none⟩,
  ⟨some 32, (.binOp .shl 38 (.tmp 31) (.const (.int .u64 24)) 48), none⟩,
  ⟨some 33, (.move (.tmp 1)), none⟩,
  ⟨some 34, (.move (.tmp 6)), none⟩,
  ⟨some 35, (.binOp .mul 3 (.const (.int .i64 4)) (.tmp 34) 3), none⟩,
  ⟨some 36, (.binOp .add 3 (.tmp 35) (.const (.int .i64 1)) 3), none⟩,
  ⟨some 37, (.indexAddr 22 (.tmp 33) (.tmp 36)), none⟩,
  ⟨some 38, (.load 5 (.tmp 37)), none⟩,
  ⟨some 39, (.convert 5 38 (.tmp 38)), none⟩,
  ⟨some 40, (.binOp .shl 38 (.tmp 39) (.const (.int .u64 16)) 48), none⟩,
  ⟨some 41, (.binOp .or 38 (.tmp 32) (.tmp 40) 38), none⟩,
  ⟨some 42, (.move (.tmp 1)), none⟩,
  ⟨some 43, (.move (.tmp 6)), none⟩,
  ⟨some 44, (.binOp .mul 3 (.const (.int .i64 4)) (.tmp 43) 3), none⟩,
  ⟨some 45, (.binOp .add 3 (.tmp 44) (.const (.int .i64 2)) 3), none⟩,
  ⟨some 46, (.indexAddr 22 (.tmp 42) (.tmp 45)), none⟩,
  ⟨some 47, (.load 5 (.tmp 46)), none⟩,
  ⟨some 48, (.convert 5 38 (.tmp 47)), none⟩,
  ⟨some 49, (.binOp .shl 38 (.tmp 48) (.const (.int .u64 8)) 48), none⟩,
  ⟨some 50, (.binOp .or 38 (.tmp 41) (.tmp 49) 38), none⟩,
  ⟨some 51, (.move (.tmp 1)), none⟩,
  ⟨some 52, (.move (.tmp 6)), none⟩,
  ⟨some 53, (.binOp .mul 3 (.const (.int .i64 4)) (.tmp 52) 3), none⟩,
  ⟨some 54, (.binOp .add 3 (.tmp 53) (.const (.int .i64 3)) 3), none⟩,
  ⟨some 55, (.indexAddr 22 (.tmp 51) (.tmp 54)), none⟩,
  ⟨some 56, (.load 5 (.tmp 55)), none⟩,
  ⟨some 57, (.convert 5 38 (.tmp 56)), none⟩,
  ⟨some 58, (.binOp .or 38 (.tmp 50) (.tmp 57) 38), none⟩]
def r24_6b : List SI := [⟨some 59, (.indexAddr 44 (.tmp 5) (.tmp 25)), none⟩,
  ⟨none, (.store 38 (.tmp 59) (.tmp 58)), none⟩]
def x24_5 : X := .front false r24_6a r24_6b [] (.exit 1)
def r24_7a : List SI := [⟨some 60, (.move (.tmp 6)), none⟩,
  ⟨some 61, (.binOp .sub 3 (.tmp 60) (.const (.int .i64 15)) 3), none⟩,
  ⟨some 62, (.indexAddr 44 (.tmp 5) (.tmp 61)), none⟩,
  ⟨some 63, (.load 38 (.tmp 62)), none⟩,
  ⟨some 64, (.move (.tmp 6)), none⟩,
  ⟨some 65, (.binOp .sub 3 (.tmp 64) (.const (.int .i64 2)) 3), none⟩,
  ⟨some 66, (.indexAddr 44 (.tmp 5) (.tmp 65)), none⟩,
  ⟨some 67, (.load 38 (.tmp 66)), none⟩,
  ⟨some 7, (.assign (.tmp 63)), none⟩]
def r24_7b : List SI := [⟨some 8, (.assign (.tmp 67)), none⟩]
def r24_8 : List SI := [⟨some 68, (.move (.tmp 7)), none⟩,
  ⟨some 69, (.call { callee := (.value (.func 32)), args := #[(.tmp 68), (.const (.int .i64 (-7)))], argTypes := #[38, 3] }), none⟩,
  ⟨some 70, (.move (.tmp 7)), none⟩,
  ⟨some 71, (.call { callee := (.value (.func 32)), args := #[(.tmp 70), (.const (.int .i64 (-18)))], argTypes := #[38, 3] }), none⟩,
  ⟨some 72, (.binOp .xor 38 (.tmp 69) (.tmp 71) 38), none⟩,
  ⟨some 73, (.move (.tmp 7)), none⟩,
  ⟨some 74, (.binOp .shr 38 (.tmp 73) (.const (.int .u64 3)) 48), none⟩,
  ⟨some 75, (.binOp .xor 38 (.tmp 72) (.tmp 74) 38), none⟩,
  ⟨some 9, (.assign (.tmp 75)), none⟩]
def r24_9 : List SI := [⟨some 76, (.move (.tmp 8)), none⟩,
  ⟨some 77, (.call { callee := (.value (.func 32)), args := #[(.tmp 76), (.const (.int .i64 (-17)))], argTypes := #[38, 3] }), none⟩,
  ⟨some 78, (.move (.tmp 8)), none⟩,
  ⟨some 79, (.call { callee := (.value (.func 32)), args := #[(.tmp 78), (.const (.int .i64 (-19)))], argTypes := #[38, 3] }), none⟩,
  ⟨some 80, (.binOp .xor 38 (.tmp 77) (.tmp 79) 38), none⟩,
  ⟨some 81, (.move (.tmp 8)), none⟩,
  ⟨some 82, (.binOp .shr 38 (.tmp 81) (.const (.int .u64 10)) 48), none⟩,
  ⟨some 83, (.binOp .xor 38 (.tmp 80) (.tmp 82) 38), none⟩,
  ⟨some 10, (.assign (.tmp 83)), none⟩]
def r24_10a : List SI := [⟨some 84, (.move (.tmp 6)), none⟩,
  ⟨some 85, (.move (.tmp 10)), none⟩,
  ⟨some 86, (.move (.tmp 6)), none⟩,
  ⟨some 87, (.binOp .sub 3 (.tmp 86) (.const (.int .i64 7)) 3), none⟩,
  ⟨some 88, (.indexAddr 44 (.tmp 5) (.tmp 87)), none⟩,
  ⟨some 89, (.load 38 (.tmp 88)), none⟩,
  ⟨some 90, (.binOp .add 38 (.tmp 85) (.tmp 89) 38), none⟩,
  ⟨some 91, (.move (.tmp 9)), none⟩,
  ⟨some 92, (.binOp .add 38 (.tmp 90) (.tmp 91) 38), none⟩,
  ⟨some 93, (.move (.tmp 6)), none⟩,
  ⟨some 94, (.binOp .sub 3 (.tmp 93) (.const (.int .i64 16)) 3), none⟩,
  ⟨some 95, (.indexAddr 44 (.tmp 5) (.tmp 94)), none⟩,
  ⟨some 96, (.load 38 (.tmp 95)), none⟩,
  ⟨some 97, (.binOp .add 38 (.tmp 92) (.tmp 96) 38), none⟩]
def r24_10b : List SI := [⟨some 98, (.indexAddr 44 (.tmp 5) (.tmp 84)), none⟩,
  ⟨none, (.store 38 (.tmp 98) (.tmp 97)), none⟩]
def x24_6 : X := .front false r24_7a r24_7b [7, 8] (.ops r24_8 [9] (.ops r24_9 [10] (.front false r24_10a r24_10b [] .skip)))
def x24_4 : X := .ops r24_4 [6] (.ops r24_5 [24] (.cond (.tmp 24) x24_5 .skip x24_6))
def r24_11 : List SI := [⟨some 99, (.binOp .add 3 (.tmp 20) (.const (.int .i64 1)) 3), none⟩,
  ⟨some 20, (.move (.tmp 99)), none⟩]
def x24_7 : X := .trim [1, 2, 4, 5, 20] (.ops r24_11 [20] .skip)
def x24_3 : X := .block 1 x24_4 x24_7
def x24_2 : X := .ops r24_3 [21] (.cond (.tmp 21) .skip (.exit 0) x24_3)
def x24_1 : X := .loop [1, 2, 4, 5, 20] x24_2
def r24_12 : List SI := [⟨some 100, (.load 39 (.tmp 2)), none⟩,
  ⟨some 11, (.alloc 39), none⟩,
  ⟨none, (.store 39 (.tmp 11) (.tmp 100)), none⟩]
def r24_13 : List SI := [⟨some 101, (.move (.const (.int .i64 0))), none⟩]
def r24_14 : List SI := [⟨some 102, (.binOp .lss 3 (.tmp 101) (.const (.int .i64 64)) 3), none⟩]
def r24_15 : List SI := [⟨some 103, (.move (.tmp 101)), none⟩,
  ⟨some 12, (.assign (.tmp 103)), none⟩]
def r24_16a : List SI := [⟨some 104, (.indexAddr 39 (.tmp 11) (.const (.int .i64 0))), none⟩,
  ⟨some 105, (.load 38 (.tmp 104)), none⟩,
  ⟨some 106, (.indexAddr 39 (.tmp 11) (.const (.int .i64 4))), none⟩,
  ⟨some 107, (.load 38 (.tmp 106)), none⟩,
  ⟨some 13, (.assign (.tmp 105)), none⟩]
def r24_16b : List SI := [⟨some 14, (.assign (.tmp 107)), none⟩]
def r24_17 : List SI := [⟨some 108, (.move (.tmp 14)), none⟩,
  ⟨some 109, (.call { callee := (.value (.func 32)), args := #[(.tmp 108), (.const (.int .i64 (-6)))], argTypes := #[38, 3] }), none⟩,
  ⟨some 110, (.move (.tmp 14)), none⟩,
  ⟨some 111, (.call { callee := (.value (.func 32)), args := #[(.tmp 110), (.const (.int .i64 (-11)))], argTypes := #[38, 3] }), none⟩,
  ⟨some 112, (.binOp .xor 38 (.tmp 109) (.tmp 111) 38), none⟩,
  ⟨some 113, (.move (.tmp 14)), none⟩,
  ⟨some 114, (.call { callee := (.value (.func 32)), args := #[(.tmp 113), (.const (.int .i64 (-25)))], argTypes := #[38, 3] }), none⟩,
  ⟨some 115, (.binOp .xor 38 (.tmp 112) (.tmp 114) 38), none⟩,
  ⟨some 15, (.assign (.tmp 115)), none⟩]
def r24_18 : List SI := [⟨some 116, (.move (.tmp 13)), none⟩,
  ⟨some 117, (.call { callee := (.value (.func 32)), args := #[(.tmp 116), (.const (.int .i64 (-2)))], argTypes := #[38, 3] }), none⟩,
  ⟨some 118, (.move (.tmp 13)), none⟩,
  ⟨some 119, (.call { callee := (.value (.func 32)), args := #[(.tmp 118), (.const (.int .i64 (-13)))], argTypes := #[38, 3] }), none⟩,
  ⟨some 120, (.binOp .xor 38 (.tmp 117) (.tmp 119) 38), none⟩,
  ⟨some 121, (.move (.tmp 13)), none⟩,
  ⟨some 122, (.call { callee := (.value (.func 32)), args := #[(.tmp 121), (.const (.int .i64 (-22)))], argTypes := #[38, 3] }), none⟩,
  ⟨some 123, (.binOp .xor 38 (.tmp 120) (.tmp 122) 38), none⟩,
  ⟨some 16, (.assign (.tmp 123)), none⟩]
def r24_19a : List SI := [⟨some 124, (.indexAddr 39 (.tmp 11) (.const (.int .i64 7))), none⟩,
  ⟨some 125, (.load 38 (.tmp 124)), none⟩,
  ⟨some 126, (.move (.tmp 15)), none⟩,
  ⟨some 127, (.binOp .add 38 (.tmp 125) (.tmp 126) 38), none⟩,
  ⟨some 128, (.move (.tmp 14)), none⟩,
  ⟨some 129, (.indexAddr 39 (.tmp 11) (.const (.int .i64 5))), none⟩,
  ⟨some 130, (.load 38 (.tmp 129)), none⟩,
  ⟨some 131, (.binOp .and 38 (.tmp 128) (.tmp 130) 38), none⟩,
  ⟨some 132, (.move (.tmp 14)), none⟩,
  ⟨some 133, (.unOp .xor 38 (.tmp 132)), none⟩,
  ⟨some 134, (.indexAddr 39 (.tmp 11) (.const (.int .i64 6))), none⟩,
  ⟨some 135, (.load 38 (.tmp 134)), none⟩,
  ⟨some 136, (.binOp .and 38 (.tmp 133) (.tmp 135) 38), none⟩,
  ⟨some 137, (.binOp .xor 38 (.tmp 131) (.tmp 136) 38), none⟩,
  ⟨some 138, (.binOp .add 38 (.tmp 127) (.tmp 137) 38), none⟩,
  ⟨some 139, (.move (.tmp 12)), none⟩,
  ⟨some 140, (.indexAddr 44 (Go.Operand.global 0) (.tmp 139)), none⟩,
  ⟨some 141, (.load 38 (.tmp 140)), none⟩,
  ⟨some 142, (.binOp .add 38 (.tmp 138) (.tmp 141) 38), none⟩,
  ⟨some 143, (.move (.tmp 12)), none⟩,
  ⟨some 144, (.indexAddr 44 (.tmp 5) (.tmp 143)), none⟩,
  ⟨some 145, (.load 38 (.tmp 144)), none⟩]
def r24_19b : List SI := [⟨some 146, (.binOp .add 38 (.tmp 142) (.tmp 145) 38), none⟩,
  ⟨some 17, (.assign (.tmp 146)), none⟩]
def r24_20 : List SI := [⟨some 147, (.move (.tmp 16)), none⟩,
  ⟨some 148, (.move (.tmp 13)), none⟩,
  ⟨some 149, (.indexAddr 39 (.tmp 11) (.const (.int .i64 1))), none⟩,
  ⟨some 150, (.load 38 (.tmp 149)), none⟩,
  ⟨some 151, (.binOp .and 38 (.tmp 148) (.tmp 150) 38), none⟩,
  ⟨some 152, (.move (.tmp 13)), none⟩,
  ⟨some 153, (.indexAddr 39 (.tmp 11) (.const (.int .i64 2))), none⟩,
  ⟨some 154, (.load 38 (.tmp 153)), none⟩,
  ⟨some 155, (.binOp .and 38 (.tmp 152) (.tmp 154) 38), none⟩,
  ⟨some 156, (.binOp .xor 38 (.tmp 151) (.tmp 155) 38), none⟩,
  ⟨some 157, (.indexAddr 39 (.tmp 11) (.const (.int .i64 1))), none⟩,
  ⟨some 158, (.load 38 (.tmp 157)), none⟩,
  ⟨some 159, (.indexAddr 39 (.tmp 11) (.const (.int .i64 2))), none⟩,
  ⟨some 160, (.load 38 (.tmp 159)), none⟩,
  ⟨some 161, (.binOp .and 38 (.tmp 158) (.tmp 160) 38), none⟩,
  ⟨some 162, (.binOp .xor 38 (.tmp 156) (.tmp 161) 38), none⟩,
  ⟨some 163, (.binOp .add 38 (.tmp 147) (.tmp 162) 38), none⟩,
  ⟨some 18, (.assign (.tmp 163)), none⟩]
def r24_21 : List SI := [⟨some 164, (.move (.tmp 17)), none⟩,
  ⟨some 165, (.move (.tmp 18)), none⟩,
  ⟨some 166, (.binOp .add 38 (.tmp 164) (.tmp 165) 38), none⟩,
  ⟨some 167, (.move (.tmp 13)), none⟩,
  ⟨some 168, (.indexAddr 39 (.tmp 11) (.const (.int .i64 1))), none⟩,
  ⟨some 169, (.load 38 (.tmp 168)), none⟩,
  ⟨some 170, (.indexAddr 39 (.tmp 11) (.const (.int .i64 2))), none⟩,
  ⟨some 171, (.load 38 (.tmp 170)), none⟩,
  ⟨some 172, (.indexAddr 39 (.tmp 11) (.const (.int .i64 3))), none⟩,
  ⟨some 173, (.load 38 (.tmp 172)), none⟩,
  ⟨some 174, (.move (.tmp 17)), none⟩,
  ⟨some 175, (.binOp .add 38 (.tmp 173) (.tmp 174) 38), none⟩,
  ⟨some 176, (.move (.tmp 14)), none⟩,
  ⟨some 177, (.indexAddr 39 (.tmp 11) (.const (.int .i64 5))), none⟩,
  ⟨some 178, (.load 38 (.tmp 177)), none⟩,
  ⟨some 179, (.indexAddr 39 (.tmp 11) (.const (.int .i64 6))), none⟩,
  ⟨some 180, (.load 38 (.tmp 179)), none⟩,
  ⟨some 181, (.build 39 #[(0, (.tmp 166)), (1, (.tmp 167)), (2, (.tmp 169)), (3, (.tmp 171)), (4, (.tmp 175)), (5, (.tmp 176)), (6, (.tmp 178)), (7, (.tmp 180))]), none⟩,
  ⟨none, (.store 39 (.tmp 11) (.tmp 181)), none⟩]
def x24_12 : X := .ops r24_15 [12] (.front false r24_16a r24_16b [13, 14] (.ops r24_17 [15] (.ops r24_18 [16] (.front false r24_19a r24_19b [17] (.ops r24_20 [18] (.ops r24_21 [] .skip))))))
def r24_22 : List SI := [⟨some 182, (.binOp .add 3 (.tmp 101) (.const (.int .i64 1)) 3), none⟩,
  ⟨some 101, (.move (.tmp 182)), none⟩]
def x24_13 : X := .trim [2, 4, 5, 11, 101] (.ops r24_22 [101] .skip)
def x24_11 : X := .block 3 x24_12 x24_13
def x24_10 : X := .ops r24_14 [102] (.cond (.tmp 102) .skip (.exit 2) x24_11)
def x24_9 : X := .loop [2, 4, 5, 11, 101] x24_10
def r24_23 : List SI := [⟨some 183, (.move (.const (.int .i64 0))), none⟩]
def r24_24 : List SI := [⟨some 184, (.binOp .lss 3 (.tmp 183) (.const (.int .i64 8)) 3), none⟩]
def r24_25 : List SI := [⟨some 185, (.move (.tmp 183)), none⟩,
  ⟨some 19, (.assign (.tmp 185)), none⟩]
def r24_26a : List SI := [⟨some 186, (.move (.tmp 19)), none⟩,
  ⟨some 187, (.indexAddr 39 (.tmp 2) (.tmp 186)), none⟩,
  ⟨some 188, (.load 38 (.tmp 187)), none⟩,
  ⟨some 189, (.move (.tmp 19)), none⟩,
  ⟨some 190, (.indexAddr 39 (.tmp 11) (.tmp 189)), none⟩,
  ⟨some 191, (.load 38 (.tmp 190)), none⟩]
def r24_26b : List SI := [⟨some 192, (.binOp .add 38 (.tmp 188) (.tmp 191) 38), none⟩,
  ⟨some 193, (.indexAddr 39 (.tmp 2) (.tmp 186)), none⟩,
  ⟨none, (.store 38 (.tmp 193) (.tmp 192)), none⟩]
def x24_18 : X := .ops r24_25 [19] (.front false r24_26a r24_26b [] .skip)
def r24_27 : List SI := [⟨some 194, (.binOp .add 3 (.tmp 183) (.const (.int .i64 1)) 3), none⟩,
  ⟨some 183, (.move (.tmp 194)), none⟩]
def x24_19 : X := .trim [2, 4, 11, 183] (.ops r24_27 [183] .skip)
def x24_17 : X := .block 5 x24_18 x24_19
def x24_16 : X := .ops r24_24 [184] (.cond (.tmp 184) .skip (.exit 4) x24_17)
def x24_15 : X := .loop [2, 4, 11, 183] x24_16
def r24_28 : List SI := [⟨some 195, (.load 39 (.tmp 2)), none⟩,
  ⟨none, (.store 39 (.tmp 4) (.tmp 195)), none⟩]
def x24_20 : X := .trim [2, 4] (.ops r24_28 [] .ret)
def x24_14 : X := .trim [2, 4, 11] (.ops r24_23 [183] (.block 4 x24_15 x24_20))
def x24_8 : X := .trim [2, 4, 5] (.ops r24_12 [11] (.ops r24_13 [101] (.block 2 x24_9 x24_14)))
def x24_0 : X := .ops r24_0 [2, 4] (.ops r24_1 [5] (.ops r24_2 [20] (.block 0 x24_1 x24_8)))
def n24 : Ann := .ops [2, 4] (.ops [5] (.ops [20] (.block [2, 4, 5] (.loop [1, 2, 4, 5, 20] (.ops [21] (.cond .stop .stop (.block [1, 2, 4, 5, 20] (.ops [6] (.ops [24] (.cond (.ops [] .stop) .stop (.ops [7, 8] (.ops [9] (.ops [10] (.ops [] .stop))))))) (.trim [1, 2, 4, 5, 20] (.ops [20] .stop)))))) (.trim [2, 4, 5] (.ops [11] (.ops [101] (.block [2, 4, 11] (.loop [2, 4, 5, 11, 101] (.ops [102] (.cond .stop .stop (.block [2, 4, 5, 11, 101] (.ops [12] (.ops [13, 14] (.ops [15] (.ops [16] (.ops [17] (.ops [18] (.ops [] .stop))))))) (.trim [2, 4, 5, 11, 101] (.ops [101] .stop)))))) (.trim [2, 4, 11] (.ops [183] (.block [2, 4] (.loop [2, 4, 11, 183] (.ops [184] (.cond .stop .stop (.block [2, 4, 11, 183] (.ops [19] (.ops [] .stop)) (.trim [2, 4, 11, 183] (.ops [183] .stop)))))) (.trim [2, 4] (.ops [] .stop))))))))))))
theorem ok24 : annFn Tryd.f24 2 n24 = some x24_0 := by kernel_rfl
noncomputable def kF24 (K : V → H → Prop) : XQ := kFnX C.P Tryd.f24.results.toList K
theorem e24_nx {K : V → H → Prop} {e : E} {h : H} : kF24 K .nx e h = resX C.P Tryd.f24.results.toList e h K := nrfl (by kernel_rfl)
theorem e24_rt {K : V → H → Prop} {e : E} {h : H} : kF24 K .rt e h = resX C.P Tryd.f24.results.toList e h K := nrfl (by kernel_rfl)
theorem enter24 {lo : Nat} {h : H} {vs : List V} {K : V → H → Prop} (hl : vs.length = 2) (hw : XW C lo x24_0 (kF24 K) (args 0 vs) h) : CW C 24 vs lo h K := by
  refine CW_X hS rfl Tryd.func24 ok24 hl ?_ hw
  rw [Tryd.ntmps24]
  decide
theorem q24_5 {lo : Nat} {Q : XQ} {e : E} {h : H} : XW C lo x24_5 Q e h =
    bd (binV Tryd.prog .mul 3 (.int .i64 4) (E.get e 6)) fun t1 =>
    bd (addrV Tryd.prog 22 (E.get e 1) t1) fun t2 =>
    bd (loadV Tryd.prog 5 t2 (H.read h)) fun t3 =>
    bd (convV Tryd.prog (H.read h) 5 38 t3) fun r4 => KX h (fun t5 h6 =>
    bd (binV Tryd.prog .shl 38 t5 (.int .u64 24)) fun t7 =>
    bd (binV Tryd.prog .mul 3 (.int .i64 4) (E.get e 6)) fun t8 =>
    bd (binV Tryd.prog .add 3 t8 (.int .i64 1)) fun t9 =>
    bd (addrV Tryd.prog 22 (E.get e 1) t9) fun t10 =>
    bd (loadV Tryd.prog 5 t10 (H.read h6)) fun t11 =>
    bd (convV Tryd.prog (H.read h6) 5 38 t11) fun r12 => KX h6 (fun t13 h14 =>
    bd (binV Tryd.prog .shl 38 t13 (.int .u64 16)) fun t15 =>
    bd (binV Tryd.prog .or 38 t7 t15) fun t16 =>
    bd (binV Tryd.prog .mul 3 (.int .i64 4) (E.get e 6)) fun t17 =>
    bd (binV Tryd.prog .add 3 t17 (.int .i64 2)) fun t18 =>
    bd (addrV Tryd.prog 22 (E.get e 1) t18) fun t19 =>
    bd (loadV Tryd.prog 5 t19 (H.read h14)) fun t20 =>
    bd (convV Tryd.prog (H.read h14) 5 38 t20) fun r21 => KX h14 (fun t22 h23 =>
    bd (binV Tryd.prog .shl 38 t22 (.int .u64 8)) fun t24 =>
    bd (binV Tryd.prog .or 38 t16 t24) fun t25 =>
    bd (binV Tryd.prog .mul 3 (.int .i64 4) (E.get e 6)) fun t26 =>
    bd (binV Tryd.prog .add 3 t26 (.int .i64 3)) fun t27 =>
    bd (addrV Tryd.prog 22 (E.get e 1) t27) fun t28 =>
    bd (loadV Tryd.prog 5 t28 (H.read h23)) fun t29 =>
    bd (convV Tryd.prog (H.read h23) 5 38 t29) fun r30 => KX h23 (fun t31 h32 =>
    bd (binV Tryd.prog .or 38 t25 t31) fun t33 =>
    bd (addrV Tryd.prog 44 (E.get e 5) (E.get e 6)) fun t34 =>
    bd (storeV Tryd.prog lo 38 t34 t33 h32) fun h35 =>
    Q (.ex 1) e h35) r30) r21) r12) r4 := nrfl (by kernel_rfl)
theorem q24_6 {lo : Nat} {Q : XQ} {e : E} {h : H} : XW C lo x24_6 Q e h =
    bd (binV Tryd.prog .sub 3 (E.get e 6) (.int .i64 15)) fun t1 =>
    bd (addrV Tryd.prog 44 (E.get e 5) t1) fun t2 =>
    bd (loadV Tryd.prog 38 t2 (H.read h)) fun t3 =>
    bd (binV Tryd.prog .sub 3 (E.get e 6) (.int .i64 2)) fun t4 =>
    bd (addrV Tryd.prog 44 (E.get e 5) t4) fun t5 =>
    bd (loadV Tryd.prog 38 t5 (H.read h)) fun t6 =>
    CW C 32 [t3, .int .i64 (-7)] lo h fun t7 h8 =>
    CW C 32 [t3, .int .i64 (-18)] lo h8 fun t9 h10 =>
    bd (binV Tryd.prog .xor 38 t7 t9) fun t11 =>
    bd (binV Tryd.prog .shr 38 t3 (.int .u64 3)) fun t12 =>
    bd (binV Tryd.prog .xor 38 t11 t12) fun t13 =>
    CW C 32 [t6, .int .i64 (-17)] lo h10 fun t14 h15 =>
    CW C 32 [t6, .int .i64 (-19)] lo h15 fun t16 h17 =>
    bd (binV Tryd.prog .xor 38 t14 t16) fun t18 =>
    bd (binV Tryd.prog .shr 38 t6 (.int .u64 10)) fun t19 =>
    bd (binV Tryd.prog .xor 38 t18 t19) fun t20 =>
    bd (binV Tryd.prog .sub 3 (E.get e 6) (.int .i64 7)) fun t21 =>
    bd (addrV Tryd.prog 44 (E.get e 5) t21) fun t22 =>
    bd (loadV Tryd.prog 38 t22 (H.read h17)) fun t23 =>
    bd (binV Tryd.prog .add 38 t20 t23) fun t24 =>
    bd (binV Tryd.prog .add 38 t24 t13) fun t25 =>
    bd (binV Tryd.prog .sub 3 (E.get e 6) (.int .i64 16)) fun t26 =>
    bd (addrV Tryd.prog 44 (E.get e 5) t26) fun t27 =>
    bd (loadV Tryd.prog 38 t27 (H.read h17)) fun t28 =>
    bd (binV Tryd.prog .add 38 t25 t28) fun t29 =>
    bd (addrV Tryd.prog 44 (E.get e 5) (E.get e 6)) fun t30 =>
    bd (storeV Tryd.prog lo 38 t30 t29 h17) fun h31 =>
    Q .nx ((10, t20) :: (9, t13) :: (7, t3) :: (8, t6) :: e) h31 := nrfl (by kernel_rfl)
theorem q24_4 {lo : Nat} {Q : XQ} {e : E} {h : H} : XW C lo x24_4 Q e h =
    bdB (binV Tryd.prog .lss 3 (E.get e 20) (.int .i64 16)) fun b1 =>
    byT b1 (XW C lo x24_5 (kX (XW C lo x24_6 Q) Q) ((24, .bool b1) :: (6, E.get e 20) :: e) h) (XW C lo .skip (kX (XW C lo x24_6 Q) Q) ((24, .bool b1) :: (6, E.get e 20) :: e) h) := nrfl (by kernel_rfl)
theorem q24_7 {lo : Nat} {Q : XQ} {e : E} {h : H} : XW C lo x24_7 Q e h =
    bd (binV Tryd.prog .add 3 (E.get e 20) (.int .i64 1)) fun t1 =>
    Q .nx [(20, t1), (1, E.get e 1), (2, E.get e 2), (4, E.get e 4), (5, E.get e 5), (20, E.get e 20)] h := nrfl (by kernel_rfl)
theorem q24_3 {lo : Nat} {Q : XQ} {e : E} {h : H} : XW C lo x24_3 Q e h =
    XW C lo x24_4 (kXB 1 (XW C lo x24_7 Q) Q) e h := nrfl (by kernel_rfl)
theorem q24_2 {lo : Nat} {Q : XQ} {e : E} {h : H} : XW C lo x24_2 Q e h =
    bdB (binV Tryd.prog .lss 3 (E.get e 20) (.int .i64 64)) fun b1 =>
    byT b1 (XW C lo .skip (kX (XW C lo x24_3 Q) Q) ((21, .bool b1) :: e) h) (XW C lo (.exit 0) (kX (XW C lo x24_3 Q) Q) ((21, .bool b1) :: e) h) := nrfl (by kernel_rfl)
theorem q24_1 {lo : Nat} {Q : XQ} {e : E} {h : H} : XW C lo x24_1 Q e h =
    ∃ n, loopX [1, 2, 4, 5, 20] (XW C lo x24_2) Q n e h := nrfl (by kernel_rfl)
theorem q24_12 {lo : Nat} {Q : XQ} {e : E} {h : H} : XW C lo x24_12 Q e h =
    bd (addrV Tryd.prog 39 (E.get e 11) (.int .i64 0)) fun t1 =>
    bd (loadV Tryd.prog 38 t1 (H.read h)) fun t2 =>
    bd (addrV Tryd.prog 39 (E.get e 11) (.int .i64 4)) fun t3 =>
    bd (loadV Tryd.prog 38 t3 (H.read h)) fun t4 =>
    CW C 32 [t4, .int .i64 (-6)] lo h fun t5 h6 =>
    CW C 32 [t4, .int .i64 (-11)] lo h6 fun t7 h8 =>
    bd (binV Tryd.prog .xor 38 t5 t7) fun t9 =>
    CW C 32 [t4, .int .i64 (-25)] lo h8 fun t10 h11 =>
    bd (binV Tryd.prog .xor 38 t9 t10) fun t12 =>
    CW C 32 [t2, .int .i64 (-2)] lo h11 fun t13 h14 =>
    CW C 32 [t2, .int .i64 (-13)] lo h14 fun t15 h16 =>
    bd (binV Tryd.prog .xor 38 t13 t15) fun t17 =>
    CW C 32 [t2, .int .i64 (-22)] lo h16 fun t18 h19 =>
    bd (binV Tryd.prog .xor 38 t17 t18) fun t20 =>
    bd (addrV Tryd.prog 39 (E.get e 11) (.int .i64 7)) fun t21 =>
    bd (loadV Tryd.prog 38 t21 (H.read h19)) fun t22 =>
    bd (binV Tryd.prog .add 38 t22 t12) fun t23 =>
    bd (addrV Tryd.prog 39 (E.get e 11) (.int .i64 5)) fun t24 =>
    bd (loadV Tryd.prog 38 t24 (H.read h19)) fun t25 =>
    bd (binV Tryd.prog .and 38 t4 t25) fun t26 =>
    bd (unV .xor t4) fun t27 =>
    bd (addrV Tryd.prog 39 (E.get e 11) (.int .i64 6)) fun t28 =>
    bd (loadV Tryd.prog 38 t28 (H.read h19)) fun t29 =>
    bd (binV Tryd.prog .and 38 t27 t29) fun t30 =>
    bd (binV Tryd.prog .xor 38 t26 t30) fun t31 =>
    bd (binV Tryd.prog .add 38 t23 t31) fun t32 =>
    bd (addrV Tryd.prog 44 (.ptr 0 0) (E.get e 101)) fun t33 =>
    bd (loadV Tryd.prog 38 t33 (H.read h19)) fun t34 =>
    bd (binV Tryd.prog .add 38 t32 t34) fun t35 =>
    bd (addrV Tryd.prog 44 (E.get e 5) (E.get e 101)) fun t36 =>
    bd (loadV Tryd.prog 38 t36 (H.read h19)) fun t37 =>
    bd (binV Tryd.prog .add 38 t35 t37) fun t38 =>
    bd (addrV Tryd.prog 39 (E.get e 11) (.int .i64 1)) fun t39 =>
    bd (loadV Tryd.prog 38 t39 (H.read h19)) fun t40 =>
    bd (binV Tryd.prog .and 38 t2 t40) fun t41 =>
    bd (addrV Tryd.prog 39 (E.get e 11) (.int .i64 2)) fun t42 =>
    bd (loadV Tryd.prog 38 t42 (H.read h19)) fun t43 =>
    bd (binV Tryd.prog .and 38 t2 t43) fun t44 =>
    bd (binV Tryd.prog .xor 38 t41 t44) fun t45 =>
    bd (addrV Tryd.prog 39 (E.get e 11) (.int .i64 1)) fun t46 =>
    bd (loadV Tryd.prog 38 t46 (H.read h19)) fun t47 =>
    bd (addrV Tryd.prog 39 (E.get e 11) (.int .i64 2)) fun t48 =>
    bd (loadV Tryd.prog 38 t48 (H.read h19)) fun t49 =>
    bd (binV Tryd.prog .and 38 t47 t49) fun t50 =>
    bd (binV Tryd.prog .xor 38 t45 t50) fun t51 =>
    bd (binV Tryd.prog .add 38 t20 t51) fun t52 =>
    bd (binV Tryd.prog .add 38 t38 t52) fun t53 =>
    bd (addrV Tryd.prog 39 (E.get e 11) (.int .i64 1)) fun t54 =>
    bd (loadV Tryd.prog 38 t54 (H.read h19)) fun t55 =>
    bd (addrV Tryd.prog 39 (E.get e 11) (.int .i64 2)) fun t56 =>
    bd (loadV Tryd.prog 38 t56 (H.read h19)) fun t57 =>
    bd (addrV Tryd.prog 39 (E.get e 11) (.int .i64 3)) fun t58 =>
    bd (loadV Tryd.prog 38 t58 (H.read h19)) fun t59 =>
    bd (binV Tryd.prog .add 38 t59 t38) fun t60 =>
    bd (addrV Tryd.prog 39 (E.get e 11) (.int .i64 5)) fun t61 =>
    bd (loadV Tryd.prog 38 t61 (H.read h19)) fun t62 =>
    bd (addrV Tryd.prog 39 (E.get e 11) (.int .i64 6)) fun t63 =>
    bd (loadV Tryd.prog 38 t63 (H.read h19)) fun t64 =>
    bd (buildV Tryd.prog 39 [(0, t53), (1, t2), (2, t55), (3, t57), (4, t60), (5, t4), (6, t62), (7, t64)]) fun t65 =>
    bd (storeV Tryd.prog lo 39 (E.get e 11) t65 h19) fun h66 =>
    Q .nx ((18, t52) :: (17, t38) :: (16, t20) :: (15, t12) :: (13, t2) :: (14, t4) :: (12, E.get e 101) :: e) h66 := nrfl (by kernel_rfl)
theorem q24_13 {lo : Nat} {Q : XQ} {e : E} {h : H} : XW C lo x24_13 Q e h =
    bd (binV Tryd.prog .add 3 (E.get e 101) (.int .i64 1)) fun t1 =>
    Q .nx [(101, t1), (2, E.get e 2), (4, E.get e 4), (5, E.get e 5), (11, E.get e 11), (101, E.get e 101)] h := nrfl (by kernel_rfl)
theorem q24_11 {lo : Nat} {Q : XQ} {e : E} {h : H} : XW C lo x24_11 Q e h =
    XW C lo x24_12 (kXB 3 (XW C lo x24_13 Q) Q) e h := nrfl (by kernel_rfl)
theorem q24_10 {lo : Nat} {Q : XQ} {e : E} {h : H} : XW C lo x24_10 Q e h =
    bdB (binV Tryd.prog .lss 3 (E.get e 101) (.int .i64 64)) fun b1 =>
    byT b1 (XW C lo .skip (kX (XW C lo x24_11 Q) Q) ((102, .bool b1) :: e) h) (XW C lo (.exit 2) (kX (XW C lo x24_11 Q) Q) ((102, .bool b1) :: e) h) := nrfl (by kernel_rfl)
theorem q24_9 {lo : Nat} {Q : XQ} {e : E} {h : H} : XW C lo x24_9 Q e h =
    ∃ n, loopX [2, 4, 5, 11, 101] (XW C lo x24_10) Q n e h := nrfl (by kernel_rfl)
theorem q24_18 {lo : Nat} {Q : XQ} {e : E} {h : H} : XW C lo x24_18 Q e h =
    bd (addrV Tryd.prog 39 (E.get e 2) (E.get e 183)) fun t1 =>
    bd (loadV Tryd.prog 38 t1 (H.read h)) fun t2 =>
    bd (addrV Tryd.prog 39 (E.get e 11) (E.get e 183)) fun t3 =>
    bd (loadV Tryd.prog 38 t3 (H.read h)) fun t4 =>
    bd (binV Tryd.prog .add 38 t2 t4) fun t5 =>
    bd (addrV Tryd.prog 39 (E.get e 2) (E.get e 183)) fun t6 =>
    bd (storeV Tryd.prog lo 38 t6 t5 h) fun h7 =>
    Q .nx ((19, E.get e 183) :: e) h7 := nrfl (by kernel_rfl)
theorem q24_19 {lo : Nat} {Q : XQ} {e : E} {h : H} : XW C lo x24_19 Q e h =
    bd (binV Tryd.prog .add 3 (E.get e 183) (.int .i64 1)) fun t1 =>
    Q .nx [(183, t1), (2, E.get e 2), (4, E.get e 4), (11, E.get e 11), (183, E.get e 183)] h := nrfl (by kernel_rfl)
theorem q24_17 {lo : Nat} {Q : XQ} {e : E} {h : H} : XW C lo x24_17 Q e h =
    XW C lo x24_18 (kXB 5 (XW C lo x24_19 Q) Q) e h := nrfl (by kernel_rfl)
theorem q24_16 {lo : Nat} {Q : XQ} {e : E} {h : H} : XW C lo x24_16 Q e h =
    bdB (binV Tryd.prog .lss 3 (E.get e 183) (.int .i64 8)) fun b1 =>
    byT b1 (XW C lo .skip (kX (XW C lo x24_17 Q) Q) ((184, .bool b1) :: e) h) (XW C lo (.exit 4) (kX (XW C lo x24_17 Q) Q) ((184, .bool b1) :: e) h) := nrfl (by kernel_rfl)
theorem q24_15 {lo : Nat} {Q : XQ} {e : E} {h : H} : XW C lo x24_15 Q e h =
    ∃ n, loopX [2, 4, 11, 183] (XW C lo x24_16) Q n e h := nrfl (by kernel_rfl)
theorem q24_20 {lo : Nat} {Q : XQ} {e : E} {h : H} : XW C lo x24_20 Q e h =
    bd (loadV Tryd.prog 39 (E.get e 2) (H.read h)) fun t1 =>
    bd (storeV Tryd.prog lo 39 (E.get e 4) t1 h) fun h2 =>
    Q .rt [(2, E.get e 2), (4, E.get e 4)] h2 := nrfl (by kernel_rfl)
theorem z24_14 {lo : Nat} {Q : XQ} {Z : E → H → Prop} {e : E} {h : H} : LX C lo r24_23 (fun e1 h1 => Z (outs [183] e1 (only [2, 4, 11] e)) h1) (only [2, 4, 11] e) h =
    Z [(183, .int .i64 0), (2, E.get e 2), (4, E.get e 4), (11, E.get e 11)] h := nrfl (by kernel_rfl)
theorem q24_14 {lo : Nat} {Q : XQ} {e : E} {h : H} : XW C lo x24_14 Q e h =
    XW C lo x24_15 (kXB 4 (XW C lo x24_20 Q) Q) [(183, .int .i64 0), (2, E.get e 2), (4, E.get e 4), (11, E.get e 11)] h :=
  (opsblkCodePT (L := [2, 4, 11]) (l := r24_23) (out := [183]) (id := 4) (b := x24_15) (k := x24_20)).trans (z24_14 (Q := Q) (Z := fun e1 h1 => XW C lo x24_15 (kXB 4 (XW C lo x24_20 Q) Q) e1 h1))
theorem q24_8 {lo : Nat} {Q : XQ} {e : E} {h : H} : XW C lo x24_8 Q e h =
    bd (loadV Tryd.prog 39 (E.get e 2) (H.read h)) fun t1 =>
    bd (zero? Tryd.prog 39) fun z2 =>
    bd (storeV Tryd.prog lo 39 (.ptr (H.next h) 0) t1 (H.alloc h (V.cells z2))) fun h3 =>
    XW C lo x24_9 (kXB 2 (XW C lo x24_14 Q) Q) [(101, .int .i64 0), (11, .ptr (H.next h) 0), (2, E.get e 2), (4, E.get e 4), (5, E.get e 5)] h3 := nrfl (by kernel_rfl)
theorem q24_0 {lo : Nat} {Q : XQ} {e : E} {h : H} : XW C lo x24_0 Q e h =
    bd (zero? Tryd.prog 39) fun z1 =>
    bd (zero? Tryd.prog 44) fun z2 =>
    XW C lo x24_1 (kXB 0 (XW C lo x24_8 Q) Q) ((20, .int .i64 0) :: (5, .ptr (H.next (H.alloc (H.alloc h (V.cells (E.get e 0))) (V.cells z1))) 0) :: (2, .ptr (H.next h) 0) :: (4, .ptr (H.next (H.alloc h (V.cells (E.get e 0)))) 0) :: e) (H.alloc (H.alloc (H.alloc h (V.cells (E.get e 0))) (V.cells z1)) (V.cells z2)) := nrfl (by kernel_rfl)

/-! ### math/bits.RotateLeft32 -/
def r32_0 : List SI := [⟨some 4, (.assign (.const (.int .u32 0))), none⟩]
def r32_1 : List SI := [⟨some 6, (.move (.tmp 1)), none⟩,
  ⟨some 7, (.convert 3 48 (.tmp 6)), none⟩,
  ⟨some 8, (.binOp .and 48 (.tmp 7) (.const (.int .u64 31)) 48), none⟩,
  ⟨some 5, (.assign (.tmp 8)), none⟩]
def r32_2 : List SI := [⟨some 9, (.move (.tmp 0)), none⟩,
  ⟨some 10, (.move (.tmp 5)), none⟩,
  ⟨some 11, (.binOp .shl 38 (.tmp 9) (.tmp 10) 48), none⟩,
  ⟨some 12, (.move (.tmp 0)), none⟩,
  ⟨some 13, (.move (.tmp 5)), none⟩,
  ⟨some 14, (.binOp .sub 48 (.const (.int .u64 32)) (.tmp 13) 48), none⟩,
  ⟨some 15, (.binOp .shr 38 (.tmp 12) (.tmp 14) 48), none⟩,
  ⟨some 16, (.binOp .or 38 (.tmp 11) (.tmp 15) 38), none⟩,
  ⟨some 4, (.assign (.tmp 16)), none⟩]
def x32_0 : X := .ops r32_0 [] (.ops r32_1 [5] (.ops r32_2 [4] .ret))
def n32 : Ann := .ops [] (.ops [5] (.ops [4] .stop))
theorem ok32 : annFn Tryd.f32 2 n32 = some x32_0 := by kernel_rfl
noncomputable def kF32 (K : V → H → Prop) : XQ := kFnX C.P Tryd.f32.results.toList K
theorem e32_nx {K : V → H → Prop} {e : E} {h : H} : kF32 K .nx e h = K (E.get e 4) h := nrfl (by kernel_rfl)
theorem e32_rt {K : V → H → Prop} {e : E} {h : H} : kF32 K .rt e h = K (E.get e 4) h := nrfl (by kernel_rfl)
theorem enter32 {lo : Nat} {h : H} {vs : List V} {K : V → H → Prop} (hl : vs.length = 2) (hw : XW C lo x32_0 (kF32 K) (args 0 vs) h) : CW C 32 vs lo h K := by
  refine CW_X hS rfl Tryd.func32 ok32 hl ?_ hw
  rw [Tryd.ntmps32]
  decide
theorem q32_0 {lo : Nat} {Q : XQ} {e : E} {h : H} : XW C lo x32_0 Q e h =
    bd (convV Tryd.prog (H.read h) 3 48 (E.get e 1)) fun r1 => KX h (fun t2 h3 =>
    bd (binV Tryd.prog .and 48 t2 (.int .u64 31)) fun t4 =>
    bd (binV Tryd.prog .shl 38 (E.get e 0) t4) fun t5 =>
    bd (binV Tryd.prog .sub 48 (.int .u64 32) t4) fun t6 =>
    bd (binV Tryd.prog .shr 38 (E.get e 0) t6) fun t7 =>
    bd (binV Tryd.prog .or 38 t5 t7) fun t8 =>
    Q .rt ((4, t8) :: (5, t4) :: e) h3) r1 := nrfl (by kernel_rfl)

/-! ### slices.Clone[[]byte,byte] -/
def r22_0 : List SI := [⟨some 2, (.assign (.const (.slice none 0 0))), none⟩]
def r22_1 : List SI := [⟨some 3, (.move (.tmp 0)), none⟩,
  ⟨some 4, (.binOp .eql 22 (.tmp 3) (.const (.slice none 0 0)) 22), none⟩]
def r22_2 : List SI := [⟨some 2, (.assign (.const (.slice none 0 0))), none⟩]
def x22_1 : X := .ops r22_2 [2] .ret
def r22_3 : List SI := [⟨some 5, (.buildSlice 22 0 #[]), none⟩,
  ⟨some 6, (.move (.tmp 0)), none⟩,
  ⟨some 7, (.call { callee := (.builtin .append), args := #[(.tmp 5), (.tmp 6)], argTypes := #[22, 22] }), none⟩,
  ⟨some 2, (.assign (.tmp 7)), none⟩]
def x22_2 : X := .ops r22_3 [2] .ret
def x22_0 : X := .ops r22_0 [] (.ops r22_1 [4] (.cond (.tmp 4) x22_1 .skip x22_2))
def n22 : Ann := .ops [] (.ops [4] (.cond (.ops [2] .stop) .stop (.ops [2] .stop)))
theorem ok22 : annFn Tryd.f22 1 n22 = some x22_0 := by kernel_rfl
noncomputable def kF22 (K : V → H → Prop) : XQ := kFnX C.P Tryd.f22.results.toList K
theorem e22_nx {K : V → H → Prop} {e : E} {h : H} : kF22 K .nx e h = K (E.get e 2) h := nrfl (by kernel_rfl)
theorem e22_rt {K : V → H → Prop} {e : E} {h : H} : kF22 K .rt e h = K (E.get e 2) h := nrfl (by kernel_rfl)
theorem enter22 {lo : Nat} {h : H} {vs : List V} {K : V → H → Prop} (hl : vs.length = 1) (hw : XW C lo x22_0 (kF22 K) (args 0 vs) h) : CW C 22 vs lo h K := by
  refine CW_X hS rfl Tryd.func22 ok22 hl ?_ hw
  rw [Tryd.ntmps22]
  decide
theorem q22_1 {lo : Nat} {Q : XQ} {e : E} {h : H} : XW C lo x22_1 Q e h =
    Q .rt ((2, .nils) :: e) h := nrfl (by kernel_rfl)
theorem q22_2 {lo : Nat} {Q : XQ} {e : E} {h : H} : XW C lo x22_2 Q e h =
    bd (buildSliceV Tryd.prog 22 0 []) fun r1 => KX h (fun t2 h3 =>
    bd2 (appendV Tryd.prog lo [22, 22] t2 (E.get e 0) h3) fun t4 h5 =>
    Q .rt ((2, t4) :: e) h5) r1 := nrfl (by kernel_rfl)
theorem q22_0 {lo : Nat} {Q : XQ} {e : E} {h : H} : XW C lo x22_0 Q e h =
    bdB (binV Tryd.prog .eql 22 (E.get e 0) .nils) fun b1 =>
    byT b1 (XW C lo x22_1 (kX (XW C lo x22_2 Q) Q) ((4, .bool b1) :: e) h) (XW C lo .skip (kX (XW C lo x22_2 Q) Q) ((4, .bool b1) :: e) h) := nrfl (by kernel_rfl)

/-! ### chancery/proof.long -/
def r23_0 : List SI := [⟨some 4, (.assign (.const (.slice none 0 0))), none⟩]
def r23_1 : List SI := [⟨some 6, (.move (.const (.int .i64 0))), none⟩]
def r23_2 : List SI := [⟨some 7, (.binOp .lss 3 (.tmp 6) (.const (.int .i64 8)) 3), none⟩]
def r23_3 : List SI := [⟨some 8, (.move (.tmp 6)), none⟩,
  ⟨some 5, (.assign (.tmp 8)), none⟩]
def r23_4 : List SI := [⟨some 9, (.move (.tmp 0)), none⟩,
  ⟨some 10, (.move (.tmp 1)), none⟩,
  ⟨some 11, (.move (.tmp 5)), none⟩,
  ⟨some 12, (.binOp .mul 3 (.const (.int .i64 8)) (.tmp 11) 3), none⟩,
  ⟨some 13, (.binOp .sub 3 (.const (.int .i64 56)) (.tmp 12) 3), none⟩,
  ⟨some 14, (.binOp .shr 29 (.tmp 10) (.tmp 13) 3), none⟩,
  ⟨some 15, (.convert 29 5 (.tmp 14)), none⟩,
  ⟨some 16, (.buildSlice 22 1 #[(0, (.tmp 15))]), none⟩,
  ⟨some 17, (.call { callee := (.builtin .append), args := #[(.tmp 9), (.tmp 16)], argTypes := #[22, 22] }), none⟩,
  ⟨some 0, (.assign (.tmp 17)), none⟩]
def x23_4 : X := .ops r23_3 [5] (.ops r23_4 [0] .skip)
def r23_5 : List SI := [⟨some 18, (.binOp .add 3 (.tmp 6) (.const (.int .i64 1)) 3), none⟩,
  ⟨some 6, (.move (.tmp 18)), none⟩]
def x23_5 : X := .trim [0, 1, 6] (.ops r23_5 [6] .skip)
def x23_3 : X := .block 1 x23_4 x23_5
def x23_2 : X := .ops r23_2 [7] (.cond (.tmp 7) .skip (.exit 0) x23_3)
def x23_1 : X := .loop [0, 1, 6] x23_2
def r23_6 : List SI := [⟨some 19, (.move (.tmp 0)), none⟩,
  ⟨some 4, (.assign (.tmp 19)), none⟩]
def x23_6 : X := .trim [0] (.ops r23_6 [4] .ret)
def x23_0 : X := .ops r23_0 [] (.ops r23_1 [6] (.block 0 x23_1 x23_6))
def n23 : Ann := .ops [] (.ops [6] (.block [0] (.loop [0, 1, 6] (.ops [7] (.cond .stop .stop (.block [0, 1, 6] (.ops [5] (.ops [0] .stop)) (.trim [0, 1, 6] (.ops [6] .stop)))))) (.trim [0] (.ops [4] .stop))))
theorem ok23 : annFn Tryd.f23 2 n23 = some x23_0 := by kernel_rfl
noncomputable def kF23 (K : V → H → Prop) : XQ := kFnX C.P Tryd.f23.results.toList K
theorem e23_nx {K : V → H → Prop} {e : E} {h : H} : kF23 K .nx e h = K (E.get e 4) h := nrfl (by kernel_rfl)
theorem e23_rt {K : V → H → Prop} {e : E} {h : H} : kF23 K .rt e h = K (E.get e 4) h := nrfl (by kernel_rfl)
theorem enter23 {lo : Nat} {h : H} {vs : List V} {K : V → H → Prop} (hl : vs.length = 2) (hw : XW C lo x23_0 (kF23 K) (args 0 vs) h) : CW C 23 vs lo h K := by
  refine CW_X hS rfl Tryd.func23 ok23 hl ?_ hw
  rw [Tryd.ntmps23]
  decide
theorem q23_4 {lo : Nat} {Q : XQ} {e : E} {h : H} : XW C lo x23_4 Q e h =
    bd (binV Tryd.prog .mul 3 (.int .i64 8) (E.get e 6)) fun t1 =>
    bd (binV Tryd.prog .sub 3 (.int .i64 56) t1) fun t2 =>
    bd (binV Tryd.prog .shr 29 (E.get e 1) t2) fun t3 =>
    bd (convV Tryd.prog (H.read h) 29 5 t3) fun r4 => KX h (fun t5 h6 =>
    bd (buildSliceV Tryd.prog 22 1 [(0, t5)]) fun r7 => KX h6 (fun t8 h9 =>
    bd2 (appendV Tryd.prog lo [22, 22] (E.get e 0) t8 h9) fun t10 h11 =>
    Q .nx ((0, t10) :: (5, E.get e 6) :: e) h11) r7) r4 := nrfl (by kernel_rfl)
theorem q23_5 {lo : Nat} {Q : XQ} {e : E} {h : H} : XW C lo x23_5 Q e h =
    bd (binV Tryd.prog .add 3 (E.get e 6) (.int .i64 1)) fun t1 =>
    Q .nx [(6, t1), (0, E.get e 0), (1, E.get e 1), (6, E.get e 6)] h := nrfl (by kernel_rfl)
theorem q23_3 {lo : Nat} {Q : XQ} {e : E} {h : H} : XW C lo x23_3 Q e h =
    XW C lo x23_4 (kXB 1 (XW C lo x23_5 Q) Q) e h := nrfl (by kernel_rfl)
theorem q23_2 {lo : Nat} {Q : XQ} {e : E} {h : H} : XW C lo x23_2 Q e h =
    bdB (binV Tryd.prog .lss 3 (E.get e 6) (.int .i64 8)) fun b1 =>
    byT b1 (XW C lo .skip (kX (XW C lo x23_3 Q) Q) ((7, .bool b1) :: e) h) (XW C lo (.exit 0) (kX (XW C lo x23_3 Q) Q) ((7, .bool b1) :: e) h) := nrfl (by kernel_rfl)
theorem q23_1 {lo : Nat} {Q : XQ} {e : E} {h : H} : XW C lo x23_1 Q e h =
    ∃ n, loopX [0, 1, 6] (XW C lo x23_2) Q n e h := nrfl (by kernel_rfl)
theorem q23_6 {lo : Nat} {Q : XQ} {e : E} {h : H} : XW C lo x23_6 Q e h =
    Q .rt [(4, E.get e 0), (0, E.get e 0)] h := nrfl (by kernel_rfl)
theorem q23_0 {lo : Nat} {Q : XQ} {e : E} {h : H} : XW C lo x23_0 Q e h =
    XW C lo x23_1 (kXB 0 (XW C lo x23_6 Q) Q) ((6, .int .i64 0) :: e) h := nrfl (by kernel_rfl)

/-! ### slices.Equal[[]byte,byte] -/
def r31_0 : List SI := [⟨some 4, (.assign (.const (.bool false))), none⟩]
def r31_1 : List SI := [⟨some 6, (.move (.tmp 0)), none⟩,
  ⟨some 7, (.call { callee := (.builtin .len), args := #[(.tmp 6)], argTypes := #[22] }), none⟩,
  ⟨some 8, (.move (.tmp 1)), none⟩,
  ⟨some 9, (.call { callee := (.builtin .len), args := #[(.tmp 8)], argTypes := #[22] }), none⟩,
  ⟨some 10, (.binOp .neq 3 (.tmp 7) (.tmp 9) 3), none⟩]
def r31_2 : List SI := [⟨some 4, (.assign (.const (.bool false))), none⟩]
def x31_1 : X := .ops r31_2 [4] .ret
def r31_3 : List SI := [⟨some 11, (.move (.tmp 0)), none⟩,
  ⟨some 12, (.call { callee := (.builtin .len), args := #[(.tmp 11)], argTypes := #[22] }), none⟩,
  ⟨some 13, (.move (.const (.int .i64 0))), none⟩]
def r31_4 : List SI := [⟨some 14, (.binOp .lss 3 (.tmp 13) (.tmp 12) 3), none⟩]
def r31_5 : List SI := [⟨some 15, (.move (.tmp 13)), none⟩,
  ⟨some 5, (.assign (.tmp 15)), none⟩]
def r31_6a : List SI := [⟨some 16, (.move (.tmp 0)), none⟩,
  ⟨some 17, (.move (.tmp 5)), none⟩,
  ⟨some 18, (.indexAddr 22 (.tmp 16) (.tmp 17)), none⟩,
  ⟨some 19, (.load 5 (.tmp 18)), none⟩,
  ⟨some 20, (.move (.tmp 1)), none⟩,
  ⟨some 21, (.move (.tmp 5)), none⟩,
  ⟨some 22, (.indexAddr 22 (.tmp 20) (.tmp 21)), none⟩,
  ⟨some 23, (.load 5 (.tmp 22)), none⟩]
def r31_6b : List SI := [⟨some 24, (.binOp .neq 5 (.tmp 19) (.tmp 23) 5), none⟩]
def r31_7 : List SI := [⟨some 4, (.assign (.const (.bool false))), none⟩]
def x31_7 : X := .ops r31_7 [4] .ret
def x31_6 : X := .ops r31_5 [5] (.front false r31_6a r31_6b [24] (.cond (.tmp 24) x31_7 .skip .skip))
def r31_8 : List SI := [⟨some 25, (.binOp .add 3 (.tmp 13) (.const (.int .i64 1)) 3), none⟩,
  ⟨some 13, (.move (.tmp 25)), none⟩]
def x31_8 : X := .trim [0, 1, 12, 13] (.ops r31_8 [13] .skip)
def x31_5 : X := .block 1 x31_6 x31_8
def x31_4 : X := .ops r31_4 [14] (.cond (.tmp 14) .skip (.exit 0) x31_5)
def x31_3 : X := .loop [0, 1, 12, 13] x31_4
def r31_9 : List SI := [⟨some 4, (.assign (.const (.bool true))), none⟩]
def x31_9 : X := .trim [] (.ops r31_9 [4] .ret)
def x31_2 : X := .ops r31_3 [12, 13] (.block 0 x31_3 x31_9)
def x31_0 : X := .ops r31_0 [] (.ops r31_1 [10] (.cond (.tmp 10) x31_1 .skip x31_2))
def n31 : Ann := .ops [] (.ops [10] (.cond (.ops [4] .stop) .stop (.ops [12, 13] (.block [] (.loop [0, 1, 12, 13] (.ops [14] (.cond .stop .stop (.block [0, 1, 12, 13] (.ops [5] (.ops [24] (.cond (.ops [4] .stop) .stop .stop))) (.trim [0, 1, 12, 13] (.ops [13] .stop)))))) (.trim [] (.ops [4] .stop))))))
theorem ok31 : annFn Tryd.f31 2 n31 = some x31_0 := by kernel_rfl
noncomputable def kF31 (K : V → H → Prop) : XQ := kFnX C.P Tryd.f31.results.toList K
theorem e31_nx {K : V → H → Prop} {e : E} {h : H} : kF31 K .nx e h = K (E.get e 4) h := nrfl (by kernel_rfl)
theorem e31_rt {K : V → H → Prop} {e : E} {h : H} : kF31 K .rt e h = K (E.get e 4) h := nrfl (by kernel_rfl)
theorem enter31 {lo : Nat} {h : H} {vs : List V} {K : V → H → Prop} (hl : vs.length = 2) (hw : XW C lo x31_0 (kF31 K) (args 0 vs) h) : CW C 31 vs lo h K := by
  refine CW_X hS rfl Tryd.func31 ok31 hl ?_ hw
  rw [Tryd.ntmps31]
  decide
theorem q31_1 {lo : Nat} {Q : XQ} {e : E} {h : H} : XW C lo x31_1 Q e h =
    Q .rt ((4, .bool false) :: e) h := nrfl (by kernel_rfl)
theorem q31_7 {lo : Nat} {Q : XQ} {e : E} {h : H} : XW C lo x31_7 Q e h =
    Q .rt ((4, .bool false) :: e) h := nrfl (by kernel_rfl)
theorem q31_6 {lo : Nat} {Q : XQ} {e : E} {h : H} : XW C lo x31_6 Q e h =
    bd (addrV Tryd.prog 22 (E.get e 0) (E.get e 13)) fun t1 =>
    bd (loadV Tryd.prog 5 t1 (H.read h)) fun t2 =>
    bd (addrV Tryd.prog 22 (E.get e 1) (E.get e 13)) fun t3 =>
    bd (loadV Tryd.prog 5 t3 (H.read h)) fun t4 =>
    bdB (binV Tryd.prog .neq 5 t2 t4) fun b5 =>
    byT b5 (XW C lo x31_7 (kX (XW C lo .skip Q) Q) ((24, .bool b5) :: (5, E.get e 13) :: e) h) (XW C lo .skip (kX (XW C lo .skip Q) Q) ((24, .bool b5) :: (5, E.get e 13) :: e) h) := nrfl (by kernel_rfl)
theorem q31_8 {lo : Nat} {Q : XQ} {e : E} {h : H} : XW C lo x31_8 Q e h =
    bd (binV Tryd.prog .add 3 (E.get e 13) (.int .i64 1)) fun t1 =>
    Q .nx [(13, t1), (0, E.get e 0), (1, E.get e 1), (12, E.get e 12), (13, E.get e 13)] h := nrfl (by kernel_rfl)
theorem q31_5 {lo : Nat} {Q : XQ} {e : E} {h : H} : XW C lo x31_5 Q e h =
    XW C lo x31_6 (kXB 1 (XW C lo x31_8 Q) Q) e h := nrfl (by kernel_rfl)
theorem q31_4 {lo : Nat} {Q : XQ} {e : E} {h : H} : XW C lo x31_4 Q e h =
    bdB (binV Tryd.prog .lss 3 (E.get e 13) (E.get e 12)) fun b1 =>
    byT b1 (XW C lo .skip (kX (XW C lo x31_5 Q) Q) ((14, .bool b1) :: e) h) (XW C lo (.exit 0) (kX (XW C lo x31_5 Q) Q) ((14, .bool b1) :: e) h) := nrfl (by kernel_rfl)
theorem q31_3 {lo : Nat} {Q : XQ} {e : E} {h : H} : XW C lo x31_3 Q e h =
    ∃ n, loopX [0, 1, 12, 13] (XW C lo x31_4) Q n e h := nrfl (by kernel_rfl)
theorem q31_9 {lo : Nat} {Q : XQ} {e : E} {h : H} : XW C lo x31_9 Q e h =
    Q .rt [(4, .bool true)] h := nrfl (by kernel_rfl)
theorem z31_2 {lo : Nat} {Q : XQ} {Z : E → H → Prop} {e : E} {h : H} : LX C lo r31_3 (fun e1 h1 => Z (outs [12, 13] e1 e) h1) e h =
    bd (lenV Tryd.prog [22] (E.get e 0)) fun t1 =>
    Z ((12, t1) :: (13, .int .i64 0) :: e) h := nrfl (by kernel_rfl)
theorem q31_2 {lo : Nat} {Q : XQ} {e : E} {h : H} : XW C lo x31_2 Q e h =
    bd (lenV Tryd.prog [22] (E.get e 0)) fun t1 =>
    XW C lo x31_3 (kXB 0 (XW C lo x31_9 Q) Q) ((12, t1) :: (13, .int .i64 0) :: e) h :=
  (opsblkCodeP (l := r31_3) (out := [12, 13]) (id := 0) (b := x31_3) (k := x31_9)).trans (z31_2 (Q := Q) (Z := fun e1 h1 => XW C lo x31_3 (kXB 0 (XW C lo x31_9 Q) Q) e1 h1))
theorem q31_0 {lo : Nat} {Q : XQ} {e : E} {h : H} : XW C lo x31_0 Q e h =
    bd (lenV Tryd.prog [22] (E.get e 0)) fun t1 =>
    bd (lenV Tryd.prog [22] (E.get e 1)) fun t2 =>
    bdB (binV Tryd.prog .neq 3 t1 t2) fun b3 =>
    byT b3 (XW C lo x31_1 (kX (XW C lo x31_2 Q) Q) ((10, .bool b3) :: e) h) (XW C lo .skip (kX (XW C lo x31_2 Q) Q) ((10, .bool b3) :: e) h) := nrfl (by kernel_rfl)

/-! ### chancery/proof.Sum -/
def r8_0 : List SI := [⟨some 2, (.alloc 24), none⟩]
def r8_1 : List SI := [⟨some 7, (.build 39 #[(0, (.const (.int .u32 1779033703))), (1, (.const (.int .u32 3144134277))), (2, (.const (.int .u32 1013904242))), (3, (.const (.int .u32 2773480762))), (4, (.const (.int .u32 1359893119))), (5, (.const (.int .u32 2600822924))), (6, (.const (.int .u32 528734635))), (7, (.const (.int .u32 1541459225)))]), none⟩,
  ⟨some 3, (.alloc 39), none⟩,
  ⟨none, (.store 39 (.tmp 3) (.tmp 7)), none⟩]
def r8_2 : List SI := [⟨some 8, (.move (.tmp 0)), none⟩,
  ⟨some 9, (.call { callee := (.value (.func 22)), args := #[(.tmp 8)], argTypes := #[22] }), none⟩,
  ⟨some 10, (.buildSlice 22 1 #[(0, (.const (.int .u8 128)))]), none⟩,
  ⟨some 11, (.call { callee := (.builtin .append), args := #[(.tmp 9), (.tmp 10)], argTypes := #[22, 22] }), none⟩,
  ⟨some 4, (.assign (.tmp 11)), none⟩]
def r8_3 : List SI := [⟨some 12, (.move (.tmp 4)), none⟩,
  ⟨some 13, (.call { callee := (.builtin .len), args := #[(.tmp 12)], argTypes := #[22] }), none⟩,
  ⟨some 14, (.binOp .rem 3 (.tmp 13) (.const (.int .i64 64)) 3), none⟩,
  ⟨some 15, (.binOp .neq 3 (.tmp 14) (.const (.int .i64 56)) 3), none⟩]
def r8_4 : List SI := [⟨some 16, (.move (.tmp 4)), none⟩,
  ⟨some 17, (.buildSlice 22 1 #[(0, (.const (.int .u8 0)))]), none⟩,
  ⟨some 18, (.call { callee := (.builtin .append), args := #[(.tmp 16), (.tmp 17)], argTypes := #[22, 22] }), none⟩,
  ⟨some 4, (.assign (.tmp 18)), none⟩]
def x8_4 : X := .ops r8_4 [4] .skip
def x8_5 : X := .trim [0, 2, 3, 4] .skip
def x8_3 : X := .block 1 x8_4 x8_5
def x8_2 : X := .ops r8_3 [15] (.cond (.tmp 15) .skip (.exit 0) x8_3)
def x8_1 : X := .loop [0, 2, 3, 4] x8_2
def r8_5 : List SI := [⟨some 19, (.move (.tmp 4)), none⟩,
  ⟨some 20, (.move (.tmp 0)), none⟩,
  ⟨some 21, (.call { callee := (.builtin .len), args := #[(.tmp 20)], argTypes := #[22] }), none⟩,
  ⟨some 22, (.convert 3 29 (.tmp 21)), none⟩,
  ⟨some 23, (.binOp .mul 29 (.const (.int .u64 8)) (.tmp 22) 29), none⟩,
  ⟨some 24, (.call { callee := (.value (.func 23)), args := #[(.tmp 19), (.tmp 23)], argTypes := #[22, 29] }), none⟩,
  ⟨some 4, (.assign (.tmp 24)), none⟩]
def r8_6 : List SI := [⟨some 25, (.move (.tmp 4)), none⟩,
  ⟨some 26, (.call { callee := (.builtin .len), args := #[(.tmp 25)], argTypes := #[22] }), none⟩,
  ⟨some 27, (.binOp .gtr 3 (.tmp 26) (.const (.int .i64 0)) 3), none⟩]
def r8_7a : List SI := [⟨some 28, (.load 39 (.tmp 3)), none⟩,
  ⟨some 29, (.move (.tmp 4)), none⟩,
  ⟨some 30, (.slice 22 (.tmp 29) none (some (.const (.int .i64 64))) none), none⟩]
def r8_7b : List SI := [⟨some 31, (.call { callee := (.value (.func 24)), args := #[(.tmp 28), (.tmp 30)], argTypes := #[39, 22] }), none⟩,
  ⟨none, (.store 39 (.tmp 3) (.tmp 31)), none⟩]
def r8_8 : List SI := [⟨some 32, (.move (.tmp 4)), none⟩,
  ⟨some 33, (.slice 22 (.tmp 32) (some (.const (.int .i64 64))) none none), none⟩,
  ⟨some 4, (.assign (.tmp 33)), none⟩]
def x8_10 : X := .front false r8_7a r8_7b [] (.ops r8_8 [4] .skip)
def x8_11 : X := .trim [2, 3, 4] .skip
def x8_9 : X := .block 3 x8_10 x8_11
def x8_8 : X := .ops r8_6 [27] (.cond (.tmp 27) .skip (.exit 2) x8_9)
def x8_7 : X := .loop [2, 3, 4] x8_8
def r8_9 : List SI := [⟨some 5, (.alloc 24), none⟩]
def r8_10 : List SI := [⟨some 34, (.move (.const (.int .i64 0))), none⟩]
def r8_11 : List SI := [⟨some 35, (.binOp .lss 3 (.tmp 34) (.const (.int .i64 32)) 3), none⟩]
def r8_12 : List SI := [⟨some 36, (.move (.tmp 34)), none⟩,
  ⟨some 6, (.assign (.tmp 36)), none⟩]
def r8_13 : List SI := [⟨some 37, (.move (.tmp 6)), none⟩,
  ⟨some 38, (.move (.tmp 6)), none⟩,
  ⟨some 39, (.binOp .quo 3 (.tmp 38) (.const (.int .i64 4)) 3), none⟩,
  ⟨some 40, (.indexAddr 39 (.tmp 3) (.tmp 39)), none⟩,
  ⟨some 41, (.load 38 (.tmp 40)), none⟩,
  ⟨some 42, (.move (.tmp 6)), none⟩,
  ⟨some 43, (.binOp .rem 3 (.tmp 42) (.const (.int .i64 4)) 3), none⟩,
  ⟨some 44, (.binOp .mul 3 (.const (.int .i64 8)) (.tmp 43) 3), none⟩,
  ⟨some 45, (.binOp .sub 3 (.const (.int .i64 24)) (.tmp 44) 3), none⟩,
  ⟨some 46, (.binOp .shr 38 (.tmp 41) (.tmp 45) 3), none⟩,
  ⟨some 47, (.convert 38 5 (.tmp 46)), none⟩,
  ⟨some 48, (.indexAddr 24 (.tmp 5) (.tmp 37)), none⟩,
  ⟨none, (.store 5 (.tmp 48) (.tmp 47)), none⟩]
def x8_16 : X := .ops r8_12 [6] (.ops r8_13 [] .skip)
def r8_14 : List SI := [⟨some 49, (.binOp .add 3 (.tmp 34) (.const (.int .i64 1)) 3), none⟩,
  ⟨some 34, (.move (.tmp 49)), none⟩]
def x8_17 : X := .trim [2, 3, 5, 34] (.ops r8_14 [34] .skip)
def x8_15 : X := .block 5 x8_16 x8_17
def x8_14 : X := .ops r8_11 [35] (.cond (.tmp 35) .skip (.exit 4) x8_15)
def x8_13 : X := .loop [2, 3, 5, 34] x8_14
def r8_15 : List SI := [⟨some 50, (.load 24 (.tmp 5)), none⟩,
  ⟨none, (.store 24 (.tmp 2) (.tmp 50)), none⟩]
def x8_18 : X := .trim [2, 5] (.ops r8_15 [] .ret)
def x8_12 : X := .trim [2, 3] (.ops r8_9 [5] (.ops r8_10 [34] (.block 4 x8_13 x8_18)))
def x8_6 : X := .trim [0, 2, 3, 4] (.ops r8_5 [4] (.block 2 x8_7 x8_12))
def x8_0 : X := .ops r8_0 [2] (.ops r8_1 [3] (.ops r8_2 [4] (.block 0 x8_1 x8_6)))
def n8 : Ann := .ops [2] (.ops [3] (.ops [4] (.block [0, 2, 3, 4] (.loop [0, 2, 3, 4] (.ops [15] (.cond .stop .stop (.block [0, 2, 3, 4] (.ops [4] .stop) (.trim [0, 2, 3, 4] .stop))))) (.trim [0, 2, 3, 4] (.ops [4] (.block [2, 3] (.loop [2, 3, 4] (.ops [27] (.cond .stop .stop (.block [2, 3, 4] (.ops [] (.ops [4] .stop)) (.trim [2, 3, 4] .stop))))) (.trim [2, 3] (.ops [5] (.ops [34] (.block [2, 5] (.loop [2, 3, 5, 34] (.ops [35] (.cond .stop .stop (.block [2, 3, 5, 34] (.ops [6] (.ops [] .stop)) (.trim [2, 3, 5, 34] (.ops [34] .stop)))))) (.trim [2, 5] (.ops [] .stop))))))))))))
theorem ok8 : annFn Tryd.f8 1 n8 = some x8_0 := by kernel_rfl
noncomputable def kF8 (K : V → H → Prop) : XQ := kFnX C.P Tryd.f8.results.toList K
theorem e8_nx {K : V → H → Prop} {e : E} {h : H} : kF8 K .nx e h = resX C.P Tryd.f8.results.toList e h K := nrfl (by kernel_rfl)
theorem e8_rt {K : V → H → Prop} {e : E} {h : H} : kF8 K .rt e h = resX C.P Tryd.f8.results.toList e h K := nrfl (by kernel_rfl)
theorem enter8 {lo : Nat} {h : H} {vs : List V} {K : V → H → Prop} (hl : vs.length = 1) (hw : XW C lo x8_0 (kF8 K) (args 0 vs) h) : CW C 8 vs lo h K := by
  refine CW_X hS rfl Tryd.func8 ok8 hl ?_ hw
  rw [Tryd.ntmps8]
  decide
theorem q8_4 {lo : Nat} {Q : XQ} {e : E} {h : H} : XW C lo x8_4 Q e h =
    bd (buildSliceV Tryd.prog 22 1 [(0, .int .u8 0)]) fun r1 => KX h (fun t2 h3 =>
    bd2 (appendV Tryd.prog lo [22, 22] (E.get e 4) t2 h3) fun t4 h5 =>
    Q .nx ((4, t4) :: e) h5) r1 := nrfl (by kernel_rfl)
theorem q8_5 {lo : Nat} {Q : XQ} {e : E} {h : H} : XW C lo x8_5 Q e h =
    Q .nx [(0, E.get e 0), (2, E.get e 2), (3, E.get e 3), (4, E.get e 4)] h := nrfl (by kernel_rfl)
theorem q8_3 {lo : Nat} {Q : XQ} {e : E} {h : H} : XW C lo x8_3 Q e h =
    XW C lo x8_4 (kXB 1 (XW C lo x8_5 Q) Q) e h := nrfl (by kernel_rfl)
theorem q8_2 {lo : Nat} {Q : XQ} {e : E} {h : H} : XW C lo x8_2 Q e h =
    bd (lenV Tryd.prog [22] (E.get e 4)) fun t1 =>
    bd (binV Tryd.prog .rem 3 t1 (.int .i64 64)) fun t2 =>
    bdB (binV Tryd.prog .neq 3 t2 (.int .i64 56)) fun b3 =>
    byT b3 (XW C lo .skip (kX (XW C lo x8_3 Q) Q) ((15, .bool b3) :: e) h) (XW C lo (.exit 0) (kX (XW C lo x8_3 Q) Q) ((15, .bool b3) :: e) h) := nrfl (by kernel_rfl)
theorem q8_1 {lo : Nat} {Q : XQ} {e : E} {h : H} : XW C lo x8_1 Q e h =
    ∃ n, loopX [0, 2, 3, 4] (XW C lo x8_2) Q n e h := nrfl (by kernel_rfl)
theorem q8_10 {lo : Nat} {Q : XQ} {e : E} {h : H} : XW C lo x8_10 Q e h =
    bd (loadV Tryd.prog 39 (E.get e 3) (H.read h)) fun t1 =>
    bd (sliceV Tryd.prog (H.read h) 22 (E.get e 4) none (some (.int .i64 64)) none) fun t2 =>
    CW C 24 [t1, t2] lo h fun t3 h4 =>
    bd (storeV Tryd.prog lo 39 (E.get e 3) t3 h4) fun h5 =>
    bd (sliceV Tryd.prog (H.read h5) 22 (E.get e 4) (some (.int .i64 64)) none none) fun t6 =>
    Q .nx ((4, t6) :: e) h5 := nrfl (by kernel_rfl)
theorem q8_11 {lo : Nat} {Q : XQ} {e : E} {h : H} : XW C lo x8_11 Q e h =
    Q .nx [(2, E.get e 2), (3, E.get e 3), (4, E.get e 4)] h := nrfl (by kernel_rfl)
theorem q8_9 {lo : Nat} {Q : XQ} {e : E} {h : H} : XW C lo x8_9 Q e h =
    XW C lo x8_10 (kXB 3 (XW C lo x8_11 Q) Q) e h := nrfl (by kernel_rfl)
theorem q8_8 {lo : Nat} {Q : XQ} {e : E} {h : H} : XW C lo x8_8 Q e h =
    bd (lenV Tryd.prog [22] (E.get e 4)) fun t1 =>
    bdB (binV Tryd.prog .gtr 3 t1 (.int .i64 0)) fun b2 =>
    byT b2 (XW C lo .skip (kX (XW C lo x8_9 Q) Q) ((27, .bool b2) :: e) h) (XW C lo (.exit 2) (kX (XW C lo x8_9 Q) Q) ((27, .bool b2) :: e) h) := nrfl (by kernel_rfl)
theorem q8_7 {lo : Nat} {Q : XQ} {e : E} {h : H} : XW C lo x8_7 Q e h =
    ∃ n, loopX [2, 3, 4] (XW C lo x8_8) Q n e h := nrfl (by kernel_rfl)
theorem q8_16 {lo : Nat} {Q : XQ} {e : E} {h : H} : XW C lo x8_16 Q e h =
    bd (binV Tryd.prog .quo 3 (E.get e 34) (.int .i64 4)) fun t1 =>
    bd (addrV Tryd.prog 39 (E.get e 3) t1) fun t2 =>
    bd (loadV Tryd.prog 38 t2 (H.read h)) fun t3 =>
    bd (binV Tryd.prog .rem 3 (E.get e 34) (.int .i64 4)) fun t4 =>
    bd (binV Tryd.prog .mul 3 (.int .i64 8) t4) fun t5 =>
    bd (binV Tryd.prog .sub 3 (.int .i64 24) t5) fun t6 =>
    bd (binV Tryd.prog .shr 38 t3 t6) fun t7 =>
    bd (convV Tryd.prog (H.read h) 38 5 t7) fun r8 => KX h (fun t9 h10 =>
    bd (addrV Tryd.prog 24 (E.get e 5) (E.get e 34)) fun t11 =>
    bd (storeV Tryd.prog lo 5 t11 t9 h10) fun h12 =>
    Q .nx ((6, E.get e 34) :: e) h12) r8 := nrfl (by kernel_rfl)
theorem q8_17 {lo : Nat} {Q : XQ} {e : E} {h : H} : XW C lo x8_17 Q e h =
    bd (binV Tryd.prog .add 3 (E.get e 34) (.int .i64 1)) fun t1 =>
    Q .nx [(34, t1), (2, E.get e 2), (3, E.get e 3), (5, E.get e 5), (34, E.get e 34)] h := nrfl (by kernel_rfl)
theorem q8_15 {lo : Nat} {Q : XQ} {e : E} {h : H} : XW C lo x8_15 Q e h =
    XW C lo x8_16 (kXB 5 (XW C lo x8_17 Q) Q) e h := nrfl (by kernel_rfl)
theorem q8_14 {lo : Nat} {Q : XQ} {e : E} {h : H} : XW C lo x8_14 Q e h =
    bdB (binV Tryd.prog .lss 3 (E.get e 34) (.int .i64 32)) fun b1 =>
    byT b1 (XW C lo .skip (kX (XW C lo x8_15 Q) Q) ((35, .bool b1) :: e) h) (XW C lo (.exit 4) (kX (XW C lo x8_15 Q) Q) ((35, .bool b1) :: e) h) := nrfl (by kernel_rfl)
theorem q8_13 {lo : Nat} {Q : XQ} {e : E} {h : H} : XW C lo x8_13 Q e h =
    ∃ n, loopX [2, 3, 5, 34] (XW C lo x8_14) Q n e h := nrfl (by kernel_rfl)
theorem q8_18 {lo : Nat} {Q : XQ} {e : E} {h : H} : XW C lo x8_18 Q e h =
    bd (loadV Tryd.prog 24 (E.get e 5) (H.read h)) fun t1 =>
    bd (storeV Tryd.prog lo 24 (E.get e 2) t1 h) fun h2 =>
    Q .rt [(2, E.get e 2), (5, E.get e 5)] h2 := nrfl (by kernel_rfl)
theorem q8_12 {lo : Nat} {Q : XQ} {e : E} {h : H} : XW C lo x8_12 Q e h =
    bd (zero? Tryd.prog 24) fun z1 =>
    XW C lo x8_13 (kXB 4 (XW C lo x8_18 Q) Q) [(34, .int .i64 0), (5, .ptr (H.next h) 0), (2, E.get e 2), (3, E.get e 3)] (H.alloc h (V.cells z1)) := nrfl (by kernel_rfl)
theorem z8_6 {lo : Nat} {Q : XQ} {Z : E → H → Prop} {e : E} {h : H} : LX C lo r8_5 (fun e1 h1 => Z (outs [4] e1 (only [0, 2, 3, 4] e)) h1) (only [0, 2, 3, 4] e) h =
    bd (lenV Tryd.prog [22] (E.get e 0)) fun t1 =>
    bd (convV Tryd.prog (H.read h) 3 29 t1) fun r2 => KX h (fun t3 h4 =>
    bd (binV Tryd.prog .mul 29 (.int .u64 8) t3) fun t5 =>
    CW C 23 [E.get e 4, t5] lo h4 fun t6 h7 =>
    Z [(4, t6), (0, E.get e 0), (2, E.get e 2), (3, E.get e 3), (4, E.get e 4)] h7) r2 := nrfl (by kernel_rfl)
theorem q8_6 {lo : Nat} {Q : XQ} {e : E} {h : H} : XW C lo x8_6 Q e h =
    bd (lenV Tryd.prog [22] (E.get e 0)) fun t1 =>
    bd (convV Tryd.prog (H.read h) 3 29 t1) fun r2 => KX h (fun t3 h4 =>
    bd (binV Tryd.prog .mul 29 (.int .u64 8) t3) fun t5 =>
    CW C 23 [E.get e 4, t5] lo h4 fun t6 h7 =>
    XW C lo x8_7 (kXB 2 (XW C lo x8_12 Q) Q) [(4, t6), (0, E.get e 0), (2, E.get e 2), (3, E.get e 3), (4, E.get e 4)] h7) r2 :=
  (opsblkCodePT (L := [0, 2, 3, 4]) (l := r8_5) (out := [4]) (id := 2) (b := x8_7) (k := x8_12)).trans (z8_6 (Q := Q) (Z := fun e1 h1 => XW C lo x8_7 (kXB 2 (XW C lo x8_12 Q) Q) e1 h1))
theorem q8_0 {lo : Nat} {Q : XQ} {e : E} {h : H} : XW C lo x8_0 Q e h =
    bd (zero? Tryd.prog 24) fun z1 =>
    bd (buildV Tryd.prog 39 [(0, .int .u32 1779033703), (1, .int .u32 3144134277), (2, .int .u32 1013904242), (3, .int .u32 2773480762), (4, .int .u32 1359893119), (5, .int .u32 2600822924), (6, .int .u32 528734635), (7, .int .u32 1541459225)]) fun t2 =>
    bd (zero? Tryd.prog 39) fun z3 =>
    bd (storeV Tryd.prog lo 39 (.ptr (H.next (H.alloc h (V.cells z1))) 0) t2 (H.alloc (H.alloc h (V.cells z1)) (V.cells z3))) fun h4 =>
    CW C 22 [E.get e 0] lo h4 fun t5 h6 =>
    bd (buildSliceV Tryd.prog 22 1 [(0, .int .u8 128)]) fun r7 => KX h6 (fun t8 h9 =>
    bd2 (appendV Tryd.prog lo [22, 22] t5 t8 h9) fun t10 h11 =>
    XW C lo x8_1 (kXB 0 (XW C lo x8_6 Q) Q) ((4, t10) :: (3, .ptr (H.next (H.alloc h (V.cells z1))) 0) :: (2, .ptr (H.next h) 0) :: e) h11) r7 := nrfl (by kernel_rfl)

end Go.Proofs.YtghmbmblhdgabaaDoor.Code
