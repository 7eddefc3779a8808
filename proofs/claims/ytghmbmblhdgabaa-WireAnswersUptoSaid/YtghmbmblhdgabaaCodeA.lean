/- The code of functions, with short environments; what each part comes to. -/
import Derived.Test.YtghmbmblhdgabaaShort
import Derived.Test.YtghmbmblhdgabaaProg
import Derived.KernelRfl
import Derived.Test.YtghmbmblhdgabaaCodeX
set_option linter.all false
namespace Go.Proofs.Ytghmbmblhdgabaa.Code
open Go Go.Den
set_option maxRecDepth 100000
theorem opsblkCodeA {lo : Nat} {Q : XQ} {e : E} {h : H} {l : List SI} {out : List Nat} {id : Nat} {b k : X} : XW C lo (.ops l out (.block id b k)) Q e h = LX C lo l (fun e1 h1 => XW C lo b (kXB id (XW C lo k Q) Q) (outs out e1 e) h1) e h := propext Iff.rfl
theorem opsblkCodeAT {lo : Nat} {Q : XQ} {e : E} {h : H} {l : List SI} {out : List Nat} {id : Nat} {b k : X} {L : List Nat} : XW C lo (.trim L (.ops l out (.block id b k))) Q e h = LX C lo l (fun e1 h1 => XW C lo b (kXB id (XW C lo k Q) Q) (outs out e1 (only L e)) h1) (only L e) h := propext Iff.rfl
theorem opsblkCodeAF {lo : Nat} {Q : XQ} {e : E} {h : H} {l : List SI} {out : List Nat} {id : Nat} {b k : X} {r : List SI} {st : Bool} : XW C lo (.front st l r out (.block id b k)) Q e h = FX C lo (H.next h) st l (LX C lo r (fun e1 h1 => XW C lo b (kXB id (XW C lo k Q) Q) (outs out e1 e) h1)) e h := propext Iff.rfl
theorem opsblkCodeAFT {lo : Nat} {Q : XQ} {e : E} {h : H} {l : List SI} {out : List Nat} {id : Nat} {b k : X} {r : List SI} {st : Bool} {L : List Nat} : XW C lo (.trim L (.front st l r out (.block id b k))) Q e h = FX C lo (H.next h) st l (LX C lo r (fun e1 h1 => XW C lo b (kXB id (XW C lo k Q) Q) (outs out e1 (only L e)) h1)) (only L e) h := propext Iff.rfl
theorem opsblkCodeAN {lo : Nat} {Q : XQ} {e : E} {h : H} {l : List SI} {out : List Nat} {k : X} : XW C lo (.ops l out k) Q e h = LX C lo l (fun e1 h1 => XW C lo k Q (outs out e1 e) h1) e h := propext Iff.rfl
theorem opsblkCodeANT {lo : Nat} {Q : XQ} {e : E} {h : H} {l : List SI} {out : List Nat} {k : X} {L : List Nat} : XW C lo (.trim L (.ops l out k)) Q e h = LX C lo l (fun e1 h1 => XW C lo k Q (outs out e1 (only L e)) h1) (only L e) h := propext Iff.rfl
theorem opsblkCodeANF {lo : Nat} {Q : XQ} {e : E} {h : H} {l : List SI} {out : List Nat} {k : X} {r : List SI} {st : Bool} : XW C lo (.front st l r out k) Q e h = FX C lo (H.next h) st l (LX C lo r (fun e1 h1 => XW C lo k Q (outs out e1 e) h1)) e h := propext Iff.rfl
theorem opsblkCodeANFT {lo : Nat} {Q : XQ} {e : E} {h : H} {l : List SI} {out : List Nat} {k : X} {r : List SI} {st : Bool} {L : List Nat} : XW C lo (.trim L (.front st l r out k)) Q e h = FX C lo (H.next h) st l (LX C lo r (fun e1 h1 => XW C lo k Q (outs out e1 (only L e)) h1)) (only L e) h := propext Iff.rfl
/-! ### chancery/chancerylaw29.WireAnswers -/
def r9_0 : List SI := [⟨some 3, (.box 75 (.tmp 0)), none⟩,
  ⟨some 6, (.assign (.const (.bool false))), none⟩]
def r9_1 : List SI := [⟨some 27, (.load 75 (.tmp 3)), none⟩,
  ⟨some 28, (.call { callee := (.value (.func 35)), args := #[(.tmp 27)], argTypes := #[75] }), none⟩,
  ⟨some 26, (.move (.tmp 28)), none⟩,
  ⟨some 29, (.extract (.tmp 26) 0), none⟩,
  ⟨some 30, (.extract (.tmp 26) 1), none⟩,
  ⟨some 7, (.assign (.tmp 29)), none⟩,
  ⟨some 8, (.assign (.tmp 30)), none⟩]
def r9_2 : List SI := [⟨some 32, (.load 75 (.tmp 3)), none⟩,
  ⟨some 33, (.call { callee := (.value (.func 36)), args := #[(.tmp 32)], argTypes := #[75] }), none⟩,
  ⟨some 31, (.move (.tmp 33)), none⟩,
  ⟨some 34, (.extract (.tmp 31) 0), none⟩,
  ⟨some 35, (.extract (.tmp 31) 1), none⟩,
  ⟨some 9, (.assign (.tmp 34)), none⟩,
  ⟨some 10, (.assign (.tmp 35)), none⟩]
def r9_3 : List SI := [⟨some 37, (.move (.tmp 1)), none⟩,
  ⟨some 38, (.call { callee := (.value (.func 37)), args := #[(.tmp 37)], argTypes := #[26] }), none⟩,
  ⟨some 36, (.move (.tmp 38)), none⟩,
  ⟨some 39, (.extract (.tmp 36) 0), none⟩,
  ⟨some 40, (.extract (.tmp 36) 1), none⟩,
  ⟨some 11, (.alloc 75), none⟩,
  ⟨none, (.store 75 (.tmp 11) (.tmp 39)), none⟩,
  ⟨some 12, (.assign (.tmp 40)), none⟩]
def r9_4 : List SI := [⟨some 42, (.move (.tmp 1)), none⟩,
  ⟨some 43, (.call { callee := (.value (.func 38)), args := #[(.tmp 42)], argTypes := #[26] }), none⟩,
  ⟨some 41, (.move (.tmp 43)), none⟩,
  ⟨some 44, (.extract (.tmp 41) 0), none⟩,
  ⟨some 45, (.extract (.tmp 41) 1), none⟩,
  ⟨some 13, (.alloc 75), none⟩,
  ⟨none, (.store 75 (.tmp 13) (.tmp 44)), none⟩,
  ⟨some 14, (.assign (.tmp 45)), none⟩]
def r9_5 : List SI := [⟨some 46, (.move (.tmp 8)), none⟩,
  ⟨some 47, (.move (.tmp 10)), none⟩,
  ⟨some 48, (.binOp .neq 27 (.tmp 46) (.tmp 47) 27), none⟩,
  ⟨some 49, (.move (.tmp 48)), none⟩,
  ⟨some 50, (.move (.tmp 12)), some (some 49, false)⟩,
  ⟨some 51, (.move (.tmp 14)), some (some 49, false)⟩,
  ⟨some 52, (.binOp .neq 27 (.tmp 50) (.tmp 51) 27), some (some 49, false)⟩,
  ⟨some 53, (.pick (.tmp 49) (.const (.bool true)) (.tmp 52)), none⟩,
  ⟨some 54, (.move (.tmp 53)), none⟩,
  ⟨some 55, (.move (.tmp 7)), some (some 54, false)⟩,
  ⟨some 56, (.move (.tmp 9)), some (some 54, false)⟩,
  ⟨some 57, (.call { callee := (.value (.func 16)), args := #[(.tmp 55), (.tmp 56)], argTypes := #[26, 26] }), some (some 54, false)⟩,
  ⟨some 58, (.unOp .not 4 (.tmp 57)), some (some 54, false)⟩,
  ⟨some 59, (.pick (.tmp 54) (.const (.bool true)) (.tmp 58)), none⟩,
  ⟨some 60, (.move (.tmp 59)), none⟩,
  ⟨some 61, (.load 75 (.tmp 11)), some (some 60, false)⟩,
  ⟨some 62, (.load 75 (.tmp 13)), some (some 60, false)⟩,
  ⟨some 63, (.call { callee := (.value (.func 39)), args := #[(.tmp 61), (.tmp 62)], argTypes := #[75, 75] }), some (some 60, false)⟩,
  ⟨some 64, (.unOp .not 4 (.tmp 63)), some (some 60, false)⟩,
  ⟨some 65, (.pick (.tmp 60) (.const (.bool true)) (.tmp 64)), none⟩]
def r9_6 : List SI := [⟨some 6, (.assign (.const (.bool false))), none⟩]
def x9_2 : X := .ops r9_6 [6] .ret
def r9_7 : List SI := [⟨some 15, (.assign (.const (.int .i64 0))), none⟩]
def r9_8 : List SI := [⟨some 66, (.move (.tmp 15)), none⟩,
  ⟨some 67, (.move (.tmp 1)), none⟩,
  ⟨some 68, (.call { callee := (.builtin .len), args := #[(.tmp 67)], argTypes := #[26] }), none⟩,
  ⟨some 69, (.binOp .lss 3 (.tmp 66) (.tmp 68) 3), none⟩]
def r9_10 : List SI := [⟨some 73, (.move (.tmp 1)), none⟩,
  ⟨some 74, (.move (.tmp 15)), none⟩,
  ⟨some 75, (.indexAddr 26 (.tmp 73) (.tmp 74)), none⟩,
  ⟨some 76, (.load 42 (.tmp 75)), none⟩,
  ⟨some 77, (.call { callee := (.value (.func 40)), args := #[(.tmp 76)], argTypes := #[42] }), none⟩,
  ⟨some 72, (.move (.tmp 77)), none⟩,
  ⟨some 78, (.extract (.tmp 72) 0), none⟩,
  ⟨some 79, (.extract (.tmp 72) 1), none⟩,
  ⟨some 16, (.assign (.tmp 78)), none⟩,
  ⟨some 17, (.assign (.tmp 79)), none⟩]
def r9_11 : List SI := [⟨some 81, (.move (.tmp 1)), none⟩,
  ⟨some 82, (.move (.tmp 15)), none⟩,
  ⟨some 83, (.indexAddr 26 (.tmp 81) (.tmp 82)), none⟩,
  ⟨some 84, (.load 42 (.tmp 83)), none⟩,
  ⟨some 85, (.call { callee := (.value (.func 41)), args := #[(.tmp 84)], argTypes := #[42] }), none⟩,
  ⟨some 80, (.move (.tmp 85)), none⟩,
  ⟨some 86, (.extract (.tmp 80) 0), none⟩,
  ⟨some 87, (.extract (.tmp 80) 1), none⟩,
  ⟨some 18, (.assign (.tmp 86)), none⟩,
  ⟨some 19, (.assign (.tmp 87)), none⟩]
def r9_12 : List SI := [⟨some 89, (.move (.tmp 1)), none⟩,
  ⟨some 90, (.move (.tmp 15)), none⟩,
  ⟨some 91, (.indexAddr 26 (.tmp 89) (.tmp 90)), none⟩,
  ⟨some 92, (.load 42 (.tmp 91)), none⟩,
  ⟨some 93, (.call { callee := (.value (.func 42)), args := #[(.tmp 92)], argTypes := #[42] }), none⟩,
  ⟨some 88, (.move (.tmp 93)), none⟩,
  ⟨some 94, (.extract (.tmp 88) 0), none⟩,
  ⟨some 95, (.extract (.tmp 88) 1), none⟩,
  ⟨some 20, (.assign (.tmp 94)), none⟩,
  ⟨some 21, (.assign (.tmp 95)), none⟩]
def r9_13 : List SI := [⟨some 96, (.move (.tmp 1)), none⟩,
  ⟨some 97, (.move (.tmp 15)), none⟩,
  ⟨some 98, (.indexAddr 26 (.tmp 96) (.tmp 97)), none⟩,
  ⟨some 99, (.fieldAddr 42 (.tmp 98) 0), none⟩,
  ⟨some 100, (.load 40 (.tmp 99)), none⟩,
  ⟨some 101, (.binOp .eql 40 (.tmp 100) (.const (.int .u8 8)) 40), none⟩,
  ⟨some 102, (.move (.tmp 101)), none⟩,
  ⟨some 103, (.move (.tmp 1)), some (some 102, true)⟩,
  ⟨some 104, (.move (.tmp 15)), some (some 102, true)⟩,
  ⟨some 105, (.indexAddr 26 (.tmp 103) (.tmp 104)), some (some 102, true)⟩,
  ⟨some 106, (.fieldAddr 42 (.tmp 105) 1), some (some 102, true)⟩,
  ⟨some 107, (.load 22 (.tmp 106)), some (some 102, true)⟩,
  ⟨some 108, (.call { callee := (.builtin .len), args := #[(.tmp 107)], argTypes := #[22] }), some (some 102, true)⟩,
  ⟨some 109, (.binOp .eql 3 (.tmp 108) (.const (.int .i64 2)) 3), some (some 102, true)⟩,
  ⟨some 110, (.pick (.tmp 102) (.tmp 109) (.const (.bool false))), none⟩,
  ⟨some 22, (.assign (.tmp 110)), none⟩]
def r9_14 : List SI := [⟨some 23, (.assign (.const (.int .i64 0))), none⟩]
def r9_15 : List SI := [⟨some 111, (.move (.tmp 22)), none⟩]
def r9_16a : List SI := [⟨some 112, (.move (.tmp 1)), none⟩,
  ⟨some 113, (.move (.tmp 15)), none⟩,
  ⟨some 114, (.indexAddr 26 (.tmp 112) (.tmp 113)), none⟩,
  ⟨some 115, (.fieldAddr 42 (.tmp 114) 1), none⟩,
  ⟨some 116, (.load 22 (.tmp 115)), none⟩,
  ⟨some 117, (.indexAddr 22 (.tmp 116) (.const (.int .i64 0))), none⟩,
  ⟨some 118, (.load 5 (.tmp 117)), none⟩,
  ⟨some 119, (.convert 5 3 (.tmp 118)), none⟩,
  ⟨some 120, (.binOp .mul 3 (.tmp 119) (.const (.int .i64 256)) 3), none⟩,
  ⟨some 121, (.move (.tmp 1)), none⟩,
  ⟨some 122, (.move (.tmp 15)), none⟩,
  ⟨some 123, (.indexAddr 26 (.tmp 121) (.tmp 122)), none⟩,
  ⟨some 124, (.fieldAddr 42 (.tmp 123) 1), none⟩,
  ⟨some 125, (.load 22 (.tmp 124)), none⟩,
  ⟨some 126, (.indexAddr 22 (.tmp 125) (.const (.int .i64 1))), none⟩,
  ⟨some 127, (.load 5 (.tmp 126)), none⟩,
  ⟨some 128, (.convert 5 3 (.tmp 127)), none⟩]
def r9_16b : List SI := [⟨some 129, (.binOp .add 3 (.tmp 120) (.tmp 128) 3), none⟩,
  ⟨some 23, (.assign (.tmp 129)), none⟩]
def x9_12 : X := .front false r9_16a r9_16b [23] .skip
def r9_17 : List SI := [⟨some 130, (.move (.tmp 17)), none⟩,
  ⟨some 131, (.move (.tmp 19)), none⟩,
  ⟨some 132, (.binOp .neq 27 (.tmp 130) (.tmp 131) 27), none⟩,
  ⟨some 133, (.move (.tmp 132)), none⟩,
  ⟨some 134, (.move (.tmp 16)), some (some 133, false)⟩,
  ⟨some 135, (.move (.tmp 18)), some (some 133, false)⟩,
  ⟨some 136, (.call { callee := (.value (.func 27)), args := #[(.tmp 134), (.tmp 135)], argTypes := #[22, 22] }), some (some 133, false)⟩,
  ⟨some 137, (.unOp .not 4 (.tmp 136)), some (some 133, false)⟩,
  ⟨some 138, (.pick (.tmp 133) (.const (.bool true)) (.tmp 137)), none⟩,
  ⟨some 139, (.move (.tmp 138)), none⟩,
  ⟨some 140, (.move (.tmp 21)), some (some 139, false)⟩,
  ⟨some 141, (.move (.tmp 22)), some (some 139, false)⟩,
  ⟨some 142, (.binOp .neq 4 (.tmp 140) (.tmp 141) 4), some (some 139, false)⟩,
  ⟨some 143, (.pick (.tmp 139) (.const (.bool true)) (.tmp 142)), none⟩,
  ⟨some 144, (.move (.tmp 143)), none⟩,
  ⟨some 145, (.move (.tmp 20)), some (some 144, false)⟩,
  ⟨some 146, (.move (.tmp 23)), some (some 144, false)⟩,
  ⟨some 147, (.binOp .neq 27 (.tmp 145) (.tmp 146) 27), some (some 144, false)⟩,
  ⟨some 148, (.pick (.tmp 144) (.const (.bool true)) (.tmp 147)), none⟩]
def r9_18 : List SI := [⟨some 6, (.assign (.const (.bool false))), none⟩]
def x9_15 : X := .ops r9_18 [6] .ret
def x9_14 : X := .cond (.tmp 148) x9_15 .skip .skip
def x9_13 : X := .trim [1, 2, 15, 16, 17, 18, 19, 20, 21, 22, 23] (.ops r9_17 [148] x9_14)
def x9_11 : X := .ops r9_14 [23] (.ops r9_15 [111] (.cond (.tmp 111) x9_12 .skip x9_13))
def x9_10 : X := .ops r9_13 [22] x9_11
def x9_9 : X := .ops r9_12 [20, 21] x9_10
def x9_8 : X := .ops r9_11 [18, 19] x9_9
def x9_7 : X := .ops r9_10 [16, 17] x9_8
def r9_9 : List SI := [⟨some 70, (.move (.tmp 15)), none⟩,
  ⟨some 71, (.binOp .add 3 (.tmp 70) (.const (.int .i64 1)) 3), none⟩,
  ⟨some 15, (.assign (.tmp 71)), none⟩]
def x9_16 : X := .trim [1, 2, 15] (.ops r9_9 [15] .skip)
def x9_6 : X := .block 1 x9_7 x9_16
def x9_5 : X := .ops r9_8 [69] (.cond (.tmp 69) .skip (.exit 0) x9_6)
def x9_4 : X := .loop [1, 2, 15] x9_5
def r9_19 : List SI := [⟨some 150, (.move (.tmp 2)), none⟩,
  ⟨some 151, (.call { callee := (.value (.func 43)), args := #[(.tmp 150)], argTypes := #[27] }), none⟩,
  ⟨some 152, (.call { callee := (.value (.func 42)), args := #[(.tmp 151)], argTypes := #[42] }), none⟩,
  ⟨some 149, (.move (.tmp 152)), none⟩,
  ⟨some 153, (.extract (.tmp 149) 0), none⟩,
  ⟨some 154, (.extract (.tmp 149) 1), none⟩,
  ⟨some 24, (.assign (.tmp 153)), none⟩,
  ⟨some 25, (.assign (.tmp 154)), none⟩]
def r9_20 : List SI := [⟨some 155, (.move (.tmp 25)), none⟩,
  ⟨some 156, (.move (.tmp 155)), none⟩,
  ⟨some 157, (.move (.tmp 24)), some (some 156, true)⟩,
  ⟨some 158, (.convert 27 84 (.tmp 157)), some (some 156, true)⟩,
  ⟨some 159, (.move (.tmp 2)), some (some 156, true)⟩,
  ⟨some 160, (.convert 27 84 (.tmp 159)), some (some 156, true)⟩,
  ⟨some 161, (.binOp .eql 84 (.tmp 158) (.tmp 160) 84), some (some 156, true)⟩,
  ⟨some 162, (.pick (.tmp 156) (.tmp 161) (.const (.bool false))), none⟩,
  ⟨some 163, (.move (.tmp 162)), none⟩,
  ⟨some 164, (.move (.tmp 24)), some (some 163, true)⟩,
  ⟨some 165, (.binOp .geq 27 (.tmp 164) (.const (.int .i64 0)) 27), some (some 163, true)⟩,
  ⟨some 166, (.pick (.tmp 163) (.tmp 165) (.const (.bool false))), none⟩,
  ⟨some 167, (.move (.tmp 166)), none⟩,
  ⟨some 168, (.move (.tmp 24)), some (some 167, true)⟩,
  ⟨some 169, (.binOp .lss 27 (.tmp 168) (.const (.int .i64 65536)) 27), some (some 167, true)⟩,
  ⟨some 170, (.pick (.tmp 167) (.tmp 169) (.const (.bool false))), none⟩,
  ⟨some 171, (.move (.tmp 170)), none⟩,
  ⟨some 172, (.call { callee := (.value (.func 15)), args := #[], argTypes := #[] }), some (some 171, true)⟩,
  ⟨some 173, (.pick (.tmp 171) (.tmp 172) (.const (.bool false))), none⟩,
  ⟨some 6, (.assign (.tmp 173)), none⟩]
def x9_17 : X := .trim [2] (.ops r9_19 [24, 25] (.ops r9_20 [6] .ret))
def x9_3 : X := .ops r9_7 [15] (.block 0 x9_4 x9_17)
def x9_1 : X := .cond (.tmp 65) x9_2 .skip x9_3
def x9_0 : X := .ops r9_0 [3] (.ops r9_1 [7, 8] (.ops r9_2 [9, 10] (.ops r9_3 [11, 12] (.ops r9_4 [13, 14] (.ops r9_5 [65] x9_1)))))
def n9 : Ann := .ops [3] (.ops [7, 8] (.ops [9, 10] (.ops [11, 12] (.ops [13, 14] (.ops [65] (.cond (.ops [6] .stop) .stop (.ops [15] (.block [2] (.loop [1, 2, 15] (.ops [69] (.cond .stop .stop (.block [1, 2, 15] (.ops [16, 17] (.ops [18, 19] (.ops [20, 21] (.ops [22] (.ops [23] (.ops [111] (.cond (.ops [23] .stop) .stop (.trim [1, 2, 15, 16, 17, 18, 19, 20, 21, 22, 23] (.ops [148] (.cond (.ops [6] .stop) .stop .stop)))))))))) (.trim [1, 2, 15] (.ops [15] .stop)))))) (.trim [2] (.ops [24, 25] (.ops [6] .stop)))))))))))
theorem ok9 : annFn Try.f9 3 n9 = some x9_0 := by kernel_rfl
noncomputable def kF9 (K : V → H → Prop) : XQ := kFnX C.P Try.f9.results.toList K
theorem e9_nx {K : V → H → Prop} {e : E} {h : H} : kF9 K .nx e h = K (E.get e 6) h := nrfl (by kernel_rfl)
theorem e9_rt {K : V → H → Prop} {e : E} {h : H} : kF9 K .rt e h = K (E.get e 6) h := nrfl (by kernel_rfl)
theorem enter9 {lo : Nat} {h : H} {vs : List V} {K : V → H → Prop} (hl : vs.length = 3) (hw : XW C lo x9_0 (kF9 K) (args 0 vs) h) : CW C 9 vs lo h K := by
  refine CW_X hS rfl Try.func9 ok9 hl ?_ hw
  rw [Try.ntmps9]
  decide
theorem q9_2 {lo : Nat} {Q : XQ} {e : E} {h : H} : XW C lo x9_2 Q e h =
    Q .rt ((6, .bool false) :: e) h := nrfl (by kernel_rfl)
theorem q9_12 {lo : Nat} {Q : XQ} {e : E} {h : H} : XW C lo x9_12 Q e h =
    bd (addrV Try.prog 26 (E.get e 1) (E.get e 15)) fun t1 =>
    bd (fieldAddrV Try.prog 42 t1 1) fun t2 =>
    bd (loadV Try.prog 22 t2 (H.read h)) fun t3 =>
    bd (addrV Try.prog 22 t3 (.int .i64 0)) fun t4 =>
    bd (loadV Try.prog 5 t4 (H.read h)) fun t5 =>
    bd (convV Try.prog (H.read h) 5 3 t5) fun r6 => KX h (fun t7 h8 =>
    bd (binV Try.prog .mul 3 t7 (.int .i64 256)) fun t9 =>
    bd (addrV Try.prog 26 (E.get e 1) (E.get e 15)) fun t10 =>
    bd (fieldAddrV Try.prog 42 t10 1) fun t11 =>
    bd (loadV Try.prog 22 t11 (H.read h8)) fun t12 =>
    bd (addrV Try.prog 22 t12 (.int .i64 1)) fun t13 =>
    bd (loadV Try.prog 5 t13 (H.read h8)) fun t14 =>
    bd (convV Try.prog (H.read h8) 5 3 t14) fun r15 => KX h8 (fun t16 h17 =>
    bd (binV Try.prog .add 3 t9 t16) fun t18 =>
    Q .nx ((23, t18) :: e) h17) r15) r6 := nrfl (by kernel_rfl)
theorem q9_15 {lo : Nat} {Q : XQ} {e : E} {h : H} : XW C lo x9_15 Q e h =
    Q .rt ((6, .bool false) :: e) h := nrfl (by kernel_rfl)
theorem q9_14 {lo : Nat} {Q : XQ} {e : E} {h : H} : XW C lo x9_14 Q e h =
    byV (E.get e 148) (XW C lo x9_15 (kX (XW C lo .skip Q) Q) e h) (XW C lo .skip (kX (XW C lo .skip Q) Q) e h) False := nrfl (by kernel_rfl)
theorem q9_13 {lo : Nat} {Q : XQ} {e : E} {h : H} : XW C lo x9_13 Q e h =
    bdB (binV Try.prog .neq 27 (E.get e 17) (E.get e 19)) fun b1 =>
    byT b1 (XW C lo x9_15 (kX (XW C lo .skip Q) Q) [(148, .bool true), (1, E.get e 1), (2, E.get e 2), (15, E.get e 15), (16, E.get e 16), (17, E.get e 17), (18, E.get e 18), (19, E.get e 19), (20, E.get e 20), (21, E.get e 21), (22, E.get e 22), (23, E.get e 23)] h) (CW C 27 [E.get e 16, E.get e 18] lo h fun t2 h3 =>
    bd (unV .not t2) fun t4 =>
    byV t4 (XW C lo x9_15 (kX (XW C lo .skip Q) Q) [(148, .bool true), (1, E.get e 1), (2, E.get e 2), (15, E.get e 15), (16, E.get e 16), (17, E.get e 17), (18, E.get e 18), (19, E.get e 19), (20, E.get e 20), (21, E.get e 21), (22, E.get e 22), (23, E.get e 23)] h3) (bdB (binV Try.prog .neq 4 (E.get e 21) (E.get e 22)) fun b5 =>
    byT b5 (XW C lo x9_15 (kX (XW C lo .skip Q) Q) [(148, .bool true), (1, E.get e 1), (2, E.get e 2), (15, E.get e 15), (16, E.get e 16), (17, E.get e 17), (18, E.get e 18), (19, E.get e 19), (20, E.get e 20), (21, E.get e 21), (22, E.get e 22), (23, E.get e 23)] h3) (bdB (binV Try.prog .neq 27 (E.get e 20) (E.get e 23)) fun b6 =>
    byT b6 (XW C lo x9_15 (kX (XW C lo .skip Q) Q) [(148, .bool b6), (1, E.get e 1), (2, E.get e 2), (15, E.get e 15), (16, E.get e 16), (17, E.get e 17), (18, E.get e 18), (19, E.get e 19), (20, E.get e 20), (21, E.get e 21), (22, E.get e 22), (23, E.get e 23)] h3) (XW C lo .skip (kX (XW C lo .skip Q) Q) [(148, .bool b6), (1, E.get e 1), (2, E.get e 2), (15, E.get e 15), (16, E.get e 16), (17, E.get e 17), (18, E.get e 18), (19, E.get e 19), (20, E.get e 20), (21, E.get e 21), (22, E.get e 22), (23, E.get e 23)] h3))) (False)) := nrfl (by kernel_rfl)
theorem q9_11 {lo : Nat} {Q : XQ} {e : E} {h : H} : XW C lo x9_11 Q e h =
    byV (E.get e 22) (XW C lo x9_12 (kX (XW C lo x9_13 Q) Q) ((111, E.get e 22) :: (23, .int .i64 0) :: e) h) (XW C lo .skip (kX (XW C lo x9_13 Q) Q) ((111, E.get e 22) :: (23, .int .i64 0) :: e) h) False := nrfl (by kernel_rfl)
theorem z9_10 {lo : Nat} {Z : E → H → Prop} {e : E} {h : H} : LX C lo r9_13 (fun e1 h1 => Z (outs [22] e1 e) h1) e h =
    bd (addrV Try.prog 26 (E.get e 1) (E.get e 15)) fun t1 =>
    bd (fieldAddrV Try.prog 42 t1 0) fun t2 =>
    bd (loadV Try.prog 40 t2 (H.read h)) fun t3 =>
    bdB (binV Try.prog .eql 40 t3 (.int .u8 8)) fun b4 =>
    byT b4 (bd (addrV Try.prog 26 (E.get e 1) (E.get e 15)) fun t5 =>
    bd (fieldAddrV Try.prog 42 t5 1) fun t6 =>
    bd (loadV Try.prog 22 t6 (H.read h)) fun t7 =>
    bd (lenV Try.prog [22] t7) fun t8 =>
    bdB (binV Try.prog .eql 3 t8 (.int .i64 2)) fun b9 =>
    Z ((22, .bool b9) :: e) h) (Z ((22, .bool false) :: e) h) := nrfl (by kernel_rfl)
theorem q9_10 {lo : Nat} {Q : XQ} {e : E} {h : H} : XW C lo x9_10 Q e h =
    bd (addrV Try.prog 26 (E.get e 1) (E.get e 15)) fun t1 =>
    bd (fieldAddrV Try.prog 42 t1 0) fun t2 =>
    bd (loadV Try.prog 40 t2 (H.read h)) fun t3 =>
    bdB (binV Try.prog .eql 40 t3 (.int .u8 8)) fun b4 =>
    byT b4 (bd (addrV Try.prog 26 (E.get e 1) (E.get e 15)) fun t5 =>
    bd (fieldAddrV Try.prog 42 t5 1) fun t6 =>
    bd (loadV Try.prog 22 t6 (H.read h)) fun t7 =>
    bd (lenV Try.prog [22] t7) fun t8 =>
    bdB (binV Try.prog .eql 3 t8 (.int .i64 2)) fun b9 =>
    XW C lo x9_11 Q ((22, .bool b9) :: e) h) (XW C lo x9_11 Q ((22, .bool false) :: e) h) :=
  (opsblkCodeAN (l := r9_13) (out := [22]) (k := x9_11)).trans (z9_10 (Z := fun e1 h1 => XW C lo x9_11 Q e1 h1))
theorem z9_9 {lo : Nat} {Z : E → H → Prop} {e : E} {h : H} : LX C lo r9_12 (fun e1 h1 => Z (outs [20, 21] e1 e) h1) e h =
    bd (addrV Try.prog 26 (E.get e 1) (E.get e 15)) fun t1 =>
    bd (loadV Try.prog 42 t1 (H.read h)) fun t2 =>
    CW C 42 [t2] lo h fun t3 h4 =>
    tupX t3 fun l5 => bd (l5[0]?) fun t6 =>
    tupX t3 fun l7 => bd (l7[1]?) fun t8 =>
    Z ((20, t6) :: (21, t8) :: e) h4 := nrfl (by kernel_rfl)
theorem q9_9 {lo : Nat} {Q : XQ} {e : E} {h : H} : XW C lo x9_9 Q e h =
    bd (addrV Try.prog 26 (E.get e 1) (E.get e 15)) fun t1 =>
    bd (loadV Try.prog 42 t1 (H.read h)) fun t2 =>
    CW C 42 [t2] lo h fun t3 h4 =>
    tupX t3 fun l5 => bd (l5[0]?) fun t6 =>
    tupX t3 fun l7 => bd (l7[1]?) fun t8 =>
    XW C lo x9_10 Q ((20, t6) :: (21, t8) :: e) h4 :=
  (opsblkCodeAN (l := r9_12) (out := [20, 21]) (k := x9_10)).trans (z9_9 (Z := fun e1 h1 => XW C lo x9_10 Q e1 h1))
theorem z9_8 {lo : Nat} {Z : E → H → Prop} {e : E} {h : H} : LX C lo r9_11 (fun e1 h1 => Z (outs [18, 19] e1 e) h1) e h =
    bd (addrV Try.prog 26 (E.get e 1) (E.get e 15)) fun t1 =>
    bd (loadV Try.prog 42 t1 (H.read h)) fun t2 =>
    CW C 41 [t2] lo h fun t3 h4 =>
    tupX t3 fun l5 => bd (l5[0]?) fun t6 =>
    tupX t3 fun l7 => bd (l7[1]?) fun t8 =>
    Z ((18, t6) :: (19, t8) :: e) h4 := nrfl (by kernel_rfl)
theorem q9_8 {lo : Nat} {Q : XQ} {e : E} {h : H} : XW C lo x9_8 Q e h =
    bd (addrV Try.prog 26 (E.get e 1) (E.get e 15)) fun t1 =>
    bd (loadV Try.prog 42 t1 (H.read h)) fun t2 =>
    CW C 41 [t2] lo h fun t3 h4 =>
    tupX t3 fun l5 => bd (l5[0]?) fun t6 =>
    tupX t3 fun l7 => bd (l7[1]?) fun t8 =>
    XW C lo x9_9 Q ((18, t6) :: (19, t8) :: e) h4 :=
  (opsblkCodeAN (l := r9_11) (out := [18, 19]) (k := x9_9)).trans (z9_8 (Z := fun e1 h1 => XW C lo x9_9 Q e1 h1))
theorem z9_7 {lo : Nat} {Z : E → H → Prop} {e : E} {h : H} : LX C lo r9_10 (fun e1 h1 => Z (outs [16, 17] e1 e) h1) e h =
    bd (addrV Try.prog 26 (E.get e 1) (E.get e 15)) fun t1 =>
    bd (loadV Try.prog 42 t1 (H.read h)) fun t2 =>
    CW C 40 [t2] lo h fun t3 h4 =>
    tupX t3 fun l5 => bd (l5[0]?) fun t6 =>
    tupX t3 fun l7 => bd (l7[1]?) fun t8 =>
    Z ((16, t6) :: (17, t8) :: e) h4 := nrfl (by kernel_rfl)
theorem q9_7 {lo : Nat} {Q : XQ} {e : E} {h : H} : XW C lo x9_7 Q e h =
    bd (addrV Try.prog 26 (E.get e 1) (E.get e 15)) fun t1 =>
    bd (loadV Try.prog 42 t1 (H.read h)) fun t2 =>
    CW C 40 [t2] lo h fun t3 h4 =>
    tupX t3 fun l5 => bd (l5[0]?) fun t6 =>
    tupX t3 fun l7 => bd (l7[1]?) fun t8 =>
    XW C lo x9_8 Q ((16, t6) :: (17, t8) :: e) h4 :=
  (opsblkCodeAN (l := r9_10) (out := [16, 17]) (k := x9_8)).trans (z9_7 (Z := fun e1 h1 => XW C lo x9_8 Q e1 h1))
theorem q9_16 {lo : Nat} {Q : XQ} {e : E} {h : H} : XW C lo x9_16 Q e h =
    bd (binV Try.prog .add 3 (E.get e 15) (.int .i64 1)) fun t1 =>
    Q .nx [(15, t1), (1, E.get e 1), (2, E.get e 2), (15, E.get e 15)] h := nrfl (by kernel_rfl)
theorem q9_6 {lo : Nat} {Q : XQ} {e : E} {h : H} : XW C lo x9_6 Q e h =
    XW C lo x9_7 (kXB 1 (XW C lo x9_16 Q) Q) e h := nrfl (by kernel_rfl)
theorem q9_5 {lo : Nat} {Q : XQ} {e : E} {h : H} : XW C lo x9_5 Q e h =
    bd (lenV Try.prog [26] (E.get e 1)) fun t1 =>
    bdB (binV Try.prog .lss 3 (E.get e 15) t1) fun b2 =>
    byT b2 (XW C lo .skip (kX (XW C lo x9_6 Q) Q) ((69, .bool b2) :: e) h) (XW C lo (.exit 0) (kX (XW C lo x9_6 Q) Q) ((69, .bool b2) :: e) h) := nrfl (by kernel_rfl)
theorem q9_4 {lo : Nat} {Q : XQ} {e : E} {h : H} : XW C lo x9_4 Q e h =
    ∃ n, loopX [1, 2, 15] (XW C lo x9_5) Q n e h := nrfl (by kernel_rfl)
theorem q9_17 {lo : Nat} {Q : XQ} {e : E} {h : H} : XW C lo x9_17 Q e h =
    CW C 43 [E.get e 2] lo h fun t1 h2 =>
    CW C 42 [t1] lo h2 fun t3 h4 =>
    tupX t3 fun l5 => bd (l5[0]?) fun t6 =>
    tupX t3 fun l7 => bd (l7[1]?) fun t8 =>
    byV t8 (bd (convV Try.prog (H.read h4) 27 84 t6) fun r9 => KX h4 (fun t10 h11 =>
    bd (convV Try.prog (H.read h11) 27 84 (E.get e 2)) fun r12 => KX h11 (fun t13 h14 =>
    bdB (binV Try.prog .eql 84 t10 t13) fun b15 =>
    byT b15 (bdB (binV Try.prog .geq 27 t6 (.int .i64 0)) fun b16 =>
    byT b16 (bdB (binV Try.prog .lss 27 t6 (.int .i64 65536)) fun b17 =>
    byT b17 (CW C 15 [] lo h14 fun t18 h19 =>
    Q .rt [(6, t18), (24, t6), (25, t8), (2, E.get e 2)] h19) (Q .rt [(6, .bool false), (24, t6), (25, t8), (2, E.get e 2)] h14)) (Q .rt [(6, .bool false), (24, t6), (25, t8), (2, E.get e 2)] h14)) (Q .rt [(6, .bool false), (24, t6), (25, t8), (2, E.get e 2)] h14)) r12) r9) (Q .rt [(6, .bool false), (24, t6), (25, t8), (2, E.get e 2)] h4) (False) := nrfl (by kernel_rfl)
theorem z9_3 {lo : Nat} {Q : XQ} {Z : E → H → Prop} {e : E} {h : H} : LX C lo r9_7 (fun e1 h1 => Z (outs [15] e1 e) h1) e h =
    Z ((15, .int .i64 0) :: e) h := nrfl (by kernel_rfl)
theorem q9_3 {lo : Nat} {Q : XQ} {e : E} {h : H} : XW C lo x9_3 Q e h =
    XW C lo x9_4 (kXB 0 (XW C lo x9_17 Q) Q) ((15, .int .i64 0) :: e) h :=
  (opsblkCodeA (l := r9_7) (out := [15]) (id := 0) (b := x9_4) (k := x9_17)).trans (z9_3 (Q := Q) (Z := fun e1 h1 => XW C lo x9_4 (kXB 0 (XW C lo x9_17 Q) Q) e1 h1))
theorem q9_1 {lo : Nat} {Q : XQ} {e : E} {h : H} : XW C lo x9_1 Q e h =
    byV (E.get e 65) (XW C lo x9_2 (kX (XW C lo x9_3 Q) Q) e h) (XW C lo .skip (kX (XW C lo x9_3 Q) Q) e h) False := nrfl (by kernel_rfl)
theorem q9_0 {lo : Nat} {Q : XQ} {e : E} {h : H} : XW C lo x9_0 Q e h =
    bd (loadV Try.prog 75 (.ptr (H.next h) 0) (H.read (H.alloc h (V.cells (E.get e 0))))) fun t1 =>
    CW C 35 [t1] lo (H.alloc h (V.cells (E.get e 0))) fun t2 h3 =>
    tupX t2 fun l4 => bd (l4[0]?) fun t5 =>
    tupX t2 fun l6 => bd (l6[1]?) fun t7 =>
    bd (loadV Try.prog 75 (.ptr (H.next h) 0) (H.read h3)) fun t8 =>
    CW C 36 [t8] lo h3 fun t9 h10 =>
    tupX t9 fun l11 => bd (l11[0]?) fun t12 =>
    tupX t9 fun l13 => bd (l13[1]?) fun t14 =>
    CW C 37 [E.get e 1] lo h10 fun t15 h16 =>
    tupX t15 fun l17 => bd (l17[0]?) fun t18 =>
    tupX t15 fun l19 => bd (l19[1]?) fun t20 =>
    bd (zero? Try.prog 75) fun z21 =>
    bd (storeV Try.prog lo 75 (.ptr (H.next h16) 0) t18 (H.alloc h16 (V.cells z21))) fun h22 =>
    CW C 38 [E.get e 1] lo h22 fun t23 h24 =>
    tupX t23 fun l25 => bd (l25[0]?) fun t26 =>
    tupX t23 fun l27 => bd (l27[1]?) fun t28 =>
    bd (zero? Try.prog 75) fun z29 =>
    bd (storeV Try.prog lo 75 (.ptr (H.next h24) 0) t26 (H.alloc h24 (V.cells z29))) fun h30 =>
    bdB (binV Try.prog .neq 27 t7 t14) fun b31 =>
    byT b31 (XW C lo x9_2 (kX (XW C lo x9_3 Q) Q) ((65, .bool true) :: (13, .ptr (H.next h24) 0) :: (14, t28) :: (11, .ptr (H.next h16) 0) :: (12, t20) :: (9, t12) :: (10, t14) :: (7, t5) :: (8, t7) :: (3, .ptr (H.next h) 0) :: e) h30) (bdB (binV Try.prog .neq 27 t20 t28) fun b32 =>
    byT b32 (XW C lo x9_2 (kX (XW C lo x9_3 Q) Q) ((65, .bool true) :: (13, .ptr (H.next h24) 0) :: (14, t28) :: (11, .ptr (H.next h16) 0) :: (12, t20) :: (9, t12) :: (10, t14) :: (7, t5) :: (8, t7) :: (3, .ptr (H.next h) 0) :: e) h30) (CW C 16 [t5, t12] lo h30 fun t33 h34 =>
    bd (unV .not t33) fun t35 =>
    byV t35 (XW C lo x9_2 (kX (XW C lo x9_3 Q) Q) ((65, .bool true) :: (13, .ptr (H.next h24) 0) :: (14, t28) :: (11, .ptr (H.next h16) 0) :: (12, t20) :: (9, t12) :: (10, t14) :: (7, t5) :: (8, t7) :: (3, .ptr (H.next h) 0) :: e) h34) (bd (loadV Try.prog 75 (.ptr (H.next h16) 0) (H.read h34)) fun t36 =>
    bd (loadV Try.prog 75 (.ptr (H.next h24) 0) (H.read h34)) fun t37 =>
    CW C 39 [t36, t37] lo h34 fun t38 h39 =>
    bd (unV .not t38) fun t40 =>
    byV t40 (XW C lo x9_2 (kX (XW C lo x9_3 Q) Q) ((65, t40) :: (13, .ptr (H.next h24) 0) :: (14, t28) :: (11, .ptr (H.next h16) 0) :: (12, t20) :: (9, t12) :: (10, t14) :: (7, t5) :: (8, t7) :: (3, .ptr (H.next h) 0) :: e) h39) (XW C lo .skip (kX (XW C lo x9_3 Q) Q) ((65, t40) :: (13, .ptr (H.next h24) 0) :: (14, t28) :: (11, .ptr (H.next h16) 0) :: (12, t20) :: (9, t12) :: (10, t14) :: (7, t5) :: (8, t7) :: (3, .ptr (H.next h) 0) :: e) h39) False) (False))) := nrfl (by kernel_rfl)

/-! ### chancery/chanceryref29.Put -/
def r41_0 : List SI := [⟨some 1, (.box 42 (.tmp 0)), none⟩,
  ⟨some 2, (.assign (.const (.slice none 0 0))), none⟩,
  ⟨some 3, (.assign (.const (.int .i64 0))), none⟩]
def r41_1 : List SI := [⟨some 5, (.fieldAddr 42 (.tmp 1) 0), none⟩,
  ⟨some 6, (.load 40 (.tmp 5)), none⟩,
  ⟨some 7, (.call { callee := (.value (.func 48)), args := #[(.tmp 6)], argTypes := #[40] }), none⟩,
  ⟨some 8, (.unOp .not 4 (.tmp 7)), none⟩]
def r41_2 : List SI := [⟨some 2, (.assign (.const (.slice none 0 0))), none⟩,
  ⟨some 3, (.assign (.const (.int .i64 2))), none⟩]
def x41_1 : X := .ops r41_2 [2, 3] .ret
def r41_3 : List SI := [⟨some 9, (.fieldAddr 42 (.tmp 1) 1), none⟩,
  ⟨some 10, (.load 22 (.tmp 9)), none⟩,
  ⟨some 11, (.call { callee := (.builtin .len), args := #[(.tmp 10)], argTypes := #[22] }), none⟩,
  ⟨some 12, (.binOp .gtr 3 (.tmp 11) (.const (.int .i64 8191)) 3), none⟩]
def r41_4 : List SI := [⟨some 2, (.assign (.const (.slice none 0 0))), none⟩,
  ⟨some 3, (.assign (.const (.int .i64 3))), none⟩]
def x41_3 : X := .ops r41_4 [2, 3] .ret
def r41_5a : List SI := [⟨some 13, (.fieldAddr 42 (.tmp 1) 1), none⟩,
  ⟨some 14, (.load 22 (.tmp 13)), none⟩,
  ⟨some 15, (.call { callee := (.builtin .len), args := #[(.tmp 14)], argTypes := #[22] }), none⟩,
  ⟨some 16, (.binOp .add 3 (.tmp 15) (.const (.int .i64 1)) 3), none⟩,
  ⟨some 17, (.call { callee := (.value (.func 65)), args := #[(.tmp 16)], argTypes := #[3] }), none⟩,
  ⟨some 18, (.fieldAddr 42 (.tmp 1) 0), none⟩,
  ⟨some 19, (.load 40 (.tmp 18)), none⟩,
  ⟨some 20, (.buildSlice 22 1 #[(0, (.tmp 19))]), none⟩]
def r41_5b : List SI := [⟨some 21, (.call { callee := (.builtin .append), args := #[(.tmp 17), (.tmp 20)], argTypes := #[22, 22] }), none⟩,
  ⟨some 4, (.assign (.tmp 21)), none⟩]
def r41_6 : List SI := [⟨some 22, (.move (.tmp 4)), none⟩,
  ⟨some 23, (.fieldAddr 42 (.tmp 1) 1), none⟩,
  ⟨some 24, (.load 22 (.tmp 23)), none⟩,
  ⟨some 25, (.call { callee := (.builtin .append), args := #[(.tmp 22), (.tmp 24)], argTypes := #[22, 22] }), none⟩,
  ⟨some 2, (.assign (.tmp 25)), none⟩,
  ⟨some 3, (.assign (.const (.int .i64 0))), none⟩]
def x41_4 : X := .front false r41_5a r41_5b [4] (.ops r41_6 [2, 3] .ret)
def x41_2 : X := .ops r41_3 [12] (.cond (.tmp 12) x41_3 .skip x41_4)
def x41_0 : X := .ops r41_0 [1] (.ops r41_1 [8] (.cond (.tmp 8) x41_1 .skip x41_2))
def n41 : Ann := .ops [1] (.ops [8] (.cond (.ops [2, 3] .stop) .stop (.ops [12] (.cond (.ops [2, 3] .stop) .stop (.ops [4] (.ops [2, 3] .stop))))))
theorem ok41 : annFn Try.f41 1 n41 = some x41_0 := by kernel_rfl
noncomputable def kF41 (K : V → H → Prop) : XQ := kFnX C.P Try.f41.results.toList K
theorem e41_nx {K : V → H → Prop} {e : E} {h : H} : kF41 K .nx e h = K (.tup [E.get e 2, E.get e 3]) h := nrfl (by kernel_rfl)
theorem e41_rt {K : V → H → Prop} {e : E} {h : H} : kF41 K .rt e h = K (.tup [E.get e 2, E.get e 3]) h := nrfl (by kernel_rfl)
theorem enter41 {lo : Nat} {h : H} {vs : List V} {K : V → H → Prop} (hl : vs.length = 1) (hw : XW C lo x41_0 (kF41 K) (args 0 vs) h) : CW C 41 vs lo h K := by
  refine CW_X hS rfl Try.func41 ok41 hl ?_ hw
  rw [Try.ntmps41]
  decide
theorem q41_1 {lo : Nat} {Q : XQ} {e : E} {h : H} : XW C lo x41_1 Q e h =
    Q .rt ((2, .nils) :: (3, .int .i64 2) :: e) h := nrfl (by kernel_rfl)
theorem q41_3 {lo : Nat} {Q : XQ} {e : E} {h : H} : XW C lo x41_3 Q e h =
    Q .rt ((2, .nils) :: (3, .int .i64 3) :: e) h := nrfl (by kernel_rfl)
theorem q41_4 {lo : Nat} {Q : XQ} {e : E} {h : H} : XW C lo x41_4 Q e h =
    bd (fieldAddrV Try.prog 42 (E.get e 1) 1) fun t1 =>
    bd (loadV Try.prog 22 t1 (H.read h)) fun t2 =>
    bd (lenV Try.prog [22] t2) fun t3 =>
    bd (binV Try.prog .add 3 t3 (.int .i64 1)) fun t4 =>
    CW C 65 [t4] (H.next h) h fun t5 h6 =>
    bd (fieldAddrV Try.prog 42 (E.get e 1) 0) fun t7 =>
    bd (loadV Try.prog 40 t7 (H.read h6)) fun t8 =>
    bd (buildSliceV Try.prog 22 1 [(0, t8)]) fun r9 => KX h6 (fun t10 h11 =>
    bd2 (appendV Try.prog lo [22, 22] t5 t10 h11) fun t12 h13 =>
    bd (fieldAddrV Try.prog 42 (E.get e 1) 1) fun t14 =>
    bd (loadV Try.prog 22 t14 (H.read h13)) fun t15 =>
    bd2 (appendV Try.prog lo [22, 22] t12 t15 h13) fun t16 h17 =>
    Q .rt ((2, t16) :: (3, .int .i64 0) :: (4, t12) :: e) h17) r9 := nrfl (by kernel_rfl)
theorem q41_2 {lo : Nat} {Q : XQ} {e : E} {h : H} : XW C lo x41_2 Q e h =
    bd (fieldAddrV Try.prog 42 (E.get e 1) 1) fun t1 =>
    bd (loadV Try.prog 22 t1 (H.read h)) fun t2 =>
    bd (lenV Try.prog [22] t2) fun t3 =>
    bdB (binV Try.prog .gtr 3 t3 (.int .i64 8191)) fun b4 =>
    byT b4 (XW C lo x41_3 (kX (XW C lo x41_4 Q) Q) ((12, .bool b4) :: e) h) (XW C lo .skip (kX (XW C lo x41_4 Q) Q) ((12, .bool b4) :: e) h) := nrfl (by kernel_rfl)
theorem q41_0 {lo : Nat} {Q : XQ} {e : E} {h : H} : XW C lo x41_0 Q e h =
    bd (fieldAddrV Try.prog 42 (.ptr (H.next h) 0) 0) fun t1 =>
    bd (loadV Try.prog 40 t1 (H.read (H.alloc h (V.cells (E.get e 0))))) fun t2 =>
    CW C 48 [t2] lo (H.alloc h (V.cells (E.get e 0))) fun t3 h4 =>
    bd (unV .not t3) fun t5 =>
    byV t5 (XW C lo x41_1 (kX (XW C lo x41_2 Q) Q) ((8, t5) :: (1, .ptr (H.next h) 0) :: e) h4) (XW C lo .skip (kX (XW C lo x41_2 Q) Q) ((8, t5) :: (1, .ptr (H.next h) 0) :: e) h4) False := nrfl (by kernel_rfl)

/-! ### chancery/wire.Errno -/
def r42_0 : List SI := [⟨some 1, (.box 42 (.tmp 0)), none⟩,
  ⟨some 2, (.assign (.const (.int .i64 0))), none⟩,
  ⟨some 3, (.assign (.const (.bool false))), none⟩]
def r42_1 : List SI := [⟨some 4, (.fieldAddr 42 (.tmp 1) 0), none⟩,
  ⟨some 5, (.load 40 (.tmp 4)), none⟩,
  ⟨some 6, (.binOp .neq 40 (.tmp 5) (.const (.int .u8 8)) 40), none⟩,
  ⟨some 7, (.move (.tmp 6)), none⟩,
  ⟨some 8, (.fieldAddr 42 (.tmp 1) 1), some (some 7, false)⟩,
  ⟨some 9, (.load 22 (.tmp 8)), some (some 7, false)⟩,
  ⟨some 10, (.call { callee := (.builtin .len), args := #[(.tmp 9)], argTypes := #[22] }), some (some 7, false)⟩,
  ⟨some 11, (.binOp .neq 3 (.tmp 10) (.const (.int .i64 2)) 3), some (some 7, false)⟩,
  ⟨some 12, (.pick (.tmp 7) (.const (.bool true)) (.tmp 11)), none⟩]
def r42_2 : List SI := [⟨some 2, (.assign (.const (.int .i64 0))), none⟩,
  ⟨some 3, (.assign (.const (.bool false))), none⟩]
def x42_2 : X := .ops r42_2 [2, 3] .ret
def r42_3a : List SI := [⟨some 13, (.fieldAddr 42 (.tmp 1) 1), none⟩,
  ⟨some 14, (.load 22 (.tmp 13)), none⟩,
  ⟨some 15, (.indexAddr 22 (.tmp 14) (.const (.int .i64 0))), none⟩,
  ⟨some 16, (.load 5 (.tmp 15)), none⟩,
  ⟨some 17, (.convert 5 27 (.tmp 16)), none⟩,
  ⟨some 18, (.binOp .shl 27 (.tmp 17) (.const (.int .u64 8)) 95), none⟩,
  ⟨some 19, (.fieldAddr 42 (.tmp 1) 1), none⟩,
  ⟨some 20, (.load 22 (.tmp 19)), none⟩,
  ⟨some 21, (.indexAddr 22 (.tmp 20) (.const (.int .i64 1))), none⟩,
  ⟨some 22, (.load 5 (.tmp 21)), none⟩,
  ⟨some 23, (.convert 5 27 (.tmp 22)), none⟩]
def r42_3b : List SI := [⟨some 24, (.binOp .or 27 (.tmp 18) (.tmp 23) 27), none⟩,
  ⟨some 2, (.assign (.tmp 24)), none⟩,
  ⟨some 3, (.assign (.const (.bool true))), none⟩]
def x42_3 : X := .front false r42_3a r42_3b [2, 3] .ret
def x42_1 : X := .cond (.tmp 12) x42_2 .skip x42_3
def x42_0 : X := .ops r42_0 [1] (.ops r42_1 [12] x42_1)
def n42 : Ann := .ops [1] (.ops [12] (.cond (.ops [2, 3] .stop) .stop (.ops [2, 3] .stop)))
theorem ok42 : annFn Try.f42 1 n42 = some x42_0 := by kernel_rfl
noncomputable def kF42 (K : V → H → Prop) : XQ := kFnX C.P Try.f42.results.toList K
theorem e42_nx {K : V → H → Prop} {e : E} {h : H} : kF42 K .nx e h = K (.tup [E.get e 2, E.get e 3]) h := nrfl (by kernel_rfl)
theorem e42_rt {K : V → H → Prop} {e : E} {h : H} : kF42 K .rt e h = K (.tup [E.get e 2, E.get e 3]) h := nrfl (by kernel_rfl)
theorem enter42 {lo : Nat} {h : H} {vs : List V} {K : V → H → Prop} (hl : vs.length = 1) (hw : XW C lo x42_0 (kF42 K) (args 0 vs) h) : CW C 42 vs lo h K := by
  refine CW_X hS rfl Try.func42 ok42 hl ?_ hw
  rw [Try.ntmps42]
  decide
theorem q42_2 {lo : Nat} {Q : XQ} {e : E} {h : H} : XW C lo x42_2 Q e h =
    Q .rt ((2, .int .i64 0) :: (3, .bool false) :: e) h := nrfl (by kernel_rfl)
theorem q42_3 {lo : Nat} {Q : XQ} {e : E} {h : H} : XW C lo x42_3 Q e h =
    bd (fieldAddrV Try.prog 42 (E.get e 1) 1) fun t1 =>
    bd (loadV Try.prog 22 t1 (H.read h)) fun t2 =>
    bd (addrV Try.prog 22 t2 (.int .i64 0)) fun t3 =>
    bd (loadV Try.prog 5 t3 (H.read h)) fun t4 =>
    bd (convV Try.prog (H.read h) 5 27 t4) fun r5 => KX h (fun t6 h7 =>
    bd (binV Try.prog .shl 27 t6 (.int .u64 8)) fun t8 =>
    bd (fieldAddrV Try.prog 42 (E.get e 1) 1) fun t9 =>
    bd (loadV Try.prog 22 t9 (H.read h7)) fun t10 =>
    bd (addrV Try.prog 22 t10 (.int .i64 1)) fun t11 =>
    bd (loadV Try.prog 5 t11 (H.read h7)) fun t12 =>
    bd (convV Try.prog (H.read h7) 5 27 t12) fun r13 => KX h7 (fun t14 h15 =>
    bd (binV Try.prog .or 27 t8 t14) fun t16 =>
    Q .rt ((2, t16) :: (3, .bool true) :: e) h15) r13) r5 := nrfl (by kernel_rfl)
theorem q42_1 {lo : Nat} {Q : XQ} {e : E} {h : H} : XW C lo x42_1 Q e h =
    byV (E.get e 12) (XW C lo x42_2 (kX (XW C lo x42_3 Q) Q) e h) (XW C lo .skip (kX (XW C lo x42_3 Q) Q) e h) False := nrfl (by kernel_rfl)
theorem q42_0 {lo : Nat} {Q : XQ} {e : E} {h : H} : XW C lo x42_0 Q e h =
    bd (fieldAddrV Try.prog 42 (.ptr (H.next h) 0) 0) fun t1 =>
    bd (loadV Try.prog 40 t1 (H.read (H.alloc h (V.cells (E.get e 0))))) fun t2 =>
    bdB (binV Try.prog .neq 40 t2 (.int .u8 8)) fun b3 =>
    byT b3 (XW C lo x42_2 (kX (XW C lo x42_3 Q) Q) ((12, .bool true) :: (1, .ptr (H.next h) 0) :: e) (H.alloc h (V.cells (E.get e 0)))) (bd (fieldAddrV Try.prog 42 (.ptr (H.next h) 0) 1) fun t4 =>
    bd (loadV Try.prog 22 t4 (H.read (H.alloc h (V.cells (E.get e 0))))) fun t5 =>
    bd (lenV Try.prog [22] t5) fun t6 =>
    bdB (binV Try.prog .neq 3 t6 (.int .i64 2)) fun b7 =>
    byT b7 (XW C lo x42_2 (kX (XW C lo x42_3 Q) Q) ((12, .bool b7) :: (1, .ptr (H.next h) 0) :: e) (H.alloc h (V.cells (E.get e 0)))) (XW C lo .skip (kX (XW C lo x42_3 Q) Q) ((12, .bool b7) :: (1, .ptr (H.next h) 0) :: e) (H.alloc h (V.cells (E.get e 0))))) := nrfl (by kernel_rfl)

/-! ### chancery/wire.Error -/
def r43_0 : List SI := [⟨some 2, (.alloc 42), none⟩]
def r43_1 : List SI := [⟨some 3, (.move (.tmp 0)), none⟩,
  ⟨some 4, (.binOp .shr 27 (.tmp 3) (.const (.int .u64 8)) 95), none⟩,
  ⟨some 5, (.convert 27 5 (.tmp 4)), none⟩,
  ⟨some 6, (.move (.tmp 0)), none⟩,
  ⟨some 7, (.convert 27 5 (.tmp 6)), none⟩,
  ⟨some 8, (.buildSlice 22 2 #[(0, (.tmp 5)), (1, (.tmp 7))]), none⟩,
  ⟨some 9, (.build 42 #[(0, (.const (.int .u8 8))), (1, (.tmp 8))]), none⟩,
  ⟨none, (.store 42 (.tmp 2) (.tmp 9)), none⟩]
def x43_0 : X := .ops r43_0 [2] (.ops r43_1 [] .ret)
def n43 : Ann := .ops [2] (.ops [] .stop)
theorem ok43 : annFn Try.f43 1 n43 = some x43_0 := by kernel_rfl
noncomputable def kF43 (K : V → H → Prop) : XQ := kFnX C.P Try.f43.results.toList K
theorem e43_nx {K : V → H → Prop} {e : E} {h : H} : kF43 K .nx e h = resX C.P Try.f43.results.toList e h K := nrfl (by kernel_rfl)
theorem e43_rt {K : V → H → Prop} {e : E} {h : H} : kF43 K .rt e h = resX C.P Try.f43.results.toList e h K := nrfl (by kernel_rfl)
theorem enter43 {lo : Nat} {h : H} {vs : List V} {K : V → H → Prop} (hl : vs.length = 1) (hw : XW C lo x43_0 (kF43 K) (args 0 vs) h) : CW C 43 vs lo h K := by
  refine CW_X hS rfl Try.func43 ok43 hl ?_ hw
  rw [Try.ntmps43]
  decide
theorem q43_0 {lo : Nat} {Q : XQ} {e : E} {h : H} : XW C lo x43_0 Q e h =
    bd (zero? Try.prog 42) fun z1 =>
    bd (binV Try.prog .shr 27 (E.get e 0) (.int .u64 8)) fun t2 =>
    bd (convV Try.prog (H.read (H.alloc h (V.cells z1))) 27 5 t2) fun r3 => KX (H.alloc h (V.cells z1)) (fun t4 h5 =>
    bd (convV Try.prog (H.read h5) 27 5 (E.get e 0)) fun r6 => KX h5 (fun t7 h8 =>
    bd (buildSliceV Try.prog 22 2 [(0, t4), (1, t7)]) fun r9 => KX h8 (fun t10 h11 =>
    bd (buildV Try.prog 42 [(0, .int .u8 8), (1, t10)]) fun t12 =>
    bd (storeV Try.prog lo 42 (.ptr (H.next h) 0) t12 h11) fun h13 =>
    Q .rt ((2, .ptr (H.next h) 0) :: e) h13) r9) r6) r3 := nrfl (by kernel_rfl)

/-! ### chancery/chanceryref29.kind -/
def r48_0 : List SI := [⟨some 2, (.assign (.const (.bool false))), none⟩]
def r48_1 : List SI := [⟨some 3, (.move (.tmp 0)), none⟩,
  ⟨some 4, (.binOp .geq 40 (.tmp 3) (.const (.int .u8 1)) 40), none⟩,
  ⟨some 5, (.move (.tmp 4)), none⟩,
  ⟨some 6, (.move (.tmp 0)), some (some 5, true)⟩,
  ⟨some 7, (.binOp .leq 40 (.tmp 6) (.const (.int .u8 9)) 40), some (some 5, true)⟩,
  ⟨some 8, (.pick (.tmp 5) (.tmp 7) (.const (.bool false))), none⟩,
  ⟨some 2, (.assign (.tmp 8)), none⟩]
def x48_0 : X := .ops r48_0 [] (.ops r48_1 [2] .ret)
def n48 : Ann := .ops [] (.ops [2] .stop)
theorem ok48 : annFn Try.f48 1 n48 = some x48_0 := by kernel_rfl
noncomputable def kF48 (K : V → H → Prop) : XQ := kFnX C.P Try.f48.results.toList K
theorem e48_nx {K : V → H → Prop} {e : E} {h : H} : kF48 K .nx e h = K (E.get e 2) h := nrfl (by kernel_rfl)
theorem e48_rt {K : V → H → Prop} {e : E} {h : H} : kF48 K .rt e h = K (E.get e 2) h := nrfl (by kernel_rfl)
theorem enter48 {lo : Nat} {h : H} {vs : List V} {K : V → H → Prop} (hl : vs.length = 1) (hw : XW C lo x48_0 (kF48 K) (args 0 vs) h) : CW C 48 vs lo h K := by
  refine CW_X hS rfl Try.func48 ok48 hl ?_ hw
  rw [Try.ntmps48]
  decide
theorem q48_0 {lo : Nat} {Q : XQ} {e : E} {h : H} : XW C lo x48_0 Q e h =
    bdB (binV Try.prog .geq 40 (E.get e 0) (.int .u8 1)) fun b1 =>
    byT b1 (bdB (binV Try.prog .leq 40 (E.get e 0) (.int .u8 9)) fun b2 =>
    Q .rt ((2, .bool b2) :: e) h) (Q .rt ((2, .bool false) :: e) h) := nrfl (by kernel_rfl)

/-! ### chancery/chanceryref29.four -/
def r65_0 : List SI := [⟨some 2, (.assign (.const (.slice none 0 0))), none⟩]
def r65_1 : List SI := [⟨some 3, (.move (.tmp 0)), none⟩,
  ⟨some 4, (.binOp .quo 3 (.tmp 3) (.const (.int .i64 16777216)) 3), none⟩,
  ⟨some 5, (.convert 3 5 (.tmp 4)), none⟩,
  ⟨some 6, (.move (.tmp 0)), none⟩,
  ⟨some 7, (.binOp .quo 3 (.tmp 6) (.const (.int .i64 65536)) 3), none⟩,
  ⟨some 8, (.binOp .rem 3 (.tmp 7) (.const (.int .i64 256)) 3), none⟩,
  ⟨some 9, (.convert 3 5 (.tmp 8)), none⟩,
  ⟨some 10, (.move (.tmp 0)), none⟩,
  ⟨some 11, (.binOp .quo 3 (.tmp 10) (.const (.int .i64 256)) 3), none⟩,
  ⟨some 12, (.binOp .rem 3 (.tmp 11) (.const (.int .i64 256)) 3), none⟩,
  ⟨some 13, (.convert 3 5 (.tmp 12)), none⟩,
  ⟨some 14, (.move (.tmp 0)), none⟩,
  ⟨some 15, (.binOp .rem 3 (.tmp 14) (.const (.int .i64 256)) 3), none⟩,
  ⟨some 16, (.convert 3 5 (.tmp 15)), none⟩,
  ⟨some 17, (.buildSlice 22 4 #[(0, (.tmp 5)), (1, (.tmp 9)), (2, (.tmp 13)), (3, (.tmp 16))]), none⟩,
  ⟨some 2, (.assign (.tmp 17)), none⟩]
def x65_0 : X := .ops r65_0 [] (.ops r65_1 [2] .ret)
def n65 : Ann := .ops [] (.ops [2] .stop)
theorem ok65 : annFn Try.f65 1 n65 = some x65_0 := by kernel_rfl
noncomputable def kF65 (K : V → H → Prop) : XQ := kFnX C.P Try.f65.results.toList K
theorem e65_nx {K : V → H → Prop} {e : E} {h : H} : kF65 K .nx e h = K (E.get e 2) h := nrfl (by kernel_rfl)
theorem e65_rt {K : V → H → Prop} {e : E} {h : H} : kF65 K .rt e h = K (E.get e 2) h := nrfl (by kernel_rfl)
theorem enter65 {lo : Nat} {h : H} {vs : List V} {K : V → H → Prop} (hl : vs.length = 1) (hw : XW C lo x65_0 (kF65 K) (args 0 vs) h) : CW C 65 vs lo h K := by
  refine CW_X hS rfl Try.func65 ok65 hl ?_ hw
  rw [Try.ntmps65]
  decide
theorem q65_0 {lo : Nat} {Q : XQ} {e : E} {h : H} : XW C lo x65_0 Q e h =
    bd (binV Try.prog .quo 3 (E.get e 0) (.int .i64 16777216)) fun t1 =>
    bd (convV Try.prog (H.read h) 3 5 t1) fun r2 => KX h (fun t3 h4 =>
    bd (binV Try.prog .quo 3 (E.get e 0) (.int .i64 65536)) fun t5 =>
    bd (binV Try.prog .rem 3 t5 (.int .i64 256)) fun t6 =>
    bd (convV Try.prog (H.read h4) 3 5 t6) fun r7 => KX h4 (fun t8 h9 =>
    bd (binV Try.prog .quo 3 (E.get e 0) (.int .i64 256)) fun t10 =>
    bd (binV Try.prog .rem 3 t10 (.int .i64 256)) fun t11 =>
    bd (convV Try.prog (H.read h9) 3 5 t11) fun r12 => KX h9 (fun t13 h14 =>
    bd (binV Try.prog .rem 3 (E.get e 0) (.int .i64 256)) fun t15 =>
    bd (convV Try.prog (H.read h14) 3 5 t15) fun r16 => KX h14 (fun t17 h18 =>
    bd (buildSliceV Try.prog 22 4 [(0, t3), (1, t8), (2, t13), (3, t17)]) fun r19 => KX h18 (fun t20 h21 =>
    Q .rt ((2, t20) :: e) h21) r19) r16) r12) r7) r2 := nrfl (by kernel_rfl)

/-! ### chancery/chanceryref29.Answer -/
def r36_0 : List SI := [⟨some 1, (.box 75 (.tmp 0)), none⟩,
  ⟨some 2, (.assign (.const (.slice none 0 0))), none⟩,
  ⟨some 3, (.assign (.const (.int .i64 0))), none⟩]
def r36_1 : List SI := [⟨some 10, (.fieldAddr 75 (.tmp 1) 1), none⟩,
  ⟨some 11, (.load 73 (.tmp 10)), none⟩,
  ⟨some 12, (.call { callee := (.builtin .len), args := #[(.tmp 11)], argTypes := #[73] }), none⟩,
  ⟨some 13, (.binOp .gtr 3 (.tmp 12) (.const (.int .i64 0)) 3), none⟩,
  ⟨some 14, (.move (.tmp 13)), none⟩,
  ⟨some 15, (.fieldAddr 75 (.tmp 1) 0), some (some 14, true)⟩,
  ⟨some 16, (.load 72 (.tmp 15)), some (some 14, true)⟩,
  ⟨some 17, (.call { callee := (.builtin .len), args := #[(.tmp 16)], argTypes := #[72] }), some (some 14, true)⟩,
  ⟨some 18, (.binOp .eql 3 (.tmp 17) (.const (.int .i64 0)) 3), some (some 14, true)⟩,
  ⟨some 19, (.pick (.tmp 14) (.tmp 18) (.const (.bool false))), none⟩,
  ⟨some 20, (.move (.tmp 19)), none⟩,
  ⟨some 21, (.fieldAddr 75 (.tmp 1) 2), some (some 20, false)⟩,
  ⟨some 22, (.load 3 (.tmp 21)), some (some 20, false)⟩,
  ⟨some 23, (.binOp .lss 3 (.tmp 22) (.const (.int .i64 0)) 3), some (some 20, false)⟩,
  ⟨some 24, (.pick (.tmp 20) (.const (.bool true)) (.tmp 23)), none⟩,
  ⟨some 25, (.move (.tmp 24)), none⟩,
  ⟨some 26, (.fieldAddr 75 (.tmp 1) 2), some (some 25, false)⟩,
  ⟨some 27, (.load 3 (.tmp 26)), some (some 25, false)⟩,
  ⟨some 28, (.binOp .gtr 3 (.tmp 27) (.const (.int .i64 2147483647)) 3), some (some 25, false)⟩,
  ⟨some 29, (.pick (.tmp 25) (.const (.bool true)) (.tmp 28)), none⟩]
def r36_2 : List SI := [⟨some 2, (.assign (.const (.slice none 0 0))), none⟩,
  ⟨some 3, (.assign (.const (.int .i64 2))), none⟩]
def x36_2 : X := .ops r36_2 [2, 3] .ret
def r36_3 : List SI := [⟨some 30, (.fieldAddr 75 (.tmp 1) 0), none⟩,
  ⟨some 31, (.load 72 (.tmp 30)), none⟩,
  ⟨some 32, (.call { callee := (.builtin .len), args := #[(.tmp 31)], argTypes := #[72] }), none⟩,
  ⟨some 33, (.binOp .gtr 3 (.tmp 32) (.const (.int .i64 255)) 3), none⟩]
def r36_4 : List SI := [⟨some 2, (.assign (.const (.slice none 0 0))), none⟩,
  ⟨some 3, (.assign (.const (.int .i64 3))), none⟩]
def x36_4 : X := .ops r36_4 [2, 3] .ret
def r36_5 : List SI := [⟨some 34, (.fieldAddr 75 (.tmp 1) 0), none⟩,
  ⟨some 35, (.load 72 (.tmp 34)), none⟩,
  ⟨some 36, (.call { callee := (.builtin .len), args := #[(.tmp 35)], argTypes := #[72] }), none⟩,
  ⟨some 37, (.convert 3 5 (.tmp 36)), none⟩,
  ⟨some 38, (.buildSlice 22 1 #[(0, (.tmp 37))]), none⟩,
  ⟨some 4, (.assign (.tmp 38)), none⟩]
def r36_6 : List SI := [⟨some 5, (.assign (.const (.int .i64 0))), none⟩]
def r36_7 : List SI := [⟨some 39, (.move (.tmp 5)), none⟩,
  ⟨some 40, (.fieldAddr 75 (.tmp 1) 0), none⟩,
  ⟨some 41, (.load 72 (.tmp 40)), none⟩,
  ⟨some 42, (.call { callee := (.builtin .len), args := #[(.tmp 41)], argTypes := #[72] }), none⟩,
  ⟨some 43, (.binOp .lss 3 (.tmp 39) (.tmp 42) 3), none⟩]
def r36_9 : List SI := [⟨some 46, (.fieldAddr 75 (.tmp 1) 0), none⟩,
  ⟨some 47, (.load 72 (.tmp 46)), none⟩,
  ⟨some 48, (.move (.tmp 5)), none⟩,
  ⟨some 49, (.indexAddr 72 (.tmp 47) (.tmp 48)), none⟩,
  ⟨some 50, (.load 9 (.tmp 49)), none⟩,
  ⟨some 51, (.call { callee := (.builtin .len), args := #[(.tmp 50)], argTypes := #[9] }), none⟩,
  ⟨some 52, (.binOp .gtr 3 (.tmp 51) (.const (.int .i64 24)) 3), none⟩]
def r36_10 : List SI := [⟨some 2, (.assign (.const (.slice none 0 0))), none⟩,
  ⟨some 3, (.assign (.const (.int .i64 3))), none⟩]
def x36_10 : X := .ops r36_10 [2, 3] .ret
def r36_11 : List SI := [⟨some 53, (.move (.tmp 4)), none⟩,
  ⟨some 54, (.fieldAddr 75 (.tmp 1) 0), none⟩,
  ⟨some 55, (.load 72 (.tmp 54)), none⟩,
  ⟨some 56, (.move (.tmp 5)), none⟩,
  ⟨some 57, (.indexAddr 72 (.tmp 55) (.tmp 56)), none⟩,
  ⟨some 58, (.load 9 (.tmp 57)), none⟩,
  ⟨some 59, (.call { callee := (.builtin .len), args := #[(.tmp 58)], argTypes := #[9] }), none⟩,
  ⟨some 60, (.convert 3 5 (.tmp 59)), none⟩,
  ⟨some 61, (.buildSlice 22 1 #[(0, (.tmp 60))]), none⟩,
  ⟨some 62, (.call { callee := (.builtin .append), args := #[(.tmp 53), (.tmp 61)], argTypes := #[22, 22] }), none⟩,
  ⟨some 4, (.assign (.tmp 62)), none⟩]
def r36_12 : List SI := [⟨some 63, (.move (.tmp 4)), none⟩,
  ⟨some 64, (.fieldAddr 75 (.tmp 1) 0), none⟩,
  ⟨some 65, (.load 72 (.tmp 64)), none⟩,
  ⟨some 66, (.move (.tmp 5)), none⟩,
  ⟨some 67, (.indexAddr 72 (.tmp 65) (.tmp 66)), none⟩,
  ⟨some 68, (.load 9 (.tmp 67)), none⟩,
  ⟨some 69, (.call { callee := (.builtin .append), args := #[(.tmp 63), (.tmp 68)], argTypes := #[22, 9] }), none⟩,
  ⟨some 4, (.assign (.tmp 69)), none⟩]
def x36_11 : X := .ops r36_11 [4] (.ops r36_12 [4] .skip)
def x36_9 : X := .ops r36_9 [52] (.cond (.tmp 52) x36_10 .skip x36_11)
def r36_8 : List SI := [⟨some 44, (.move (.tmp 5)), none⟩,
  ⟨some 45, (.binOp .add 3 (.tmp 44) (.const (.int .i64 1)) 3), none⟩,
  ⟨some 5, (.assign (.tmp 45)), none⟩]
def x36_12 : X := .trim [1, 4, 5] (.ops r36_8 [5] .skip)
def x36_8 : X := .block 1 x36_9 x36_12
def x36_7 : X := .ops r36_7 [43] (.cond (.tmp 43) .skip (.exit 0) x36_8)
def x36_6 : X := .loop [1, 4, 5] x36_7
def r36_13 : List SI := [⟨some 6, (.assign (.const (.slice none 0 0))), none⟩]
def r36_14 : List SI := [⟨some 70, (.fieldAddr 75 (.tmp 1) 0), none⟩,
  ⟨some 71, (.load 72 (.tmp 70)), none⟩,
  ⟨some 72, (.call { callee := (.builtin .len), args := #[(.tmp 71)], argTypes := #[72] }), none⟩,
  ⟨some 73, (.binOp .gtr 3 (.tmp 72) (.const (.int .i64 0)) 3), none⟩]
def r36_15 : List SI := [⟨some 74, (.move (.tmp 6)), none⟩,
  ⟨some 75, (.move (.tmp 4)), none⟩,
  ⟨some 76, (.build 42 #[(0, (.const (.int .u8 6))), (1, (.tmp 75))]), none⟩,
  ⟨some 77, (.buildSlice 26 1 #[(0, (.tmp 76))]), none⟩,
  ⟨some 78, (.call { callee := (.builtin .append), args := #[(.tmp 74), (.tmp 77)], argTypes := #[26, 26] }), none⟩,
  ⟨some 6, (.assign (.tmp 78)), none⟩]
def x36_14 : X := .ops r36_15 [6] .skip
def r36_16 : List SI := [⟨some 7, (.assign (.const (.int .i64 0))), none⟩]
def r36_17 : List SI := [⟨some 79, (.move (.tmp 7)), none⟩,
  ⟨some 80, (.fieldAddr 75 (.tmp 1) 1), none⟩,
  ⟨some 81, (.load 73 (.tmp 80)), none⟩,
  ⟨some 82, (.call { callee := (.builtin .len), args := #[(.tmp 81)], argTypes := #[73] }), none⟩,
  ⟨some 83, (.binOp .lss 3 (.tmp 79) (.tmp 82) 3), none⟩]
def r36_19a : List SI := [⟨some 86, (.fieldAddr 75 (.tmp 1) 1), none⟩,
  ⟨some 87, (.load 73 (.tmp 86)), none⟩,
  ⟨some 88, (.move (.tmp 7)), none⟩,
  ⟨some 89, (.indexAddr 73 (.tmp 87) (.tmp 88)), none⟩,
  ⟨some 90, (.load 48 (.tmp 89)), none⟩,
  ⟨some 91, (.call { callee := (.builtin .len), args := #[(.tmp 90)], argTypes := #[48] }), none⟩,
  ⟨some 92, (.fieldAddr 75 (.tmp 1) 0), none⟩,
  ⟨some 93, (.load 72 (.tmp 92)), none⟩,
  ⟨some 94, (.call { callee := (.builtin .len), args := #[(.tmp 93)], argTypes := #[72] }), none⟩]
def r36_19b : List SI := [⟨some 95, (.binOp .neq 3 (.tmp 91) (.tmp 94) 3), none⟩]
def r36_20 : List SI := [⟨some 2, (.assign (.const (.slice none 0 0))), none⟩,
  ⟨some 3, (.assign (.const (.int .i64 330))), none⟩]
def x36_20 : X := .ops r36_20 [2, 3] .ret
def r36_21 : List SI := [⟨some 97, (.fieldAddr 75 (.tmp 1) 1), none⟩,
  ⟨some 98, (.load 73 (.tmp 97)), none⟩,
  ⟨some 99, (.move (.tmp 7)), none⟩,
  ⟨some 100, (.indexAddr 73 (.tmp 98) (.tmp 99)), none⟩,
  ⟨some 101, (.load 48 (.tmp 100)), none⟩,
  ⟨some 102, (.call { callee := (.value (.func 64)), args := #[(.tmp 101)], argTypes := #[48] }), none⟩,
  ⟨some 96, (.move (.tmp 102)), none⟩,
  ⟨some 103, (.extract (.tmp 96) 0), none⟩,
  ⟨some 104, (.extract (.tmp 96) 1), none⟩,
  ⟨some 8, (.assign (.tmp 103)), none⟩,
  ⟨some 9, (.assign (.tmp 104)), none⟩]
def r36_22 : List SI := [⟨some 105, (.move (.tmp 9)), none⟩,
  ⟨some 106, (.binOp .neq 27 (.tmp 105) (.const (.int .i64 0)) 27), none⟩]
def r36_23 : List SI := [⟨some 107, (.move (.tmp 9)), none⟩,
  ⟨some 2, (.assign (.const (.slice none 0 0))), none⟩,
  ⟨some 3, (.assign (.tmp 107)), none⟩]
def x36_22 : X := .ops r36_23 [2, 3] .ret
def r36_24 : List SI := [⟨some 108, (.move (.tmp 6)), none⟩,
  ⟨some 109, (.move (.tmp 8)), none⟩,
  ⟨some 110, (.build 42 #[(0, (.const (.int .u8 6))), (1, (.tmp 109))]), none⟩,
  ⟨some 111, (.buildSlice 26 1 #[(0, (.tmp 110))]), none⟩,
  ⟨some 112, (.call { callee := (.builtin .append), args := #[(.tmp 108), (.tmp 111)], argTypes := #[26, 26] }), none⟩,
  ⟨some 6, (.assign (.tmp 112)), none⟩]
def x36_23 : X := .ops r36_24 [6] .skip
def x36_21 : X := .ops r36_21 [8, 9] (.ops r36_22 [106] (.cond (.tmp 106) x36_22 .skip x36_23))
def x36_19 : X := .front false r36_19a r36_19b [95] (.cond (.tmp 95) x36_20 .skip x36_21)
def r36_18 : List SI := [⟨some 84, (.move (.tmp 7)), none⟩,
  ⟨some 85, (.binOp .add 3 (.tmp 84) (.const (.int .i64 1)) 3), none⟩,
  ⟨some 7, (.assign (.tmp 85)), none⟩]
def x36_24 : X := .trim [1, 6, 7] (.ops r36_18 [7] .skip)
def x36_18 : X := .block 3 x36_19 x36_24
def x36_17 : X := .ops r36_17 [83] (.cond (.tmp 83) .skip (.exit 2) x36_18)
def x36_16 : X := .loop [1, 6, 7] x36_17
def r36_25 : List SI := [⟨some 113, (.move (.tmp 6)), none⟩,
  ⟨some 114, (.fieldAddr 75 (.tmp 1) 2), none⟩,
  ⟨some 115, (.load 3 (.tmp 114)), none⟩,
  ⟨some 116, (.call { callee := (.value (.func 65)), args := #[(.tmp 115)], argTypes := #[3] }), none⟩,
  ⟨some 117, (.build 42 #[(0, (.const (.int .u8 7))), (1, (.tmp 116))]), none⟩,
  ⟨some 118, (.buildSlice 26 1 #[(0, (.tmp 117))]), none⟩,
  ⟨some 119, (.call { callee := (.builtin .append), args := #[(.tmp 113), (.tmp 118)], argTypes := #[26, 26] }), none⟩,
  ⟨some 2, (.assign (.tmp 119)), none⟩,
  ⟨some 3, (.assign (.const (.int .i64 0))), none⟩]
def x36_25 : X := .trim [1, 6] (.ops r36_25 [2, 3] .ret)
def x36_15 : X := .trim [1, 6] (.ops r36_16 [7] (.block 2 x36_16 x36_25))
def x36_13 : X := .trim [1, 4] (.ops r36_13 [6] (.ops r36_14 [73] (.cond (.tmp 73) x36_14 .skip x36_15)))
def x36_5 : X := .ops r36_5 [4] (.ops r36_6 [5] (.block 0 x36_6 x36_13))
def x36_3 : X := .ops r36_3 [33] (.cond (.tmp 33) x36_4 .skip x36_5)
def x36_1 : X := .cond (.tmp 29) x36_2 .skip x36_3
def x36_0 : X := .ops r36_0 [1] (.ops r36_1 [29] x36_1)
def n36 : Ann := .ops [1] (.ops [29] (.cond (.ops [2, 3] .stop) .stop (.ops [33] (.cond (.ops [2, 3] .stop) .stop (.ops [4] (.ops [5] (.block [1, 4] (.loop [1, 4, 5] (.ops [43] (.cond .stop .stop (.block [1, 4, 5] (.ops [52] (.cond (.ops [2, 3] .stop) .stop (.ops [4] (.ops [4] .stop)))) (.trim [1, 4, 5] (.ops [5] .stop)))))) (.trim [1, 4] (.ops [6] (.ops [73] (.cond (.ops [6] .stop) .stop (.trim [1, 6] (.ops [7] (.block [1, 6] (.loop [1, 6, 7] (.ops [83] (.cond .stop .stop (.block [1, 6, 7] (.ops [95] (.cond (.ops [2, 3] .stop) .stop (.ops [8, 9] (.ops [106] (.cond (.ops [2, 3] .stop) .stop (.ops [6] .stop)))))) (.trim [1, 6, 7] (.ops [7] .stop)))))) (.trim [1, 6] (.ops [2, 3] .stop))))))))))))))))
theorem ok36 : annFn Try.f36 1 n36 = some x36_0 := by kernel_rfl
noncomputable def kF36 (K : V → H → Prop) : XQ := kFnX C.P Try.f36.results.toList K
theorem e36_nx {K : V → H → Prop} {e : E} {h : H} : kF36 K .nx e h = K (.tup [E.get e 2, E.get e 3]) h := nrfl (by kernel_rfl)
theorem e36_rt {K : V → H → Prop} {e : E} {h : H} : kF36 K .rt e h = K (.tup [E.get e 2, E.get e 3]) h := nrfl (by kernel_rfl)
theorem enter36 {lo : Nat} {h : H} {vs : List V} {K : V → H → Prop} (hl : vs.length = 1) (hw : XW C lo x36_0 (kF36 K) (args 0 vs) h) : CW C 36 vs lo h K := by
  refine CW_X hS rfl Try.func36 ok36 hl ?_ hw
  rw [Try.ntmps36]
  decide
theorem q36_2 {lo : Nat} {Q : XQ} {e : E} {h : H} : XW C lo x36_2 Q e h =
    Q .rt ((2, .nils) :: (3, .int .i64 2) :: e) h := nrfl (by kernel_rfl)
theorem q36_4 {lo : Nat} {Q : XQ} {e : E} {h : H} : XW C lo x36_4 Q e h =
    Q .rt ((2, .nils) :: (3, .int .i64 3) :: e) h := nrfl (by kernel_rfl)
theorem q36_10 {lo : Nat} {Q : XQ} {e : E} {h : H} : XW C lo x36_10 Q e h =
    Q .rt ((2, .nils) :: (3, .int .i64 3) :: e) h := nrfl (by kernel_rfl)
theorem q36_11 {lo : Nat} {Q : XQ} {e : E} {h : H} : XW C lo x36_11 Q e h =
    bd (fieldAddrV Try.prog 75 (E.get e 1) 0) fun t1 =>
    bd (loadV Try.prog 72 t1 (H.read h)) fun t2 =>
    bd (addrV Try.prog 72 t2 (E.get e 5)) fun t3 =>
    bd (loadV Try.prog 9 t3 (H.read h)) fun t4 =>
    bd (lenV Try.prog [9] t4) fun t5 =>
    bd (convV Try.prog (H.read h) 3 5 t5) fun r6 => KX h (fun t7 h8 =>
    bd (buildSliceV Try.prog 22 1 [(0, t7)]) fun r9 => KX h8 (fun t10 h11 =>
    bd2 (appendV Try.prog lo [22, 22] (E.get e 4) t10 h11) fun t12 h13 =>
    bd (fieldAddrV Try.prog 75 (E.get e 1) 0) fun t14 =>
    bd (loadV Try.prog 72 t14 (H.read h13)) fun t15 =>
    bd (addrV Try.prog 72 t15 (E.get e 5)) fun t16 =>
    bd (loadV Try.prog 9 t16 (H.read h13)) fun t17 =>
    bd2 (appendV Try.prog lo [22, 9] t12 t17 h13) fun t18 h19 =>
    Q .nx ((4, t18) :: (4, t12) :: e) h19) r9) r6 := nrfl (by kernel_rfl)
theorem q36_9 {lo : Nat} {Q : XQ} {e : E} {h : H} : XW C lo x36_9 Q e h =
    bd (fieldAddrV Try.prog 75 (E.get e 1) 0) fun t1 =>
    bd (loadV Try.prog 72 t1 (H.read h)) fun t2 =>
    bd (addrV Try.prog 72 t2 (E.get e 5)) fun t3 =>
    bd (loadV Try.prog 9 t3 (H.read h)) fun t4 =>
    bd (lenV Try.prog [9] t4) fun t5 =>
    bdB (binV Try.prog .gtr 3 t5 (.int .i64 24)) fun b6 =>
    byT b6 (XW C lo x36_10 (kX (XW C lo x36_11 Q) Q) ((52, .bool b6) :: e) h) (XW C lo .skip (kX (XW C lo x36_11 Q) Q) ((52, .bool b6) :: e) h) := nrfl (by kernel_rfl)
theorem q36_12 {lo : Nat} {Q : XQ} {e : E} {h : H} : XW C lo x36_12 Q e h =
    bd (binV Try.prog .add 3 (E.get e 5) (.int .i64 1)) fun t1 =>
    Q .nx [(5, t1), (1, E.get e 1), (4, E.get e 4), (5, E.get e 5)] h := nrfl (by kernel_rfl)
theorem q36_8 {lo : Nat} {Q : XQ} {e : E} {h : H} : XW C lo x36_8 Q e h =
    XW C lo x36_9 (kXB 1 (XW C lo x36_12 Q) Q) e h := nrfl (by kernel_rfl)
theorem q36_7 {lo : Nat} {Q : XQ} {e : E} {h : H} : XW C lo x36_7 Q e h =
    bd (fieldAddrV Try.prog 75 (E.get e 1) 0) fun t1 =>
    bd (loadV Try.prog 72 t1 (H.read h)) fun t2 =>
    bd (lenV Try.prog [72] t2) fun t3 =>
    bdB (binV Try.prog .lss 3 (E.get e 5) t3) fun b4 =>
    byT b4 (XW C lo .skip (kX (XW C lo x36_8 Q) Q) ((43, .bool b4) :: e) h) (XW C lo (.exit 0) (kX (XW C lo x36_8 Q) Q) ((43, .bool b4) :: e) h) := nrfl (by kernel_rfl)
theorem q36_6 {lo : Nat} {Q : XQ} {e : E} {h : H} : XW C lo x36_6 Q e h =
    ∃ n, loopX [1, 4, 5] (XW C lo x36_7) Q n e h := nrfl (by kernel_rfl)
theorem q36_14 {lo : Nat} {Q : XQ} {e : E} {h : H} : XW C lo x36_14 Q e h =
    bd (buildV Try.prog 42 [(0, .int .u8 6), (1, E.get e 4)]) fun t1 =>
    bd (buildSliceV Try.prog 26 1 [(0, t1)]) fun r2 => KX h (fun t3 h4 =>
    bd2 (appendV Try.prog lo [26, 26] (E.get e 6) t3 h4) fun t5 h6 =>
    Q .nx ((6, t5) :: e) h6) r2 := nrfl (by kernel_rfl)
theorem q36_20 {lo : Nat} {Q : XQ} {e : E} {h : H} : XW C lo x36_20 Q e h =
    Q .rt ((2, .nils) :: (3, .int .i64 330) :: e) h := nrfl (by kernel_rfl)
theorem q36_22 {lo : Nat} {Q : XQ} {e : E} {h : H} : XW C lo x36_22 Q e h =
    Q .rt ((2, .nils) :: (3, E.get e 9) :: e) h := nrfl (by kernel_rfl)
theorem q36_23 {lo : Nat} {Q : XQ} {e : E} {h : H} : XW C lo x36_23 Q e h =
    bd (buildV Try.prog 42 [(0, .int .u8 6), (1, E.get e 8)]) fun t1 =>
    bd (buildSliceV Try.prog 26 1 [(0, t1)]) fun r2 => KX h (fun t3 h4 =>
    bd2 (appendV Try.prog lo [26, 26] (E.get e 6) t3 h4) fun t5 h6 =>
    Q .nx ((6, t5) :: e) h6) r2 := nrfl (by kernel_rfl)
theorem q36_21 {lo : Nat} {Q : XQ} {e : E} {h : H} : XW C lo x36_21 Q e h =
    bd (fieldAddrV Try.prog 75 (E.get e 1) 1) fun t1 =>
    bd (loadV Try.prog 73 t1 (H.read h)) fun t2 =>
    bd (addrV Try.prog 73 t2 (E.get e 7)) fun t3 =>
    bd (loadV Try.prog 48 t3 (H.read h)) fun t4 =>
    CW C 64 [t4] lo h fun t5 h6 =>
    tupX t5 fun l7 => bd (l7[0]?) fun t8 =>
    tupX t5 fun l9 => bd (l9[1]?) fun t10 =>
    bdB (binV Try.prog .neq 27 t10 (.int .i64 0)) fun b11 =>
    byT b11 (XW C lo x36_22 (kX (XW C lo x36_23 Q) Q) ((106, .bool b11) :: (8, t8) :: (9, t10) :: e) h6) (XW C lo .skip (kX (XW C lo x36_23 Q) Q) ((106, .bool b11) :: (8, t8) :: (9, t10) :: e) h6) := nrfl (by kernel_rfl)
theorem q36_19 {lo : Nat} {Q : XQ} {e : E} {h : H} : XW C lo x36_19 Q e h =
    bd (fieldAddrV Try.prog 75 (E.get e 1) 1) fun t1 =>
    bd (loadV Try.prog 73 t1 (H.read h)) fun t2 =>
    bd (addrV Try.prog 73 t2 (E.get e 7)) fun t3 =>
    bd (loadV Try.prog 48 t3 (H.read h)) fun t4 =>
    bd (lenV Try.prog [48] t4) fun t5 =>
    bd (fieldAddrV Try.prog 75 (E.get e 1) 0) fun t6 =>
    bd (loadV Try.prog 72 t6 (H.read h)) fun t7 =>
    bd (lenV Try.prog [72] t7) fun t8 =>
    bdB (binV Try.prog .neq 3 t5 t8) fun b9 =>
    byT b9 (XW C lo x36_20 (kX (XW C lo x36_21 Q) Q) ((95, .bool b9) :: e) h) (XW C lo .skip (kX (XW C lo x36_21 Q) Q) ((95, .bool b9) :: e) h) := nrfl (by kernel_rfl)
theorem q36_24 {lo : Nat} {Q : XQ} {e : E} {h : H} : XW C lo x36_24 Q e h =
    bd (binV Try.prog .add 3 (E.get e 7) (.int .i64 1)) fun t1 =>
    Q .nx [(7, t1), (1, E.get e 1), (6, E.get e 6), (7, E.get e 7)] h := nrfl (by kernel_rfl)
theorem q36_18 {lo : Nat} {Q : XQ} {e : E} {h : H} : XW C lo x36_18 Q e h =
    XW C lo x36_19 (kXB 3 (XW C lo x36_24 Q) Q) e h := nrfl (by kernel_rfl)
theorem q36_17 {lo : Nat} {Q : XQ} {e : E} {h : H} : XW C lo x36_17 Q e h =
    bd (fieldAddrV Try.prog 75 (E.get e 1) 1) fun t1 =>
    bd (loadV Try.prog 73 t1 (H.read h)) fun t2 =>
    bd (lenV Try.prog [73] t2) fun t3 =>
    bdB (binV Try.prog .lss 3 (E.get e 7) t3) fun b4 =>
    byT b4 (XW C lo .skip (kX (XW C lo x36_18 Q) Q) ((83, .bool b4) :: e) h) (XW C lo (.exit 2) (kX (XW C lo x36_18 Q) Q) ((83, .bool b4) :: e) h) := nrfl (by kernel_rfl)
theorem q36_16 {lo : Nat} {Q : XQ} {e : E} {h : H} : XW C lo x36_16 Q e h =
    ∃ n, loopX [1, 6, 7] (XW C lo x36_17) Q n e h := nrfl (by kernel_rfl)
theorem q36_25 {lo : Nat} {Q : XQ} {e : E} {h : H} : XW C lo x36_25 Q e h =
    bd (fieldAddrV Try.prog 75 (E.get e 1) 2) fun t1 =>
    bd (loadV Try.prog 3 t1 (H.read h)) fun t2 =>
    CW C 65 [t2] lo h fun t3 h4 =>
    bd (buildV Try.prog 42 [(0, .int .u8 7), (1, t3)]) fun t5 =>
    bd (buildSliceV Try.prog 26 1 [(0, t5)]) fun r6 => KX h4 (fun t7 h8 =>
    bd2 (appendV Try.prog lo [26, 26] (E.get e 6) t7 h8) fun t9 h10 =>
    Q .rt [(2, t9), (3, .int .i64 0), (1, E.get e 1), (6, E.get e 6)] h10) r6 := nrfl (by kernel_rfl)
theorem z36_15 {lo : Nat} {Q : XQ} {Z : E → H → Prop} {e : E} {h : H} : LX C lo r36_16 (fun e1 h1 => Z (outs [7] e1 (only [1, 6] e)) h1) (only [1, 6] e) h =
    Z [(7, .int .i64 0), (1, E.get e 1), (6, E.get e 6)] h := nrfl (by kernel_rfl)
theorem q36_15 {lo : Nat} {Q : XQ} {e : E} {h : H} : XW C lo x36_15 Q e h =
    XW C lo x36_16 (kXB 2 (XW C lo x36_25 Q) Q) [(7, .int .i64 0), (1, E.get e 1), (6, E.get e 6)] h :=
  (opsblkCodeAT (L := [1, 6]) (l := r36_16) (out := [7]) (id := 2) (b := x36_16) (k := x36_25)).trans (z36_15 (Q := Q) (Z := fun e1 h1 => XW C lo x36_16 (kXB 2 (XW C lo x36_25 Q) Q) e1 h1))
theorem q36_13 {lo : Nat} {Q : XQ} {e : E} {h : H} : XW C lo x36_13 Q e h =
    bd (fieldAddrV Try.prog 75 (E.get e 1) 0) fun t1 =>
    bd (loadV Try.prog 72 t1 (H.read h)) fun t2 =>
    bd (lenV Try.prog [72] t2) fun t3 =>
    bdB (binV Try.prog .gtr 3 t3 (.int .i64 0)) fun b4 =>
    byT b4 (XW C lo x36_14 (kX (XW C lo x36_15 Q) Q) [(73, .bool b4), (6, .nils), (1, E.get e 1), (4, E.get e 4)] h) (XW C lo .skip (kX (XW C lo x36_15 Q) Q) [(73, .bool b4), (6, .nils), (1, E.get e 1), (4, E.get e 4)] h) := nrfl (by kernel_rfl)
theorem q36_5 {lo : Nat} {Q : XQ} {e : E} {h : H} : XW C lo x36_5 Q e h =
    bd (fieldAddrV Try.prog 75 (E.get e 1) 0) fun t1 =>
    bd (loadV Try.prog 72 t1 (H.read h)) fun t2 =>
    bd (lenV Try.prog [72] t2) fun t3 =>
    bd (convV Try.prog (H.read h) 3 5 t3) fun r4 => KX h (fun t5 h6 =>
    bd (buildSliceV Try.prog 22 1 [(0, t5)]) fun r7 => KX h6 (fun t8 h9 =>
    XW C lo x36_6 (kXB 0 (XW C lo x36_13 Q) Q) ((5, .int .i64 0) :: (4, t8) :: e) h9) r7) r4 := nrfl (by kernel_rfl)
theorem q36_3 {lo : Nat} {Q : XQ} {e : E} {h : H} : XW C lo x36_3 Q e h =
    bd (fieldAddrV Try.prog 75 (E.get e 1) 0) fun t1 =>
    bd (loadV Try.prog 72 t1 (H.read h)) fun t2 =>
    bd (lenV Try.prog [72] t2) fun t3 =>
    bdB (binV Try.prog .gtr 3 t3 (.int .i64 255)) fun b4 =>
    byT b4 (XW C lo x36_4 (kX (XW C lo x36_5 Q) Q) ((33, .bool b4) :: e) h) (XW C lo .skip (kX (XW C lo x36_5 Q) Q) ((33, .bool b4) :: e) h) := nrfl (by kernel_rfl)
theorem q36_1 {lo : Nat} {Q : XQ} {e : E} {h : H} : XW C lo x36_1 Q e h =
    byV (E.get e 29) (XW C lo x36_2 (kX (XW C lo x36_3 Q) Q) e h) (XW C lo .skip (kX (XW C lo x36_3 Q) Q) e h) False := nrfl (by kernel_rfl)
theorem q36_0 {lo : Nat} {Q : XQ} {e : E} {h : H} : XW C lo x36_0 Q e h =
    bd (fieldAddrV Try.prog 75 (.ptr (H.next h) 0) 1) fun t1 =>
    bd (loadV Try.prog 73 t1 (H.read (H.alloc h (V.cells (E.get e 0))))) fun t2 =>
    bd (lenV Try.prog [73] t2) fun t3 =>
    bdB (binV Try.prog .gtr 3 t3 (.int .i64 0)) fun b4 =>
    byT b4 (bd (fieldAddrV Try.prog 75 (.ptr (H.next h) 0) 0) fun t5 =>
    bd (loadV Try.prog 72 t5 (H.read (H.alloc h (V.cells (E.get e 0))))) fun t6 =>
    bd (lenV Try.prog [72] t6) fun t7 =>
    bdB (binV Try.prog .eql 3 t7 (.int .i64 0)) fun b8 =>
    byT b8 (XW C lo x36_2 (kX (XW C lo x36_3 Q) Q) ((29, .bool true) :: (1, .ptr (H.next h) 0) :: e) (H.alloc h (V.cells (E.get e 0)))) (bd (fieldAddrV Try.prog 75 (.ptr (H.next h) 0) 2) fun t9 =>
    bd (loadV Try.prog 3 t9 (H.read (H.alloc h (V.cells (E.get e 0))))) fun t10 =>
    bdB (binV Try.prog .lss 3 t10 (.int .i64 0)) fun b11 =>
    byT b11 (XW C lo x36_2 (kX (XW C lo x36_3 Q) Q) ((29, .bool true) :: (1, .ptr (H.next h) 0) :: e) (H.alloc h (V.cells (E.get e 0)))) (bd (fieldAddrV Try.prog 75 (.ptr (H.next h) 0) 2) fun t12 =>
    bd (loadV Try.prog 3 t12 (H.read (H.alloc h (V.cells (E.get e 0))))) fun t13 =>
    bdB (binV Try.prog .gtr 3 t13 (.int .i64 2147483647)) fun b14 =>
    byT b14 (XW C lo x36_2 (kX (XW C lo x36_3 Q) Q) ((29, .bool b14) :: (1, .ptr (H.next h) 0) :: e) (H.alloc h (V.cells (E.get e 0)))) (XW C lo .skip (kX (XW C lo x36_3 Q) Q) ((29, .bool b14) :: (1, .ptr (H.next h) 0) :: e) (H.alloc h (V.cells (E.get e 0))))))) (bd (fieldAddrV Try.prog 75 (.ptr (H.next h) 0) 2) fun t5 =>
    bd (loadV Try.prog 3 t5 (H.read (H.alloc h (V.cells (E.get e 0))))) fun t6 =>
    bdB (binV Try.prog .lss 3 t6 (.int .i64 0)) fun b7 =>
    byT b7 (XW C lo x36_2 (kX (XW C lo x36_3 Q) Q) ((29, .bool true) :: (1, .ptr (H.next h) 0) :: e) (H.alloc h (V.cells (E.get e 0)))) (bd (fieldAddrV Try.prog 75 (.ptr (H.next h) 0) 2) fun t8 =>
    bd (loadV Try.prog 3 t8 (H.read (H.alloc h (V.cells (E.get e 0))))) fun t9 =>
    bdB (binV Try.prog .gtr 3 t9 (.int .i64 2147483647)) fun b10 =>
    byT b10 (XW C lo x36_2 (kX (XW C lo x36_3 Q) Q) ((29, .bool b10) :: (1, .ptr (H.next h) 0) :: e) (H.alloc h (V.cells (E.get e 0)))) (XW C lo .skip (kX (XW C lo x36_3 Q) Q) ((29, .bool b10) :: (1, .ptr (H.next h) 0) :: e) (H.alloc h (V.cells (E.get e 0)))))) := nrfl (by kernel_rfl)

/-! ### chancery/chanceryref29.Read -/
def r38_0 : List SI := [⟨some 2, (.alloc 75), none⟩,
  ⟨some 3, (.assign (.const (.int .i64 0))), none⟩]
def r38_1 : List SI := [⟨some 4, (.alloc 75), none⟩]
def r38_2 : List SI := [⟨some 5, (.assign (.const (.int .i64 0))), none⟩]
def r38_3 : List SI := [⟨some 11, (.move (.tmp 5)), none⟩,
  ⟨some 12, (.move (.tmp 0)), none⟩,
  ⟨some 13, (.call { callee := (.builtin .len), args := #[(.tmp 12)], argTypes := #[26] }), none⟩,
  ⟨some 14, (.binOp .lss 3 (.tmp 11) (.tmp 13) 3), none⟩]
def r38_5 : List SI := [⟨some 17, (.move (.tmp 0)), none⟩,
  ⟨some 18, (.move (.tmp 5)), none⟩,
  ⟨some 19, (.indexAddr 26 (.tmp 17) (.tmp 18)), none⟩,
  ⟨some 20, (.load 42 (.tmp 19)), none⟩,
  ⟨some 6, (.alloc 42), none⟩,
  ⟨none, (.store 42 (.tmp 6) (.tmp 20)), none⟩]
def r38_8 : List SI := [⟨some 34, (.fieldAddr 42 (.tmp 6) 0), none⟩,
  ⟨some 35, (.load 40 (.tmp 34)), none⟩,
  ⟨some 36, (.binOp .eql 40 (.tmp 35) (.const (.int .u8 7)) 40), none⟩,
  ⟨some 37, (.move (.tmp 36)), none⟩,
  ⟨some 38, (.fieldAddr 42 (.tmp 6) 1), some (some 37, true)⟩,
  ⟨some 39, (.load 22 (.tmp 38)), some (some 37, true)⟩,
  ⟨some 40, (.call { callee := (.builtin .len), args := #[(.tmp 39)], argTypes := #[22] }), some (some 37, true)⟩,
  ⟨some 41, (.binOp .eql 3 (.tmp 40) (.const (.int .i64 4)) 3), some (some 37, true)⟩,
  ⟨some 42, (.pick (.tmp 37) (.tmp 41) (.const (.bool false))), none⟩,
  ⟨some 33, (.assign (.tmp 42)), none⟩]
def r38_9a : List SI := [⟨some 43, (.fieldAddr 42 (.tmp 6) 1), none⟩,
  ⟨some 44, (.load 22 (.tmp 43)), none⟩,
  ⟨some 45, (.indexAddr 22 (.tmp 44) (.const (.int .i64 0))), none⟩,
  ⟨some 46, (.load 5 (.tmp 45)), none⟩,
  ⟨some 47, (.convert 5 3 (.tmp 46)), none⟩,
  ⟨some 48, (.binOp .mul 3 (.tmp 47) (.const (.int .i64 16777216)) 3), none⟩,
  ⟨some 49, (.fieldAddr 42 (.tmp 6) 1), none⟩,
  ⟨some 50, (.load 22 (.tmp 49)), none⟩,
  ⟨some 51, (.indexAddr 22 (.tmp 50) (.const (.int .i64 1))), none⟩,
  ⟨some 52, (.load 5 (.tmp 51)), none⟩,
  ⟨some 53, (.convert 5 3 (.tmp 52)), none⟩,
  ⟨some 54, (.binOp .mul 3 (.tmp 53) (.const (.int .i64 65536)) 3), none⟩,
  ⟨some 55, (.binOp .add 3 (.tmp 48) (.tmp 54) 3), none⟩,
  ⟨some 56, (.fieldAddr 42 (.tmp 6) 1), none⟩,
  ⟨some 57, (.load 22 (.tmp 56)), none⟩,
  ⟨some 58, (.indexAddr 22 (.tmp 57) (.const (.int .i64 2))), none⟩,
  ⟨some 59, (.load 5 (.tmp 58)), none⟩,
  ⟨some 60, (.convert 5 3 (.tmp 59)), none⟩,
  ⟨some 61, (.binOp .mul 3 (.tmp 60) (.const (.int .i64 256)) 3), none⟩,
  ⟨some 62, (.binOp .add 3 (.tmp 55) (.tmp 61) 3), none⟩,
  ⟨some 63, (.fieldAddr 42 (.tmp 6) 1), none⟩,
  ⟨some 64, (.load 22 (.tmp 63)), none⟩,
  ⟨some 65, (.indexAddr 22 (.tmp 64) (.const (.int .i64 3))), none⟩,
  ⟨some 66, (.load 5 (.tmp 65)), none⟩,
  ⟨some 67, (.convert 5 3 (.tmp 66)), none⟩]
def r38_9b : List SI := [⟨some 68, (.binOp .add 3 (.tmp 62) (.tmp 67) 3), none⟩,
  ⟨some 69, (.fieldAddr 75 (.tmp 4) 2), none⟩,
  ⟨none, (.store 3 (.tmp 69) (.tmp 68)), none⟩]
def x38_7 : X := .front false r38_9a r38_9b [] .skip
def r38_10 : List SI := [⟨some 71, (.fieldAddr 42 (.tmp 6) 0), none⟩,
  ⟨some 72, (.load 40 (.tmp 71)), none⟩,
  ⟨some 73, (.binOp .eql 40 (.tmp 72) (.const (.int .u8 6)) 40), none⟩,
  ⟨some 74, (.move (.tmp 73)), none⟩,
  ⟨some 75, (.move (.tmp 5)), some (some 74, true)⟩,
  ⟨some 76, (.binOp .eql 3 (.tmp 75) (.const (.int .i64 0)) 3), some (some 74, true)⟩,
  ⟨some 77, (.pick (.tmp 74) (.tmp 76) (.const (.bool false))), none⟩,
  ⟨some 70, (.assign (.tmp 77)), none⟩]
def r38_11 : List SI := [⟨some 78, (.fieldAddr 42 (.tmp 6) 1), none⟩,
  ⟨some 79, (.load 22 (.tmp 78)), none⟩,
  ⟨some 80, (.call { callee := (.value (.func 67)), args := #[(.tmp 79)], argTypes := #[22] }), none⟩,
  ⟨some 81, (.fieldAddr 75 (.tmp 4) 0), none⟩,
  ⟨none, (.store 72 (.tmp 81) (.tmp 80)), none⟩]
def x38_10 : X := .ops r38_11 [] .skip
def r38_6 : List SI := [⟨some 22, (.fieldAddr 42 (.tmp 6) 1), none⟩,
  ⟨some 23, (.load 22 (.tmp 22)), none⟩,
  ⟨some 24, (.call { callee := (.value (.func 68)), args := #[(.tmp 23)], argTypes := #[22] }), none⟩,
  ⟨some 21, (.move (.tmp 24)), none⟩,
  ⟨some 25, (.extract (.tmp 21) 0), none⟩,
  ⟨some 26, (.extract (.tmp 21) 1), none⟩,
  ⟨some 7, (.assign (.tmp 25)), none⟩,
  ⟨some 8, (.assign (.tmp 26)), none⟩]
def r38_7 : List SI := [⟨some 27, (.fieldAddr 75 (.tmp 4) 1), none⟩,
  ⟨some 28, (.load 73 (.tmp 27)), none⟩,
  ⟨some 29, (.move (.tmp 7)), none⟩,
  ⟨some 30, (.buildSlice 73 1 #[(0, (.tmp 29))]), none⟩,
  ⟨some 31, (.call { callee := (.builtin .append), args := #[(.tmp 28), (.tmp 30)], argTypes := #[73, 73] }), none⟩,
  ⟨some 32, (.fieldAddr 75 (.tmp 4) 1), none⟩,
  ⟨none, (.store 73 (.tmp 32) (.tmp 31)), none⟩]
def x38_11 : X := .ops r38_6 [7] (.ops r38_7 [] .skip)
def x38_12 : X := .trim [0, 2, 4, 5] .skip
def x38_9 : X := .cond (.tmp 70) x38_10 x38_11 x38_12
def x38_8 : X := .ops r38_10 [70] x38_9
def x38_13 : X := .trim [0, 2, 4, 5] .skip
def x38_6 : X := .cond (.tmp 33) x38_7 x38_8 x38_13
def x38_5 : X := .ops r38_8 [33] x38_6
def x38_14 : X := .trim [0, 2, 4, 5] .skip
def x38_4 : X := .ops r38_5 [6] (.block 2 x38_5 x38_14)
def r38_4 : List SI := [⟨some 15, (.move (.tmp 5)), none⟩,
  ⟨some 16, (.binOp .add 3 (.tmp 15) (.const (.int .i64 1)) 3), none⟩,
  ⟨some 5, (.assign (.tmp 16)), none⟩]
def x38_15 : X := .trim [0, 2, 4, 5] (.ops r38_4 [5] .skip)
def x38_3 : X := .block 1 x38_4 x38_15
def x38_2 : X := .ops r38_3 [14] (.cond (.tmp 14) .skip (.exit 0) x38_3)
def x38_1 : X := .loop [0, 2, 4, 5] x38_2
def r38_12 : List SI := [⟨some 83, (.load 75 (.tmp 4)), none⟩,
  ⟨some 84, (.call { callee := (.value (.func 36)), args := #[(.tmp 83)], argTypes := #[75] }), none⟩,
  ⟨some 82, (.move (.tmp 84)), none⟩,
  ⟨some 85, (.extract (.tmp 82) 0), none⟩,
  ⟨some 86, (.extract (.tmp 82) 1), none⟩,
  ⟨some 9, (.assign (.tmp 85)), none⟩,
  ⟨some 10, (.assign (.tmp 86)), none⟩]
def r38_13 : List SI := [⟨some 87, (.move (.tmp 10)), none⟩,
  ⟨some 88, (.binOp .neq 27 (.tmp 87) (.const (.int .i64 0)) 27), none⟩,
  ⟨some 89, (.move (.tmp 88)), none⟩,
  ⟨some 90, (.move (.tmp 9)), some (some 89, false)⟩,
  ⟨some 91, (.move (.tmp 0)), some (some 89, false)⟩,
  ⟨some 92, (.call { callee := (.value (.func 16)), args := #[(.tmp 90), (.tmp 91)], argTypes := #[26, 26] }), some (some 89, false)⟩,
  ⟨some 93, (.unOp .not 4 (.tmp 92)), some (some 89, false)⟩,
  ⟨some 94, (.pick (.tmp 89) (.const (.bool true)) (.tmp 93)), none⟩]
def r38_14 : List SI := [⟨some 95, (.build 75 #[]), none⟩,
  ⟨none, (.store 75 (.tmp 2) (.tmp 95)), none⟩,
  ⟨some 3, (.assign (.const (.int .i64 390))), none⟩]
def x38_18 : X := .ops r38_14 [3] .ret
def r38_15 : List SI := [⟨some 96, (.load 75 (.tmp 4)), none⟩,
  ⟨none, (.store 75 (.tmp 2) (.tmp 96)), none⟩,
  ⟨some 3, (.assign (.const (.int .i64 0))), none⟩]
def x38_19 : X := .ops r38_15 [3] .ret
def x38_17 : X := .cond (.tmp 94) x38_18 .skip x38_19
def x38_16 : X := .trim [0, 2, 4] (.ops r38_12 [9, 10] (.ops r38_13 [94] x38_17))
def x38_0 : X := .ops r38_0 [2] (.ops r38_1 [4] (.ops r38_2 [5] (.block 0 x38_1 x38_16)))
def n38 : Ann := .ops [2] (.ops [4] (.ops [5] (.block [0, 2, 4] (.loop [0, 2, 4, 5] (.ops [14] (.cond .stop .stop (.block [0, 2, 4, 5] (.ops [6] (.block [0, 2, 4, 5] (.ops [33] (.cond (.ops [] .stop) (.ops [70] (.cond (.ops [] .stop) (.ops [7] (.ops [] .stop)) (.trim [0, 2, 4, 5] .stop))) (.trim [0, 2, 4, 5] .stop))) (.trim [0, 2, 4, 5] .stop))) (.trim [0, 2, 4, 5] (.ops [5] .stop)))))) (.trim [0, 2, 4] (.ops [9, 10] (.ops [94] (.cond (.ops [3] .stop) .stop (.ops [3] .stop))))))))
theorem ok38 : annFn Try.f38 1 n38 = some x38_0 := by kernel_rfl
noncomputable def kF38 (K : V → H → Prop) : XQ := kFnX C.P Try.f38.results.toList K
theorem e38_nx {K : V → H → Prop} {e : E} {h : H} : kF38 K .nx e h = resX C.P Try.f38.results.toList e h K := nrfl (by kernel_rfl)
theorem e38_rt {K : V → H → Prop} {e : E} {h : H} : kF38 K .rt e h = resX C.P Try.f38.results.toList e h K := nrfl (by kernel_rfl)
theorem enter38 {lo : Nat} {h : H} {vs : List V} {K : V → H → Prop} (hl : vs.length = 1) (hw : XW C lo x38_0 (kF38 K) (args 0 vs) h) : CW C 38 vs lo h K := by
  refine CW_X hS rfl Try.func38 ok38 hl ?_ hw
  rw [Try.ntmps38]
  decide
theorem q38_7 {lo : Nat} {Q : XQ} {e : E} {h : H} : XW C lo x38_7 Q e h =
    bd (fieldAddrV Try.prog 42 (E.get e 6) 1) fun t1 =>
    bd (loadV Try.prog 22 t1 (H.read h)) fun t2 =>
    bd (addrV Try.prog 22 t2 (.int .i64 0)) fun t3 =>
    bd (loadV Try.prog 5 t3 (H.read h)) fun t4 =>
    bd (convV Try.prog (H.read h) 5 3 t4) fun r5 => KX h (fun t6 h7 =>
    bd (binV Try.prog .mul 3 t6 (.int .i64 16777216)) fun t8 =>
    bd (fieldAddrV Try.prog 42 (E.get e 6) 1) fun t9 =>
    bd (loadV Try.prog 22 t9 (H.read h7)) fun t10 =>
    bd (addrV Try.prog 22 t10 (.int .i64 1)) fun t11 =>
    bd (loadV Try.prog 5 t11 (H.read h7)) fun t12 =>
    bd (convV Try.prog (H.read h7) 5 3 t12) fun r13 => KX h7 (fun t14 h15 =>
    bd (binV Try.prog .mul 3 t14 (.int .i64 65536)) fun t16 =>
    bd (binV Try.prog .add 3 t8 t16) fun t17 =>
    bd (fieldAddrV Try.prog 42 (E.get e 6) 1) fun t18 =>
    bd (loadV Try.prog 22 t18 (H.read h15)) fun t19 =>
    bd (addrV Try.prog 22 t19 (.int .i64 2)) fun t20 =>
    bd (loadV Try.prog 5 t20 (H.read h15)) fun t21 =>
    bd (convV Try.prog (H.read h15) 5 3 t21) fun r22 => KX h15 (fun t23 h24 =>
    bd (binV Try.prog .mul 3 t23 (.int .i64 256)) fun t25 =>
    bd (binV Try.prog .add 3 t17 t25) fun t26 =>
    bd (fieldAddrV Try.prog 42 (E.get e 6) 1) fun t27 =>
    bd (loadV Try.prog 22 t27 (H.read h24)) fun t28 =>
    bd (addrV Try.prog 22 t28 (.int .i64 3)) fun t29 =>
    bd (loadV Try.prog 5 t29 (H.read h24)) fun t30 =>
    bd (convV Try.prog (H.read h24) 5 3 t30) fun r31 => KX h24 (fun t32 h33 =>
    bd (binV Try.prog .add 3 t26 t32) fun t34 =>
    bd (fieldAddrV Try.prog 75 (E.get e 4) 2) fun t35 =>
    bd (storeV Try.prog lo 3 t35 t34 h33) fun h36 =>
    Q .nx e h36) r31) r22) r13) r5 := nrfl (by kernel_rfl)
theorem q38_10 {lo : Nat} {Q : XQ} {e : E} {h : H} : XW C lo x38_10 Q e h =
    bd (fieldAddrV Try.prog 42 (E.get e 6) 1) fun t1 =>
    bd (loadV Try.prog 22 t1 (H.read h)) fun t2 =>
    CW C 67 [t2] lo h fun t3 h4 =>
    bd (fieldAddrV Try.prog 75 (E.get e 4) 0) fun t5 =>
    bd (storeV Try.prog lo 72 t5 t3 h4) fun h6 =>
    Q .nx e h6 := nrfl (by kernel_rfl)
theorem q38_11 {lo : Nat} {Q : XQ} {e : E} {h : H} : XW C lo x38_11 Q e h =
    bd (fieldAddrV Try.prog 42 (E.get e 6) 1) fun t1 =>
    bd (loadV Try.prog 22 t1 (H.read h)) fun t2 =>
    CW C 68 [t2] lo h fun t3 h4 =>
    tupX t3 fun l5 => bd (l5[0]?) fun t6 =>
    tupX t3 fun l7 => bd (l7[1]?) fun t8 =>
    bd (fieldAddrV Try.prog 75 (E.get e 4) 1) fun t9 =>
    bd (loadV Try.prog 73 t9 (H.read h4)) fun t10 =>
    bd (buildSliceV Try.prog 73 1 [(0, t6)]) fun r11 => KX h4 (fun t12 h13 =>
    bd2 (appendV Try.prog lo [73, 73] t10 t12 h13) fun t14 h15 =>
    bd (fieldAddrV Try.prog 75 (E.get e 4) 1) fun t16 =>
    bd (storeV Try.prog lo 73 t16 t14 h15) fun h17 =>
    Q .nx ((7, t6) :: e) h17) r11 := nrfl (by kernel_rfl)
theorem q38_12 {lo : Nat} {Q : XQ} {e : E} {h : H} : XW C lo x38_12 Q e h =
    Q .nx [(0, E.get e 0), (2, E.get e 2), (4, E.get e 4), (5, E.get e 5)] h := nrfl (by kernel_rfl)
theorem q38_9 {lo : Nat} {Q : XQ} {e : E} {h : H} : XW C lo x38_9 Q e h =
    byV (E.get e 70) (XW C lo x38_10 (kX (XW C lo x38_12 Q) Q) e h) (XW C lo x38_11 (kX (XW C lo x38_12 Q) Q) e h) False := nrfl (by kernel_rfl)
theorem q38_8 {lo : Nat} {Q : XQ} {e : E} {h : H} : XW C lo x38_8 Q e h =
    bd (fieldAddrV Try.prog 42 (E.get e 6) 0) fun t1 =>
    bd (loadV Try.prog 40 t1 (H.read h)) fun t2 =>
    bdB (binV Try.prog .eql 40 t2 (.int .u8 6)) fun b3 =>
    byT b3 (bdB (binV Try.prog .eql 3 (E.get e 5) (.int .i64 0)) fun b4 =>
    byT b4 (XW C lo x38_10 (kX (XW C lo x38_12 Q) Q) ((70, .bool b4) :: e) h) (XW C lo x38_11 (kX (XW C lo x38_12 Q) Q) ((70, .bool b4) :: e) h)) (XW C lo x38_11 (kX (XW C lo x38_12 Q) Q) ((70, .bool false) :: e) h) := nrfl (by kernel_rfl)
theorem q38_13 {lo : Nat} {Q : XQ} {e : E} {h : H} : XW C lo x38_13 Q e h =
    Q .nx [(0, E.get e 0), (2, E.get e 2), (4, E.get e 4), (5, E.get e 5)] h := nrfl (by kernel_rfl)
theorem q38_6 {lo : Nat} {Q : XQ} {e : E} {h : H} : XW C lo x38_6 Q e h =
    byV (E.get e 33) (XW C lo x38_7 (kX (XW C lo x38_13 Q) Q) e h) (XW C lo x38_8 (kX (XW C lo x38_13 Q) Q) e h) False := nrfl (by kernel_rfl)
theorem z38_5 {lo : Nat} {Z : E → H → Prop} {e : E} {h : H} : LX C lo r38_8 (fun e1 h1 => Z (outs [33] e1 e) h1) e h =
    bd (fieldAddrV Try.prog 42 (E.get e 6) 0) fun t1 =>
    bd (loadV Try.prog 40 t1 (H.read h)) fun t2 =>
    bdB (binV Try.prog .eql 40 t2 (.int .u8 7)) fun b3 =>
    byT b3 (bd (fieldAddrV Try.prog 42 (E.get e 6) 1) fun t4 =>
    bd (loadV Try.prog 22 t4 (H.read h)) fun t5 =>
    bd (lenV Try.prog [22] t5) fun t6 =>
    bdB (binV Try.prog .eql 3 t6 (.int .i64 4)) fun b7 =>
    Z ((33, .bool b7) :: e) h) (Z ((33, .bool false) :: e) h) := nrfl (by kernel_rfl)
theorem q38_5 {lo : Nat} {Q : XQ} {e : E} {h : H} : XW C lo x38_5 Q e h =
    bd (fieldAddrV Try.prog 42 (E.get e 6) 0) fun t1 =>
    bd (loadV Try.prog 40 t1 (H.read h)) fun t2 =>
    bdB (binV Try.prog .eql 40 t2 (.int .u8 7)) fun b3 =>
    byT b3 (bd (fieldAddrV Try.prog 42 (E.get e 6) 1) fun t4 =>
    bd (loadV Try.prog 22 t4 (H.read h)) fun t5 =>
    bd (lenV Try.prog [22] t5) fun t6 =>
    bdB (binV Try.prog .eql 3 t6 (.int .i64 4)) fun b7 =>
    XW C lo x38_6 Q ((33, .bool b7) :: e) h) (XW C lo x38_6 Q ((33, .bool false) :: e) h) :=
  (opsblkCodeAN (l := r38_8) (out := [33]) (k := x38_6)).trans (z38_5 (Z := fun e1 h1 => XW C lo x38_6 Q e1 h1))
theorem q38_14 {lo : Nat} {Q : XQ} {e : E} {h : H} : XW C lo x38_14 Q e h =
    Q .nx [(0, E.get e 0), (2, E.get e 2), (4, E.get e 4), (5, E.get e 5)] h := nrfl (by kernel_rfl)
theorem z38_4 {lo : Nat} {Q : XQ} {Z : E → H → Prop} {e : E} {h : H} : LX C lo r38_5 (fun e1 h1 => Z (outs [6] e1 e) h1) e h =
    bd (addrV Try.prog 26 (E.get e 0) (E.get e 5)) fun t1 =>
    bd (loadV Try.prog 42 t1 (H.read h)) fun t2 =>
    bd (zero? Try.prog 42) fun z3 =>
    bd (storeV Try.prog lo 42 (.ptr (H.next h) 0) t2 (H.alloc h (V.cells z3))) fun h4 =>
    Z ((6, .ptr (H.next h) 0) :: e) h4 := nrfl (by kernel_rfl)
theorem q38_4 {lo : Nat} {Q : XQ} {e : E} {h : H} : XW C lo x38_4 Q e h =
    bd (addrV Try.prog 26 (E.get e 0) (E.get e 5)) fun t1 =>
    bd (loadV Try.prog 42 t1 (H.read h)) fun t2 =>
    bd (zero? Try.prog 42) fun z3 =>
    bd (storeV Try.prog lo 42 (.ptr (H.next h) 0) t2 (H.alloc h (V.cells z3))) fun h4 =>
    XW C lo x38_5 (kXB 2 (XW C lo x38_14 Q) Q) ((6, .ptr (H.next h) 0) :: e) h4 :=
  (opsblkCodeA (l := r38_5) (out := [6]) (id := 2) (b := x38_5) (k := x38_14)).trans (z38_4 (Q := Q) (Z := fun e1 h1 => XW C lo x38_5 (kXB 2 (XW C lo x38_14 Q) Q) e1 h1))
theorem q38_15 {lo : Nat} {Q : XQ} {e : E} {h : H} : XW C lo x38_15 Q e h =
    bd (binV Try.prog .add 3 (E.get e 5) (.int .i64 1)) fun t1 =>
    Q .nx [(5, t1), (0, E.get e 0), (2, E.get e 2), (4, E.get e 4), (5, E.get e 5)] h := nrfl (by kernel_rfl)
theorem q38_3 {lo : Nat} {Q : XQ} {e : E} {h : H} : XW C lo x38_3 Q e h =
    XW C lo x38_4 (kXB 1 (XW C lo x38_15 Q) Q) e h := nrfl (by kernel_rfl)
theorem q38_2 {lo : Nat} {Q : XQ} {e : E} {h : H} : XW C lo x38_2 Q e h =
    bd (lenV Try.prog [26] (E.get e 0)) fun t1 =>
    bdB (binV Try.prog .lss 3 (E.get e 5) t1) fun b2 =>
    byT b2 (XW C lo .skip (kX (XW C lo x38_3 Q) Q) ((14, .bool b2) :: e) h) (XW C lo (.exit 0) (kX (XW C lo x38_3 Q) Q) ((14, .bool b2) :: e) h) := nrfl (by kernel_rfl)
theorem q38_1 {lo : Nat} {Q : XQ} {e : E} {h : H} : XW C lo x38_1 Q e h =
    ∃ n, loopX [0, 2, 4, 5] (XW C lo x38_2) Q n e h := nrfl (by kernel_rfl)
theorem q38_18 {lo : Nat} {Q : XQ} {e : E} {h : H} : XW C lo x38_18 Q e h =
    bd (buildV Try.prog 75 []) fun t1 =>
    bd (storeV Try.prog lo 75 (E.get e 2) t1 h) fun h2 =>
    Q .rt ((3, .int .i64 390) :: e) h2 := nrfl (by kernel_rfl)
theorem q38_19 {lo : Nat} {Q : XQ} {e : E} {h : H} : XW C lo x38_19 Q e h =
    bd (loadV Try.prog 75 (E.get e 4) (H.read h)) fun t1 =>
    bd (storeV Try.prog lo 75 (E.get e 2) t1 h) fun h2 =>
    Q .rt ((3, .int .i64 0) :: e) h2 := nrfl (by kernel_rfl)
theorem q38_17 {lo : Nat} {Q : XQ} {e : E} {h : H} : XW C lo x38_17 Q e h =
    byV (E.get e 94) (XW C lo x38_18 (kX (XW C lo x38_19 Q) Q) e h) (XW C lo .skip (kX (XW C lo x38_19 Q) Q) e h) False := nrfl (by kernel_rfl)
theorem q38_16 {lo : Nat} {Q : XQ} {e : E} {h : H} : XW C lo x38_16 Q e h =
    bd (loadV Try.prog 75 (E.get e 4) (H.read h)) fun t1 =>
    CW C 36 [t1] lo h fun t2 h3 =>
    tupX t2 fun l4 => bd (l4[0]?) fun t5 =>
    tupX t2 fun l6 => bd (l6[1]?) fun t7 =>
    bdB (binV Try.prog .neq 27 t7 (.int .i64 0)) fun b8 =>
    byT b8 (XW C lo x38_18 (kX (XW C lo x38_19 Q) Q) [(94, .bool true), (9, t5), (10, t7), (0, E.get e 0), (2, E.get e 2), (4, E.get e 4)] h3) (CW C 16 [t5, E.get e 0] lo h3 fun t9 h10 =>
    bd (unV .not t9) fun t11 =>
    byV t11 (XW C lo x38_18 (kX (XW C lo x38_19 Q) Q) [(94, t11), (9, t5), (10, t7), (0, E.get e 0), (2, E.get e 2), (4, E.get e 4)] h10) (XW C lo .skip (kX (XW C lo x38_19 Q) Q) [(94, t11), (9, t5), (10, t7), (0, E.get e 0), (2, E.get e 2), (4, E.get e 4)] h10) False) := nrfl (by kernel_rfl)
theorem q38_0 {lo : Nat} {Q : XQ} {e : E} {h : H} : XW C lo x38_0 Q e h =
    bd (zero? Try.prog 75) fun z1 =>
    bd (zero? Try.prog 75) fun z2 =>
    XW C lo x38_1 (kXB 0 (XW C lo x38_16 Q) Q) ((5, .int .i64 0) :: (4, .ptr (H.next (H.alloc h (V.cells z1))) 0) :: (2, .ptr (H.next h) 0) :: e) (H.alloc (H.alloc h (V.cells z1)) (V.cells z2)) := nrfl (by kernel_rfl)

/-! ### chancery/chanceryref29.names -/
def r67_0 : List SI := [⟨some 2, (.assign (.const (.slice none 0 0))), none⟩]
def r67_1 : List SI := [⟨some 3, (.assign (.const (.slice none 0 0))), none⟩]
def r67_2 : List SI := [⟨some 4, (.assign (.const (.int .i64 1))), none⟩]
def r67_3 : List SI := [⟨some 6, (.move (.tmp 4)), none⟩,
  ⟨some 7, (.move (.tmp 0)), none⟩,
  ⟨some 8, (.call { callee := (.builtin .len), args := #[(.tmp 7)], argTypes := #[22] }), none⟩,
  ⟨some 9, (.binOp .lss 3 (.tmp 6) (.tmp 8) 3), none⟩]
def r67_4 : List SI := [⟨some 10, (.move (.tmp 0)), none⟩,
  ⟨some 11, (.move (.tmp 4)), none⟩,
  ⟨some 12, (.indexAddr 22 (.tmp 10) (.tmp 11)), none⟩,
  ⟨some 13, (.load 5 (.tmp 12)), none⟩,
  ⟨some 14, (.convert 5 3 (.tmp 13)), none⟩,
  ⟨some 5, (.assign (.tmp 14)), none⟩]
def r67_5 : List SI := [⟨some 15, (.move (.tmp 4)), none⟩,
  ⟨some 16, (.binOp .add 3 (.tmp 15) (.const (.int .i64 1)) 3), none⟩,
  ⟨some 17, (.move (.tmp 5)), none⟩,
  ⟨some 18, (.binOp .add 3 (.tmp 16) (.tmp 17) 3), none⟩,
  ⟨some 19, (.move (.tmp 0)), none⟩,
  ⟨some 20, (.call { callee := (.builtin .len), args := #[(.tmp 19)], argTypes := #[22] }), none⟩,
  ⟨some 21, (.binOp .gtr 3 (.tmp 18) (.tmp 20) 3), none⟩]
def r67_6 : List SI := [⟨some 22, (.move (.tmp 3)), none⟩,
  ⟨some 2, (.assign (.tmp 22)), none⟩]
def x67_5 : X := .ops r67_6 [2] .ret
def r67_7 : List SI := [⟨some 23, (.move (.tmp 3)), none⟩,
  ⟨some 24, (.move (.tmp 0)), none⟩,
  ⟨some 25, (.move (.tmp 4)), none⟩,
  ⟨some 26, (.binOp .add 3 (.tmp 25) (.const (.int .i64 1)) 3), none⟩,
  ⟨some 27, (.move (.tmp 4)), none⟩,
  ⟨some 28, (.binOp .add 3 (.tmp 27) (.const (.int .i64 1)) 3), none⟩,
  ⟨some 29, (.move (.tmp 5)), none⟩,
  ⟨some 30, (.binOp .add 3 (.tmp 28) (.tmp 29) 3), none⟩,
  ⟨some 31, (.slice 22 (.tmp 24) (some (.tmp 26)) (some (.tmp 30)) none), none⟩,
  ⟨some 32, (.convert 22 9 (.tmp 31)), none⟩,
  ⟨some 33, (.buildSlice 72 1 #[(0, (.tmp 32))]), none⟩,
  ⟨some 34, (.call { callee := (.builtin .append), args := #[(.tmp 23), (.tmp 33)], argTypes := #[72, 72] }), none⟩,
  ⟨some 3, (.assign (.tmp 34)), none⟩]
def r67_8 : List SI := [⟨some 35, (.move (.tmp 4)), none⟩,
  ⟨some 36, (.binOp .add 3 (.tmp 35) (.const (.int .i64 1)) 3), none⟩,
  ⟨some 37, (.move (.tmp 5)), none⟩,
  ⟨some 38, (.binOp .add 3 (.tmp 36) (.tmp 37) 3), none⟩,
  ⟨some 4, (.assign (.tmp 38)), none⟩]
def x67_6 : X := .ops r67_7 [3] (.ops r67_8 [4] .skip)
def x67_4 : X := .ops r67_4 [5] (.ops r67_5 [21] (.cond (.tmp 21) x67_5 .skip x67_6))
def x67_7 : X := .trim [0, 3, 4] .skip
def x67_3 : X := .block 1 x67_4 x67_7
def x67_2 : X := .ops r67_3 [9] (.cond (.tmp 9) .skip (.exit 0) x67_3)
def x67_1 : X := .loop [0, 3, 4] x67_2
def r67_9 : List SI := [⟨some 39, (.move (.tmp 3)), none⟩,
  ⟨some 2, (.assign (.tmp 39)), none⟩]
def x67_8 : X := .trim [3] (.ops r67_9 [2] .ret)
def x67_0 : X := .ops r67_0 [] (.ops r67_1 [3] (.ops r67_2 [4] (.block 0 x67_1 x67_8)))
def n67 : Ann := .ops [] (.ops [3] (.ops [4] (.block [3] (.loop [0, 3, 4] (.ops [9] (.cond .stop .stop (.block [0, 3, 4] (.ops [5] (.ops [21] (.cond (.ops [2] .stop) .stop (.ops [3] (.ops [4] .stop))))) (.trim [0, 3, 4] .stop))))) (.trim [3] (.ops [2] .stop)))))
theorem ok67 : annFn Try.f67 1 n67 = some x67_0 := by kernel_rfl
noncomputable def kF67 (K : V → H → Prop) : XQ := kFnX C.P Try.f67.results.toList K
theorem e67_nx {K : V → H → Prop} {e : E} {h : H} : kF67 K .nx e h = K (E.get e 2) h := nrfl (by kernel_rfl)
theorem e67_rt {K : V → H → Prop} {e : E} {h : H} : kF67 K .rt e h = K (E.get e 2) h := nrfl (by kernel_rfl)
theorem enter67 {lo : Nat} {h : H} {vs : List V} {K : V → H → Prop} (hl : vs.length = 1) (hw : XW C lo x67_0 (kF67 K) (args 0 vs) h) : CW C 67 vs lo h K := by
  refine CW_X hS rfl Try.func67 ok67 hl ?_ hw
  rw [Try.ntmps67]
  decide
theorem q67_5 {lo : Nat} {Q : XQ} {e : E} {h : H} : XW C lo x67_5 Q e h =
    Q .rt ((2, E.get e 3) :: e) h := nrfl (by kernel_rfl)
theorem q67_6 {lo : Nat} {Q : XQ} {e : E} {h : H} : XW C lo x67_6 Q e h =
    bd (binV Try.prog .add 3 (E.get e 4) (.int .i64 1)) fun t1 =>
    bd (binV Try.prog .add 3 (E.get e 4) (.int .i64 1)) fun t2 =>
    bd (binV Try.prog .add 3 t2 (E.get e 5)) fun t3 =>
    bd (sliceV Try.prog (H.read h) 22 (E.get e 0) (some t1) (some t3) none) fun t4 =>
    bd (convV Try.prog (H.read h) 22 9 t4) fun r5 => KX h (fun t6 h7 =>
    bd (buildSliceV Try.prog 72 1 [(0, t6)]) fun r8 => KX h7 (fun t9 h10 =>
    bd2 (appendV Try.prog lo [72, 72] (E.get e 3) t9 h10) fun t11 h12 =>
    bd (binV Try.prog .add 3 (E.get e 4) (.int .i64 1)) fun t13 =>
    bd (binV Try.prog .add 3 t13 (E.get e 5)) fun t14 =>
    Q .nx ((4, t14) :: (3, t11) :: e) h12) r8) r5 := nrfl (by kernel_rfl)
theorem q67_4 {lo : Nat} {Q : XQ} {e : E} {h : H} : XW C lo x67_4 Q e h =
    bd (addrV Try.prog 22 (E.get e 0) (E.get e 4)) fun t1 =>
    bd (loadV Try.prog 5 t1 (H.read h)) fun t2 =>
    bd (convV Try.prog (H.read h) 5 3 t2) fun r3 => KX h (fun t4 h5 =>
    bd (binV Try.prog .add 3 (E.get e 4) (.int .i64 1)) fun t6 =>
    bd (binV Try.prog .add 3 t6 t4) fun t7 =>
    bd (lenV Try.prog [22] (E.get e 0)) fun t8 =>
    bdB (binV Try.prog .gtr 3 t7 t8) fun b9 =>
    byT b9 (XW C lo x67_5 (kX (XW C lo x67_6 Q) Q) ((21, .bool b9) :: (5, t4) :: e) h5) (XW C lo .skip (kX (XW C lo x67_6 Q) Q) ((21, .bool b9) :: (5, t4) :: e) h5)) r3 := nrfl (by kernel_rfl)
theorem q67_7 {lo : Nat} {Q : XQ} {e : E} {h : H} : XW C lo x67_7 Q e h =
    Q .nx [(0, E.get e 0), (3, E.get e 3), (4, E.get e 4)] h := nrfl (by kernel_rfl)
theorem q67_3 {lo : Nat} {Q : XQ} {e : E} {h : H} : XW C lo x67_3 Q e h =
    XW C lo x67_4 (kXB 1 (XW C lo x67_7 Q) Q) e h := nrfl (by kernel_rfl)
theorem q67_2 {lo : Nat} {Q : XQ} {e : E} {h : H} : XW C lo x67_2 Q e h =
    bd (lenV Try.prog [22] (E.get e 0)) fun t1 =>
    bdB (binV Try.prog .lss 3 (E.get e 4) t1) fun b2 =>
    byT b2 (XW C lo .skip (kX (XW C lo x67_3 Q) Q) ((9, .bool b2) :: e) h) (XW C lo (.exit 0) (kX (XW C lo x67_3 Q) Q) ((9, .bool b2) :: e) h) := nrfl (by kernel_rfl)
theorem q67_1 {lo : Nat} {Q : XQ} {e : E} {h : H} : XW C lo x67_1 Q e h =
    ∃ n, loopX [0, 3, 4] (XW C lo x67_2) Q n e h := nrfl (by kernel_rfl)
theorem q67_8 {lo : Nat} {Q : XQ} {e : E} {h : H} : XW C lo x67_8 Q e h =
    Q .rt [(2, E.get e 3), (3, E.get e 3)] h := nrfl (by kernel_rfl)
theorem q67_0 {lo : Nat} {Q : XQ} {e : E} {h : H} : XW C lo x67_0 Q e h =
    XW C lo x67_1 (kXB 0 (XW C lo x67_8 Q) Q) ((4, .int .i64 1) :: (3, .nils) :: e) h := nrfl (by kernel_rfl)

/-! ### chancery/chanceryref18.Row -/
def r64_0 : List SI := [⟨some 2, (.assign (.const (.slice none 0 0))), none⟩,
  ⟨some 3, (.assign (.const (.int .i64 0))), none⟩]
def r64_1 : List SI := [⟨some 4, (.assign (.const (.int .i64 0))), none⟩]
def r64_2 : List SI := [⟨some 8, (.move (.tmp 4)), none⟩,
  ⟨some 9, (.move (.tmp 0)), none⟩,
  ⟨some 10, (.call { callee := (.builtin .len), args := #[(.tmp 9)], argTypes := #[48] }), none⟩,
  ⟨some 11, (.binOp .lss 3 (.tmp 8) (.tmp 10) 3), none⟩]
def r64_4 : List SI := [⟨some 14, (.move (.tmp 0)), none⟩,
  ⟨some 15, (.move (.tmp 4)), none⟩,
  ⟨some 16, (.indexAddr 48 (.tmp 14) (.tmp 15)), none⟩,
  ⟨some 17, (.load 60 (.tmp 16)), none⟩,
  ⟨some 18, (.call { callee := (.value (.func 78)), args := #[(.tmp 17)], argTypes := #[60] }), none⟩,
  ⟨some 19, (.unOp .not 4 (.tmp 18)), none⟩]
def r64_5 : List SI := [⟨some 2, (.assign (.const (.slice none 0 0))), none⟩,
  ⟨some 3, (.assign (.const (.int .i64 2))), none⟩]
def x64_5 : X := .ops r64_5 [2, 3] .ret
def x64_4 : X := .ops r64_4 [19] (.cond (.tmp 19) x64_5 .skip .skip)
def r64_3 : List SI := [⟨some 12, (.move (.tmp 4)), none⟩,
  ⟨some 13, (.binOp .add 3 (.tmp 12) (.const (.int .i64 1)) 3), none⟩,
  ⟨some 4, (.assign (.tmp 13)), none⟩]
def x64_6 : X := .trim [0, 4] (.ops r64_3 [4] .skip)
def x64_3 : X := .block 1 x64_4 x64_6
def x64_2 : X := .ops r64_2 [11] (.cond (.tmp 11) .skip (.exit 0) x64_3)
def x64_1 : X := .loop [0, 4] x64_2
def r64_6 : List SI := [⟨some 20, (.move (.tmp 0)), none⟩,
  ⟨some 21, (.call { callee := (.builtin .len), args := #[(.tmp 20)], argTypes := #[48] }), none⟩,
  ⟨some 22, (.binOp .gtr 3 (.tmp 21) (.const (.int .i64 12)) 3), none⟩]
def r64_7 : List SI := [⟨some 2, (.assign (.const (.slice none 0 0))), none⟩,
  ⟨some 3, (.assign (.const (.int .i64 3))), none⟩]
def x64_8 : X := .ops r64_7 [2, 3] .ret
def r64_8 : List SI := [⟨some 23, (.move (.tmp 0)), none⟩,
  ⟨some 24, (.call { callee := (.builtin .len), args := #[(.tmp 23)], argTypes := #[48] }), none⟩,
  ⟨some 25, (.convert 3 5 (.tmp 24)), none⟩,
  ⟨some 26, (.buildSlice 22 1 #[(0, (.tmp 25))]), none⟩,
  ⟨some 5, (.assign (.tmp 26)), none⟩]
def r64_9 : List SI := [⟨some 6, (.assign (.const (.int .i64 0))), none⟩]
def r64_10 : List SI := [⟨some 27, (.move (.tmp 6)), none⟩,
  ⟨some 28, (.move (.tmp 0)), none⟩,
  ⟨some 29, (.call { callee := (.builtin .len), args := #[(.tmp 28)], argTypes := #[48] }), none⟩,
  ⟨some 30, (.binOp .lss 3 (.tmp 27) (.tmp 29) 3), none⟩]
def r64_12 : List SI := [⟨some 33, (.move (.tmp 0)), none⟩,
  ⟨some 34, (.move (.tmp 6)), none⟩,
  ⟨some 35, (.indexAddr 48 (.tmp 33) (.tmp 34)), none⟩,
  ⟨some 36, (.load 60 (.tmp 35)), none⟩,
  ⟨some 7, (.alloc 60), none⟩,
  ⟨none, (.store 60 (.tmp 7) (.tmp 36)), none⟩]
def r64_13 : List SI := [⟨some 37, (.move (.tmp 5)), none⟩,
  ⟨some 38, (.fieldAddr 60 (.tmp 7) 0), none⟩,
  ⟨some 39, (.load 58 (.tmp 38)), none⟩,
  ⟨some 40, (.buildSlice 22 1 #[(0, (.tmp 39))]), none⟩,
  ⟨some 41, (.call { callee := (.builtin .append), args := #[(.tmp 37), (.tmp 40)], argTypes := #[22, 22] }), none⟩,
  ⟨some 5, (.assign (.tmp 41)), none⟩]
def r64_14 : List SI := [⟨some 42, (.fieldAddr 60 (.tmp 7) 0), none⟩,
  ⟨some 43, (.load 58 (.tmp 42)), none⟩]
def r64_15 : List SI := [⟨some 45, (.binOp .eql 58 (.tmp 43) (.const (.int .u8 1)) 58), none⟩,
  ⟨some 44, (.assign (.tmp 45)), none⟩]
def r64_16 : List SI := [⟨some 46, (.move (.tmp 5)), none⟩,
  ⟨some 47, (.fieldAddr 60 (.tmp 7) 1), none⟩,
  ⟨some 48, (.load 2 (.tmp 47)), none⟩,
  ⟨some 49, (.convert 2 5 (.tmp 48)), none⟩,
  ⟨some 50, (.buildSlice 22 1 #[(0, (.tmp 49))]), none⟩,
  ⟨some 51, (.call { callee := (.builtin .append), args := #[(.tmp 46), (.tmp 50)], argTypes := #[22, 22] }), none⟩,
  ⟨some 5, (.assign (.tmp 51)), none⟩]
def x64_15 : X := .ops r64_16 [5] .skip
def r64_17 : List SI := [⟨some 53, (.binOp .eql 58 (.tmp 43) (.const (.int .u8 2)) 58), none⟩,
  ⟨some 52, (.assign (.tmp 53)), none⟩]
def r64_18 : List SI := [⟨some 54, (.binOp .eql 58 (.tmp 43) (.const (.int .u8 3)) 58), none⟩,
  ⟨some 52, (.assign (.tmp 54)), none⟩]
def x64_17 : X := .ops r64_18 [52] .skip
def r64_19 : List SI := [⟨some 55, (.move (.tmp 5)), none⟩,
  ⟨some 56, (.fieldAddr 60 (.tmp 7) 1), none⟩,
  ⟨some 57, (.load 2 (.tmp 56)), none⟩,
  ⟨some 58, (.convert 2 92 (.tmp 57)), none⟩,
  ⟨some 59, (.call { callee := (.value (.func 79)), args := #[(.tmp 58)], argTypes := #[92] }), none⟩,
  ⟨some 60, (.call { callee := (.builtin .append), args := #[(.tmp 55), (.tmp 59)], argTypes := #[22, 22] }), none⟩,
  ⟨some 5, (.assign (.tmp 60)), none⟩]
def x64_19 : X := .ops r64_19 [5] .skip
def r64_20 : List SI := [⟨some 62, (.binOp .eql 58 (.tmp 43) (.const (.int .u8 4)) 58), none⟩,
  ⟨some 61, (.assign (.tmp 62)), none⟩]
def r64_21 : List SI := [⟨some 63, (.binOp .eql 58 (.tmp 43) (.const (.int .u8 5)) 58), none⟩,
  ⟨some 61, (.assign (.tmp 63)), none⟩]
def x64_21 : X := .ops r64_21 [61] .skip
def r64_22 : List SI := [⟨some 64, (.move (.tmp 5)), none⟩,
  ⟨some 65, (.fieldAddr 60 (.tmp 7) 2), none⟩,
  ⟨some 66, (.load 9 (.tmp 65)), none⟩,
  ⟨some 67, (.call { callee := (.builtin .len), args := #[(.tmp 66)], argTypes := #[9] }), none⟩,
  ⟨some 68, (.convert 3 5 (.tmp 67)), none⟩,
  ⟨some 69, (.buildSlice 22 1 #[(0, (.tmp 68))]), none⟩,
  ⟨some 70, (.call { callee := (.builtin .append), args := #[(.tmp 64), (.tmp 69)], argTypes := #[22, 22] }), none⟩,
  ⟨some 5, (.assign (.tmp 70)), none⟩]
def r64_23 : List SI := [⟨some 71, (.move (.tmp 5)), none⟩,
  ⟨some 72, (.fieldAddr 60 (.tmp 7) 2), none⟩,
  ⟨some 73, (.load 9 (.tmp 72)), none⟩,
  ⟨some 74, (.call { callee := (.builtin .append), args := #[(.tmp 71), (.tmp 73)], argTypes := #[22, 9] }), none⟩,
  ⟨some 5, (.assign (.tmp 74)), none⟩]
def x64_23 : X := .ops r64_22 [5] (.ops r64_23 [5] .skip)
def x64_24 : X := .trim [0, 5, 6] .skip
def x64_22 : X := .trim [0, 5, 6, 7, 61] (.cond (.tmp 61) x64_23 .skip x64_24)
def x64_20 : X := .ops r64_20 [61] (.cond (.tmp 61) .skip x64_21 x64_22)
def x64_25 : X := .trim [0, 5, 6] .skip
def x64_18 : X := .trim [0, 5, 6, 7, 43, 52] (.cond (.tmp 52) x64_19 x64_20 x64_25)
def x64_16 : X := .ops r64_17 [52] (.cond (.tmp 52) .skip x64_17 x64_18)
def x64_26 : X := .trim [0, 5, 6] .skip
def x64_14 : X := .ops r64_15 [44] (.cond (.tmp 44) x64_15 x64_16 x64_26)
def x64_27 : X := .trim [0, 5, 6] .skip
def x64_13 : X := .ops r64_12 [7] (.ops r64_13 [5] (.ops r64_14 [43] (.block 4 x64_14 x64_27)))
def r64_11 : List SI := [⟨some 31, (.move (.tmp 6)), none⟩,
  ⟨some 32, (.binOp .add 3 (.tmp 31) (.const (.int .i64 1)) 3), none⟩,
  ⟨some 6, (.assign (.tmp 32)), none⟩]
def x64_28 : X := .trim [0, 5, 6] (.ops r64_11 [6] .skip)
def x64_12 : X := .block 3 x64_13 x64_28
def x64_11 : X := .ops r64_10 [30] (.cond (.tmp 30) .skip (.exit 2) x64_12)
def x64_10 : X := .loop [0, 5, 6] x64_11
def r64_24 : List SI := [⟨some 75, (.move (.tmp 5)), none⟩,
  ⟨some 76, (.call { callee := (.builtin .len), args := #[(.tmp 75)], argTypes := #[22] }), none⟩,
  ⟨some 77, (.binOp .gtr 3 (.tmp 76) (.const (.int .i64 480)) 3), none⟩]
def r64_25 : List SI := [⟨some 2, (.assign (.const (.slice none 0 0))), none⟩,
  ⟨some 3, (.assign (.const (.int .i64 3))), none⟩]
def x64_30 : X := .ops r64_25 [2, 3] .ret
def r64_26 : List SI := [⟨some 78, (.move (.tmp 5)), none⟩,
  ⟨some 2, (.assign (.tmp 78)), none⟩,
  ⟨some 3, (.assign (.const (.int .i64 0))), none⟩]
def x64_31 : X := .ops r64_26 [2, 3] .ret
def x64_29 : X := .trim [5] (.ops r64_24 [77] (.cond (.tmp 77) x64_30 .skip x64_31))
def x64_9 : X := .ops r64_8 [5] (.ops r64_9 [6] (.block 2 x64_10 x64_29))
def x64_7 : X := .trim [0] (.ops r64_6 [22] (.cond (.tmp 22) x64_8 .skip x64_9))
def x64_0 : X := .ops r64_0 [] (.ops r64_1 [4] (.block 0 x64_1 x64_7))
def n64 : Ann := .ops [] (.ops [4] (.block [0] (.loop [0, 4] (.ops [11] (.cond .stop .stop (.block [0, 4] (.ops [19] (.cond (.ops [2, 3] .stop) .stop .stop)) (.trim [0, 4] (.ops [4] .stop)))))) (.trim [0] (.ops [22] (.cond (.ops [2, 3] .stop) .stop (.ops [5] (.ops [6] (.block [5] (.loop [0, 5, 6] (.ops [30] (.cond .stop .stop (.block [0, 5, 6] (.ops [7] (.ops [5] (.ops [43] (.block [0, 5, 6] (.ops [44] (.cond (.ops [5] .stop) (.ops [52] (.cond .stop (.ops [52] .stop) (.trim [0, 5, 6, 7, 43, 52] (.cond (.ops [5] .stop) (.ops [61] (.cond .stop (.ops [61] .stop) (.trim [0, 5, 6, 7, 61] (.cond (.ops [5] (.ops [5] .stop)) .stop (.trim [0, 5, 6] .stop))))) (.trim [0, 5, 6] .stop))))) (.trim [0, 5, 6] .stop))) (.trim [0, 5, 6] .stop))))) (.trim [0, 5, 6] (.ops [6] .stop)))))) (.trim [5] (.ops [77] (.cond (.ops [2, 3] .stop) .stop (.ops [2, 3] .stop))))))))))))
theorem ok64 : annFn Try.f64 1 n64 = some x64_0 := by kernel_rfl
noncomputable def kF64 (K : V → H → Prop) : XQ := kFnX C.P Try.f64.results.toList K
theorem e64_nx {K : V → H → Prop} {e : E} {h : H} : kF64 K .nx e h = K (.tup [E.get e 2, E.get e 3]) h := nrfl (by kernel_rfl)
theorem e64_rt {K : V → H → Prop} {e : E} {h : H} : kF64 K .rt e h = K (.tup [E.get e 2, E.get e 3]) h := nrfl (by kernel_rfl)
theorem enter64 {lo : Nat} {h : H} {vs : List V} {K : V → H → Prop} (hl : vs.length = 1) (hw : XW C lo x64_0 (kF64 K) (args 0 vs) h) : CW C 64 vs lo h K := by
  refine CW_X hS rfl Try.func64 ok64 hl ?_ hw
  rw [Try.ntmps64]
  decide
theorem q64_5 {lo : Nat} {Q : XQ} {e : E} {h : H} : XW C lo x64_5 Q e h =
    Q .rt ((2, .nils) :: (3, .int .i64 2) :: e) h := nrfl (by kernel_rfl)
theorem q64_4 {lo : Nat} {Q : XQ} {e : E} {h : H} : XW C lo x64_4 Q e h =
    bd (addrV Try.prog 48 (E.get e 0) (E.get e 4)) fun t1 =>
    bd (loadV Try.prog 60 t1 (H.read h)) fun t2 =>
    CW C 78 [t2] lo h fun t3 h4 =>
    bd (unV .not t3) fun t5 =>
    byV t5 (XW C lo x64_5 (kX (XW C lo .skip Q) Q) ((19, t5) :: e) h4) (XW C lo .skip (kX (XW C lo .skip Q) Q) ((19, t5) :: e) h4) False := nrfl (by kernel_rfl)
theorem q64_6 {lo : Nat} {Q : XQ} {e : E} {h : H} : XW C lo x64_6 Q e h =
    bd (binV Try.prog .add 3 (E.get e 4) (.int .i64 1)) fun t1 =>
    Q .nx [(4, t1), (0, E.get e 0), (4, E.get e 4)] h := nrfl (by kernel_rfl)
theorem q64_3 {lo : Nat} {Q : XQ} {e : E} {h : H} : XW C lo x64_3 Q e h =
    XW C lo x64_4 (kXB 1 (XW C lo x64_6 Q) Q) e h := nrfl (by kernel_rfl)
theorem q64_2 {lo : Nat} {Q : XQ} {e : E} {h : H} : XW C lo x64_2 Q e h =
    bd (lenV Try.prog [48] (E.get e 0)) fun t1 =>
    bdB (binV Try.prog .lss 3 (E.get e 4) t1) fun b2 =>
    byT b2 (XW C lo .skip (kX (XW C lo x64_3 Q) Q) ((11, .bool b2) :: e) h) (XW C lo (.exit 0) (kX (XW C lo x64_3 Q) Q) ((11, .bool b2) :: e) h) := nrfl (by kernel_rfl)
theorem q64_1 {lo : Nat} {Q : XQ} {e : E} {h : H} : XW C lo x64_1 Q e h =
    ∃ n, loopX [0, 4] (XW C lo x64_2) Q n e h := nrfl (by kernel_rfl)
theorem q64_8 {lo : Nat} {Q : XQ} {e : E} {h : H} : XW C lo x64_8 Q e h =
    Q .rt ((2, .nils) :: (3, .int .i64 3) :: e) h := nrfl (by kernel_rfl)
theorem q64_15 {lo : Nat} {Q : XQ} {e : E} {h : H} : XW C lo x64_15 Q e h =
    bd (fieldAddrV Try.prog 60 (E.get e 7) 1) fun t1 =>
    bd (loadV Try.prog 2 t1 (H.read h)) fun t2 =>
    bd (convV Try.prog (H.read h) 2 5 t2) fun r3 => KX h (fun t4 h5 =>
    bd (buildSliceV Try.prog 22 1 [(0, t4)]) fun r6 => KX h5 (fun t7 h8 =>
    bd2 (appendV Try.prog lo [22, 22] (E.get e 5) t7 h8) fun t9 h10 =>
    Q .nx ((5, t9) :: e) h10) r6) r3 := nrfl (by kernel_rfl)
theorem q64_17 {lo : Nat} {Q : XQ} {e : E} {h : H} : XW C lo x64_17 Q e h =
    bdB (binV Try.prog .eql 58 (E.get e 43) (.int .u8 3)) fun b1 =>
    Q .nx ((52, .bool b1) :: e) h := nrfl (by kernel_rfl)
theorem q64_19 {lo : Nat} {Q : XQ} {e : E} {h : H} : XW C lo x64_19 Q e h =
    bd (fieldAddrV Try.prog 60 (E.get e 7) 1) fun t1 =>
    bd (loadV Try.prog 2 t1 (H.read h)) fun t2 =>
    bd (convV Try.prog (H.read h) 2 92 t2) fun r3 => KX h (fun t4 h5 =>
    CW C 79 [t4] lo h5 fun t6 h7 =>
    bd2 (appendV Try.prog lo [22, 22] (E.get e 5) t6 h7) fun t8 h9 =>
    Q .nx ((5, t8) :: e) h9) r3 := nrfl (by kernel_rfl)
theorem q64_21 {lo : Nat} {Q : XQ} {e : E} {h : H} : XW C lo x64_21 Q e h =
    bdB (binV Try.prog .eql 58 (E.get e 43) (.int .u8 5)) fun b1 =>
    Q .nx ((61, .bool b1) :: e) h := nrfl (by kernel_rfl)
theorem q64_23 {lo : Nat} {Q : XQ} {e : E} {h : H} : XW C lo x64_23 Q e h =
    bd (fieldAddrV Try.prog 60 (E.get e 7) 2) fun t1 =>
    bd (loadV Try.prog 9 t1 (H.read h)) fun t2 =>
    bd (lenV Try.prog [9] t2) fun t3 =>
    bd (convV Try.prog (H.read h) 3 5 t3) fun r4 => KX h (fun t5 h6 =>
    bd (buildSliceV Try.prog 22 1 [(0, t5)]) fun r7 => KX h6 (fun t8 h9 =>
    bd2 (appendV Try.prog lo [22, 22] (E.get e 5) t8 h9) fun t10 h11 =>
    bd (fieldAddrV Try.prog 60 (E.get e 7) 2) fun t12 =>
    bd (loadV Try.prog 9 t12 (H.read h11)) fun t13 =>
    bd2 (appendV Try.prog lo [22, 9] t10 t13 h11) fun t14 h15 =>
    Q .nx ((5, t14) :: (5, t10) :: e) h15) r7) r4 := nrfl (by kernel_rfl)
theorem q64_24 {lo : Nat} {Q : XQ} {e : E} {h : H} : XW C lo x64_24 Q e h =
    Q .nx [(0, E.get e 0), (5, E.get e 5), (6, E.get e 6)] h := nrfl (by kernel_rfl)
theorem q64_22 {lo : Nat} {Q : XQ} {e : E} {h : H} : XW C lo x64_22 Q e h =
    byV (E.get e 61) (XW C lo x64_23 (kX (XW C lo x64_24 Q) Q) [(0, E.get e 0), (5, E.get e 5), (6, E.get e 6), (7, E.get e 7), (61, E.get e 61)] h) (XW C lo .skip (kX (XW C lo x64_24 Q) Q) [(0, E.get e 0), (5, E.get e 5), (6, E.get e 6), (7, E.get e 7), (61, E.get e 61)] h) False := nrfl (by kernel_rfl)
theorem q64_20 {lo : Nat} {Q : XQ} {e : E} {h : H} : XW C lo x64_20 Q e h =
    bdB (binV Try.prog .eql 58 (E.get e 43) (.int .u8 4)) fun b1 =>
    byT b1 (XW C lo .skip (kX (XW C lo x64_22 Q) Q) ((61, .bool b1) :: e) h) (XW C lo x64_21 (kX (XW C lo x64_22 Q) Q) ((61, .bool b1) :: e) h) := nrfl (by kernel_rfl)
theorem q64_25 {lo : Nat} {Q : XQ} {e : E} {h : H} : XW C lo x64_25 Q e h =
    Q .nx [(0, E.get e 0), (5, E.get e 5), (6, E.get e 6)] h := nrfl (by kernel_rfl)
theorem q64_18 {lo : Nat} {Q : XQ} {e : E} {h : H} : XW C lo x64_18 Q e h =
    byV (E.get e 52) (XW C lo x64_19 (kX (XW C lo x64_25 Q) Q) [(0, E.get e 0), (5, E.get e 5), (6, E.get e 6), (7, E.get e 7), (43, E.get e 43), (52, E.get e 52)] h) (XW C lo x64_20 (kX (XW C lo x64_25 Q) Q) [(0, E.get e 0), (5, E.get e 5), (6, E.get e 6), (7, E.get e 7), (43, E.get e 43), (52, E.get e 52)] h) False := nrfl (by kernel_rfl)
theorem q64_16 {lo : Nat} {Q : XQ} {e : E} {h : H} : XW C lo x64_16 Q e h =
    bdB (binV Try.prog .eql 58 (E.get e 43) (.int .u8 2)) fun b1 =>
    byT b1 (XW C lo .skip (kX (XW C lo x64_18 Q) Q) ((52, .bool b1) :: e) h) (XW C lo x64_17 (kX (XW C lo x64_18 Q) Q) ((52, .bool b1) :: e) h) := nrfl (by kernel_rfl)
theorem q64_26 {lo : Nat} {Q : XQ} {e : E} {h : H} : XW C lo x64_26 Q e h =
    Q .nx [(0, E.get e 0), (5, E.get e 5), (6, E.get e 6)] h := nrfl (by kernel_rfl)
theorem q64_14 {lo : Nat} {Q : XQ} {e : E} {h : H} : XW C lo x64_14 Q e h =
    bdB (binV Try.prog .eql 58 (E.get e 43) (.int .u8 1)) fun b1 =>
    byT b1 (XW C lo x64_15 (kX (XW C lo x64_26 Q) Q) ((44, .bool b1) :: e) h) (XW C lo x64_16 (kX (XW C lo x64_26 Q) Q) ((44, .bool b1) :: e) h) := nrfl (by kernel_rfl)
theorem q64_27 {lo : Nat} {Q : XQ} {e : E} {h : H} : XW C lo x64_27 Q e h =
    Q .nx [(0, E.get e 0), (5, E.get e 5), (6, E.get e 6)] h := nrfl (by kernel_rfl)
theorem q64_13 {lo : Nat} {Q : XQ} {e : E} {h : H} : XW C lo x64_13 Q e h =
    bd (addrV Try.prog 48 (E.get e 0) (E.get e 6)) fun t1 =>
    bd (loadV Try.prog 60 t1 (H.read h)) fun t2 =>
    bd (zero? Try.prog 60) fun z3 =>
    bd (storeV Try.prog lo 60 (.ptr (H.next h) 0) t2 (H.alloc h (V.cells z3))) fun h4 =>
    bd (fieldAddrV Try.prog 60 (.ptr (H.next h) 0) 0) fun t5 =>
    bd (loadV Try.prog 58 t5 (H.read h4)) fun t6 =>
    bd (buildSliceV Try.prog 22 1 [(0, t6)]) fun r7 => KX h4 (fun t8 h9 =>
    bd2 (appendV Try.prog lo [22, 22] (E.get e 5) t8 h9) fun t10 h11 =>
    bd (fieldAddrV Try.prog 60 (.ptr (H.next h) 0) 0) fun t12 =>
    bd (loadV Try.prog 58 t12 (H.read h11)) fun t13 =>
    XW C lo x64_14 (kXB 4 (XW C lo x64_27 Q) Q) ((43, t13) :: (5, t10) :: (7, .ptr (H.next h) 0) :: e) h11) r7 := nrfl (by kernel_rfl)
theorem q64_28 {lo : Nat} {Q : XQ} {e : E} {h : H} : XW C lo x64_28 Q e h =
    bd (binV Try.prog .add 3 (E.get e 6) (.int .i64 1)) fun t1 =>
    Q .nx [(6, t1), (0, E.get e 0), (5, E.get e 5), (6, E.get e 6)] h := nrfl (by kernel_rfl)
theorem q64_12 {lo : Nat} {Q : XQ} {e : E} {h : H} : XW C lo x64_12 Q e h =
    XW C lo x64_13 (kXB 3 (XW C lo x64_28 Q) Q) e h := nrfl (by kernel_rfl)
theorem q64_11 {lo : Nat} {Q : XQ} {e : E} {h : H} : XW C lo x64_11 Q e h =
    bd (lenV Try.prog [48] (E.get e 0)) fun t1 =>
    bdB (binV Try.prog .lss 3 (E.get e 6) t1) fun b2 =>
    byT b2 (XW C lo .skip (kX (XW C lo x64_12 Q) Q) ((30, .bool b2) :: e) h) (XW C lo (.exit 2) (kX (XW C lo x64_12 Q) Q) ((30, .bool b2) :: e) h) := nrfl (by kernel_rfl)
theorem q64_10 {lo : Nat} {Q : XQ} {e : E} {h : H} : XW C lo x64_10 Q e h =
    ∃ n, loopX [0, 5, 6] (XW C lo x64_11) Q n e h := nrfl (by kernel_rfl)
theorem q64_30 {lo : Nat} {Q : XQ} {e : E} {h : H} : XW C lo x64_30 Q e h =
    Q .rt ((2, .nils) :: (3, .int .i64 3) :: e) h := nrfl (by kernel_rfl)
theorem q64_31 {lo : Nat} {Q : XQ} {e : E} {h : H} : XW C lo x64_31 Q e h =
    Q .rt ((2, E.get e 5) :: (3, .int .i64 0) :: e) h := nrfl (by kernel_rfl)
theorem q64_29 {lo : Nat} {Q : XQ} {e : E} {h : H} : XW C lo x64_29 Q e h =
    bd (lenV Try.prog [22] (E.get e 5)) fun t1 =>
    bdB (binV Try.prog .gtr 3 t1 (.int .i64 480)) fun b2 =>
    byT b2 (XW C lo x64_30 (kX (XW C lo x64_31 Q) Q) [(77, .bool b2), (5, E.get e 5)] h) (XW C lo .skip (kX (XW C lo x64_31 Q) Q) [(77, .bool b2), (5, E.get e 5)] h) := nrfl (by kernel_rfl)
theorem q64_9 {lo : Nat} {Q : XQ} {e : E} {h : H} : XW C lo x64_9 Q e h =
    bd (lenV Try.prog [48] (E.get e 0)) fun t1 =>
    bd (convV Try.prog (H.read h) 3 5 t1) fun r2 => KX h (fun t3 h4 =>
    bd (buildSliceV Try.prog 22 1 [(0, t3)]) fun r5 => KX h4 (fun t6 h7 =>
    XW C lo x64_10 (kXB 2 (XW C lo x64_29 Q) Q) ((6, .int .i64 0) :: (5, t6) :: e) h7) r5) r2 := nrfl (by kernel_rfl)
theorem q64_7 {lo : Nat} {Q : XQ} {e : E} {h : H} : XW C lo x64_7 Q e h =
    bd (lenV Try.prog [48] (E.get e 0)) fun t1 =>
    bdB (binV Try.prog .gtr 3 t1 (.int .i64 12)) fun b2 =>
    byT b2 (XW C lo x64_8 (kX (XW C lo x64_9 Q) Q) [(22, .bool b2), (0, E.get e 0)] h) (XW C lo .skip (kX (XW C lo x64_9 Q) Q) [(22, .bool b2), (0, E.get e 0)] h) := nrfl (by kernel_rfl)
theorem q64_0 {lo : Nat} {Q : XQ} {e : E} {h : H} : XW C lo x64_0 Q e h =
    XW C lo x64_1 (kXB 0 (XW C lo x64_7 Q) Q) ((4, .int .i64 0) :: e) h := nrfl (by kernel_rfl)

/-! ### chancery/chanceryref18.Read -/
def r68_0 : List SI := [⟨some 2, (.assign (.const (.slice none 0 0))), none⟩,
  ⟨some 3, (.assign (.const (.int .i64 0))), none⟩]
def r68_1 : List SI := [⟨some 14, (.move (.tmp 0)), none⟩,
  ⟨some 15, (.call { callee := (.builtin .len), args := #[(.tmp 14)], argTypes := #[22] }), none⟩,
  ⟨some 16, (.binOp .eql 3 (.tmp 15) (.const (.int .i64 0)) 3), none⟩]
def r68_2 : List SI := [⟨some 2, (.assign (.const (.slice none 0 0))), none⟩,
  ⟨some 3, (.assign (.const (.int .i64 280))), none⟩]
def x68_1 : X := .ops r68_2 [2, 3] .ret
def r68_3 : List SI := [⟨some 4, (.assign (.const (.slice none 0 0))), none⟩]
def r68_4 : List SI := [⟨some 5, (.assign (.const (.int .i64 1))), none⟩]
def r68_5 : List SI := [⟨some 17, (.move (.tmp 0)), none⟩,
  ⟨some 18, (.indexAddr 22 (.tmp 17) (.const (.int .i64 0))), none⟩,
  ⟨some 19, (.load 5 (.tmp 18)), none⟩,
  ⟨some 20, (.convert 5 3 (.tmp 19)), none⟩,
  ⟨some 6, (.assign (.tmp 20)), none⟩]
def r68_6 : List SI := [⟨some 21, (.move (.tmp 6)), none⟩,
  ⟨some 22, (.binOp .gtr 3 (.tmp 21) (.const (.int .i64 0)) 3), none⟩]
def r68_8 : List SI := [⟨some 25, (.move (.tmp 5)), none⟩,
  ⟨some 26, (.move (.tmp 0)), none⟩,
  ⟨some 27, (.call { callee := (.builtin .len), args := #[(.tmp 26)], argTypes := #[22] }), none⟩,
  ⟨some 28, (.binOp .geq 3 (.tmp 25) (.tmp 27) 3), none⟩]
def r68_9 : List SI := [⟨some 2, (.assign (.const (.slice none 0 0))), none⟩,
  ⟨some 3, (.assign (.const (.int .i64 280))), none⟩]
def x68_7 : X := .ops r68_9 [2, 3] .ret
def r68_10 : List SI := [⟨some 29, (.move (.tmp 0)), none⟩,
  ⟨some 30, (.move (.tmp 5)), none⟩,
  ⟨some 31, (.indexAddr 22 (.tmp 29) (.tmp 30)), none⟩,
  ⟨some 32, (.load 5 (.tmp 31)), none⟩,
  ⟨some 33, (.build 60 #[(0, (.tmp 32))]), none⟩,
  ⟨some 7, (.alloc 60), none⟩,
  ⟨none, (.store 60 (.tmp 7) (.tmp 33)), none⟩]
def r68_11 : List SI := [⟨some 34, (.move (.tmp 5)), none⟩,
  ⟨some 35, (.binOp .add 3 (.tmp 34) (.const (.int .i64 1)) 3), none⟩,
  ⟨some 5, (.assign (.tmp 35)), none⟩]
def r68_12 : List SI := [⟨some 8, (.assign (.const (.int .i64 0))), none⟩]
def r68_13 : List SI := [⟨some 36, (.fieldAddr 60 (.tmp 7) 0), none⟩,
  ⟨some 37, (.load 58 (.tmp 36)), none⟩]
def r68_14 : List SI := [⟨some 39, (.binOp .eql 58 (.tmp 37) (.const (.int .u8 1)) 58), none⟩,
  ⟨some 38, (.assign (.tmp 39)), none⟩]
def r68_15 : List SI := [⟨some 8, (.assign (.const (.int .i64 1))), none⟩]
def x68_10 : X := .ops r68_15 [8] .skip
def r68_16 : List SI := [⟨some 41, (.binOp .eql 58 (.tmp 37) (.const (.int .u8 2)) 58), none⟩,
  ⟨some 40, (.assign (.tmp 41)), none⟩]
def r68_17 : List SI := [⟨some 42, (.binOp .eql 58 (.tmp 37) (.const (.int .u8 3)) 58), none⟩,
  ⟨some 40, (.assign (.tmp 42)), none⟩]
def x68_12 : X := .ops r68_17 [40] .skip
def r68_18 : List SI := [⟨some 8, (.assign (.const (.int .i64 8))), none⟩]
def x68_14 : X := .ops r68_18 [8] .skip
def r68_19 : List SI := [⟨some 44, (.binOp .eql 58 (.tmp 37) (.const (.int .u8 4)) 58), none⟩,
  ⟨some 43, (.assign (.tmp 44)), none⟩]
def r68_20 : List SI := [⟨some 45, (.binOp .eql 58 (.tmp 37) (.const (.int .u8 5)) 58), none⟩,
  ⟨some 43, (.assign (.tmp 45)), none⟩]
def x68_16 : X := .ops r68_20 [43] .skip
def r68_21 : List SI := [⟨some 46, (.move (.tmp 5)), none⟩,
  ⟨some 47, (.move (.tmp 0)), none⟩,
  ⟨some 48, (.call { callee := (.builtin .len), args := #[(.tmp 47)], argTypes := #[22] }), none⟩,
  ⟨some 49, (.binOp .geq 3 (.tmp 46) (.tmp 48) 3), none⟩]
def r68_22 : List SI := [⟨some 2, (.assign (.const (.slice none 0 0))), none⟩,
  ⟨some 3, (.assign (.const (.int .i64 280))), none⟩]
def x68_19 : X := .ops r68_22 [2, 3] .ret
def r68_23 : List SI := [⟨some 50, (.move (.tmp 0)), none⟩,
  ⟨some 51, (.move (.tmp 5)), none⟩,
  ⟨some 52, (.indexAddr 22 (.tmp 50) (.tmp 51)), none⟩,
  ⟨some 53, (.load 5 (.tmp 52)), none⟩,
  ⟨some 54, (.convert 5 3 (.tmp 53)), none⟩,
  ⟨some 8, (.assign (.tmp 54)), none⟩]
def r68_24 : List SI := [⟨some 55, (.move (.tmp 5)), none⟩,
  ⟨some 56, (.binOp .add 3 (.tmp 55) (.const (.int .i64 1)) 3), none⟩,
  ⟨some 5, (.assign (.tmp 56)), none⟩]
def x68_20 : X := .ops r68_23 [8] (.ops r68_24 [5] .skip)
def x68_18 : X := .ops r68_21 [49] (.cond (.tmp 49) x68_19 .skip x68_20)
def x68_21 : X := .trim [0, 4, 5, 6, 7, 8] .skip
def x68_17 : X := .trim [0, 4, 5, 6, 7, 8, 43] (.cond (.tmp 43) x68_18 .skip x68_21)
def x68_15 : X := .ops r68_19 [43] (.cond (.tmp 43) .skip x68_16 x68_17)
def x68_22 : X := .trim [0, 4, 5, 6, 7, 8] .skip
def x68_13 : X := .trim [0, 4, 5, 6, 7, 8, 37, 40] (.cond (.tmp 40) x68_14 x68_15 x68_22)
def x68_11 : X := .ops r68_16 [40] (.cond (.tmp 40) .skip x68_12 x68_13)
def x68_23 : X := .trim [0, 4, 5, 6, 7, 8] .skip
def x68_9 : X := .ops r68_14 [38] (.cond (.tmp 38) x68_10 x68_11 x68_23)
def r68_25 : List SI := [⟨some 57, (.move (.tmp 5)), none⟩,
  ⟨some 58, (.move (.tmp 8)), none⟩,
  ⟨some 59, (.binOp .add 3 (.tmp 57) (.tmp 58) 3), none⟩,
  ⟨some 60, (.move (.tmp 0)), none⟩,
  ⟨some 61, (.call { callee := (.builtin .len), args := #[(.tmp 60)], argTypes := #[22] }), none⟩,
  ⟨some 62, (.binOp .gtr 3 (.tmp 59) (.tmp 61) 3), none⟩]
def r68_26 : List SI := [⟨some 2, (.assign (.const (.slice none 0 0))), none⟩,
  ⟨some 3, (.assign (.const (.int .i64 280))), none⟩]
def x68_25 : X := .ops r68_26 [2, 3] .ret
def r68_27 : List SI := [⟨some 63, (.move (.tmp 0)), none⟩,
  ⟨some 64, (.move (.tmp 5)), none⟩,
  ⟨some 65, (.move (.tmp 5)), none⟩,
  ⟨some 66, (.move (.tmp 8)), none⟩,
  ⟨some 67, (.binOp .add 3 (.tmp 65) (.tmp 66) 3), none⟩,
  ⟨some 68, (.slice 22 (.tmp 63) (some (.tmp 64)) (some (.tmp 67)) none), none⟩,
  ⟨some 9, (.assign (.tmp 68)), none⟩]
def r68_28 : List SI := [⟨some 69, (.move (.tmp 5)), none⟩,
  ⟨some 70, (.move (.tmp 8)), none⟩,
  ⟨some 71, (.binOp .add 3 (.tmp 69) (.tmp 70) 3), none⟩,
  ⟨some 5, (.assign (.tmp 71)), none⟩]
def r68_29 : List SI := [⟨some 72, (.fieldAddr 60 (.tmp 7) 0), none⟩,
  ⟨some 73, (.load 58 (.tmp 72)), none⟩,
  ⟨some 74, (.binOp .eql 58 (.tmp 73) (.const (.int .u8 4)) 58), none⟩,
  ⟨some 75, (.move (.tmp 74)), none⟩,
  ⟨some 76, (.fieldAddr 60 (.tmp 7) 0), some (some 75, false)⟩,
  ⟨some 77, (.load 58 (.tmp 76)), some (some 75, false)⟩,
  ⟨some 78, (.binOp .eql 58 (.tmp 77) (.const (.int .u8 5)) 58), some (some 75, false)⟩,
  ⟨some 79, (.pick (.tmp 75) (.const (.bool true)) (.tmp 78)), none⟩]
def r68_30 : List SI := [⟨some 80, (.move (.tmp 9)), none⟩,
  ⟨some 81, (.convert 22 9 (.tmp 80)), none⟩,
  ⟨some 82, (.fieldAddr 60 (.tmp 7) 2), none⟩,
  ⟨none, (.store 9 (.tmp 82) (.tmp 81)), none⟩]
def x68_28 : X := .ops r68_30 [] .skip
def r68_31 : List SI := [⟨some 10, (.assign (.const (.int .u64 0))), none⟩]
def r68_32 : List SI := [⟨some 11, (.assign (.const (.int .i64 0))), none⟩]
def r68_33 : List SI := [⟨some 83, (.move (.tmp 11)), none⟩,
  ⟨some 84, (.move (.tmp 9)), none⟩,
  ⟨some 85, (.call { callee := (.builtin .len), args := #[(.tmp 84)], argTypes := #[22] }), none⟩,
  ⟨some 86, (.binOp .lss 3 (.tmp 83) (.tmp 85) 3), none⟩]
def r68_35 : List SI := [⟨some 89, (.move (.tmp 10)), none⟩,
  ⟨some 90, (.binOp .mul 92 (.tmp 89) (.const (.int .u64 256)) 92), none⟩,
  ⟨some 91, (.move (.tmp 9)), none⟩,
  ⟨some 92, (.move (.tmp 11)), none⟩,
  ⟨some 93, (.indexAddr 22 (.tmp 91) (.tmp 92)), none⟩,
  ⟨some 94, (.load 5 (.tmp 93)), none⟩,
  ⟨some 95, (.convert 5 92 (.tmp 94)), none⟩,
  ⟨some 96, (.binOp .add 92 (.tmp 90) (.tmp 95) 92), none⟩,
  ⟨some 10, (.assign (.tmp 96)), none⟩]
def x68_33 : X := .ops r68_35 [10] .skip
def r68_34 : List SI := [⟨some 87, (.move (.tmp 11)), none⟩,
  ⟨some 88, (.binOp .add 3 (.tmp 87) (.const (.int .i64 1)) 3), none⟩,
  ⟨some 11, (.assign (.tmp 88)), none⟩]
def x68_34 : X := .trim [0, 4, 5, 6, 7, 9, 10, 11] (.ops r68_34 [11] .skip)
def x68_32 : X := .block 4 x68_33 x68_34
def x68_31 : X := .ops r68_33 [86] (.cond (.tmp 86) .skip (.exit 3) x68_32)
def x68_30 : X := .loop [0, 4, 5, 6, 7, 9, 10, 11] x68_31
def r68_36 : List SI := [⟨some 97, (.move (.tmp 10)), none⟩,
  ⟨some 98, (.convert 92 2 (.tmp 97)), none⟩,
  ⟨some 99, (.fieldAddr 60 (.tmp 7) 1), none⟩,
  ⟨none, (.store 2 (.tmp 99) (.tmp 98)), none⟩]
def x68_35 : X := .trim [0, 4, 5, 6, 7, 10] (.ops r68_36 [] .skip)
def x68_29 : X := .ops r68_31 [10] (.ops r68_32 [11] (.block 3 x68_30 x68_35))
def r68_37 : List SI := [⟨some 100, (.move (.tmp 4)), none⟩,
  ⟨some 101, (.load 60 (.tmp 7)), none⟩,
  ⟨some 102, (.buildSlice 48 1 #[(0, (.tmp 101))]), none⟩,
  ⟨some 103, (.call { callee := (.builtin .append), args := #[(.tmp 100), (.tmp 102)], argTypes := #[48, 48] }), none⟩,
  ⟨some 4, (.assign (.tmp 103)), none⟩]
def x68_36 : X := .trim [0, 4, 5, 6, 7] (.ops r68_37 [4] .skip)
def x68_27 : X := .cond (.tmp 79) x68_28 x68_29 x68_36
def x68_26 : X := .ops r68_27 [9] (.ops r68_28 [5] (.ops r68_29 [79] x68_27))
def x68_24 : X := .trim [0, 4, 5, 6, 7, 8] (.ops r68_25 [62] (.cond (.tmp 62) x68_25 .skip x68_26))
def x68_8 : X := .ops r68_10 [7] (.ops r68_11 [5] (.ops r68_12 [8] (.ops r68_13 [37] (.block 2 x68_9 x68_24))))
def x68_6 : X := .ops r68_8 [28] (.cond (.tmp 28) x68_7 .skip x68_8)
def r68_7 : List SI := [⟨some 23, (.move (.tmp 6)), none⟩,
  ⟨some 24, (.binOp .sub 3 (.tmp 23) (.const (.int .i64 1)) 3), none⟩,
  ⟨some 6, (.assign (.tmp 24)), none⟩]
def x68_37 : X := .trim [0, 4, 5, 6] (.ops r68_7 [6] .skip)
def x68_5 : X := .block 1 x68_6 x68_37
def x68_4 : X := .ops r68_6 [22] (.cond (.tmp 22) .skip (.exit 0) x68_5)
def x68_3 : X := .loop [0, 4, 5, 6] x68_4
def r68_38 : List SI := [⟨some 105, (.move (.tmp 4)), none⟩,
  ⟨some 106, (.call { callee := (.value (.func 64)), args := #[(.tmp 105)], argTypes := #[48] }), none⟩,
  ⟨some 104, (.move (.tmp 106)), none⟩,
  ⟨some 107, (.extract (.tmp 104) 0), none⟩,
  ⟨some 108, (.extract (.tmp 104) 1), none⟩,
  ⟨some 12, (.assign (.tmp 107)), none⟩,
  ⟨some 13, (.assign (.tmp 108)), none⟩]
def r68_39 : List SI := [⟨some 109, (.move (.tmp 13)), none⟩,
  ⟨some 110, (.binOp .neq 27 (.tmp 109) (.const (.int .i64 0)) 27), none⟩,
  ⟨some 111, (.move (.tmp 110)), none⟩,
  ⟨some 112, (.move (.tmp 12)), some (some 111, false)⟩,
  ⟨some 113, (.convert 22 9 (.tmp 112)), some (some 111, false)⟩,
  ⟨some 114, (.move (.tmp 0)), some (some 111, false)⟩,
  ⟨some 115, (.convert 22 9 (.tmp 114)), some (some 111, false)⟩,
  ⟨some 116, (.binOp .neq 9 (.tmp 113) (.tmp 115) 9), some (some 111, false)⟩,
  ⟨some 117, (.pick (.tmp 111) (.const (.bool true)) (.tmp 116)), none⟩]
def r68_40 : List SI := [⟨some 2, (.assign (.const (.slice none 0 0))), none⟩,
  ⟨some 3, (.assign (.const (.int .i64 280))), none⟩]
def x68_40 : X := .ops r68_40 [2, 3] .ret
def r68_41 : List SI := [⟨some 118, (.move (.tmp 4)), none⟩,
  ⟨some 2, (.assign (.tmp 118)), none⟩,
  ⟨some 3, (.assign (.const (.int .i64 0))), none⟩]
def x68_41 : X := .ops r68_41 [2, 3] .ret
def x68_39 : X := .cond (.tmp 117) x68_40 .skip x68_41
def x68_38 : X := .trim [0, 4] (.ops r68_38 [12, 13] (.ops r68_39 [117] x68_39))
def x68_2 : X := .ops r68_3 [4] (.ops r68_4 [5] (.ops r68_5 [6] (.block 0 x68_3 x68_38)))
def x68_0 : X := .ops r68_0 [] (.ops r68_1 [16] (.cond (.tmp 16) x68_1 .skip x68_2))
def n68 : Ann := .ops [] (.ops [16] (.cond (.ops [2, 3] .stop) .stop (.ops [4] (.ops [5] (.ops [6] (.block [0, 4] (.loop [0, 4, 5, 6] (.ops [22] (.cond .stop .stop (.block [0, 4, 5, 6] (.ops [28] (.cond (.ops [2, 3] .stop) .stop (.ops [7] (.ops [5] (.ops [8] (.ops [37] (.block [0, 4, 5, 6, 7, 8] (.ops [38] (.cond (.ops [8] .stop) (.ops [40] (.cond .stop (.ops [40] .stop) (.trim [0, 4, 5, 6, 7, 8, 37, 40] (.cond (.ops [8] .stop) (.ops [43] (.cond .stop (.ops [43] .stop) (.trim [0, 4, 5, 6, 7, 8, 43] (.cond (.ops [49] (.cond (.ops [2, 3] .stop) .stop (.ops [8] (.ops [5] .stop)))) .stop (.trim [0, 4, 5, 6, 7, 8] .stop))))) (.trim [0, 4, 5, 6, 7, 8] .stop))))) (.trim [0, 4, 5, 6, 7, 8] .stop))) (.trim [0, 4, 5, 6, 7, 8] (.ops [62] (.cond (.ops [2, 3] .stop) .stop (.ops [9] (.ops [5] (.ops [79] (.cond (.ops [] .stop) (.ops [10] (.ops [11] (.block [0, 4, 5, 6, 7, 10] (.loop [0, 4, 5, 6, 7, 9, 10, 11] (.ops [86] (.cond .stop .stop (.block [0, 4, 5, 6, 7, 9, 10, 11] (.ops [10] .stop) (.trim [0, 4, 5, 6, 7, 9, 10, 11] (.ops [11] .stop)))))) (.trim [0, 4, 5, 6, 7, 10] (.ops [] .stop))))) (.trim [0, 4, 5, 6, 7] (.ops [4] .stop)))))))))))))))) (.trim [0, 4, 5, 6] (.ops [6] .stop)))))) (.trim [0, 4] (.ops [12, 13] (.ops [117] (.cond (.ops [2, 3] .stop) .stop (.ops [2, 3] .stop)))))))))))
theorem ok68 : annFn Try.f68 1 n68 = some x68_0 := by kernel_rfl
noncomputable def kF68 (K : V → H → Prop) : XQ := kFnX C.P Try.f68.results.toList K
theorem e68_nx {K : V → H → Prop} {e : E} {h : H} : kF68 K .nx e h = K (.tup [E.get e 2, E.get e 3]) h := nrfl (by kernel_rfl)
theorem e68_rt {K : V → H → Prop} {e : E} {h : H} : kF68 K .rt e h = K (.tup [E.get e 2, E.get e 3]) h := nrfl (by kernel_rfl)
theorem enter68 {lo : Nat} {h : H} {vs : List V} {K : V → H → Prop} (hl : vs.length = 1) (hw : XW C lo x68_0 (kF68 K) (args 0 vs) h) : CW C 68 vs lo h K := by
  refine CW_X hS rfl Try.func68 ok68 hl ?_ hw
  rw [Try.ntmps68]
  decide
theorem q68_1 {lo : Nat} {Q : XQ} {e : E} {h : H} : XW C lo x68_1 Q e h =
    Q .rt ((2, .nils) :: (3, .int .i64 280) :: e) h := nrfl (by kernel_rfl)
theorem q68_7 {lo : Nat} {Q : XQ} {e : E} {h : H} : XW C lo x68_7 Q e h =
    Q .rt ((2, .nils) :: (3, .int .i64 280) :: e) h := nrfl (by kernel_rfl)
theorem q68_10 {lo : Nat} {Q : XQ} {e : E} {h : H} : XW C lo x68_10 Q e h =
    Q .nx ((8, .int .i64 1) :: e) h := nrfl (by kernel_rfl)
theorem q68_12 {lo : Nat} {Q : XQ} {e : E} {h : H} : XW C lo x68_12 Q e h =
    bdB (binV Try.prog .eql 58 (E.get e 37) (.int .u8 3)) fun b1 =>
    Q .nx ((40, .bool b1) :: e) h := nrfl (by kernel_rfl)
theorem q68_14 {lo : Nat} {Q : XQ} {e : E} {h : H} : XW C lo x68_14 Q e h =
    Q .nx ((8, .int .i64 8) :: e) h := nrfl (by kernel_rfl)
theorem q68_16 {lo : Nat} {Q : XQ} {e : E} {h : H} : XW C lo x68_16 Q e h =
    bdB (binV Try.prog .eql 58 (E.get e 37) (.int .u8 5)) fun b1 =>
    Q .nx ((43, .bool b1) :: e) h := nrfl (by kernel_rfl)
theorem q68_19 {lo : Nat} {Q : XQ} {e : E} {h : H} : XW C lo x68_19 Q e h =
    Q .rt ((2, .nils) :: (3, .int .i64 280) :: e) h := nrfl (by kernel_rfl)
theorem q68_20 {lo : Nat} {Q : XQ} {e : E} {h : H} : XW C lo x68_20 Q e h =
    bd (addrV Try.prog 22 (E.get e 0) (E.get e 5)) fun t1 =>
    bd (loadV Try.prog 5 t1 (H.read h)) fun t2 =>
    bd (convV Try.prog (H.read h) 5 3 t2) fun r3 => KX h (fun t4 h5 =>
    bd (binV Try.prog .add 3 (E.get e 5) (.int .i64 1)) fun t6 =>
    Q .nx ((5, t6) :: (8, t4) :: e) h5) r3 := nrfl (by kernel_rfl)
theorem q68_18 {lo : Nat} {Q : XQ} {e : E} {h : H} : XW C lo x68_18 Q e h =
    bd (lenV Try.prog [22] (E.get e 0)) fun t1 =>
    bdB (binV Try.prog .geq 3 (E.get e 5) t1) fun b2 =>
    byT b2 (XW C lo x68_19 (kX (XW C lo x68_20 Q) Q) ((49, .bool b2) :: e) h) (XW C lo .skip (kX (XW C lo x68_20 Q) Q) ((49, .bool b2) :: e) h) := nrfl (by kernel_rfl)
theorem q68_21 {lo : Nat} {Q : XQ} {e : E} {h : H} : XW C lo x68_21 Q e h =
    Q .nx [(0, E.get e 0), (4, E.get e 4), (5, E.get e 5), (6, E.get e 6), (7, E.get e 7), (8, E.get e 8)] h := nrfl (by kernel_rfl)
theorem q68_17 {lo : Nat} {Q : XQ} {e : E} {h : H} : XW C lo x68_17 Q e h =
    byV (E.get e 43) (XW C lo x68_18 (kX (XW C lo x68_21 Q) Q) [(0, E.get e 0), (4, E.get e 4), (5, E.get e 5), (6, E.get e 6), (7, E.get e 7), (8, E.get e 8), (43, E.get e 43)] h) (XW C lo .skip (kX (XW C lo x68_21 Q) Q) [(0, E.get e 0), (4, E.get e 4), (5, E.get e 5), (6, E.get e 6), (7, E.get e 7), (8, E.get e 8), (43, E.get e 43)] h) False := nrfl (by kernel_rfl)
theorem q68_15 {lo : Nat} {Q : XQ} {e : E} {h : H} : XW C lo x68_15 Q e h =
    bdB (binV Try.prog .eql 58 (E.get e 37) (.int .u8 4)) fun b1 =>
    byT b1 (XW C lo .skip (kX (XW C lo x68_17 Q) Q) ((43, .bool b1) :: e) h) (XW C lo x68_16 (kX (XW C lo x68_17 Q) Q) ((43, .bool b1) :: e) h) := nrfl (by kernel_rfl)
theorem q68_22 {lo : Nat} {Q : XQ} {e : E} {h : H} : XW C lo x68_22 Q e h =
    Q .nx [(0, E.get e 0), (4, E.get e 4), (5, E.get e 5), (6, E.get e 6), (7, E.get e 7), (8, E.get e 8)] h := nrfl (by kernel_rfl)
theorem q68_13 {lo : Nat} {Q : XQ} {e : E} {h : H} : XW C lo x68_13 Q e h =
    byV (E.get e 40) (XW C lo x68_14 (kX (XW C lo x68_22 Q) Q) [(0, E.get e 0), (4, E.get e 4), (5, E.get e 5), (6, E.get e 6), (7, E.get e 7), (8, E.get e 8), (37, E.get e 37), (40, E.get e 40)] h) (XW C lo x68_15 (kX (XW C lo x68_22 Q) Q) [(0, E.get e 0), (4, E.get e 4), (5, E.get e 5), (6, E.get e 6), (7, E.get e 7), (8, E.get e 8), (37, E.get e 37), (40, E.get e 40)] h) False := nrfl (by kernel_rfl)
theorem q68_11 {lo : Nat} {Q : XQ} {e : E} {h : H} : XW C lo x68_11 Q e h =
    bdB (binV Try.prog .eql 58 (E.get e 37) (.int .u8 2)) fun b1 =>
    byT b1 (XW C lo .skip (kX (XW C lo x68_13 Q) Q) ((40, .bool b1) :: e) h) (XW C lo x68_12 (kX (XW C lo x68_13 Q) Q) ((40, .bool b1) :: e) h) := nrfl (by kernel_rfl)
theorem q68_23 {lo : Nat} {Q : XQ} {e : E} {h : H} : XW C lo x68_23 Q e h =
    Q .nx [(0, E.get e 0), (4, E.get e 4), (5, E.get e 5), (6, E.get e 6), (7, E.get e 7), (8, E.get e 8)] h := nrfl (by kernel_rfl)
theorem q68_9 {lo : Nat} {Q : XQ} {e : E} {h : H} : XW C lo x68_9 Q e h =
    bdB (binV Try.prog .eql 58 (E.get e 37) (.int .u8 1)) fun b1 =>
    byT b1 (XW C lo x68_10 (kX (XW C lo x68_23 Q) Q) ((38, .bool b1) :: e) h) (XW C lo x68_11 (kX (XW C lo x68_23 Q) Q) ((38, .bool b1) :: e) h) := nrfl (by kernel_rfl)
theorem q68_25 {lo : Nat} {Q : XQ} {e : E} {h : H} : XW C lo x68_25 Q e h =
    Q .rt ((2, .nils) :: (3, .int .i64 280) :: e) h := nrfl (by kernel_rfl)
theorem q68_28 {lo : Nat} {Q : XQ} {e : E} {h : H} : XW C lo x68_28 Q e h =
    bd (convV Try.prog (H.read h) 22 9 (E.get e 9)) fun r1 => KX h (fun t2 h3 =>
    bd (fieldAddrV Try.prog 60 (E.get e 7) 2) fun t4 =>
    bd (storeV Try.prog lo 9 t4 t2 h3) fun h5 =>
    Q .nx e h5) r1 := nrfl (by kernel_rfl)
theorem q68_33 {lo : Nat} {Q : XQ} {e : E} {h : H} : XW C lo x68_33 Q e h =
    bd (binV Try.prog .mul 92 (E.get e 10) (.int .u64 256)) fun t1 =>
    bd (addrV Try.prog 22 (E.get e 9) (E.get e 11)) fun t2 =>
    bd (loadV Try.prog 5 t2 (H.read h)) fun t3 =>
    bd (convV Try.prog (H.read h) 5 92 t3) fun r4 => KX h (fun t5 h6 =>
    bd (binV Try.prog .add 92 t1 t5) fun t7 =>
    Q .nx ((10, t7) :: e) h6) r4 := nrfl (by kernel_rfl)
theorem q68_34 {lo : Nat} {Q : XQ} {e : E} {h : H} : XW C lo x68_34 Q e h =
    bd (binV Try.prog .add 3 (E.get e 11) (.int .i64 1)) fun t1 =>
    Q .nx [(11, t1), (0, E.get e 0), (4, E.get e 4), (5, E.get e 5), (6, E.get e 6), (7, E.get e 7), (9, E.get e 9), (10, E.get e 10), (11, E.get e 11)] h := nrfl (by kernel_rfl)
theorem q68_32 {lo : Nat} {Q : XQ} {e : E} {h : H} : XW C lo x68_32 Q e h =
    XW C lo x68_33 (kXB 4 (XW C lo x68_34 Q) Q) e h := nrfl (by kernel_rfl)
theorem q68_31 {lo : Nat} {Q : XQ} {e : E} {h : H} : XW C lo x68_31 Q e h =
    bd (lenV Try.prog [22] (E.get e 9)) fun t1 =>
    bdB (binV Try.prog .lss 3 (E.get e 11) t1) fun b2 =>
    byT b2 (XW C lo .skip (kX (XW C lo x68_32 Q) Q) ((86, .bool b2) :: e) h) (XW C lo (.exit 3) (kX (XW C lo x68_32 Q) Q) ((86, .bool b2) :: e) h) := nrfl (by kernel_rfl)
theorem q68_30 {lo : Nat} {Q : XQ} {e : E} {h : H} : XW C lo x68_30 Q e h =
    ∃ n, loopX [0, 4, 5, 6, 7, 9, 10, 11] (XW C lo x68_31) Q n e h := nrfl (by kernel_rfl)
theorem q68_35 {lo : Nat} {Q : XQ} {e : E} {h : H} : XW C lo x68_35 Q e h =
    bd (convV Try.prog (H.read h) 92 2 (E.get e 10)) fun r1 => KX h (fun t2 h3 =>
    bd (fieldAddrV Try.prog 60 (E.get e 7) 1) fun t4 =>
    bd (storeV Try.prog lo 2 t4 t2 h3) fun h5 =>
    Q .nx [(0, E.get e 0), (4, E.get e 4), (5, E.get e 5), (6, E.get e 6), (7, E.get e 7), (10, E.get e 10)] h5) r1 := nrfl (by kernel_rfl)
theorem q68_29 {lo : Nat} {Q : XQ} {e : E} {h : H} : XW C lo x68_29 Q e h =
    XW C lo x68_30 (kXB 3 (XW C lo x68_35 Q) Q) ((11, .int .i64 0) :: (10, .int .u64 0) :: e) h := nrfl (by kernel_rfl)
theorem q68_36 {lo : Nat} {Q : XQ} {e : E} {h : H} : XW C lo x68_36 Q e h =
    bd (loadV Try.prog 60 (E.get e 7) (H.read h)) fun t1 =>
    bd (buildSliceV Try.prog 48 1 [(0, t1)]) fun r2 => KX h (fun t3 h4 =>
    bd2 (appendV Try.prog lo [48, 48] (E.get e 4) t3 h4) fun t5 h6 =>
    Q .nx [(4, t5), (0, E.get e 0), (4, E.get e 4), (5, E.get e 5), (6, E.get e 6), (7, E.get e 7)] h6) r2 := nrfl (by kernel_rfl)
theorem q68_27 {lo : Nat} {Q : XQ} {e : E} {h : H} : XW C lo x68_27 Q e h =
    byV (E.get e 79) (XW C lo x68_28 (kX (XW C lo x68_36 Q) Q) e h) (XW C lo x68_29 (kX (XW C lo x68_36 Q) Q) e h) False := nrfl (by kernel_rfl)
theorem q68_26 {lo : Nat} {Q : XQ} {e : E} {h : H} : XW C lo x68_26 Q e h =
    bd (binV Try.prog .add 3 (E.get e 5) (E.get e 8)) fun t1 =>
    bd (sliceV Try.prog (H.read h) 22 (E.get e 0) (some (E.get e 5)) (some t1) none) fun t2 =>
    bd (binV Try.prog .add 3 (E.get e 5) (E.get e 8)) fun t3 =>
    bd (fieldAddrV Try.prog 60 (E.get e 7) 0) fun t4 =>
    bd (loadV Try.prog 58 t4 (H.read h)) fun t5 =>
    bdB (binV Try.prog .eql 58 t5 (.int .u8 4)) fun b6 =>
    byT b6 (XW C lo x68_28 (kX (XW C lo x68_36 Q) Q) ((79, .bool true) :: (5, t3) :: (9, t2) :: e) h) (bd (fieldAddrV Try.prog 60 (E.get e 7) 0) fun t7 =>
    bd (loadV Try.prog 58 t7 (H.read h)) fun t8 =>
    bdB (binV Try.prog .eql 58 t8 (.int .u8 5)) fun b9 =>
    byT b9 (XW C lo x68_28 (kX (XW C lo x68_36 Q) Q) ((79, .bool b9) :: (5, t3) :: (9, t2) :: e) h) (XW C lo x68_29 (kX (XW C lo x68_36 Q) Q) ((79, .bool b9) :: (5, t3) :: (9, t2) :: e) h)) := nrfl (by kernel_rfl)
theorem q68_24 {lo : Nat} {Q : XQ} {e : E} {h : H} : XW C lo x68_24 Q e h =
    bd (binV Try.prog .add 3 (E.get e 5) (E.get e 8)) fun t1 =>
    bd (lenV Try.prog [22] (E.get e 0)) fun t2 =>
    bdB (binV Try.prog .gtr 3 t1 t2) fun b3 =>
    byT b3 (XW C lo x68_25 (kX (XW C lo x68_26 Q) Q) [(62, .bool b3), (0, E.get e 0), (4, E.get e 4), (5, E.get e 5), (6, E.get e 6), (7, E.get e 7), (8, E.get e 8)] h) (XW C lo .skip (kX (XW C lo x68_26 Q) Q) [(62, .bool b3), (0, E.get e 0), (4, E.get e 4), (5, E.get e 5), (6, E.get e 6), (7, E.get e 7), (8, E.get e 8)] h) := nrfl (by kernel_rfl)
theorem q68_8 {lo : Nat} {Q : XQ} {e : E} {h : H} : XW C lo x68_8 Q e h =
    bd (addrV Try.prog 22 (E.get e 0) (E.get e 5)) fun t1 =>
    bd (loadV Try.prog 5 t1 (H.read h)) fun t2 =>
    bd (buildV Try.prog 60 [(0, t2)]) fun t3 =>
    bd (zero? Try.prog 60) fun z4 =>
    bd (storeV Try.prog lo 60 (.ptr (H.next h) 0) t3 (H.alloc h (V.cells z4))) fun h5 =>
    bd (binV Try.prog .add 3 (E.get e 5) (.int .i64 1)) fun t6 =>
    bd (fieldAddrV Try.prog 60 (.ptr (H.next h) 0) 0) fun t7 =>
    bd (loadV Try.prog 58 t7 (H.read h5)) fun t8 =>
    XW C lo x68_9 (kXB 2 (XW C lo x68_24 Q) Q) ((37, t8) :: (8, .int .i64 0) :: (5, t6) :: (7, .ptr (H.next h) 0) :: e) h5 := nrfl (by kernel_rfl)
theorem q68_6 {lo : Nat} {Q : XQ} {e : E} {h : H} : XW C lo x68_6 Q e h =
    bd (lenV Try.prog [22] (E.get e 0)) fun t1 =>
    bdB (binV Try.prog .geq 3 (E.get e 5) t1) fun b2 =>
    byT b2 (XW C lo x68_7 (kX (XW C lo x68_8 Q) Q) ((28, .bool b2) :: e) h) (XW C lo .skip (kX (XW C lo x68_8 Q) Q) ((28, .bool b2) :: e) h) := nrfl (by kernel_rfl)
theorem q68_37 {lo : Nat} {Q : XQ} {e : E} {h : H} : XW C lo x68_37 Q e h =
    bd (binV Try.prog .sub 3 (E.get e 6) (.int .i64 1)) fun t1 =>
    Q .nx [(6, t1), (0, E.get e 0), (4, E.get e 4), (5, E.get e 5), (6, E.get e 6)] h := nrfl (by kernel_rfl)
theorem q68_5 {lo : Nat} {Q : XQ} {e : E} {h : H} : XW C lo x68_5 Q e h =
    XW C lo x68_6 (kXB 1 (XW C lo x68_37 Q) Q) e h := nrfl (by kernel_rfl)
theorem q68_4 {lo : Nat} {Q : XQ} {e : E} {h : H} : XW C lo x68_4 Q e h =
    bdB (binV Try.prog .gtr 3 (E.get e 6) (.int .i64 0)) fun b1 =>
    byT b1 (XW C lo .skip (kX (XW C lo x68_5 Q) Q) ((22, .bool b1) :: e) h) (XW C lo (.exit 0) (kX (XW C lo x68_5 Q) Q) ((22, .bool b1) :: e) h) := nrfl (by kernel_rfl)
theorem q68_3 {lo : Nat} {Q : XQ} {e : E} {h : H} : XW C lo x68_3 Q e h =
    ∃ n, loopX [0, 4, 5, 6] (XW C lo x68_4) Q n e h := nrfl (by kernel_rfl)
theorem q68_40 {lo : Nat} {Q : XQ} {e : E} {h : H} : XW C lo x68_40 Q e h =
    Q .rt ((2, .nils) :: (3, .int .i64 280) :: e) h := nrfl (by kernel_rfl)
theorem q68_41 {lo : Nat} {Q : XQ} {e : E} {h : H} : XW C lo x68_41 Q e h =
    Q .rt ((2, E.get e 4) :: (3, .int .i64 0) :: e) h := nrfl (by kernel_rfl)
theorem q68_39 {lo : Nat} {Q : XQ} {e : E} {h : H} : XW C lo x68_39 Q e h =
    byV (E.get e 117) (XW C lo x68_40 (kX (XW C lo x68_41 Q) Q) e h) (XW C lo .skip (kX (XW C lo x68_41 Q) Q) e h) False := nrfl (by kernel_rfl)
theorem q68_38 {lo : Nat} {Q : XQ} {e : E} {h : H} : XW C lo x68_38 Q e h =
    CW C 64 [E.get e 4] lo h fun t1 h2 =>
    tupX t1 fun l3 => bd (l3[0]?) fun t4 =>
    tupX t1 fun l5 => bd (l5[1]?) fun t6 =>
    bdB (binV Try.prog .neq 27 t6 (.int .i64 0)) fun b7 =>
    byT b7 (XW C lo x68_40 (kX (XW C lo x68_41 Q) Q) [(117, .bool true), (12, t4), (13, t6), (0, E.get e 0), (4, E.get e 4)] h2) (bd (convV Try.prog (H.read h2) 22 9 t4) fun r8 => KX h2 (fun t9 h10 =>
    bd (convV Try.prog (H.read h10) 22 9 (E.get e 0)) fun r11 => KX h10 (fun t12 h13 =>
    bdB (binV Try.prog .neq 9 t9 t12) fun b14 =>
    byT b14 (XW C lo x68_40 (kX (XW C lo x68_41 Q) Q) [(117, .bool b14), (12, t4), (13, t6), (0, E.get e 0), (4, E.get e 4)] h13) (XW C lo .skip (kX (XW C lo x68_41 Q) Q) [(117, .bool b14), (12, t4), (13, t6), (0, E.get e 0), (4, E.get e 4)] h13)) r11) r8) := nrfl (by kernel_rfl)
theorem q68_2 {lo : Nat} {Q : XQ} {e : E} {h : H} : XW C lo x68_2 Q e h =
    bd (addrV Try.prog 22 (E.get e 0) (.int .i64 0)) fun t1 =>
    bd (loadV Try.prog 5 t1 (H.read h)) fun t2 =>
    bd (convV Try.prog (H.read h) 5 3 t2) fun r3 => KX h (fun t4 h5 =>
    XW C lo x68_3 (kXB 0 (XW C lo x68_38 Q) Q) ((6, t4) :: (5, .int .i64 1) :: (4, .nils) :: e) h5) r3 := nrfl (by kernel_rfl)
theorem q68_0 {lo : Nat} {Q : XQ} {e : E} {h : H} : XW C lo x68_0 Q e h =
    bd (lenV Try.prog [22] (E.get e 0)) fun t1 =>
    bdB (binV Try.prog .eql 3 t1 (.int .i64 0)) fun b2 =>
    byT b2 (XW C lo x68_1 (kX (XW C lo x68_2 Q) Q) ((16, .bool b2) :: e) h) (XW C lo .skip (kX (XW C lo x68_2 Q) Q) ((16, .bool b2) :: e) h) := nrfl (by kernel_rfl)

/-! ### chancery/chanceryref17.Right -/
def r78_0 : List SI := [⟨some 1, (.box 60 (.tmp 0)), none⟩,
  ⟨some 2, (.assign (.const (.bool false))), none⟩]
def r78_1 : List SI := [⟨some 3, (.fieldAddr 60 (.tmp 1) 0), none⟩,
  ⟨some 4, (.load 58 (.tmp 3)), none⟩]
def r78_2 : List SI := [⟨some 6, (.binOp .eql 58 (.tmp 4) (.const (.int .u8 0)) 58), none⟩,
  ⟨some 5, (.assign (.tmp 6)), none⟩]
def r78_3 : List SI := [⟨some 7, (.fieldAddr 60 (.tmp 1) 1), none⟩,
  ⟨some 8, (.load 2 (.tmp 7)), none⟩,
  ⟨some 9, (.binOp .eql 2 (.tmp 8) (.const (.int .i64 0)) 2), none⟩,
  ⟨some 10, (.move (.tmp 9)), none⟩,
  ⟨some 11, (.fieldAddr 60 (.tmp 1) 2), some (some 10, true)⟩,
  ⟨some 12, (.load 9 (.tmp 11)), some (some 10, true)⟩,
  ⟨some 13, (.binOp .eql 9 (.tmp 12) (.const (.string { data := #[] })) 9), some (some 10, true)⟩,
  ⟨some 14, (.pick (.tmp 10) (.tmp 13) (.const (.bool false))), none⟩,
  ⟨some 2, (.assign (.tmp 14)), none⟩]
def x78_2 : X := .ops r78_3 [2] .ret
def r78_4 : List SI := [⟨some 16, (.binOp .eql 58 (.tmp 4) (.const (.int .u8 1)) 58), none⟩,
  ⟨some 15, (.assign (.tmp 16)), none⟩]
def r78_5 : List SI := [⟨some 17, (.fieldAddr 60 (.tmp 1) 2), none⟩,
  ⟨some 18, (.load 9 (.tmp 17)), none⟩,
  ⟨some 19, (.binOp .eql 9 (.tmp 18) (.const (.string { data := #[] })) 9), none⟩,
  ⟨some 20, (.move (.tmp 19)), none⟩,
  ⟨some 21, (.fieldAddr 60 (.tmp 1) 1), some (some 20, true)⟩,
  ⟨some 22, (.load 2 (.tmp 21)), some (some 20, true)⟩,
  ⟨some 23, (.binOp .eql 2 (.tmp 22) (.const (.int .i64 0)) 2), some (some 20, true)⟩,
  ⟨some 24, (.move (.tmp 23)), some (some 20, true)⟩,
  ⟨some 25, (.fieldAddr 60 (.tmp 1) 1), some (some 24, false)⟩,
  ⟨some 26, (.load 2 (.tmp 25)), some (some 24, false)⟩,
  ⟨some 27, (.binOp .eql 2 (.tmp 26) (.const (.int .i64 1)) 2), some (some 24, false)⟩,
  ⟨some 28, (.pick (.tmp 24) (.const (.bool true)) (.tmp 27)), some (some 20, true)⟩,
  ⟨some 29, (.pick (.tmp 20) (.tmp 28) (.const (.bool false))), none⟩,
  ⟨some 2, (.assign (.tmp 29)), none⟩]
def x78_4 : X := .ops r78_5 [2] .ret
def r78_6 : List SI := [⟨some 31, (.binOp .eql 58 (.tmp 4) (.const (.int .u8 2)) 58), none⟩,
  ⟨some 30, (.assign (.tmp 31)), none⟩]
def r78_7 : List SI := [⟨some 32, (.binOp .eql 58 (.tmp 4) (.const (.int .u8 3)) 58), none⟩,
  ⟨some 30, (.assign (.tmp 32)), none⟩]
def x78_6 : X := .ops r78_7 [30] .skip
def r78_8 : List SI := [⟨some 33, (.fieldAddr 60 (.tmp 1) 2), none⟩,
  ⟨some 34, (.load 9 (.tmp 33)), none⟩,
  ⟨some 35, (.binOp .eql 9 (.tmp 34) (.const (.string { data := #[] })) 9), none⟩,
  ⟨some 2, (.assign (.tmp 35)), none⟩]
def x78_8 : X := .ops r78_8 [2] .ret
def r78_9 : List SI := [⟨some 37, (.binOp .eql 58 (.tmp 4) (.const (.int .u8 4)) 58), none⟩,
  ⟨some 36, (.assign (.tmp 37)), none⟩]
def r78_10 : List SI := [⟨some 38, (.binOp .eql 58 (.tmp 4) (.const (.int .u8 5)) 58), none⟩,
  ⟨some 36, (.assign (.tmp 38)), none⟩]
def x78_10 : X := .ops r78_10 [36] .skip
def r78_11 : List SI := [⟨some 39, (.fieldAddr 60 (.tmp 1) 1), none⟩,
  ⟨some 40, (.load 2 (.tmp 39)), none⟩,
  ⟨some 41, (.binOp .eql 2 (.tmp 40) (.const (.int .i64 0)) 2), none⟩,
  ⟨some 42, (.move (.tmp 41)), none⟩,
  ⟨some 43, (.fieldAddr 60 (.tmp 1) 2), some (some 42, true)⟩,
  ⟨some 44, (.load 9 (.tmp 43)), some (some 42, true)⟩,
  ⟨some 45, (.call { callee := (.builtin .len), args := #[(.tmp 44)], argTypes := #[9] }), some (some 42, true)⟩,
  ⟨some 46, (.binOp .leq 3 (.tmp 45) (.const (.int .i64 200)) 3), some (some 42, true)⟩,
  ⟨some 47, (.pick (.tmp 42) (.tmp 46) (.const (.bool false))), none⟩,
  ⟨some 2, (.assign (.tmp 47)), none⟩]
def x78_12 : X := .ops r78_11 [2] .ret
def x78_11 : X := .trim [1, 36] (.cond (.tmp 36) x78_12 .skip .skip)
def x78_9 : X := .ops r78_9 [36] (.cond (.tmp 36) .skip x78_10 x78_11)
def x78_7 : X := .trim [1, 4, 30] (.cond (.tmp 30) x78_8 x78_9 .skip)
def x78_5 : X := .ops r78_6 [30] (.cond (.tmp 30) .skip x78_6 x78_7)
def x78_3 : X := .ops r78_4 [15] (.cond (.tmp 15) x78_4 x78_5 .skip)
def x78_1 : X := .ops r78_2 [5] (.cond (.tmp 5) x78_2 x78_3 .skip)
def r78_12 : List SI := [⟨some 2, (.assign (.const (.bool false))), none⟩]
def x78_13 : X := .trim [] (.ops r78_12 [2] .ret)
def x78_0 : X := .ops r78_0 [1] (.ops r78_1 [4] (.block 0 x78_1 x78_13))
def n78 : Ann := .ops [1] (.ops [4] (.block [] (.ops [5] (.cond (.ops [2] .stop) (.ops [15] (.cond (.ops [2] .stop) (.ops [30] (.cond .stop (.ops [30] .stop) (.trim [1, 4, 30] (.cond (.ops [2] .stop) (.ops [36] (.cond .stop (.ops [36] .stop) (.trim [1, 36] (.cond (.ops [2] .stop) .stop .stop)))) .stop)))) .stop)) .stop)) (.trim [] (.ops [2] .stop))))
theorem ok78 : annFn Try.f78 1 n78 = some x78_0 := by kernel_rfl
noncomputable def kF78 (K : V → H → Prop) : XQ := kFnX C.P Try.f78.results.toList K
theorem e78_nx {K : V → H → Prop} {e : E} {h : H} : kF78 K .nx e h = K (E.get e 2) h := nrfl (by kernel_rfl)
theorem e78_rt {K : V → H → Prop} {e : E} {h : H} : kF78 K .rt e h = K (E.get e 2) h := nrfl (by kernel_rfl)
theorem enter78 {lo : Nat} {h : H} {vs : List V} {K : V → H → Prop} (hl : vs.length = 1) (hw : XW C lo x78_0 (kF78 K) (args 0 vs) h) : CW C 78 vs lo h K := by
  refine CW_X hS rfl Try.func78 ok78 hl ?_ hw
  rw [Try.ntmps78]
  decide
theorem q78_2 {lo : Nat} {Q : XQ} {e : E} {h : H} : XW C lo x78_2 Q e h =
    bd (fieldAddrV Try.prog 60 (E.get e 1) 1) fun t1 =>
    bd (loadV Try.prog 2 t1 (H.read h)) fun t2 =>
    bdB (binV Try.prog .eql 2 t2 (.int .i64 0)) fun b3 =>
    byT b3 (bd (fieldAddrV Try.prog 60 (E.get e 1) 2) fun t4 =>
    bd (loadV Try.prog 9 t4 (H.read h)) fun t5 =>
    bdB (binV Try.prog .eql 9 t5 (.str [])) fun b6 =>
    Q .rt ((2, .bool b6) :: e) h) (Q .rt ((2, .bool false) :: e) h) := nrfl (by kernel_rfl)
theorem q78_4 {lo : Nat} {Q : XQ} {e : E} {h : H} : XW C lo x78_4 Q e h =
    bd (fieldAddrV Try.prog 60 (E.get e 1) 2) fun t1 =>
    bd (loadV Try.prog 9 t1 (H.read h)) fun t2 =>
    bdB (binV Try.prog .eql 9 t2 (.str [])) fun b3 =>
    byT b3 (bd (fieldAddrV Try.prog 60 (E.get e 1) 1) fun t4 =>
    bd (loadV Try.prog 2 t4 (H.read h)) fun t5 =>
    bdB (binV Try.prog .eql 2 t5 (.int .i64 0)) fun b6 =>
    byT b6 (Q .rt ((2, .bool true) :: e) h) (bd (fieldAddrV Try.prog 60 (E.get e 1) 1) fun t7 =>
    bd (loadV Try.prog 2 t7 (H.read h)) fun t8 =>
    bdB (binV Try.prog .eql 2 t8 (.int .i64 1)) fun b9 =>
    Q .rt ((2, .bool b9) :: e) h)) (Q .rt ((2, .bool false) :: e) h) := nrfl (by kernel_rfl)
theorem q78_6 {lo : Nat} {Q : XQ} {e : E} {h : H} : XW C lo x78_6 Q e h =
    bdB (binV Try.prog .eql 58 (E.get e 4) (.int .u8 3)) fun b1 =>
    Q .nx ((30, .bool b1) :: e) h := nrfl (by kernel_rfl)
theorem q78_8 {lo : Nat} {Q : XQ} {e : E} {h : H} : XW C lo x78_8 Q e h =
    bd (fieldAddrV Try.prog 60 (E.get e 1) 2) fun t1 =>
    bd (loadV Try.prog 9 t1 (H.read h)) fun t2 =>
    bdB (binV Try.prog .eql 9 t2 (.str [])) fun b3 =>
    Q .rt ((2, .bool b3) :: e) h := nrfl (by kernel_rfl)
theorem q78_10 {lo : Nat} {Q : XQ} {e : E} {h : H} : XW C lo x78_10 Q e h =
    bdB (binV Try.prog .eql 58 (E.get e 4) (.int .u8 5)) fun b1 =>
    Q .nx ((36, .bool b1) :: e) h := nrfl (by kernel_rfl)
theorem q78_12 {lo : Nat} {Q : XQ} {e : E} {h : H} : XW C lo x78_12 Q e h =
    bd (fieldAddrV Try.prog 60 (E.get e 1) 1) fun t1 =>
    bd (loadV Try.prog 2 t1 (H.read h)) fun t2 =>
    bdB (binV Try.prog .eql 2 t2 (.int .i64 0)) fun b3 =>
    byT b3 (bd (fieldAddrV Try.prog 60 (E.get e 1) 2) fun t4 =>
    bd (loadV Try.prog 9 t4 (H.read h)) fun t5 =>
    bd (lenV Try.prog [9] t5) fun t6 =>
    bdB (binV Try.prog .leq 3 t6 (.int .i64 200)) fun b7 =>
    Q .rt ((2, .bool b7) :: e) h) (Q .rt ((2, .bool false) :: e) h) := nrfl (by kernel_rfl)
theorem q78_11 {lo : Nat} {Q : XQ} {e : E} {h : H} : XW C lo x78_11 Q e h =
    byV (E.get e 36) (XW C lo x78_12 (kX (XW C lo .skip Q) Q) [(1, E.get e 1), (36, E.get e 36)] h) (XW C lo .skip (kX (XW C lo .skip Q) Q) [(1, E.get e 1), (36, E.get e 36)] h) False := nrfl (by kernel_rfl)
theorem q78_9 {lo : Nat} {Q : XQ} {e : E} {h : H} : XW C lo x78_9 Q e h =
    bdB (binV Try.prog .eql 58 (E.get e 4) (.int .u8 4)) fun b1 =>
    byT b1 (XW C lo .skip (kX (XW C lo x78_11 Q) Q) ((36, .bool b1) :: e) h) (XW C lo x78_10 (kX (XW C lo x78_11 Q) Q) ((36, .bool b1) :: e) h) := nrfl (by kernel_rfl)
theorem q78_7 {lo : Nat} {Q : XQ} {e : E} {h : H} : XW C lo x78_7 Q e h =
    byV (E.get e 30) (XW C lo x78_8 (kX (XW C lo .skip Q) Q) [(1, E.get e 1), (4, E.get e 4), (30, E.get e 30)] h) (XW C lo x78_9 (kX (XW C lo .skip Q) Q) [(1, E.get e 1), (4, E.get e 4), (30, E.get e 30)] h) False := nrfl (by kernel_rfl)
theorem q78_5 {lo : Nat} {Q : XQ} {e : E} {h : H} : XW C lo x78_5 Q e h =
    bdB (binV Try.prog .eql 58 (E.get e 4) (.int .u8 2)) fun b1 =>
    byT b1 (XW C lo .skip (kX (XW C lo x78_7 Q) Q) ((30, .bool b1) :: e) h) (XW C lo x78_6 (kX (XW C lo x78_7 Q) Q) ((30, .bool b1) :: e) h) := nrfl (by kernel_rfl)
theorem q78_3 {lo : Nat} {Q : XQ} {e : E} {h : H} : XW C lo x78_3 Q e h =
    bdB (binV Try.prog .eql 58 (E.get e 4) (.int .u8 1)) fun b1 =>
    byT b1 (XW C lo x78_4 (kX (XW C lo .skip Q) Q) ((15, .bool b1) :: e) h) (XW C lo x78_5 (kX (XW C lo .skip Q) Q) ((15, .bool b1) :: e) h) := nrfl (by kernel_rfl)
theorem q78_1 {lo : Nat} {Q : XQ} {e : E} {h : H} : XW C lo x78_1 Q e h =
    bdB (binV Try.prog .eql 58 (E.get e 4) (.int .u8 0)) fun b1 =>
    byT b1 (XW C lo x78_2 (kX (XW C lo .skip Q) Q) ((5, .bool b1) :: e) h) (XW C lo x78_3 (kX (XW C lo .skip Q) Q) ((5, .bool b1) :: e) h) := nrfl (by kernel_rfl)
theorem q78_13 {lo : Nat} {Q : XQ} {e : E} {h : H} : XW C lo x78_13 Q e h =
    Q .rt [(2, .bool false)] h := nrfl (by kernel_rfl)
theorem q78_0 {lo : Nat} {Q : XQ} {e : E} {h : H} : XW C lo x78_0 Q e h =
    bd (fieldAddrV Try.prog 60 (.ptr (H.next h) 0) 0) fun t1 =>
    bd (loadV Try.prog 58 t1 (H.read (H.alloc h (V.cells (E.get e 0))))) fun t2 =>
    XW C lo x78_1 (kXB 0 (XW C lo x78_13 Q) Q) ((4, t2) :: (1, .ptr (H.next h) 0) :: e) (H.alloc h (V.cells (E.get e 0))) := nrfl (by kernel_rfl)

/-! ### chancery/chanceryref18.eight -/
def r79_0 : List SI := [⟨some 2, (.assign (.const (.slice none 0 0))), none⟩]
def r79_1 : List SI := [⟨some 5, (.makeSlice 22 (.const (.int .i64 8)) (.const (.int .i64 8))), none⟩,
  ⟨some 3, (.assign (.tmp 5)), none⟩]
def r79_2 : List SI := [⟨some 4, (.assign (.const (.int .i64 7))), none⟩]
def r79_3 : List SI := [⟨some 6, (.move (.tmp 4)), none⟩,
  ⟨some 7, (.binOp .geq 3 (.tmp 6) (.const (.int .i64 0)) 3), none⟩]
def r79_5 : List SI := [⟨some 10, (.move (.tmp 3)), none⟩,
  ⟨some 11, (.move (.tmp 4)), none⟩,
  ⟨some 12, (.move (.tmp 0)), none⟩,
  ⟨some 13, (.binOp .rem 92 (.tmp 12) (.const (.int .u64 256)) 92), none⟩,
  ⟨some 14, (.convert 92 5 (.tmp 13)), none⟩,
  ⟨some 15, (.indexAddr 22 (.tmp 10) (.tmp 11)), none⟩,
  ⟨none, (.store 5 (.tmp 15) (.tmp 14)), none⟩]
def r79_6 : List SI := [⟨some 16, (.move (.tmp 0)), none⟩,
  ⟨some 17, (.binOp .quo 92 (.tmp 16) (.const (.int .u64 256)) 92), none⟩,
  ⟨some 0, (.assign (.tmp 17)), none⟩]
def x79_4 : X := .ops r79_5 [] (.ops r79_6 [0] .skip)
def r79_4 : List SI := [⟨some 8, (.move (.tmp 4)), none⟩,
  ⟨some 9, (.binOp .sub 3 (.tmp 8) (.const (.int .i64 1)) 3), none⟩,
  ⟨some 4, (.assign (.tmp 9)), none⟩]
def x79_5 : X := .trim [0, 3, 4] (.ops r79_4 [4] .skip)
def x79_3 : X := .block 1 x79_4 x79_5
def x79_2 : X := .ops r79_3 [7] (.cond (.tmp 7) .skip (.exit 0) x79_3)
def x79_1 : X := .loop [0, 3, 4] x79_2
def r79_7 : List SI := [⟨some 18, (.move (.tmp 3)), none⟩,
  ⟨some 2, (.assign (.tmp 18)), none⟩]
def x79_6 : X := .trim [3] (.ops r79_7 [2] .ret)
def x79_0 : X := .ops r79_0 [] (.ops r79_1 [3] (.ops r79_2 [4] (.block 0 x79_1 x79_6)))
def n79 : Ann := .ops [] (.ops [3] (.ops [4] (.block [3] (.loop [0, 3, 4] (.ops [7] (.cond .stop .stop (.block [0, 3, 4] (.ops [] (.ops [0] .stop)) (.trim [0, 3, 4] (.ops [4] .stop)))))) (.trim [3] (.ops [2] .stop)))))
theorem ok79 : annFn Try.f79 1 n79 = some x79_0 := by kernel_rfl
noncomputable def kF79 (K : V → H → Prop) : XQ := kFnX C.P Try.f79.results.toList K
theorem e79_nx {K : V → H → Prop} {e : E} {h : H} : kF79 K .nx e h = K (E.get e 2) h := nrfl (by kernel_rfl)
theorem e79_rt {K : V → H → Prop} {e : E} {h : H} : kF79 K .rt e h = K (E.get e 2) h := nrfl (by kernel_rfl)
theorem enter79 {lo : Nat} {h : H} {vs : List V} {K : V → H → Prop} (hl : vs.length = 1) (hw : XW C lo x79_0 (kF79 K) (args 0 vs) h) : CW C 79 vs lo h K := by
  refine CW_X hS rfl Try.func79 ok79 hl ?_ hw
  rw [Try.ntmps79]
  decide
theorem q79_4 {lo : Nat} {Q : XQ} {e : E} {h : H} : XW C lo x79_4 Q e h =
    bd (binV Try.prog .rem 92 (E.get e 0) (.int .u64 256)) fun t1 =>
    bd (convV Try.prog (H.read h) 92 5 t1) fun r2 => KX h (fun t3 h4 =>
    bd (addrV Try.prog 22 (E.get e 3) (E.get e 4)) fun t5 =>
    bd (storeV Try.prog lo 5 t5 t3 h4) fun h6 =>
    bd (binV Try.prog .quo 92 (E.get e 0) (.int .u64 256)) fun t7 =>
    Q .nx ((0, t7) :: e) h6) r2 := nrfl (by kernel_rfl)
theorem q79_5 {lo : Nat} {Q : XQ} {e : E} {h : H} : XW C lo x79_5 Q e h =
    bd (binV Try.prog .sub 3 (E.get e 4) (.int .i64 1)) fun t1 =>
    Q .nx [(4, t1), (0, E.get e 0), (3, E.get e 3), (4, E.get e 4)] h := nrfl (by kernel_rfl)
theorem q79_3 {lo : Nat} {Q : XQ} {e : E} {h : H} : XW C lo x79_3 Q e h =
    XW C lo x79_4 (kXB 1 (XW C lo x79_5 Q) Q) e h := nrfl (by kernel_rfl)
theorem q79_2 {lo : Nat} {Q : XQ} {e : E} {h : H} : XW C lo x79_2 Q e h =
    bdB (binV Try.prog .geq 3 (E.get e 4) (.int .i64 0)) fun b1 =>
    byT b1 (XW C lo .skip (kX (XW C lo x79_3 Q) Q) ((7, .bool b1) :: e) h) (XW C lo (.exit 0) (kX (XW C lo x79_3 Q) Q) ((7, .bool b1) :: e) h) := nrfl (by kernel_rfl)
theorem q79_1 {lo : Nat} {Q : XQ} {e : E} {h : H} : XW C lo x79_1 Q e h =
    ∃ n, loopX [0, 3, 4] (XW C lo x79_2) Q n e h := nrfl (by kernel_rfl)
theorem q79_6 {lo : Nat} {Q : XQ} {e : E} {h : H} : XW C lo x79_6 Q e h =
    Q .rt [(2, E.get e 3), (3, E.get e 3)] h := nrfl (by kernel_rfl)
theorem q79_0 {lo : Nat} {Q : XQ} {e : E} {h : H} : XW C lo x79_0 Q e h =
    bd (makeSliceV Try.prog 22 (.int .i64 8) (.int .i64 8)) fun r1 => KX h (fun t2 h3 =>
    XW C lo x79_1 (kXB 0 (XW C lo x79_6 Q) Q) ((4, .int .i64 7) :: (3, t2) :: e) h3) r1 := nrfl (by kernel_rfl)

end Go.Proofs.Ytghmbmblhdgabaa.Code
