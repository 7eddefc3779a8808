/- The code of functions, with short environments; what each part comes to. -/
import Derived.Test.YtghmbmblhdgabaaShort
import Derived.Test.YtghmbmblhdgabaaProg
import Derived.KernelRfl
import Derived.Test.YtghmbmblhdgabaaCodeX
set_option linter.all false
namespace Go.Proofs.Ytghmbmblhdgabaa.Code
open Go Go.Den
set_option maxRecDepth 100000
theorem opsblkCodeW {lo : Nat} {Q : XQ} {e : E} {h : H} {l : List SI} {out : List Nat} {id : Nat} {b k : X} : XW C lo (.ops l out (.block id b k)) Q e h = LX C lo l (fun e1 h1 => XW C lo b (kXB id (XW C lo k Q) Q) (outs out e1 e) h1) e h := propext Iff.rfl
/-! ### chancery/chancerylaw29.WireBack -/
def r10_0 : List SI := [⟨some 3, (.box 75 (.tmp 1)), none⟩,
  ⟨some 4, (.assign (.const (.bool false))), none⟩]
def r10_1 : List SI := [⟨some 5, (.assign (.const (.slice none 0 0))), none⟩]
def r10_2 : List SI := [⟨some 6, (.assign (.const (.slice none 0 0))), none⟩]
def r10_3 : List SI := [⟨some 7, (.assign (.const (.int .i64 0))), none⟩]
def r10_4 : List SI := [⟨some 17, (.move (.tmp 7)), none⟩,
  ⟨some 18, (.move (.tmp 0)), none⟩,
  ⟨some 19, (.call { callee := (.builtin .len), args := #[(.tmp 18)], argTypes := #[26] }), none⟩,
  ⟨some 20, (.binOp .lss 3 (.tmp 17) (.tmp 19) 3), none⟩,
  ⟨some 21, (.move (.tmp 20)), none⟩,
  ⟨some 22, (.move (.tmp 7)), some (some 21, true)⟩,
  ⟨some 23, (.binOp .lss 3 (.tmp 22) (.const (.int .i64 50)) 3), some (some 21, true)⟩,
  ⟨some 24, (.pick (.tmp 21) (.tmp 23) (.const (.bool false))), none⟩]
def r10_6 : List SI := [⟨some 28, (.move (.tmp 0)), none⟩,
  ⟨some 29, (.move (.tmp 7)), none⟩,
  ⟨some 30, (.indexAddr 26 (.tmp 28) (.tmp 29)), none⟩,
  ⟨some 31, (.load 42 (.tmp 30)), none⟩,
  ⟨some 32, (.call { callee := (.value (.func 40)), args := #[(.tmp 31)], argTypes := #[42] }), none⟩,
  ⟨some 27, (.move (.tmp 32)), none⟩,
  ⟨some 33, (.extract (.tmp 27) 0), none⟩,
  ⟨some 34, (.extract (.tmp 27) 1), none⟩,
  ⟨some 8, (.assign (.tmp 33)), none⟩,
  ⟨some 9, (.assign (.tmp 34)), none⟩]
def r10_7 : List SI := [⟨some 35, (.move (.tmp 9)), none⟩,
  ⟨some 36, (.binOp .eql 27 (.tmp 35) (.const (.int .i64 0)) 27), none⟩]
def r10_8 : List SI := [⟨some 37, (.move (.tmp 5)), none⟩,
  ⟨some 38, (.move (.tmp 8)), none⟩,
  ⟨some 39, (.call { callee := (.builtin .append), args := #[(.tmp 37), (.tmp 38)], argTypes := #[22, 22] }), none⟩,
  ⟨some 5, (.assign (.tmp 39)), none⟩]
def r10_9 : List SI := [⟨some 40, (.move (.tmp 6)), none⟩,
  ⟨some 41, (.move (.tmp 0)), none⟩,
  ⟨some 42, (.move (.tmp 7)), none⟩,
  ⟨some 43, (.indexAddr 26 (.tmp 41) (.tmp 42)), none⟩,
  ⟨some 44, (.load 42 (.tmp 43)), none⟩,
  ⟨some 45, (.buildSlice 26 1 #[(0, (.tmp 44))]), none⟩,
  ⟨some 46, (.call { callee := (.builtin .append), args := #[(.tmp 40), (.tmp 45)], argTypes := #[26, 26] }), none⟩,
  ⟨some 6, (.assign (.tmp 46)), none⟩]
def x10_6 : X := .ops r10_8 [5] (.ops r10_9 [6] .skip)
def x10_7 : X := .trim [0, 3, 5, 6, 7] .skip
def x10_5 : X := .ops r10_6 [8, 9] (.ops r10_7 [36] (.cond (.tmp 36) x10_6 .skip x10_7))
def r10_5 : List SI := [⟨some 25, (.move (.tmp 7)), none⟩,
  ⟨some 26, (.binOp .add 3 (.tmp 25) (.const (.int .i64 1)) 3), none⟩,
  ⟨some 7, (.assign (.tmp 26)), none⟩]
def x10_8 : X := .trim [0, 3, 5, 6, 7] (.ops r10_5 [7] .skip)
def x10_4 : X := .block 1 x10_5 x10_8
def x10_3 : X := .cond (.tmp 24) .skip (.exit 0) x10_4
def x10_2 : X := .ops r10_4 [24] x10_3
def x10_1 : X := .loop [0, 3, 5, 6, 7] x10_2
def r10_10 : List SI := [⟨some 47, (.call { callee := (.value (.func 11)), args := #[], argTypes := #[] }), none⟩,
  ⟨some 10, (.assign (.tmp 47)), none⟩]
def r10_11 : List SI := [⟨some 49, (.move (.tmp 10)), none⟩,
  ⟨some 50, (.move (.tmp 5)), none⟩,
  ⟨some 51, (.call { callee := (.value (.func 12)), args := #[(.tmp 49), (.tmp 50)], argTypes := #[24, 22] }), none⟩,
  ⟨some 48, (.move (.tmp 51)), none⟩,
  ⟨some 52, (.extract (.tmp 48) 0), none⟩,
  ⟨some 53, (.extract (.tmp 48) 1), none⟩,
  ⟨some 11, (.assign (.tmp 52)), none⟩,
  ⟨some 12, (.assign (.tmp 53)), none⟩]
def r10_12 : List SI := [⟨some 54, (.move (.tmp 12)), none⟩,
  ⟨some 55, (.binOp .neq 27 (.tmp 54) (.const (.int .i64 0)) 27), none⟩,
  ⟨some 56, (.move (.tmp 55)), none⟩,
  ⟨some 57, (.move (.tmp 10)), some (some 56, false)⟩,
  ⟨some 58, (.call { callee := (.value (.func 17)), args := #[(.tmp 57)], argTypes := #[24] }), some (some 56, false)⟩,
  ⟨some 59, (.binOp .neq 3 (.tmp 58) (.const (.int .i64 0)) 3), some (some 56, false)⟩,
  ⟨some 60, (.pick (.tmp 56) (.const (.bool true)) (.tmp 59)), none⟩,
  ⟨some 61, (.move (.tmp 60)), none⟩,
  ⟨some 62, (.move (.tmp 11)), some (some 61, false)⟩,
  ⟨some 63, (.move (.tmp 6)), some (some 61, false)⟩,
  ⟨some 64, (.call { callee := (.value (.func 16)), args := #[(.tmp 62), (.tmp 63)], argTypes := #[26, 26] }), some (some 61, false)⟩,
  ⟨some 65, (.unOp .not 4 (.tmp 64)), some (some 61, false)⟩,
  ⟨some 66, (.pick (.tmp 61) (.const (.bool true)) (.tmp 65)), none⟩]
def r10_13 : List SI := [⟨some 4, (.assign (.const (.bool false))), none⟩]
def x10_11 : X := .ops r10_13 [4] .ret
def r10_14 : List SI := [⟨some 68, (.load 75 (.tmp 3)), none⟩,
  ⟨some 69, (.call { callee := (.value (.func 35)), args := #[(.tmp 68)], argTypes := #[75] }), none⟩,
  ⟨some 67, (.move (.tmp 69)), none⟩,
  ⟨some 70, (.extract (.tmp 67) 0), none⟩,
  ⟨some 71, (.extract (.tmp 67) 1), none⟩,
  ⟨some 13, (.assign (.tmp 70)), none⟩,
  ⟨some 14, (.assign (.tmp 71)), none⟩]
def r10_15 : List SI := [⟨some 72, (.move (.tmp 14)), none⟩,
  ⟨some 73, (.binOp .neq 27 (.tmp 72) (.const (.int .i64 0)) 27), none⟩]
def r10_16 : List SI := [⟨some 74, (.move (.tmp 13)), none⟩,
  ⟨some 75, (.call { callee := (.builtin .len), args := #[(.tmp 74)], argTypes := #[26] }), none⟩,
  ⟨some 76, (.binOp .eql 3 (.tmp 75) (.const (.int .i64 0)) 3), none⟩,
  ⟨some 77, (.move (.tmp 76)), none⟩,
  ⟨some 78, (.call { callee := (.value (.func 15)), args := #[], argTypes := #[] }), some (some 77, true)⟩,
  ⟨some 79, (.pick (.tmp 77) (.tmp 78) (.const (.bool false))), none⟩,
  ⟨some 4, (.assign (.tmp 79)), none⟩]
def x10_13 : X := .ops r10_16 [4] .ret
def r10_17 : List SI := [⟨some 81, (.move (.tmp 13)), none⟩,
  ⟨some 82, (.call { callee := (.value (.func 37)), args := #[(.tmp 81)], argTypes := #[26] }), none⟩,
  ⟨some 80, (.move (.tmp 82)), none⟩,
  ⟨some 83, (.extract (.tmp 80) 0), none⟩,
  ⟨some 84, (.extract (.tmp 80) 1), none⟩,
  ⟨some 15, (.alloc 75), none⟩,
  ⟨none, (.store 75 (.tmp 15) (.tmp 83)), none⟩,
  ⟨some 16, (.assign (.tmp 84)), none⟩]
def r10_18 : List SI := [⟨some 85, (.move (.tmp 16)), none⟩,
  ⟨some 86, (.binOp .eql 27 (.tmp 85) (.const (.int .i64 0)) 27), none⟩,
  ⟨some 87, (.move (.tmp 86)), none⟩,
  ⟨some 88, (.load 75 (.tmp 3)), some (some 87, true)⟩,
  ⟨some 89, (.load 75 (.tmp 15)), some (some 87, true)⟩,
  ⟨some 90, (.call { callee := (.value (.func 39)), args := #[(.tmp 88), (.tmp 89)], argTypes := #[75, 75] }), some (some 87, true)⟩,
  ⟨some 91, (.pick (.tmp 87) (.tmp 90) (.const (.bool false))), none⟩,
  ⟨some 92, (.move (.tmp 91)), none⟩,
  ⟨some 93, (.call { callee := (.value (.func 15)), args := #[], argTypes := #[] }), some (some 92, true)⟩,
  ⟨some 94, (.pick (.tmp 92) (.tmp 93) (.const (.bool false))), none⟩,
  ⟨some 4, (.assign (.tmp 94)), none⟩]
def x10_14 : X := .ops r10_17 [15, 16] (.ops r10_18 [4] .ret)
def x10_12 : X := .ops r10_14 [13, 14] (.ops r10_15 [73] (.cond (.tmp 73) x10_13 .skip x10_14))
def x10_10 : X := .cond (.tmp 66) x10_11 .skip x10_12
def x10_9 : X := .trim [3, 5, 6] (.ops r10_10 [10] (.ops r10_11 [11, 12] (.ops r10_12 [66] x10_10)))
def x10_0 : X := .ops r10_0 [3] (.ops r10_1 [5] (.ops r10_2 [6] (.ops r10_3 [7] (.block 0 x10_1 x10_9))))
def n10 : Ann := .ops [3] (.ops [5] (.ops [6] (.ops [7] (.block [3, 5, 6] (.loop [0, 3, 5, 6, 7] (.ops [24] (.cond .stop .stop (.block [0, 3, 5, 6, 7] (.ops [8, 9] (.ops [36] (.cond (.ops [5] (.ops [6] .stop)) .stop (.trim [0, 3, 5, 6, 7] .stop)))) (.trim [0, 3, 5, 6, 7] (.ops [7] .stop)))))) (.trim [3, 5, 6] (.ops [10] (.ops [11, 12] (.ops [66] (.cond (.ops [4] .stop) .stop (.ops [13, 14] (.ops [73] (.cond (.ops [4] .stop) .stop (.ops [15, 16] (.ops [4] .stop))))))))))))))
theorem ok10 : annFn Try.f10 2 n10 = some x10_0 := by kernel_rfl
noncomputable def kF10 (K : V → H → Prop) : XQ := kFnX C.P Try.f10.results.toList K
theorem e10_nx {K : V → H → Prop} {e : E} {h : H} : kF10 K .nx e h = K (E.get e 4) h := nrfl (by kernel_rfl)
theorem e10_rt {K : V → H → Prop} {e : E} {h : H} : kF10 K .rt e h = K (E.get e 4) h := nrfl (by kernel_rfl)
theorem enter10 {lo : Nat} {h : H} {vs : List V} {K : V → H → Prop} (hl : vs.length = 2) (hw : XW C lo x10_0 (kF10 K) (args 0 vs) h) : CW C 10 vs lo h K := by
  refine CW_X hS rfl Try.func10 ok10 hl ?_ hw
  rw [Try.ntmps10]
  decide
theorem q10_6 {lo : Nat} {Q : XQ} {e : E} {h : H} : XW C lo x10_6 Q e h =
    bd2 (appendV Try.prog lo [22, 22] (E.get e 5) (E.get e 8) h) fun t1 h2 =>
    bd (addrV Try.prog 26 (E.get e 0) (E.get e 7)) fun t3 =>
    bd (loadV Try.prog 42 t3 (H.read h2)) fun t4 =>
    bd (buildSliceV Try.prog 26 1 [(0, t4)]) fun r5 => KX h2 (fun t6 h7 =>
    bd2 (appendV Try.prog lo [26, 26] (E.get e 6) t6 h7) fun t8 h9 =>
    Q .nx ((6, t8) :: (5, t1) :: e) h9) r5 := nrfl (by kernel_rfl)
theorem q10_7 {lo : Nat} {Q : XQ} {e : E} {h : H} : XW C lo x10_7 Q e h =
    Q .nx [(0, E.get e 0), (3, E.get e 3), (5, E.get e 5), (6, E.get e 6), (7, E.get e 7)] h := nrfl (by kernel_rfl)
theorem q10_5 {lo : Nat} {Q : XQ} {e : E} {h : H} : XW C lo x10_5 Q e h =
    bd (addrV Try.prog 26 (E.get e 0) (E.get e 7)) fun t1 =>
    bd (loadV Try.prog 42 t1 (H.read h)) fun t2 =>
    CW C 40 [t2] lo h fun t3 h4 =>
    tupX t3 fun l5 => bd (l5[0]?) fun t6 =>
    tupX t3 fun l7 => bd (l7[1]?) fun t8 =>
    bdB (binV Try.prog .eql 27 t8 (.int .i64 0)) fun b9 =>
    byT b9 (XW C lo x10_6 (kX (XW C lo x10_7 Q) Q) ((36, .bool b9) :: (8, t6) :: (9, t8) :: e) h4) (XW C lo .skip (kX (XW C lo x10_7 Q) Q) ((36, .bool b9) :: (8, t6) :: (9, t8) :: e) h4) := nrfl (by kernel_rfl)
theorem q10_8 {lo : Nat} {Q : XQ} {e : E} {h : H} : XW C lo x10_8 Q e h =
    bd (binV Try.prog .add 3 (E.get e 7) (.int .i64 1)) fun t1 =>
    Q .nx [(7, t1), (0, E.get e 0), (3, E.get e 3), (5, E.get e 5), (6, E.get e 6), (7, E.get e 7)] h := nrfl (by kernel_rfl)
theorem q10_4 {lo : Nat} {Q : XQ} {e : E} {h : H} : XW C lo x10_4 Q e h =
    XW C lo x10_5 (kXB 1 (XW C lo x10_8 Q) Q) e h := nrfl (by kernel_rfl)
theorem q10_3 {lo : Nat} {Q : XQ} {e : E} {h : H} : XW C lo x10_3 Q e h =
    byV (E.get e 24) (XW C lo .skip (kX (XW C lo x10_4 Q) Q) e h) (XW C lo (.exit 0) (kX (XW C lo x10_4 Q) Q) e h) False := nrfl (by kernel_rfl)
theorem q10_2 {lo : Nat} {Q : XQ} {e : E} {h : H} : XW C lo x10_2 Q e h =
    bd (lenV Try.prog [26] (E.get e 0)) fun t1 =>
    bdB (binV Try.prog .lss 3 (E.get e 7) t1) fun b2 =>
    byT b2 (bdB (binV Try.prog .lss 3 (E.get e 7) (.int .i64 50)) fun b3 =>
    byT b3 (XW C lo .skip (kX (XW C lo x10_4 Q) Q) ((24, .bool b3) :: e) h) (XW C lo (.exit 0) (kX (XW C lo x10_4 Q) Q) ((24, .bool b3) :: e) h)) (XW C lo (.exit 0) (kX (XW C lo x10_4 Q) Q) ((24, .bool false) :: e) h) := nrfl (by kernel_rfl)
theorem q10_1 {lo : Nat} {Q : XQ} {e : E} {h : H} : XW C lo x10_1 Q e h =
    ∃ n, loopX [0, 3, 5, 6, 7] (XW C lo x10_2) Q n e h := nrfl (by kernel_rfl)
theorem q10_11 {lo : Nat} {Q : XQ} {e : E} {h : H} : XW C lo x10_11 Q e h =
    Q .rt ((4, .bool false) :: e) h := nrfl (by kernel_rfl)
theorem q10_13 {lo : Nat} {Q : XQ} {e : E} {h : H} : XW C lo x10_13 Q e h =
    bd (lenV Try.prog [26] (E.get e 13)) fun t1 =>
    bdB (binV Try.prog .eql 3 t1 (.int .i64 0)) fun b2 =>
    byT b2 (CW C 15 [] lo h fun t3 h4 =>
    Q .rt ((4, t3) :: e) h4) (Q .rt ((4, .bool false) :: e) h) := nrfl (by kernel_rfl)
theorem q10_14 {lo : Nat} {Q : XQ} {e : E} {h : H} : XW C lo x10_14 Q e h =
    CW C 37 [E.get e 13] lo h fun t1 h2 =>
    tupX t1 fun l3 => bd (l3[0]?) fun t4 =>
    tupX t1 fun l5 => bd (l5[1]?) fun t6 =>
    bd (zero? Try.prog 75) fun z7 =>
    bd (storeV Try.prog lo 75 (.ptr (H.next h2) 0) t4 (H.alloc h2 (V.cells z7))) fun h8 =>
    bdB (binV Try.prog .eql 27 t6 (.int .i64 0)) fun b9 =>
    byT b9 (bd (loadV Try.prog 75 (E.get e 3) (H.read h8)) fun t10 =>
    bd (loadV Try.prog 75 (.ptr (H.next h2) 0) (H.read h8)) fun t11 =>
    CW C 39 [t10, t11] lo h8 fun t12 h13 =>
    byV t12 (CW C 15 [] lo h13 fun t14 h15 =>
    Q .rt ((4, t14) :: (15, .ptr (H.next h2) 0) :: (16, t6) :: e) h15) (Q .rt ((4, .bool false) :: (15, .ptr (H.next h2) 0) :: (16, t6) :: e) h13) (False)) (Q .rt ((4, .bool false) :: (15, .ptr (H.next h2) 0) :: (16, t6) :: e) h8) := nrfl (by kernel_rfl)
theorem q10_12 {lo : Nat} {Q : XQ} {e : E} {h : H} : XW C lo x10_12 Q e h =
    bd (loadV Try.prog 75 (E.get e 3) (H.read h)) fun t1 =>
    CW C 35 [t1] lo h fun t2 h3 =>
    tupX t2 fun l4 => bd (l4[0]?) fun t5 =>
    tupX t2 fun l6 => bd (l6[1]?) fun t7 =>
    bdB (binV Try.prog .neq 27 t7 (.int .i64 0)) fun b8 =>
    byT b8 (XW C lo x10_13 (kX (XW C lo x10_14 Q) Q) ((73, .bool b8) :: (13, t5) :: (14, t7) :: e) h3) (XW C lo .skip (kX (XW C lo x10_14 Q) Q) ((73, .bool b8) :: (13, t5) :: (14, t7) :: e) h3) := nrfl (by kernel_rfl)
theorem q10_10 {lo : Nat} {Q : XQ} {e : E} {h : H} : XW C lo x10_10 Q e h =
    byV (E.get e 66) (XW C lo x10_11 (kX (XW C lo x10_12 Q) Q) e h) (XW C lo .skip (kX (XW C lo x10_12 Q) Q) e h) False := nrfl (by kernel_rfl)
theorem q10_9 {lo : Nat} {Q : XQ} {e : E} {h : H} : XW C lo x10_9 Q e h =
    CW C 11 [] lo h fun t1 h2 =>
    CW C 12 [t1, E.get e 5] lo h2 fun t3 h4 =>
    tupX t3 fun l5 => bd (l5[0]?) fun t6 =>
    tupX t3 fun l7 => bd (l7[1]?) fun t8 =>
    bdB (binV Try.prog .neq 27 t8 (.int .i64 0)) fun b9 =>
    byT b9 (XW C lo x10_11 (kX (XW C lo x10_12 Q) Q) [(66, .bool true), (11, t6), (12, t8), (10, t1), (3, E.get e 3), (5, E.get e 5), (6, E.get e 6)] h4) (CW C 17 [t1] lo h4 fun t10 h11 =>
    bdB (binV Try.prog .neq 3 t10 (.int .i64 0)) fun b12 =>
    byT b12 (XW C lo x10_11 (kX (XW C lo x10_12 Q) Q) [(66, .bool true), (11, t6), (12, t8), (10, t1), (3, E.get e 3), (5, E.get e 5), (6, E.get e 6)] h11) (CW C 16 [t6, E.get e 6] lo h11 fun t13 h14 =>
    bd (unV .not t13) fun t15 =>
    byV t15 (XW C lo x10_11 (kX (XW C lo x10_12 Q) Q) [(66, t15), (11, t6), (12, t8), (10, t1), (3, E.get e 3), (5, E.get e 5), (6, E.get e 6)] h14) (XW C lo .skip (kX (XW C lo x10_12 Q) Q) [(66, t15), (11, t6), (12, t8), (10, t1), (3, E.get e 3), (5, E.get e 5), (6, E.get e 6)] h14) False)) := nrfl (by kernel_rfl)
theorem q10_0 {lo : Nat} {Q : XQ} {e : E} {h : H} : XW C lo x10_0 Q e h =
    XW C lo x10_1 (kXB 0 (XW C lo x10_9 Q) Q) ((7, .int .i64 0) :: (6, .nils) :: (5, .nils) :: (3, .ptr (H.next h) 0) :: e) (H.alloc h (V.cells (E.get e 1))) := nrfl (by kernel_rfl)

/-! ### chancery/wire.four -/
def r63_0 : List SI := [⟨some 2, (.assign (.const (.slice none 0 0))), none⟩]
def r63_1 : List SI := [⟨some 3, (.move (.tmp 0)), none⟩,
  ⟨some 4, (.binOp .shr 3 (.tmp 3) (.const (.int .u64 24)) 95), none⟩,
  ⟨some 5, (.convert 3 5 (.tmp 4)), none⟩,
  ⟨some 6, (.move (.tmp 0)), none⟩,
  ⟨some 7, (.binOp .shr 3 (.tmp 6) (.const (.int .u64 16)) 95), none⟩,
  ⟨some 8, (.convert 3 5 (.tmp 7)), none⟩,
  ⟨some 9, (.move (.tmp 0)), none⟩,
  ⟨some 10, (.binOp .shr 3 (.tmp 9) (.const (.int .u64 8)) 95), none⟩,
  ⟨some 11, (.convert 3 5 (.tmp 10)), none⟩,
  ⟨some 12, (.move (.tmp 0)), none⟩,
  ⟨some 13, (.convert 3 5 (.tmp 12)), none⟩,
  ⟨some 14, (.buildSlice 22 4 #[(0, (.tmp 5)), (1, (.tmp 8)), (2, (.tmp 11)), (3, (.tmp 13))]), none⟩,
  ⟨some 2, (.assign (.tmp 14)), none⟩]
def x63_0 : X := .ops r63_0 [] (.ops r63_1 [2] .ret)
def n63 : Ann := .ops [] (.ops [2] .stop)
theorem ok63 : annFn Try.f63 1 n63 = some x63_0 := by kernel_rfl
noncomputable def kF63 (K : V → H → Prop) : XQ := kFnX C.P Try.f63.results.toList K
theorem e63_nx {K : V → H → Prop} {e : E} {h : H} : kF63 K .nx e h = K (E.get e 2) h := nrfl (by kernel_rfl)
theorem e63_rt {K : V → H → Prop} {e : E} {h : H} : kF63 K .rt e h = K (E.get e 2) h := nrfl (by kernel_rfl)
theorem enter63 {lo : Nat} {h : H} {vs : List V} {K : V → H → Prop} (hl : vs.length = 1) (hw : XW C lo x63_0 (kF63 K) (args 0 vs) h) : CW C 63 vs lo h K := by
  refine CW_X hS rfl Try.func63 ok63 hl ?_ hw
  rw [Try.ntmps63]
  decide
theorem q63_0 {lo : Nat} {Q : XQ} {e : E} {h : H} : XW C lo x63_0 Q e h =
    bd (binV Try.prog .shr 3 (E.get e 0) (.int .u64 24)) fun t1 =>
    bd (convV Try.prog (H.read h) 3 5 t1) fun r2 => KX h (fun t3 h4 =>
    bd (binV Try.prog .shr 3 (E.get e 0) (.int .u64 16)) fun t5 =>
    bd (convV Try.prog (H.read h4) 3 5 t5) fun r6 => KX h4 (fun t7 h8 =>
    bd (binV Try.prog .shr 3 (E.get e 0) (.int .u64 8)) fun t9 =>
    bd (convV Try.prog (H.read h8) 3 5 t9) fun r10 => KX h8 (fun t11 h12 =>
    bd (convV Try.prog (H.read h12) 3 5 (E.get e 0)) fun r13 => KX h12 (fun t14 h15 =>
    bd (buildSliceV Try.prog 22 4 [(0, t3), (1, t7), (2, t11), (3, t14)]) fun r16 => KX h15 (fun t17 h18 =>
    Q .rt ((2, t17) :: e) h18) r16) r13) r10) r6) r2 := nrfl (by kernel_rfl)

/-! ### chancery/wire.Put -/
def r40_0 : List SI := [⟨some 1, (.box 42 (.tmp 0)), none⟩,
  ⟨some 2, (.assign (.const (.slice none 0 0))), none⟩,
  ⟨some 3, (.assign (.const (.int .i64 0))), none⟩]
def r40_1 : List SI := [⟨some 5, (.fieldAddr 42 (.tmp 1) 0), none⟩,
  ⟨some 6, (.load 40 (.tmp 5)), none⟩,
  ⟨some 7, (.call { callee := (.value (.func 71)), args := #[(.tmp 6)], argTypes := #[40] }), none⟩,
  ⟨some 8, (.unOp .not 4 (.tmp 7)), none⟩,
  ⟨some 4, (.assign (.tmp 8)), none⟩]
def r40_2 : List SI := [⟨some 2, (.assign (.const (.slice none 0 0))), none⟩,
  ⟨some 3, (.assign (.const (.int .i64 2))), none⟩]
def x40_2 : X := .ops r40_2 [2, 3] .ret
def r40_3 : List SI := [⟨some 10, (.fieldAddr 42 (.tmp 1) 1), none⟩,
  ⟨some 11, (.load 22 (.tmp 10)), none⟩,
  ⟨some 12, (.call { callee := (.builtin .len), args := #[(.tmp 11)], argTypes := #[22] }), none⟩,
  ⟨some 13, (.binOp .geq 3 (.tmp 12) (.const (.int .i64 8192)) 3), none⟩,
  ⟨some 9, (.assign (.tmp 13)), none⟩]
def r40_4 : List SI := [⟨some 2, (.assign (.const (.slice none 0 0))), none⟩,
  ⟨some 3, (.assign (.const (.int .i64 3))), none⟩]
def x40_4 : X := .ops r40_4 [2, 3] .ret
def x40_3 : X := .ops r40_3 [9] (.cond (.tmp 9) x40_4 .skip .skip)
def x40_1 : X := .ops r40_1 [4] (.cond (.tmp 4) x40_2 x40_3 .skip)
def r40_5a : List SI := [⟨some 14, (.fieldAddr 42 (.tmp 1) 1), none⟩,
  ⟨some 15, (.load 22 (.tmp 14)), none⟩,
  ⟨some 16, (.call { callee := (.builtin .len), args := #[(.tmp 15)], argTypes := #[22] }), none⟩,
  ⟨some 17, (.binOp .add 3 (.tmp 16) (.const (.int .i64 1)) 3), none⟩,
  ⟨some 18, (.call { callee := (.value (.func 63)), args := #[(.tmp 17)], argTypes := #[3] }), none⟩,
  ⟨some 19, (.fieldAddr 42 (.tmp 1) 0), none⟩,
  ⟨some 20, (.load 40 (.tmp 19)), none⟩,
  ⟨some 21, (.buildSlice 22 1 #[(0, (.tmp 20))]), none⟩,
  ⟨some 22, (.call { callee := (.builtin .append), args := #[(.tmp 18), (.tmp 21)], argTypes := #[22, 22] }), none⟩,
  ⟨some 23, (.fieldAddr 42 (.tmp 1) 1), none⟩,
  ⟨some 24, (.load 22 (.tmp 23)), none⟩]
def r40_5b : List SI := [⟨some 25, (.call { callee := (.builtin .append), args := #[(.tmp 22), (.tmp 24)], argTypes := #[22, 22] }), none⟩,
  ⟨some 2, (.assign (.tmp 25)), none⟩,
  ⟨some 3, (.assign (.const (.int .i64 0))), none⟩]
def x40_5 : X := .trim [1] (.front false r40_5a r40_5b [2, 3] .ret)
def x40_0 : X := .ops r40_0 [1] (.block 0 x40_1 x40_5)
def n40 : Ann := .ops [1] (.block [1] (.ops [4] (.cond (.ops [2, 3] .stop) (.ops [9] (.cond (.ops [2, 3] .stop) .stop .stop)) .stop)) (.trim [1] (.ops [2, 3] .stop)))
theorem ok40 : annFn Try.f40 1 n40 = some x40_0 := by kernel_rfl
noncomputable def kF40 (K : V → H → Prop) : XQ := kFnX C.P Try.f40.results.toList K
theorem e40_nx {K : V → H → Prop} {e : E} {h : H} : kF40 K .nx e h = K (.tup [E.get e 2, E.get e 3]) h := nrfl (by kernel_rfl)
theorem e40_rt {K : V → H → Prop} {e : E} {h : H} : kF40 K .rt e h = K (.tup [E.get e 2, E.get e 3]) h := nrfl (by kernel_rfl)
theorem enter40 {lo : Nat} {h : H} {vs : List V} {K : V → H → Prop} (hl : vs.length = 1) (hw : XW C lo x40_0 (kF40 K) (args 0 vs) h) : CW C 40 vs lo h K := by
  refine CW_X hS rfl Try.func40 ok40 hl ?_ hw
  rw [Try.ntmps40]
  decide
theorem q40_2 {lo : Nat} {Q : XQ} {e : E} {h : H} : XW C lo x40_2 Q e h =
    Q .rt ((2, .nils) :: (3, .int .i64 2) :: e) h := nrfl (by kernel_rfl)
theorem q40_4 {lo : Nat} {Q : XQ} {e : E} {h : H} : XW C lo x40_4 Q e h =
    Q .rt ((2, .nils) :: (3, .int .i64 3) :: e) h := nrfl (by kernel_rfl)
theorem q40_3 {lo : Nat} {Q : XQ} {e : E} {h : H} : XW C lo x40_3 Q e h =
    bd (fieldAddrV Try.prog 42 (E.get e 1) 1) fun t1 =>
    bd (loadV Try.prog 22 t1 (H.read h)) fun t2 =>
    bd (lenV Try.prog [22] t2) fun t3 =>
    bdB (binV Try.prog .geq 3 t3 (.int .i64 8192)) fun b4 =>
    byT b4 (XW C lo x40_4 (kX (XW C lo .skip Q) Q) ((9, .bool b4) :: e) h) (XW C lo .skip (kX (XW C lo .skip Q) Q) ((9, .bool b4) :: e) h) := nrfl (by kernel_rfl)
theorem q40_1 {lo : Nat} {Q : XQ} {e : E} {h : H} : XW C lo x40_1 Q e h =
    bd (fieldAddrV Try.prog 42 (E.get e 1) 0) fun t1 =>
    bd (loadV Try.prog 40 t1 (H.read h)) fun t2 =>
    CW C 71 [t2] lo h fun t3 h4 =>
    bd (unV .not t3) fun t5 =>
    byV t5 (XW C lo x40_2 (kX (XW C lo .skip Q) Q) ((4, t5) :: e) h4) (XW C lo x40_3 (kX (XW C lo .skip Q) Q) ((4, t5) :: e) h4) False := nrfl (by kernel_rfl)
theorem q40_5 {lo : Nat} {Q : XQ} {e : E} {h : H} : XW C lo x40_5 Q e h =
    bd (fieldAddrV Try.prog 42 (E.get e 1) 1) fun t1 =>
    bd (loadV Try.prog 22 t1 (H.read h)) fun t2 =>
    bd (lenV Try.prog [22] t2) fun t3 =>
    bd (binV Try.prog .add 3 t3 (.int .i64 1)) fun t4 =>
    CW C 63 [t4] (H.next h) h fun t5 h6 =>
    bd (fieldAddrV Try.prog 42 (E.get e 1) 0) fun t7 =>
    bd (loadV Try.prog 40 t7 (H.read h6)) fun t8 =>
    bd (buildSliceV Try.prog 22 1 [(0, t8)]) fun r9 => KX h6 (fun t10 h11 =>
    endX h11 t5 (bd2 (appendV Try.prog lo [22, 22] t5 t10 h11) fun t12 h13 =>
    bd (fieldAddrV Try.prog 42 (E.get e 1) 1) fun t14 =>
    bd (loadV Try.prog 22 t14 (H.read h13)) fun t15 =>
    bd2 (appendV Try.prog lo [22, 22] t12 t15 h13) fun t16 h17 =>
    Q .rt [(2, t16), (3, .int .i64 0), (1, E.get e 1)] h17)) r9 := nrfl (by kernel_rfl)
theorem z40_0 {lo : Nat} {Z : E → H → Prop} {e : E} {h : H} : LX C lo r40_0 (fun e1 h1 => Z (outs [1] e1 e) h1) e h =
    Z ((1, .ptr (H.next h) 0) :: e) (H.alloc h (V.cells (E.get e 0))) := nrfl (by kernel_rfl)
theorem q40_0 {lo : Nat} {Q : XQ} {e : E} {h : H} : XW C lo x40_0 Q e h =
    XW C lo x40_1 (kXB 0 (XW C lo x40_5 Q) Q) ((1, .ptr (H.next h) 0) :: e) (H.alloc h (V.cells (E.get e 0))) :=
  (opsblkCodeW (l := r40_0) (out := [1]) (id := 0) (b := x40_1) (k := x40_5)).trans (z40_0 (Z := fun e1 h1 => XW C lo x40_1 (kXB 0 (XW C lo x40_5 Q) Q) e1 h1))

/-! ### chancery/wire.Answer -/
def r35_0 : List SI := [⟨some 1, (.box 75 (.tmp 0)), none⟩,
  ⟨some 2, (.assign (.const (.slice none 0 0))), none⟩,
  ⟨some 3, (.assign (.const (.int .i64 0))), none⟩]
def r35_1 : List SI := [⟨some 13, (.fieldAddr 75 (.tmp 1) 1), none⟩,
  ⟨some 14, (.load 73 (.tmp 13)), none⟩,
  ⟨some 15, (.call { callee := (.builtin .len), args := #[(.tmp 14)], argTypes := #[73] }), none⟩,
  ⟨some 16, (.binOp .gtr 3 (.tmp 15) (.const (.int .i64 0)) 3), none⟩,
  ⟨some 17, (.move (.tmp 16)), none⟩,
  ⟨some 18, (.fieldAddr 75 (.tmp 1) 0), some (some 17, true)⟩,
  ⟨some 19, (.load 72 (.tmp 18)), some (some 17, true)⟩,
  ⟨some 20, (.call { callee := (.builtin .len), args := #[(.tmp 19)], argTypes := #[72] }), some (some 17, true)⟩,
  ⟨some 21, (.binOp .eql 3 (.tmp 20) (.const (.int .i64 0)) 3), some (some 17, true)⟩,
  ⟨some 22, (.pick (.tmp 17) (.tmp 21) (.const (.bool false))), none⟩,
  ⟨some 23, (.move (.tmp 22)), none⟩,
  ⟨some 24, (.fieldAddr 75 (.tmp 1) 2), some (some 23, false)⟩,
  ⟨some 25, (.load 3 (.tmp 24)), some (some 23, false)⟩,
  ⟨some 26, (.binOp .lss 3 (.tmp 25) (.const (.int .i64 0)) 3), some (some 23, false)⟩,
  ⟨some 27, (.pick (.tmp 23) (.const (.bool true)) (.tmp 26)), none⟩,
  ⟨some 28, (.move (.tmp 27)), none⟩,
  ⟨some 29, (.fieldAddr 75 (.tmp 1) 2), some (some 28, false)⟩,
  ⟨some 30, (.load 3 (.tmp 29)), some (some 28, false)⟩,
  ⟨some 31, (.binOp .gtr 3 (.tmp 30) (.const (.int .i64 2147483647)) 3), some (some 28, false)⟩,
  ⟨some 32, (.pick (.tmp 28) (.const (.bool true)) (.tmp 31)), none⟩,
  ⟨some 12, (.assign (.tmp 32)), none⟩]
def r35_2 : List SI := [⟨some 2, (.assign (.const (.slice none 0 0))), none⟩,
  ⟨some 3, (.assign (.const (.int .i64 2))), none⟩]
def x35_3 : X := .ops r35_2 [2, 3] .ret
def r35_3 : List SI := [⟨some 34, (.fieldAddr 75 (.tmp 1) 0), none⟩,
  ⟨some 35, (.load 72 (.tmp 34)), none⟩,
  ⟨some 36, (.call { callee := (.builtin .len), args := #[(.tmp 35)], argTypes := #[72] }), none⟩,
  ⟨some 37, (.binOp .gtr 3 (.tmp 36) (.const (.int .i64 255)) 3), none⟩,
  ⟨some 33, (.assign (.tmp 37)), none⟩]
def r35_4 : List SI := [⟨some 2, (.assign (.const (.slice none 0 0))), none⟩,
  ⟨some 3, (.assign (.const (.int .i64 3))), none⟩]
def x35_5 : X := .ops r35_4 [2, 3] .ret
def x35_4 : X := .ops r35_3 [33] (.cond (.tmp 33) x35_5 .skip .skip)
def x35_2 : X := .cond (.tmp 12) x35_3 x35_4 .skip
def x35_1 : X := .ops r35_1 [12] x35_2
def r35_5 : List SI := [⟨some 38, (.fieldAddr 75 (.tmp 1) 0), none⟩,
  ⟨some 39, (.load 72 (.tmp 38)), none⟩,
  ⟨some 40, (.call { callee := (.builtin .len), args := #[(.tmp 39)], argTypes := #[72] }), none⟩,
  ⟨some 41, (.convert 3 5 (.tmp 40)), none⟩,
  ⟨some 42, (.buildSlice 22 1 #[(0, (.tmp 41))]), none⟩,
  ⟨some 4, (.assign (.tmp 42)), none⟩]
def r35_6 : List SI := [⟨some 43, (.fieldAddr 75 (.tmp 1) 0), none⟩,
  ⟨some 44, (.load 72 (.tmp 43)), none⟩,
  ⟨some 45, (.call { callee := (.builtin .len), args := #[(.tmp 44)], argTypes := #[72] }), none⟩,
  ⟨some 46, (.move (.const (.int .i64 0))), none⟩]
def r35_7 : List SI := [⟨some 47, (.binOp .lss 3 (.tmp 46) (.tmp 45) 3), none⟩]
def r35_8 : List SI := [⟨some 48, (.indexAddr 72 (.tmp 44) (.tmp 46)), none⟩,
  ⟨some 49, (.load 9 (.tmp 48)), none⟩,
  ⟨some 6, (.assign (.tmp 49)), none⟩]
def r35_9 : List SI := [⟨some 50, (.move (.tmp 6)), none⟩,
  ⟨some 51, (.call { callee := (.builtin .len), args := #[(.tmp 50)], argTypes := #[9] }), none⟩,
  ⟨some 52, (.binOp .gtr 3 (.tmp 51) (.const (.int .i64 24)) 3), none⟩]
def r35_10 : List SI := [⟨some 2, (.assign (.const (.slice none 0 0))), none⟩,
  ⟨some 3, (.assign (.const (.int .i64 3))), none⟩]
def x35_11 : X := .ops r35_10 [2, 3] .ret
def r35_11 : List SI := [⟨some 53, (.move (.tmp 4)), none⟩,
  ⟨some 54, (.move (.tmp 6)), none⟩,
  ⟨some 55, (.call { callee := (.builtin .len), args := #[(.tmp 54)], argTypes := #[9] }), none⟩,
  ⟨some 56, (.convert 3 5 (.tmp 55)), none⟩,
  ⟨some 57, (.buildSlice 22 1 #[(0, (.tmp 56))]), none⟩,
  ⟨some 58, (.call { callee := (.builtin .append), args := #[(.tmp 53), (.tmp 57)], argTypes := #[22, 22] }), none⟩,
  ⟨some 59, (.move (.tmp 6)), none⟩,
  ⟨some 60, (.call { callee := (.builtin .append), args := #[(.tmp 58), (.tmp 59)], argTypes := #[22, 9] }), none⟩,
  ⟨some 4, (.assign (.tmp 60)), none⟩]
def x35_12 : X := .ops r35_11 [4] .skip
def x35_10 : X := .ops r35_8 [6] (.ops r35_9 [52] (.cond (.tmp 52) x35_11 .skip x35_12))
def r35_12 : List SI := [⟨some 61, (.binOp .add 3 (.tmp 46) (.const (.int .i64 1)) 3), none⟩,
  ⟨some 46, (.move (.tmp 61)), none⟩]
def x35_13 : X := .trim [1, 4, 44, 45, 46] (.ops r35_12 [46] .skip)
def x35_9 : X := .block 2 x35_10 x35_13
def x35_8 : X := .ops r35_7 [47] (.cond (.tmp 47) .skip (.exit 1) x35_9)
def x35_7 : X := .loop [1, 4, 44, 45, 46] x35_8
def r35_13 : List SI := [⟨some 7, (.assign (.const (.slice none 0 0))), none⟩]
def r35_14 : List SI := [⟨some 62, (.fieldAddr 75 (.tmp 1) 0), none⟩,
  ⟨some 63, (.load 72 (.tmp 62)), none⟩,
  ⟨some 64, (.call { callee := (.builtin .len), args := #[(.tmp 63)], argTypes := #[72] }), none⟩,
  ⟨some 65, (.binOp .gtr 3 (.tmp 64) (.const (.int .i64 0)) 3), none⟩]
def r35_15 : List SI := [⟨some 66, (.move (.tmp 7)), none⟩,
  ⟨some 67, (.move (.tmp 4)), none⟩,
  ⟨some 68, (.build 42 #[(0, (.const (.int .u8 6))), (1, (.tmp 67))]), none⟩,
  ⟨some 69, (.buildSlice 26 1 #[(0, (.tmp 68))]), none⟩,
  ⟨some 70, (.call { callee := (.builtin .append), args := #[(.tmp 66), (.tmp 69)], argTypes := #[26, 26] }), none⟩,
  ⟨some 7, (.assign (.tmp 70)), none⟩]
def x35_15 : X := .ops r35_15 [7] .skip
def r35_16 : List SI := [⟨some 71, (.fieldAddr 75 (.tmp 1) 1), none⟩,
  ⟨some 72, (.load 73 (.tmp 71)), none⟩,
  ⟨some 73, (.call { callee := (.builtin .len), args := #[(.tmp 72)], argTypes := #[73] }), none⟩,
  ⟨some 74, (.move (.const (.int .i64 0))), none⟩]
def r35_17 : List SI := [⟨some 75, (.binOp .lss 3 (.tmp 74) (.tmp 73) 3), none⟩]
def r35_18 : List SI := [⟨some 76, (.indexAddr 73 (.tmp 72) (.tmp 74)), none⟩,
  ⟨some 77, (.load 48 (.tmp 76)), none⟩,
  ⟨some 9, (.assign (.tmp 77)), none⟩]
def r35_19 : List SI := [⟨some 78, (.move (.tmp 9)), none⟩,
  ⟨some 79, (.call { callee := (.builtin .len), args := #[(.tmp 78)], argTypes := #[48] }), none⟩,
  ⟨some 80, (.fieldAddr 75 (.tmp 1) 0), none⟩,
  ⟨some 81, (.load 72 (.tmp 80)), none⟩,
  ⟨some 82, (.call { callee := (.builtin .len), args := #[(.tmp 81)], argTypes := #[72] }), none⟩,
  ⟨some 83, (.binOp .neq 3 (.tmp 79) (.tmp 82) 3), none⟩]
def r35_20 : List SI := [⟨some 2, (.assign (.const (.slice none 0 0))), none⟩,
  ⟨some 3, (.assign (.const (.int .i64 330))), none⟩]
def x35_21 : X := .ops r35_20 [2, 3] .ret
def r35_21 : List SI := [⟨some 85, (.move (.tmp 9)), none⟩,
  ⟨some 86, (.call { callee := (.value (.func 22)), args := #[(.tmp 85)], argTypes := #[48] }), none⟩,
  ⟨some 84, (.move (.tmp 86)), none⟩,
  ⟨some 87, (.extract (.tmp 84) 0), none⟩,
  ⟨some 88, (.extract (.tmp 84) 1), none⟩,
  ⟨some 10, (.assign (.tmp 87)), none⟩,
  ⟨some 11, (.assign (.tmp 88)), none⟩]
def r35_22 : List SI := [⟨some 89, (.move (.tmp 11)), none⟩,
  ⟨some 90, (.binOp .neq 27 (.tmp 89) (.const (.int .i64 0)) 27), none⟩]
def r35_23 : List SI := [⟨some 91, (.move (.tmp 11)), none⟩,
  ⟨some 2, (.assign (.const (.slice none 0 0))), none⟩,
  ⟨some 3, (.assign (.tmp 91)), none⟩]
def x35_23 : X := .ops r35_23 [2, 3] .ret
def r35_24 : List SI := [⟨some 92, (.move (.tmp 7)), none⟩,
  ⟨some 93, (.move (.tmp 10)), none⟩,
  ⟨some 94, (.build 42 #[(0, (.const (.int .u8 6))), (1, (.tmp 93))]), none⟩,
  ⟨some 95, (.buildSlice 26 1 #[(0, (.tmp 94))]), none⟩,
  ⟨some 96, (.call { callee := (.builtin .append), args := #[(.tmp 92), (.tmp 95)], argTypes := #[26, 26] }), none⟩,
  ⟨some 7, (.assign (.tmp 96)), none⟩]
def x35_24 : X := .ops r35_24 [7] .skip
def x35_22 : X := .ops r35_21 [10, 11] (.ops r35_22 [90] (.cond (.tmp 90) x35_23 .skip x35_24))
def x35_20 : X := .ops r35_18 [9] (.ops r35_19 [83] (.cond (.tmp 83) x35_21 .skip x35_22))
def r35_25 : List SI := [⟨some 97, (.binOp .add 3 (.tmp 74) (.const (.int .i64 1)) 3), none⟩,
  ⟨some 74, (.move (.tmp 97)), none⟩]
def x35_25 : X := .trim [1, 7, 72, 73, 74] (.ops r35_25 [74] .skip)
def x35_19 : X := .block 4 x35_20 x35_25
def x35_18 : X := .ops r35_17 [75] (.cond (.tmp 75) .skip (.exit 3) x35_19)
def x35_17 : X := .loop [1, 7, 72, 73, 74] x35_18
def r35_26 : List SI := [⟨some 98, (.move (.tmp 7)), none⟩,
  ⟨some 99, (.fieldAddr 75 (.tmp 1) 2), none⟩,
  ⟨some 100, (.load 3 (.tmp 99)), none⟩,
  ⟨some 101, (.call { callee := (.value (.func 63)), args := #[(.tmp 100)], argTypes := #[3] }), none⟩,
  ⟨some 102, (.build 42 #[(0, (.const (.int .u8 7))), (1, (.tmp 101))]), none⟩,
  ⟨some 103, (.buildSlice 26 1 #[(0, (.tmp 102))]), none⟩,
  ⟨some 104, (.call { callee := (.builtin .append), args := #[(.tmp 98), (.tmp 103)], argTypes := #[26, 26] }), none⟩,
  ⟨some 2, (.assign (.tmp 104)), none⟩,
  ⟨some 3, (.assign (.const (.int .i64 0))), none⟩]
def x35_26 : X := .trim [1, 7] (.ops r35_26 [2, 3] .ret)
def x35_16 : X := .trim [1, 7] (.ops r35_16 [72, 73, 74] (.block 3 x35_17 x35_26))
def x35_14 : X := .trim [1, 4] (.ops r35_13 [7] (.ops r35_14 [65] (.cond (.tmp 65) x35_15 .skip x35_16)))
def x35_6 : X := .trim [1] (.ops r35_5 [4] (.ops r35_6 [44, 45, 46] (.block 1 x35_7 x35_14)))
def x35_0 : X := .ops r35_0 [1] (.block 0 x35_1 x35_6)
def n35 : Ann := .ops [1] (.block [1] (.ops [12] (.cond (.ops [2, 3] .stop) (.ops [33] (.cond (.ops [2, 3] .stop) .stop .stop)) .stop)) (.trim [1] (.ops [4] (.ops [44, 45, 46] (.block [1, 4] (.loop [1, 4, 44, 45, 46] (.ops [47] (.cond .stop .stop (.block [1, 4, 44, 45, 46] (.ops [6] (.ops [52] (.cond (.ops [2, 3] .stop) .stop (.ops [4] .stop)))) (.trim [1, 4, 44, 45, 46] (.ops [46] .stop)))))) (.trim [1, 4] (.ops [7] (.ops [65] (.cond (.ops [7] .stop) .stop (.trim [1, 7] (.ops [72, 73, 74] (.block [1, 7] (.loop [1, 7, 72, 73, 74] (.ops [75] (.cond .stop .stop (.block [1, 7, 72, 73, 74] (.ops [9] (.ops [83] (.cond (.ops [2, 3] .stop) .stop (.ops [10, 11] (.ops [90] (.cond (.ops [2, 3] .stop) .stop (.ops [7] .stop))))))) (.trim [1, 7, 72, 73, 74] (.ops [74] .stop)))))) (.trim [1, 7] (.ops [2, 3] .stop))))))))))))))
theorem ok35 : annFn Try.f35 1 n35 = some x35_0 := by kernel_rfl
noncomputable def kF35 (K : V → H → Prop) : XQ := kFnX C.P Try.f35.results.toList K
theorem e35_nx {K : V → H → Prop} {e : E} {h : H} : kF35 K .nx e h = K (.tup [E.get e 2, E.get e 3]) h := nrfl (by kernel_rfl)
theorem e35_rt {K : V → H → Prop} {e : E} {h : H} : kF35 K .rt e h = K (.tup [E.get e 2, E.get e 3]) h := nrfl (by kernel_rfl)
theorem enter35 {lo : Nat} {h : H} {vs : List V} {K : V → H → Prop} (hl : vs.length = 1) (hw : XW C lo x35_0 (kF35 K) (args 0 vs) h) : CW C 35 vs lo h K := by
  refine CW_X hS rfl Try.func35 ok35 hl ?_ hw
  rw [Try.ntmps35]
  decide
theorem q35_3 {lo : Nat} {Q : XQ} {e : E} {h : H} : XW C lo x35_3 Q e h =
    Q .rt ((2, .nils) :: (3, .int .i64 2) :: e) h := nrfl (by kernel_rfl)
theorem q35_5 {lo : Nat} {Q : XQ} {e : E} {h : H} : XW C lo x35_5 Q e h =
    Q .rt ((2, .nils) :: (3, .int .i64 3) :: e) h := nrfl (by kernel_rfl)
theorem q35_4 {lo : Nat} {Q : XQ} {e : E} {h : H} : XW C lo x35_4 Q e h =
    bd (fieldAddrV Try.prog 75 (E.get e 1) 0) fun t1 =>
    bd (loadV Try.prog 72 t1 (H.read h)) fun t2 =>
    bd (lenV Try.prog [72] t2) fun t3 =>
    bdB (binV Try.prog .gtr 3 t3 (.int .i64 255)) fun b4 =>
    byT b4 (XW C lo x35_5 (kX (XW C lo .skip Q) Q) ((33, .bool b4) :: e) h) (XW C lo .skip (kX (XW C lo .skip Q) Q) ((33, .bool b4) :: e) h) := nrfl (by kernel_rfl)
theorem q35_2 {lo : Nat} {Q : XQ} {e : E} {h : H} : XW C lo x35_2 Q e h =
    byV (E.get e 12) (XW C lo x35_3 (kX (XW C lo .skip Q) Q) e h) (XW C lo x35_4 (kX (XW C lo .skip Q) Q) e h) False := nrfl (by kernel_rfl)
theorem q35_1 {lo : Nat} {Q : XQ} {e : E} {h : H} : XW C lo x35_1 Q e h =
    bd (fieldAddrV Try.prog 75 (E.get e 1) 1) fun t1 =>
    bd (loadV Try.prog 73 t1 (H.read h)) fun t2 =>
    bd (lenV Try.prog [73] t2) fun t3 =>
    bdB (binV Try.prog .gtr 3 t3 (.int .i64 0)) fun b4 =>
    byT b4 (bd (fieldAddrV Try.prog 75 (E.get e 1) 0) fun t5 =>
    bd (loadV Try.prog 72 t5 (H.read h)) fun t6 =>
    bd (lenV Try.prog [72] t6) fun t7 =>
    bdB (binV Try.prog .eql 3 t7 (.int .i64 0)) fun b8 =>
    byT b8 (XW C lo x35_3 (kX (XW C lo .skip Q) Q) ((12, .bool true) :: e) h) (bd (fieldAddrV Try.prog 75 (E.get e 1) 2) fun t9 =>
    bd (loadV Try.prog 3 t9 (H.read h)) fun t10 =>
    bdB (binV Try.prog .lss 3 t10 (.int .i64 0)) fun b11 =>
    byT b11 (XW C lo x35_3 (kX (XW C lo .skip Q) Q) ((12, .bool true) :: e) h) (bd (fieldAddrV Try.prog 75 (E.get e 1) 2) fun t12 =>
    bd (loadV Try.prog 3 t12 (H.read h)) fun t13 =>
    bdB (binV Try.prog .gtr 3 t13 (.int .i64 2147483647)) fun b14 =>
    byT b14 (XW C lo x35_3 (kX (XW C lo .skip Q) Q) ((12, .bool b14) :: e) h) (XW C lo x35_4 (kX (XW C lo .skip Q) Q) ((12, .bool b14) :: e) h)))) (bd (fieldAddrV Try.prog 75 (E.get e 1) 2) fun t5 =>
    bd (loadV Try.prog 3 t5 (H.read h)) fun t6 =>
    bdB (binV Try.prog .lss 3 t6 (.int .i64 0)) fun b7 =>
    byT b7 (XW C lo x35_3 (kX (XW C lo .skip Q) Q) ((12, .bool true) :: e) h) (bd (fieldAddrV Try.prog 75 (E.get e 1) 2) fun t8 =>
    bd (loadV Try.prog 3 t8 (H.read h)) fun t9 =>
    bdB (binV Try.prog .gtr 3 t9 (.int .i64 2147483647)) fun b10 =>
    byT b10 (XW C lo x35_3 (kX (XW C lo .skip Q) Q) ((12, .bool b10) :: e) h) (XW C lo x35_4 (kX (XW C lo .skip Q) Q) ((12, .bool b10) :: e) h))) := nrfl (by kernel_rfl)
theorem q35_11 {lo : Nat} {Q : XQ} {e : E} {h : H} : XW C lo x35_11 Q e h =
    Q .rt ((2, .nils) :: (3, .int .i64 3) :: e) h := nrfl (by kernel_rfl)
theorem q35_12 {lo : Nat} {Q : XQ} {e : E} {h : H} : XW C lo x35_12 Q e h =
    bd (lenV Try.prog [9] (E.get e 6)) fun t1 =>
    bd (convV Try.prog (H.read h) 3 5 t1) fun r2 => KX h (fun t3 h4 =>
    bd (buildSliceV Try.prog 22 1 [(0, t3)]) fun r5 => KX h4 (fun t6 h7 =>
    bd2 (appendV Try.prog lo [22, 22] (E.get e 4) t6 h7) fun t8 h9 =>
    bd2 (appendV Try.prog lo [22, 9] t8 (E.get e 6) h9) fun t10 h11 =>
    Q .nx ((4, t10) :: e) h11) r5) r2 := nrfl (by kernel_rfl)
theorem q35_10 {lo : Nat} {Q : XQ} {e : E} {h : H} : XW C lo x35_10 Q e h =
    bd (addrV Try.prog 72 (E.get e 44) (E.get e 46)) fun t1 =>
    bd (loadV Try.prog 9 t1 (H.read h)) fun t2 =>
    bd (lenV Try.prog [9] t2) fun t3 =>
    bdB (binV Try.prog .gtr 3 t3 (.int .i64 24)) fun b4 =>
    byT b4 (XW C lo x35_11 (kX (XW C lo x35_12 Q) Q) ((52, .bool b4) :: (6, t2) :: e) h) (XW C lo .skip (kX (XW C lo x35_12 Q) Q) ((52, .bool b4) :: (6, t2) :: e) h) := nrfl (by kernel_rfl)
theorem q35_13 {lo : Nat} {Q : XQ} {e : E} {h : H} : XW C lo x35_13 Q e h =
    bd (binV Try.prog .add 3 (E.get e 46) (.int .i64 1)) fun t1 =>
    Q .nx [(46, t1), (1, E.get e 1), (4, E.get e 4), (44, E.get e 44), (45, E.get e 45), (46, E.get e 46)] h := nrfl (by kernel_rfl)
theorem q35_9 {lo : Nat} {Q : XQ} {e : E} {h : H} : XW C lo x35_9 Q e h =
    XW C lo x35_10 (kXB 2 (XW C lo x35_13 Q) Q) e h := nrfl (by kernel_rfl)
theorem q35_8 {lo : Nat} {Q : XQ} {e : E} {h : H} : XW C lo x35_8 Q e h =
    bdB (binV Try.prog .lss 3 (E.get e 46) (E.get e 45)) fun b1 =>
    byT b1 (XW C lo .skip (kX (XW C lo x35_9 Q) Q) ((47, .bool b1) :: e) h) (XW C lo (.exit 1) (kX (XW C lo x35_9 Q) Q) ((47, .bool b1) :: e) h) := nrfl (by kernel_rfl)
theorem q35_7 {lo : Nat} {Q : XQ} {e : E} {h : H} : XW C lo x35_7 Q e h =
    ∃ n, loopX [1, 4, 44, 45, 46] (XW C lo x35_8) Q n e h := nrfl (by kernel_rfl)
theorem q35_15 {lo : Nat} {Q : XQ} {e : E} {h : H} : XW C lo x35_15 Q e h =
    bd (buildV Try.prog 42 [(0, .int .u8 6), (1, E.get e 4)]) fun t1 =>
    bd (buildSliceV Try.prog 26 1 [(0, t1)]) fun r2 => KX h (fun t3 h4 =>
    bd2 (appendV Try.prog lo [26, 26] (E.get e 7) t3 h4) fun t5 h6 =>
    Q .nx ((7, t5) :: e) h6) r2 := nrfl (by kernel_rfl)
theorem q35_21 {lo : Nat} {Q : XQ} {e : E} {h : H} : XW C lo x35_21 Q e h =
    Q .rt ((2, .nils) :: (3, .int .i64 330) :: e) h := nrfl (by kernel_rfl)
theorem q35_23 {lo : Nat} {Q : XQ} {e : E} {h : H} : XW C lo x35_23 Q e h =
    Q .rt ((2, .nils) :: (3, E.get e 11) :: e) h := nrfl (by kernel_rfl)
theorem q35_24 {lo : Nat} {Q : XQ} {e : E} {h : H} : XW C lo x35_24 Q e h =
    bd (buildV Try.prog 42 [(0, .int .u8 6), (1, E.get e 10)]) fun t1 =>
    bd (buildSliceV Try.prog 26 1 [(0, t1)]) fun r2 => KX h (fun t3 h4 =>
    bd2 (appendV Try.prog lo [26, 26] (E.get e 7) t3 h4) fun t5 h6 =>
    Q .nx ((7, t5) :: e) h6) r2 := nrfl (by kernel_rfl)
theorem q35_22 {lo : Nat} {Q : XQ} {e : E} {h : H} : XW C lo x35_22 Q e h =
    CW C 22 [E.get e 9] lo h fun t1 h2 =>
    tupX t1 fun l3 => bd (l3[0]?) fun t4 =>
    tupX t1 fun l5 => bd (l5[1]?) fun t6 =>
    bdB (binV Try.prog .neq 27 t6 (.int .i64 0)) fun b7 =>
    byT b7 (XW C lo x35_23 (kX (XW C lo x35_24 Q) Q) ((90, .bool b7) :: (10, t4) :: (11, t6) :: e) h2) (XW C lo .skip (kX (XW C lo x35_24 Q) Q) ((90, .bool b7) :: (10, t4) :: (11, t6) :: e) h2) := nrfl (by kernel_rfl)
theorem q35_20 {lo : Nat} {Q : XQ} {e : E} {h : H} : XW C lo x35_20 Q e h =
    bd (addrV Try.prog 73 (E.get e 72) (E.get e 74)) fun t1 =>
    bd (loadV Try.prog 48 t1 (H.read h)) fun t2 =>
    bd (lenV Try.prog [48] t2) fun t3 =>
    bd (fieldAddrV Try.prog 75 (E.get e 1) 0) fun t4 =>
    bd (loadV Try.prog 72 t4 (H.read h)) fun t5 =>
    bd (lenV Try.prog [72] t5) fun t6 =>
    bdB (binV Try.prog .neq 3 t3 t6) fun b7 =>
    byT b7 (XW C lo x35_21 (kX (XW C lo x35_22 Q) Q) ((83, .bool b7) :: (9, t2) :: e) h) (XW C lo .skip (kX (XW C lo x35_22 Q) Q) ((83, .bool b7) :: (9, t2) :: e) h) := nrfl (by kernel_rfl)
theorem q35_25 {lo : Nat} {Q : XQ} {e : E} {h : H} : XW C lo x35_25 Q e h =
    bd (binV Try.prog .add 3 (E.get e 74) (.int .i64 1)) fun t1 =>
    Q .nx [(74, t1), (1, E.get e 1), (7, E.get e 7), (72, E.get e 72), (73, E.get e 73), (74, E.get e 74)] h := nrfl (by kernel_rfl)
theorem q35_19 {lo : Nat} {Q : XQ} {e : E} {h : H} : XW C lo x35_19 Q e h =
    XW C lo x35_20 (kXB 4 (XW C lo x35_25 Q) Q) e h := nrfl (by kernel_rfl)
theorem q35_18 {lo : Nat} {Q : XQ} {e : E} {h : H} : XW C lo x35_18 Q e h =
    bdB (binV Try.prog .lss 3 (E.get e 74) (E.get e 73)) fun b1 =>
    byT b1 (XW C lo .skip (kX (XW C lo x35_19 Q) Q) ((75, .bool b1) :: e) h) (XW C lo (.exit 3) (kX (XW C lo x35_19 Q) Q) ((75, .bool b1) :: e) h) := nrfl (by kernel_rfl)
theorem q35_17 {lo : Nat} {Q : XQ} {e : E} {h : H} : XW C lo x35_17 Q e h =
    ∃ n, loopX [1, 7, 72, 73, 74] (XW C lo x35_18) Q n e h := nrfl (by kernel_rfl)
theorem q35_26 {lo : Nat} {Q : XQ} {e : E} {h : H} : XW C lo x35_26 Q e h =
    bd (fieldAddrV Try.prog 75 (E.get e 1) 2) fun t1 =>
    bd (loadV Try.prog 3 t1 (H.read h)) fun t2 =>
    CW C 63 [t2] lo h fun t3 h4 =>
    bd (buildV Try.prog 42 [(0, .int .u8 7), (1, t3)]) fun t5 =>
    bd (buildSliceV Try.prog 26 1 [(0, t5)]) fun r6 => KX h4 (fun t7 h8 =>
    bd2 (appendV Try.prog lo [26, 26] (E.get e 7) t7 h8) fun t9 h10 =>
    Q .rt [(2, t9), (3, .int .i64 0), (1, E.get e 1), (7, E.get e 7)] h10) r6 := nrfl (by kernel_rfl)
theorem q35_16 {lo : Nat} {Q : XQ} {e : E} {h : H} : XW C lo x35_16 Q e h =
    bd (fieldAddrV Try.prog 75 (E.get e 1) 1) fun t1 =>
    bd (loadV Try.prog 73 t1 (H.read h)) fun t2 =>
    bd (lenV Try.prog [73] t2) fun t3 =>
    XW C lo x35_17 (kXB 3 (XW C lo x35_26 Q) Q) [(72, t2), (73, t3), (74, .int .i64 0), (1, E.get e 1), (7, E.get e 7)] h := nrfl (by kernel_rfl)
theorem q35_14 {lo : Nat} {Q : XQ} {e : E} {h : H} : XW C lo x35_14 Q e h =
    bd (fieldAddrV Try.prog 75 (E.get e 1) 0) fun t1 =>
    bd (loadV Try.prog 72 t1 (H.read h)) fun t2 =>
    bd (lenV Try.prog [72] t2) fun t3 =>
    bdB (binV Try.prog .gtr 3 t3 (.int .i64 0)) fun b4 =>
    byT b4 (XW C lo x35_15 (kX (XW C lo x35_16 Q) Q) [(65, .bool b4), (7, .nils), (1, E.get e 1), (4, E.get e 4)] h) (XW C lo .skip (kX (XW C lo x35_16 Q) Q) [(65, .bool b4), (7, .nils), (1, E.get e 1), (4, E.get e 4)] h) := nrfl (by kernel_rfl)
theorem q35_6 {lo : Nat} {Q : XQ} {e : E} {h : H} : XW C lo x35_6 Q e h =
    bd (fieldAddrV Try.prog 75 (E.get e 1) 0) fun t1 =>
    bd (loadV Try.prog 72 t1 (H.read h)) fun t2 =>
    bd (lenV Try.prog [72] t2) fun t3 =>
    bd (convV Try.prog (H.read h) 3 5 t3) fun r4 => KX h (fun t5 h6 =>
    bd (buildSliceV Try.prog 22 1 [(0, t5)]) fun r7 => KX h6 (fun t8 h9 =>
    bd (fieldAddrV Try.prog 75 (E.get e 1) 0) fun t10 =>
    bd (loadV Try.prog 72 t10 (H.read h9)) fun t11 =>
    bd (lenV Try.prog [72] t11) fun t12 =>
    XW C lo x35_7 (kXB 1 (XW C lo x35_14 Q) Q) [(44, t11), (45, t12), (46, .int .i64 0), (4, t8), (1, E.get e 1)] h9) r7) r4 := nrfl (by kernel_rfl)
theorem z35_0 {lo : Nat} {Z : E → H → Prop} {e : E} {h : H} : LX C lo r35_0 (fun e1 h1 => Z (outs [1] e1 e) h1) e h =
    Z ((1, .ptr (H.next h) 0) :: e) (H.alloc h (V.cells (E.get e 0))) := nrfl (by kernel_rfl)
theorem q35_0 {lo : Nat} {Q : XQ} {e : E} {h : H} : XW C lo x35_0 Q e h =
    XW C lo x35_1 (kXB 0 (XW C lo x35_6 Q) Q) ((1, .ptr (H.next h) 0) :: e) (H.alloc h (V.cells (E.get e 0))) :=
  (opsblkCodeW (l := r35_0) (out := [1]) (id := 0) (b := x35_1) (k := x35_6)).trans (z35_0 (Z := fun e1 h1 => XW C lo x35_1 (kXB 0 (XW C lo x35_6 Q) Q) e1 h1))

/-! ### chancery/wire.Read -/
def r37_0 : List SI := [⟨some 2, (.alloc 75), none⟩,
  ⟨some 3, (.assign (.const (.int .i64 0))), none⟩]
def r37_1 : List SI := [⟨some 11, (.move (.tmp 0)), none⟩,
  ⟨some 12, (.call { callee := (.builtin .len), args := #[(.tmp 11)], argTypes := #[26] }), none⟩,
  ⟨some 13, (.binOp .sub 3 (.tmp 12) (.const (.int .i64 1)) 3), none⟩,
  ⟨some 4, (.assign (.tmp 13)), none⟩]
def r37_2 : List SI := [⟨some 14, (.move (.tmp 4)), none⟩,
  ⟨some 15, (.binOp .lss 3 (.tmp 14) (.const (.int .i64 0)) 3), none⟩,
  ⟨some 16, (.move (.tmp 15)), none⟩,
  ⟨some 17, (.move (.tmp 0)), some (some 16, false)⟩,
  ⟨some 18, (.move (.tmp 4)), some (some 16, false)⟩,
  ⟨some 19, (.indexAddr 26 (.tmp 17) (.tmp 18)), some (some 16, false)⟩,
  ⟨some 20, (.fieldAddr 42 (.tmp 19) 0), some (some 16, false)⟩,
  ⟨some 21, (.load 40 (.tmp 20)), some (some 16, false)⟩,
  ⟨some 22, (.binOp .neq 40 (.tmp 21) (.const (.int .u8 7)) 40), some (some 16, false)⟩,
  ⟨some 23, (.pick (.tmp 16) (.const (.bool true)) (.tmp 22)), none⟩,
  ⟨some 24, (.move (.tmp 23)), none⟩,
  ⟨some 25, (.move (.tmp 0)), some (some 24, false)⟩,
  ⟨some 26, (.move (.tmp 4)), some (some 24, false)⟩,
  ⟨some 27, (.indexAddr 26 (.tmp 25) (.tmp 26)), some (some 24, false)⟩,
  ⟨some 28, (.fieldAddr 42 (.tmp 27) 1), some (some 24, false)⟩,
  ⟨some 29, (.load 22 (.tmp 28)), some (some 24, false)⟩,
  ⟨some 30, (.call { callee := (.builtin .len), args := #[(.tmp 29)], argTypes := #[22] }), some (some 24, false)⟩,
  ⟨some 31, (.binOp .neq 3 (.tmp 30) (.const (.int .i64 4)) 3), some (some 24, false)⟩,
  ⟨some 32, (.pick (.tmp 24) (.const (.bool true)) (.tmp 31)), none⟩,
  ⟨some 33, (.move (.tmp 32)), none⟩,
  ⟨some 34, (.move (.tmp 0)), some (some 33, false)⟩,
  ⟨some 35, (.move (.tmp 4)), some (some 33, false)⟩,
  ⟨some 36, (.indexAddr 26 (.tmp 34) (.tmp 35)), some (some 33, false)⟩,
  ⟨some 37, (.fieldAddr 42 (.tmp 36) 1), some (some 33, false)⟩,
  ⟨some 38, (.load 22 (.tmp 37)), some (some 33, false)⟩,
  ⟨some 39, (.call { callee := (.value (.func 46)), args := #[(.tmp 38)], argTypes := #[22] }), some (some 33, false)⟩,
  ⟨some 40, (.binOp .gtr 3 (.tmp 39) (.const (.int .i64 2147483647)) 3), some (some 33, false)⟩,
  ⟨some 41, (.pick (.tmp 33) (.const (.bool true)) (.tmp 40)), none⟩]
def r37_3 : List SI := [⟨some 42, (.build 75 #[]), none⟩,
  ⟨none, (.store 75 (.tmp 2) (.tmp 42)), none⟩,
  ⟨some 3, (.assign (.const (.int .i64 390))), none⟩]
def x37_2 : X := .ops r37_3 [3] .ret
def r37_4 : List SI := [⟨some 43, (.move (.tmp 0)), none⟩,
  ⟨some 44, (.move (.tmp 4)), none⟩,
  ⟨some 45, (.indexAddr 26 (.tmp 43) (.tmp 44)), none⟩,
  ⟨some 46, (.fieldAddr 42 (.tmp 45) 1), none⟩,
  ⟨some 47, (.load 22 (.tmp 46)), none⟩,
  ⟨some 48, (.call { callee := (.value (.func 46)), args := #[(.tmp 47)], argTypes := #[22] }), none⟩,
  ⟨some 49, (.build 75 #[(2, (.tmp 48))]), none⟩,
  ⟨some 5, (.alloc 75), none⟩,
  ⟨none, (.store 75 (.tmp 5) (.tmp 49)), none⟩]
def r37_5 : List SI := [⟨some 50, (.move (.tmp 0)), none⟩,
  ⟨some 51, (.move (.tmp 4)), none⟩,
  ⟨some 52, (.slice 26 (.tmp 50) none (some (.tmp 51)) none), none⟩,
  ⟨some 53, (.call { callee := (.builtin .len), args := #[(.tmp 52)], argTypes := #[26] }), none⟩,
  ⟨some 54, (.move (.const (.int .i64 0))), none⟩]
def r37_6 : List SI := [⟨some 55, (.binOp .lss 3 (.tmp 54) (.tmp 53) 3), none⟩]
def r37_7 : List SI := [⟨some 56, (.move (.tmp 54)), none⟩,
  ⟨some 57, (.indexAddr 26 (.tmp 52) (.tmp 54)), none⟩,
  ⟨some 58, (.load 42 (.tmp 57)), none⟩,
  ⟨some 7, (.alloc 42), none⟩,
  ⟨some 6, (.assign (.tmp 56)), none⟩,
  ⟨none, (.store 42 (.tmp 7) (.tmp 58)), none⟩]
def r37_8 : List SI := [⟨some 59, (.fieldAddr 42 (.tmp 7) 0), none⟩,
  ⟨some 60, (.load 40 (.tmp 59)), none⟩,
  ⟨some 61, (.binOp .neq 40 (.tmp 60) (.const (.int .u8 6)) 40), none⟩]
def r37_9 : List SI := [⟨some 62, (.build 75 #[]), none⟩,
  ⟨none, (.store 75 (.tmp 2) (.tmp 62)), none⟩,
  ⟨some 3, (.assign (.const (.int .i64 390))), none⟩]
def x37_8 : X := .ops r37_9 [3] .ret
def r37_10 : List SI := [⟨some 63, (.move (.tmp 6)), none⟩,
  ⟨some 64, (.binOp .eql 3 (.tmp 63) (.const (.int .i64 0)) 3), none⟩]
def r37_11 : List SI := [⟨some 8, (.assign (.const (.bool false))), none⟩]
def r37_12 : List SI := [⟨some 66, (.fieldAddr 42 (.tmp 7) 1), none⟩,
  ⟨some 67, (.load 22 (.tmp 66)), none⟩,
  ⟨some 68, (.call { callee := (.value (.func 66)), args := #[(.tmp 67)], argTypes := #[22] }), none⟩,
  ⟨some 65, (.move (.tmp 68)), none⟩,
  ⟨some 69, (.extract (.tmp 65) 0), none⟩,
  ⟨some 70, (.extract (.tmp 65) 1), none⟩,
  ⟨some 71, (.fieldAddr 75 (.tmp 5) 0), none⟩,
  ⟨none, (.store 72 (.tmp 71) (.tmp 69)), none⟩,
  ⟨some 8, (.assign (.tmp 70)), none⟩]
def r37_13 : List SI := [⟨some 72, (.move (.tmp 8)), none⟩,
  ⟨some 73, (.unOp .not 4 (.tmp 72)), none⟩]
def r37_14 : List SI := [⟨some 74, (.build 75 #[]), none⟩,
  ⟨none, (.store 75 (.tmp 2) (.tmp 74)), none⟩,
  ⟨some 3, (.assign (.const (.int .i64 390))), none⟩]
def x37_11 : X := .ops r37_14 [3] .ret
def x37_10 : X := .ops r37_11 [] (.ops r37_12 [8] (.ops r37_13 [73] (.cond (.tmp 73) x37_11 .skip (.exit 1))))
def r37_15 : List SI := [⟨some 76, (.fieldAddr 42 (.tmp 7) 1), none⟩,
  ⟨some 77, (.load 22 (.tmp 76)), none⟩,
  ⟨some 78, (.call { callee := (.value (.func 24)), args := #[(.tmp 77)], argTypes := #[22] }), none⟩,
  ⟨some 75, (.move (.tmp 78)), none⟩,
  ⟨some 79, (.extract (.tmp 75) 0), none⟩,
  ⟨some 80, (.extract (.tmp 75) 1), none⟩,
  ⟨some 9, (.assign (.tmp 79)), none⟩,
  ⟨some 10, (.assign (.tmp 80)), none⟩]
def r37_16 : List SI := [⟨some 81, (.move (.tmp 10)), none⟩,
  ⟨some 82, (.binOp .neq 27 (.tmp 81) (.const (.int .i64 0)) 27), none⟩,
  ⟨some 83, (.move (.tmp 82)), none⟩,
  ⟨some 84, (.move (.tmp 9)), some (some 83, false)⟩,
  ⟨some 85, (.call { callee := (.builtin .len), args := #[(.tmp 84)], argTypes := #[48] }), some (some 83, false)⟩,
  ⟨some 86, (.fieldAddr 75 (.tmp 5) 0), some (some 83, false)⟩,
  ⟨some 87, (.load 72 (.tmp 86)), some (some 83, false)⟩,
  ⟨some 88, (.call { callee := (.builtin .len), args := #[(.tmp 87)], argTypes := #[72] }), some (some 83, false)⟩,
  ⟨some 89, (.binOp .neq 3 (.tmp 85) (.tmp 88) 3), some (some 83, false)⟩,
  ⟨some 90, (.pick (.tmp 83) (.const (.bool true)) (.tmp 89)), none⟩]
def r37_17 : List SI := [⟨some 91, (.build 75 #[]), none⟩,
  ⟨none, (.store 75 (.tmp 2) (.tmp 91)), none⟩,
  ⟨some 3, (.assign (.const (.int .i64 390))), none⟩]
def x37_14 : X := .ops r37_17 [3] .ret
def r37_18 : List SI := [⟨some 92, (.fieldAddr 75 (.tmp 5) 1), none⟩,
  ⟨some 93, (.load 73 (.tmp 92)), none⟩,
  ⟨some 94, (.move (.tmp 9)), none⟩,
  ⟨some 95, (.buildSlice 73 1 #[(0, (.tmp 94))]), none⟩,
  ⟨some 96, (.call { callee := (.builtin .append), args := #[(.tmp 93), (.tmp 95)], argTypes := #[73, 73] }), none⟩,
  ⟨some 97, (.fieldAddr 75 (.tmp 5) 1), none⟩,
  ⟨none, (.store 73 (.tmp 97) (.tmp 96)), none⟩]
def x37_15 : X := .ops r37_18 [] .skip
def x37_13 : X := .cond (.tmp 90) x37_14 .skip x37_15
def x37_12 : X := .ops r37_15 [9, 10] (.ops r37_16 [90] x37_13)
def x37_9 : X := .ops r37_10 [64] (.cond (.tmp 64) x37_10 .skip x37_12)
def x37_7 : X := .ops r37_7 [6, 7] (.ops r37_8 [61] (.cond (.tmp 61) x37_8 .skip x37_9))
def r37_19 : List SI := [⟨some 98, (.binOp .add 3 (.tmp 54) (.const (.int .i64 1)) 3), none⟩,
  ⟨some 54, (.move (.tmp 98)), none⟩]
def x37_16 : X := .trim [2, 5, 52, 53, 54] (.ops r37_19 [54] .skip)
def x37_6 : X := .block 1 x37_7 x37_16
def x37_5 : X := .ops r37_6 [55] (.cond (.tmp 55) .skip (.exit 0) x37_6)
def x37_4 : X := .loop [2, 5, 52, 53, 54] x37_5
def r37_20 : List SI := [⟨some 99, (.load 75 (.tmp 5)), none⟩,
  ⟨none, (.store 75 (.tmp 2) (.tmp 99)), none⟩,
  ⟨some 3, (.assign (.const (.int .i64 0))), none⟩]
def x37_17 : X := .trim [2, 5] (.ops r37_20 [3] .ret)
def x37_3 : X := .ops r37_4 [5] (.ops r37_5 [52, 53, 54] (.block 0 x37_4 x37_17))
def x37_1 : X := .cond (.tmp 41) x37_2 .skip x37_3
def x37_0 : X := .ops r37_0 [2] (.ops r37_1 [4] (.ops r37_2 [41] x37_1))
def n37 : Ann := .ops [2] (.ops [4] (.ops [41] (.cond (.ops [3] .stop) .stop (.ops [5] (.ops [52, 53, 54] (.block [2, 5] (.loop [2, 5, 52, 53, 54] (.ops [55] (.cond .stop .stop (.block [2, 5, 52, 53, 54] (.ops [6, 7] (.ops [61] (.cond (.ops [3] .stop) .stop (.ops [64] (.cond (.ops [] (.ops [8] (.ops [73] (.cond (.ops [3] .stop) .stop .stop)))) .stop (.ops [9, 10] (.ops [90] (.cond (.ops [3] .stop) .stop (.ops [] .stop))))))))) (.trim [2, 5, 52, 53, 54] (.ops [54] .stop)))))) (.trim [2, 5] (.ops [3] .stop))))))))
theorem ok37 : annFn Try.f37 1 n37 = some x37_0 := by kernel_rfl
noncomputable def kF37 (K : V → H → Prop) : XQ := kFnX C.P Try.f37.results.toList K
theorem e37_nx {K : V → H → Prop} {e : E} {h : H} : kF37 K .nx e h = resX C.P Try.f37.results.toList e h K := nrfl (by kernel_rfl)
theorem e37_rt {K : V → H → Prop} {e : E} {h : H} : kF37 K .rt e h = resX C.P Try.f37.results.toList e h K := nrfl (by kernel_rfl)
theorem enter37 {lo : Nat} {h : H} {vs : List V} {K : V → H → Prop} (hl : vs.length = 1) (hw : XW C lo x37_0 (kF37 K) (args 0 vs) h) : CW C 37 vs lo h K := by
  refine CW_X hS rfl Try.func37 ok37 hl ?_ hw
  rw [Try.ntmps37]
  decide
theorem q37_2 {lo : Nat} {Q : XQ} {e : E} {h : H} : XW C lo x37_2 Q e h =
    bd (buildV Try.prog 75 []) fun t1 =>
    bd (storeV Try.prog lo 75 (E.get e 2) t1 h) fun h2 =>
    Q .rt ((3, .int .i64 390) :: e) h2 := nrfl (by kernel_rfl)
theorem q37_8 {lo : Nat} {Q : XQ} {e : E} {h : H} : XW C lo x37_8 Q e h =
    bd (buildV Try.prog 75 []) fun t1 =>
    bd (storeV Try.prog lo 75 (E.get e 2) t1 h) fun h2 =>
    Q .rt ((3, .int .i64 390) :: e) h2 := nrfl (by kernel_rfl)
theorem q37_11 {lo : Nat} {Q : XQ} {e : E} {h : H} : XW C lo x37_11 Q e h =
    bd (buildV Try.prog 75 []) fun t1 =>
    bd (storeV Try.prog lo 75 (E.get e 2) t1 h) fun h2 =>
    Q .rt ((3, .int .i64 390) :: e) h2 := nrfl (by kernel_rfl)
theorem q37_10 {lo : Nat} {Q : XQ} {e : E} {h : H} : XW C lo x37_10 Q e h =
    bd (fieldAddrV Try.prog 42 (E.get e 7) 1) fun t1 =>
    bd (loadV Try.prog 22 t1 (H.read h)) fun t2 =>
    CW C 66 [t2] lo h fun t3 h4 =>
    tupX t3 fun l5 => bd (l5[0]?) fun t6 =>
    tupX t3 fun l7 => bd (l7[1]?) fun t8 =>
    bd (fieldAddrV Try.prog 75 (E.get e 5) 0) fun t9 =>
    bd (storeV Try.prog lo 72 t9 t6 h4) fun h10 =>
    bd (unV .not t8) fun t11 =>
    byV t11 (XW C lo x37_11 (kX (XW C lo (.exit 1) Q) Q) ((73, t11) :: (8, t8) :: e) h10) (XW C lo .skip (kX (XW C lo (.exit 1) Q) Q) ((73, t11) :: (8, t8) :: e) h10) False := nrfl (by kernel_rfl)
theorem q37_14 {lo : Nat} {Q : XQ} {e : E} {h : H} : XW C lo x37_14 Q e h =
    bd (buildV Try.prog 75 []) fun t1 =>
    bd (storeV Try.prog lo 75 (E.get e 2) t1 h) fun h2 =>
    Q .rt ((3, .int .i64 390) :: e) h2 := nrfl (by kernel_rfl)
theorem q37_15 {lo : Nat} {Q : XQ} {e : E} {h : H} : XW C lo x37_15 Q e h =
    bd (fieldAddrV Try.prog 75 (E.get e 5) 1) fun t1 =>
    bd (loadV Try.prog 73 t1 (H.read h)) fun t2 =>
    bd (buildSliceV Try.prog 73 1 [(0, E.get e 9)]) fun r3 => KX h (fun t4 h5 =>
    bd2 (appendV Try.prog lo [73, 73] t2 t4 h5) fun t6 h7 =>
    bd (fieldAddrV Try.prog 75 (E.get e 5) 1) fun t8 =>
    bd (storeV Try.prog lo 73 t8 t6 h7) fun h9 =>
    Q .nx e h9) r3 := nrfl (by kernel_rfl)
theorem q37_13 {lo : Nat} {Q : XQ} {e : E} {h : H} : XW C lo x37_13 Q e h =
    byV (E.get e 90) (XW C lo x37_14 (kX (XW C lo x37_15 Q) Q) e h) (XW C lo .skip (kX (XW C lo x37_15 Q) Q) e h) False := nrfl (by kernel_rfl)
theorem q37_12 {lo : Nat} {Q : XQ} {e : E} {h : H} : XW C lo x37_12 Q e h =
    bd (fieldAddrV Try.prog 42 (E.get e 7) 1) fun t1 =>
    bd (loadV Try.prog 22 t1 (H.read h)) fun t2 =>
    CW C 24 [t2] lo h fun t3 h4 =>
    tupX t3 fun l5 => bd (l5[0]?) fun t6 =>
    tupX t3 fun l7 => bd (l7[1]?) fun t8 =>
    bdB (binV Try.prog .neq 27 t8 (.int .i64 0)) fun b9 =>
    byT b9 (XW C lo x37_14 (kX (XW C lo x37_15 Q) Q) ((90, .bool true) :: (9, t6) :: (10, t8) :: e) h4) (bd (lenV Try.prog [48] t6) fun t10 =>
    bd (fieldAddrV Try.prog 75 (E.get e 5) 0) fun t11 =>
    bd (loadV Try.prog 72 t11 (H.read h4)) fun t12 =>
    bd (lenV Try.prog [72] t12) fun t13 =>
    bdB (binV Try.prog .neq 3 t10 t13) fun b14 =>
    byT b14 (XW C lo x37_14 (kX (XW C lo x37_15 Q) Q) ((90, .bool b14) :: (9, t6) :: (10, t8) :: e) h4) (XW C lo .skip (kX (XW C lo x37_15 Q) Q) ((90, .bool b14) :: (9, t6) :: (10, t8) :: e) h4)) := nrfl (by kernel_rfl)
theorem q37_9 {lo : Nat} {Q : XQ} {e : E} {h : H} : XW C lo x37_9 Q e h =
    bdB (binV Try.prog .eql 3 (E.get e 6) (.int .i64 0)) fun b1 =>
    byT b1 (XW C lo x37_10 (kX (XW C lo x37_12 Q) Q) ((64, .bool b1) :: e) h) (XW C lo .skip (kX (XW C lo x37_12 Q) Q) ((64, .bool b1) :: e) h) := nrfl (by kernel_rfl)
theorem q37_7 {lo : Nat} {Q : XQ} {e : E} {h : H} : XW C lo x37_7 Q e h =
    bd (addrV Try.prog 26 (E.get e 52) (E.get e 54)) fun t1 =>
    bd (loadV Try.prog 42 t1 (H.read h)) fun t2 =>
    bd (zero? Try.prog 42) fun z3 =>
    bd (storeV Try.prog lo 42 (.ptr (H.next h) 0) t2 (H.alloc h (V.cells z3))) fun h4 =>
    bd (fieldAddrV Try.prog 42 (.ptr (H.next h) 0) 0) fun t5 =>
    bd (loadV Try.prog 40 t5 (H.read h4)) fun t6 =>
    bdB (binV Try.prog .neq 40 t6 (.int .u8 6)) fun b7 =>
    byT b7 (XW C lo x37_8 (kX (XW C lo x37_9 Q) Q) ((61, .bool b7) :: (6, E.get e 54) :: (7, .ptr (H.next h) 0) :: e) h4) (XW C lo .skip (kX (XW C lo x37_9 Q) Q) ((61, .bool b7) :: (6, E.get e 54) :: (7, .ptr (H.next h) 0) :: e) h4) := nrfl (by kernel_rfl)
theorem q37_16 {lo : Nat} {Q : XQ} {e : E} {h : H} : XW C lo x37_16 Q e h =
    bd (binV Try.prog .add 3 (E.get e 54) (.int .i64 1)) fun t1 =>
    Q .nx [(54, t1), (2, E.get e 2), (5, E.get e 5), (52, E.get e 52), (53, E.get e 53), (54, E.get e 54)] h := nrfl (by kernel_rfl)
theorem q37_6 {lo : Nat} {Q : XQ} {e : E} {h : H} : XW C lo x37_6 Q e h =
    XW C lo x37_7 (kXB 1 (XW C lo x37_16 Q) Q) e h := nrfl (by kernel_rfl)
theorem q37_5 {lo : Nat} {Q : XQ} {e : E} {h : H} : XW C lo x37_5 Q e h =
    bdB (binV Try.prog .lss 3 (E.get e 54) (E.get e 53)) fun b1 =>
    byT b1 (XW C lo .skip (kX (XW C lo x37_6 Q) Q) ((55, .bool b1) :: e) h) (XW C lo (.exit 0) (kX (XW C lo x37_6 Q) Q) ((55, .bool b1) :: e) h) := nrfl (by kernel_rfl)
theorem q37_4 {lo : Nat} {Q : XQ} {e : E} {h : H} : XW C lo x37_4 Q e h =
    ∃ n, loopX [2, 5, 52, 53, 54] (XW C lo x37_5) Q n e h := nrfl (by kernel_rfl)
theorem q37_17 {lo : Nat} {Q : XQ} {e : E} {h : H} : XW C lo x37_17 Q e h =
    bd (loadV Try.prog 75 (E.get e 5) (H.read h)) fun t1 =>
    bd (storeV Try.prog lo 75 (E.get e 2) t1 h) fun h2 =>
    Q .rt [(3, .int .i64 0), (2, E.get e 2), (5, E.get e 5)] h2 := nrfl (by kernel_rfl)
theorem q37_3 {lo : Nat} {Q : XQ} {e : E} {h : H} : XW C lo x37_3 Q e h =
    bd (addrV Try.prog 26 (E.get e 0) (E.get e 4)) fun t1 =>
    bd (fieldAddrV Try.prog 42 t1 1) fun t2 =>
    bd (loadV Try.prog 22 t2 (H.read h)) fun t3 =>
    CW C 46 [t3] lo h fun t4 h5 =>
    bd (buildV Try.prog 75 [(2, t4)]) fun t6 =>
    bd (zero? Try.prog 75) fun z7 =>
    bd (storeV Try.prog lo 75 (.ptr (H.next h5) 0) t6 (H.alloc h5 (V.cells z7))) fun h8 =>
    bd (sliceV Try.prog (H.read h8) 26 (E.get e 0) none (some (E.get e 4)) none) fun t9 =>
    bd (lenV Try.prog [26] t9) fun t10 =>
    XW C lo x37_4 (kXB 0 (XW C lo x37_17 Q) Q) ((52, t9) :: (53, t10) :: (54, .int .i64 0) :: (5, .ptr (H.next h5) 0) :: e) h8 := nrfl (by kernel_rfl)
theorem q37_1 {lo : Nat} {Q : XQ} {e : E} {h : H} : XW C lo x37_1 Q e h =
    byV (E.get e 41) (XW C lo x37_2 (kX (XW C lo x37_3 Q) Q) e h) (XW C lo .skip (kX (XW C lo x37_3 Q) Q) e h) False := nrfl (by kernel_rfl)
theorem q37_0 {lo : Nat} {Q : XQ} {e : E} {h : H} : XW C lo x37_0 Q e h =
    bd (zero? Try.prog 75) fun z1 =>
    bd (lenV Try.prog [26] (E.get e 0)) fun t2 =>
    bd (binV Try.prog .sub 3 t2 (.int .i64 1)) fun t3 =>
    bdB (binV Try.prog .lss 3 t3 (.int .i64 0)) fun b4 =>
    byT b4 (XW C lo x37_2 (kX (XW C lo x37_3 Q) Q) ((41, .bool true) :: (4, t3) :: (2, .ptr (H.next h) 0) :: e) (H.alloc h (V.cells z1))) (bd (addrV Try.prog 26 (E.get e 0) t3) fun t5 =>
    bd (fieldAddrV Try.prog 42 t5 0) fun t6 =>
    bd (loadV Try.prog 40 t6 (H.read (H.alloc h (V.cells z1)))) fun t7 =>
    bdB (binV Try.prog .neq 40 t7 (.int .u8 7)) fun b8 =>
    byT b8 (XW C lo x37_2 (kX (XW C lo x37_3 Q) Q) ((41, .bool true) :: (4, t3) :: (2, .ptr (H.next h) 0) :: e) (H.alloc h (V.cells z1))) (bd (addrV Try.prog 26 (E.get e 0) t3) fun t9 =>
    bd (fieldAddrV Try.prog 42 t9 1) fun t10 =>
    bd (loadV Try.prog 22 t10 (H.read (H.alloc h (V.cells z1)))) fun t11 =>
    bd (lenV Try.prog [22] t11) fun t12 =>
    bdB (binV Try.prog .neq 3 t12 (.int .i64 4)) fun b13 =>
    byT b13 (XW C lo x37_2 (kX (XW C lo x37_3 Q) Q) ((41, .bool true) :: (4, t3) :: (2, .ptr (H.next h) 0) :: e) (H.alloc h (V.cells z1))) (bd (addrV Try.prog 26 (E.get e 0) t3) fun t14 =>
    bd (fieldAddrV Try.prog 42 t14 1) fun t15 =>
    bd (loadV Try.prog 22 t15 (H.read (H.alloc h (V.cells z1)))) fun t16 =>
    CW C 46 [t16] lo (H.alloc h (V.cells z1)) fun t17 h18 =>
    bdB (binV Try.prog .gtr 3 t17 (.int .i64 2147483647)) fun b19 =>
    byT b19 (XW C lo x37_2 (kX (XW C lo x37_3 Q) Q) ((41, .bool b19) :: (4, t3) :: (2, .ptr (H.next h) 0) :: e) h18) (XW C lo .skip (kX (XW C lo x37_3 Q) Q) ((41, .bool b19) :: (4, t3) :: (2, .ptr (H.next h) 0) :: e) h18)))) := nrfl (by kernel_rfl)

/-! ### chancery/wire.names -/
def r66_0 : List SI := [⟨some 1, (.box 22 (.tmp 0)), none⟩,
  ⟨some 2, (.assign (.const (.slice none 0 0))), none⟩,
  ⟨some 3, (.assign (.const (.bool false))), none⟩]
def r66_1 : List SI := [⟨some 4, (.alloc 4), none⟩,
  ⟨none, (.store 4 (.tmp 4) (.const (.bool true))), none⟩]
def r66_2 : List SI := [⟨some 9, (.makeFunc (Go.Fn.func 80) #[] #[(.tmp 1), (.tmp 4)]), none⟩,
  ⟨some 5, (.assign (.tmp 9)), none⟩]
def r66_3 : List SI := [⟨some 10, (.move (.tmp 5)), none⟩,
  ⟨some 11, (.call { callee := (.value (.tmp 10)), args := #[(.const (.int .i64 1))], argTypes := #[3] }), none⟩,
  ⟨some 12, (.indexAddr 22 (.tmp 11) (.const (.int .i64 0))), none⟩,
  ⟨some 13, (.load 5 (.tmp 12)), none⟩,
  ⟨some 14, (.convert 5 3 (.tmp 13)), none⟩,
  ⟨some 6, (.assign (.tmp 14)), none⟩]
def r66_4 : List SI := [⟨some 7, (.assign (.const (.slice none 0 0))), none⟩]
def r66_5 : List SI := [⟨some 15, (.move (.tmp 6)), none⟩,
  ⟨some 16, (.move (.const (.int .i64 0))), none⟩]
def r66_6 : List SI := [⟨some 17, (.binOp .lss 3 (.tmp 16) (.tmp 15) 3), none⟩]
def r66_7 : List SI := [⟨some 18, (.move (.tmp 5)), none⟩,
  ⟨some 19, (.call { callee := (.value (.tmp 18)), args := #[(.const (.int .i64 1))], argTypes := #[3] }), none⟩,
  ⟨some 20, (.indexAddr 22 (.tmp 19) (.const (.int .i64 0))), none⟩,
  ⟨some 21, (.load 5 (.tmp 20)), none⟩,
  ⟨some 22, (.convert 5 3 (.tmp 21)), none⟩,
  ⟨some 8, (.assign (.tmp 22)), none⟩]
def r66_8 : List SI := [⟨some 23, (.load 4 (.tmp 4)), none⟩,
  ⟨some 24, (.move (.tmp 23)), none⟩,
  ⟨some 25, (.move (.tmp 8)), some (some 24, true)⟩,
  ⟨some 26, (.binOp .leq 3 (.tmp 25) (.const (.int .i64 24)) 3), some (some 24, true)⟩,
  ⟨some 27, (.pick (.tmp 24) (.tmp 26) (.const (.bool false))), none⟩,
  ⟨none, (.store 4 (.tmp 4) (.tmp 27)), none⟩]
def r66_9 : List SI := [⟨some 28, (.move (.tmp 7)), none⟩,
  ⟨some 29, (.move (.tmp 5)), none⟩,
  ⟨some 30, (.move (.tmp 8)), none⟩,
  ⟨some 31, (.call { callee := (.value (.tmp 29)), args := #[(.tmp 30)], argTypes := #[3] }), none⟩,
  ⟨some 32, (.convert 22 9 (.tmp 31)), none⟩,
  ⟨some 33, (.buildSlice 72 1 #[(0, (.tmp 32))]), none⟩,
  ⟨some 34, (.call { callee := (.builtin .append), args := #[(.tmp 28), (.tmp 33)], argTypes := #[72, 72] }), none⟩,
  ⟨some 7, (.assign (.tmp 34)), none⟩]
def x66_5 : X := .ops r66_9 [7] .skip
def x66_4 : X := .ops r66_7 [8] (.ops r66_8 [] x66_5)
def r66_10 : List SI := [⟨some 35, (.binOp .add 3 (.tmp 16) (.const (.int .i64 1)) 3), none⟩,
  ⟨some 16, (.move (.tmp 35)), none⟩]
def x66_6 : X := .trim [1, 4, 5, 6, 7, 15, 16] (.ops r66_10 [16] .skip)
def x66_3 : X := .block 1 x66_4 x66_6
def x66_2 : X := .ops r66_6 [17] (.cond (.tmp 17) .skip (.exit 0) x66_3)
def x66_1 : X := .loop [1, 4, 5, 6, 7, 15, 16] x66_2
def r66_11a : List SI := [⟨some 36, (.move (.tmp 7)), none⟩,
  ⟨some 37, (.load 4 (.tmp 4)), none⟩,
  ⟨some 38, (.move (.tmp 37)), none⟩,
  ⟨some 39, (.move (.tmp 6)), some (some 38, true)⟩,
  ⟨some 40, (.binOp .gtr 3 (.tmp 39) (.const (.int .i64 0)) 3), some (some 38, true)⟩,
  ⟨some 41, (.pick (.tmp 38) (.tmp 40) (.const (.bool false))), none⟩,
  ⟨some 42, (.move (.tmp 41)), none⟩,
  ⟨some 43, (.load 22 (.tmp 1)), some (some 42, true)⟩,
  ⟨some 44, (.call { callee := (.builtin .len), args := #[(.tmp 43)], argTypes := #[22] }), some (some 42, true)⟩,
  ⟨some 45, (.binOp .eql 3 (.tmp 44) (.const (.int .i64 0)) 3), some (some 42, true)⟩,
  ⟨some 46, (.pick (.tmp 42) (.tmp 45) (.const (.bool false))), none⟩,
  ⟨some 2, (.assign (.tmp 36)), none⟩]
def r66_11b : List SI := [⟨some 3, (.assign (.tmp 46)), none⟩]
def x66_7 : X := .trim [1, 4, 6, 7] (.front false r66_11a r66_11b [2, 3] .ret)
def x66_0 : X := .ops r66_0 [1] (.ops r66_1 [4] (.ops r66_2 [5] (.ops r66_3 [6] (.ops r66_4 [7] (.ops r66_5 [15, 16] (.block 0 x66_1 x66_7))))))
def n66 : Ann := .ops [1] (.ops [4] (.ops [5] (.ops [6] (.ops [7] (.ops [15, 16] (.block [1, 4, 6, 7] (.loop [1, 4, 5, 6, 7, 15, 16] (.ops [17] (.cond .stop .stop (.block [1, 4, 5, 6, 7, 15, 16] (.ops [8] (.ops [] (.ops [7] .stop))) (.trim [1, 4, 5, 6, 7, 15, 16] (.ops [16] .stop)))))) (.trim [1, 4, 6, 7] (.ops [2, 3] .stop))))))))
theorem ok66 : annFn Try.f66 1 n66 = some x66_0 := by kernel_rfl
noncomputable def kF66 (K : V → H → Prop) : XQ := kFnX C.P Try.f66.results.toList K
theorem e66_nx {K : V → H → Prop} {e : E} {h : H} : kF66 K .nx e h = K (.tup [E.get e 2, E.get e 3]) h := nrfl (by kernel_rfl)
theorem e66_rt {K : V → H → Prop} {e : E} {h : H} : kF66 K .rt e h = K (.tup [E.get e 2, E.get e 3]) h := nrfl (by kernel_rfl)
theorem enter66 {lo : Nat} {h : H} {vs : List V} {K : V → H → Prop} (hl : vs.length = 1) (hw : XW C lo x66_0 (kF66 K) (args 0 vs) h) : CW C 66 vs lo h K := by
  refine CW_X hS rfl Try.func66 ok66 hl ?_ hw
  rw [Try.ntmps66]
  decide
theorem q66_5 {lo : Nat} {Q : XQ} {e : E} {h : H} : XW C lo x66_5 Q e h =
    callX C (E.get e 5) [E.get e 8] lo h fun t1 h2 =>
    bd (convV Try.prog (H.read h2) 22 9 t1) fun r3 => KX h2 (fun t4 h5 =>
    bd (buildSliceV Try.prog 72 1 [(0, t4)]) fun r6 => KX h5 (fun t7 h8 =>
    bd2 (appendV Try.prog lo [72, 72] (E.get e 7) t7 h8) fun t9 h10 =>
    Q .nx ((7, t9) :: e) h10) r6) r3 := nrfl (by kernel_rfl)
theorem q66_4 {lo : Nat} {Q : XQ} {e : E} {h : H} : XW C lo x66_4 Q e h =
    callX C (E.get e 5) [.int .i64 1] lo h fun t1 h2 =>
    bd (addrV Try.prog 22 t1 (.int .i64 0)) fun t3 =>
    bd (loadV Try.prog 5 t3 (H.read h2)) fun t4 =>
    bd (convV Try.prog (H.read h2) 5 3 t4) fun r5 => KX h2 (fun t6 h7 =>
    bd (loadV Try.prog 4 (E.get e 4) (H.read h7)) fun t8 =>
    byV t8 (bdB (binV Try.prog .leq 3 t6 (.int .i64 24)) fun b9 =>
    bd (storeV Try.prog lo 4 (E.get e 4) (.bool b9) h7) fun h10 =>
    callX C (E.get e 5) [t6] lo h10 fun t11 h12 =>
    bd (convV Try.prog (H.read h12) 22 9 t11) fun r13 => KX h12 (fun t14 h15 =>
    bd (buildSliceV Try.prog 72 1 [(0, t14)]) fun r16 => KX h15 (fun t17 h18 =>
    bd2 (appendV Try.prog lo [72, 72] (E.get e 7) t17 h18) fun t19 h20 =>
    Q .nx ((7, t19) :: (8, t6) :: e) h20) r16) r13) (bd (storeV Try.prog lo 4 (E.get e 4) (.bool false) h7) fun h9 =>
    callX C (E.get e 5) [t6] lo h9 fun t10 h11 =>
    bd (convV Try.prog (H.read h11) 22 9 t10) fun r12 => KX h11 (fun t13 h14 =>
    bd (buildSliceV Try.prog 72 1 [(0, t13)]) fun r15 => KX h14 (fun t16 h17 =>
    bd2 (appendV Try.prog lo [72, 72] (E.get e 7) t16 h17) fun t18 h19 =>
    Q .nx ((7, t18) :: (8, t6) :: e) h19) r15) r12) (False)) r5 := nrfl (by kernel_rfl)
theorem q66_6 {lo : Nat} {Q : XQ} {e : E} {h : H} : XW C lo x66_6 Q e h =
    bd (binV Try.prog .add 3 (E.get e 16) (.int .i64 1)) fun t1 =>
    Q .nx [(16, t1), (1, E.get e 1), (4, E.get e 4), (5, E.get e 5), (6, E.get e 6), (7, E.get e 7), (15, E.get e 15), (16, E.get e 16)] h := nrfl (by kernel_rfl)
theorem q66_3 {lo : Nat} {Q : XQ} {e : E} {h : H} : XW C lo x66_3 Q e h =
    XW C lo x66_4 (kXB 1 (XW C lo x66_6 Q) Q) e h := nrfl (by kernel_rfl)
theorem q66_2 {lo : Nat} {Q : XQ} {e : E} {h : H} : XW C lo x66_2 Q e h =
    bdB (binV Try.prog .lss 3 (E.get e 16) (E.get e 15)) fun b1 =>
    byT b1 (XW C lo .skip (kX (XW C lo x66_3 Q) Q) ((17, .bool b1) :: e) h) (XW C lo (.exit 0) (kX (XW C lo x66_3 Q) Q) ((17, .bool b1) :: e) h) := nrfl (by kernel_rfl)
theorem q66_1 {lo : Nat} {Q : XQ} {e : E} {h : H} : XW C lo x66_1 Q e h =
    ∃ n, loopX [1, 4, 5, 6, 7, 15, 16] (XW C lo x66_2) Q n e h := nrfl (by kernel_rfl)
theorem q66_7 {lo : Nat} {Q : XQ} {e : E} {h : H} : XW C lo x66_7 Q e h =
    bd (loadV Try.prog 4 (E.get e 4) (H.read h)) fun t1 =>
    byV t1 (bdB (binV Try.prog .gtr 3 (E.get e 6) (.int .i64 0)) fun b2 =>
    byT b2 (bd (loadV Try.prog 22 (E.get e 1) (H.read h)) fun t3 =>
    bd (lenV Try.prog [22] t3) fun t4 =>
    bdB (binV Try.prog .eql 3 t4 (.int .i64 0)) fun b5 =>
    Q .rt [(2, E.get e 7), (3, .bool b5), (1, E.get e 1), (4, E.get e 4), (6, E.get e 6), (7, E.get e 7)] h) (Q .rt [(2, E.get e 7), (3, .bool false), (1, E.get e 1), (4, E.get e 4), (6, E.get e 6), (7, E.get e 7)] h)) (Q .rt [(2, E.get e 7), (3, .bool false), (1, E.get e 1), (4, E.get e 4), (6, E.get e 6), (7, E.get e 7)] h) (False) := nrfl (by kernel_rfl)
theorem q66_0 {lo : Nat} {Q : XQ} {e : E} {h : H} : XW C lo x66_0 Q e h =
    bd (zero? Try.prog 4) fun z1 =>
    bd (storeV Try.prog lo 4 (.ptr (H.next (H.alloc h (V.cells (E.get e 0)))) 0) (.bool true) (H.alloc (H.alloc h (V.cells (E.get e 0))) (V.cells z1))) fun h2 =>
    callX C (.fn (Go.Fn.func 80) [] [.ptr (H.next h) 0, .ptr (H.next (H.alloc h (V.cells (E.get e 0)))) 0]) [.int .i64 1] lo h2 fun t3 h4 =>
    bd (addrV Try.prog 22 t3 (.int .i64 0)) fun t5 =>
    bd (loadV Try.prog 5 t5 (H.read h4)) fun t6 =>
    bd (convV Try.prog (H.read h4) 5 3 t6) fun r7 => KX h4 (fun t8 h9 =>
    XW C lo x66_1 (kXB 0 (XW C lo x66_7 Q) Q) ((15, t8) :: (16, .int .i64 0) :: (7, .nils) :: (6, t8) :: (5, .fn (Go.Fn.func 80) [] [.ptr (H.next h) 0, .ptr (H.next (H.alloc h (V.cells (E.get e 0)))) 0]) :: (4, .ptr (H.next (H.alloc h (V.cells (E.get e 0)))) 0) :: (1, .ptr (H.next h) 0) :: e) h9) r7 := nrfl (by kernel_rfl)

/-! ### chancery/wire.names$1 -/
def r80_0 : List SI := [⟨some 4, (.assign (.const (.slice none 0 0))), none⟩]
def r80_1 : List SI := [⟨some 6, (.move (.tmp 0)), none⟩,
  ⟨some 7, (.load 22 (.tmp 1)), none⟩,
  ⟨some 8, (.call { callee := (.builtin .len), args := #[(.tmp 7)], argTypes := #[22] }), none⟩,
  ⟨some 9, (.binOp .gtr 3 (.tmp 6) (.tmp 8) 3), none⟩]
def r80_2 : List SI := [⟨none, (.store 4 (.tmp 2) (.const (.bool false))), none⟩]
def r80_3 : List SI := [⟨some 10, (.move (.tmp 0)), none⟩,
  ⟨some 11, (.makeSlice 22 (.tmp 10) (.tmp 10)), none⟩,
  ⟨some 4, (.assign (.tmp 11)), none⟩]
def x80_1 : X := .ops r80_2 [] (.ops r80_3 [4] .ret)
def r80_4 : List SI := [⟨some 12, (.load 22 (.tmp 1)), none⟩,
  ⟨some 13, (.move (.tmp 0)), none⟩,
  ⟨some 14, (.slice 22 (.tmp 12) none (some (.tmp 13)) none), none⟩,
  ⟨some 5, (.assign (.tmp 14)), none⟩]
def r80_5 : List SI := [⟨some 15, (.load 22 (.tmp 1)), none⟩,
  ⟨some 16, (.move (.tmp 0)), none⟩,
  ⟨some 17, (.slice 22 (.tmp 15) (some (.tmp 16)) none none), none⟩,
  ⟨none, (.store 22 (.tmp 1) (.tmp 17)), none⟩]
def r80_6 : List SI := [⟨some 18, (.move (.tmp 5)), none⟩,
  ⟨some 4, (.assign (.tmp 18)), none⟩]
def x80_2 : X := .ops r80_4 [5] (.ops r80_5 [] (.ops r80_6 [4] .ret))
def x80_0 : X := .ops r80_0 [] (.ops r80_1 [9] (.cond (.tmp 9) x80_1 .skip x80_2))
def n80 : Ann := .ops [] (.ops [9] (.cond (.ops [] (.ops [4] .stop)) .stop (.ops [5] (.ops [] (.ops [4] .stop)))))
theorem ok80 : annFn Try.f80 3 n80 = some x80_0 := by kernel_rfl
noncomputable def kF80 (K : V → H → Prop) : XQ := kFnX C.P Try.f80.results.toList K
theorem e80_nx {K : V → H → Prop} {e : E} {h : H} : kF80 K .nx e h = K (E.get e 4) h := nrfl (by kernel_rfl)
theorem e80_rt {K : V → H → Prop} {e : E} {h : H} : kF80 K .rt e h = K (E.get e 4) h := nrfl (by kernel_rfl)
theorem enter80 {lo : Nat} {h : H} {vs : List V} {K : V → H → Prop} (hl : vs.length = 3) (hw : XW C lo x80_0 (kF80 K) (args 0 vs) h) : CW C 80 vs lo h K := by
  refine CW_X hS rfl Try.func80 ok80 hl ?_ hw
  rw [Try.ntmps80]
  decide
theorem q80_1 {lo : Nat} {Q : XQ} {e : E} {h : H} : XW C lo x80_1 Q e h =
    bd (storeV Try.prog lo 4 (E.get e 2) (.bool false) h) fun h1 =>
    bd (makeSliceV Try.prog 22 (E.get e 0) (E.get e 0)) fun r2 => KX h1 (fun t3 h4 =>
    Q .rt ((4, t3) :: e) h4) r2 := nrfl (by kernel_rfl)
theorem q80_2 {lo : Nat} {Q : XQ} {e : E} {h : H} : XW C lo x80_2 Q e h =
    bd (loadV Try.prog 22 (E.get e 1) (H.read h)) fun t1 =>
    bd (sliceV Try.prog (H.read h) 22 t1 none (some (E.get e 0)) none) fun t2 =>
    bd (loadV Try.prog 22 (E.get e 1) (H.read h)) fun t3 =>
    bd (sliceV Try.prog (H.read h) 22 t3 (some (E.get e 0)) none none) fun t4 =>
    bd (storeV Try.prog lo 22 (E.get e 1) t4 h) fun h5 =>
    Q .rt ((4, t2) :: (5, t2) :: e) h5 := nrfl (by kernel_rfl)
theorem q80_0 {lo : Nat} {Q : XQ} {e : E} {h : H} : XW C lo x80_0 Q e h =
    bd (loadV Try.prog 22 (E.get e 1) (H.read h)) fun t1 =>
    bd (lenV Try.prog [22] t1) fun t2 =>
    bdB (binV Try.prog .gtr 3 (E.get e 0) t2) fun b3 =>
    byT b3 (XW C lo x80_1 (kX (XW C lo x80_2 Q) Q) ((9, .bool b3) :: e) h) (XW C lo .skip (kX (XW C lo x80_2 Q) Q) ((9, .bool b3) :: e) h) := nrfl (by kernel_rfl)

/-! ### chancery/chancerylaw29.sameAnswer -/
def r39_0 : List SI := [⟨some 2, (.box 75 (.tmp 0)), none⟩,
  ⟨some 3, (.box 75 (.tmp 1)), none⟩,
  ⟨some 4, (.assign (.const (.bool false))), none⟩]
def r39_1 : List SI := [⟨some 5, (.fieldAddr 75 (.tmp 2) 0), none⟩,
  ⟨some 6, (.load 72 (.tmp 5)), none⟩,
  ⟨some 7, (.fieldAddr 75 (.tmp 3) 0), none⟩,
  ⟨some 8, (.load 72 (.tmp 7)), none⟩,
  ⟨some 9, (.call { callee := (.value (.func 69)), args := #[(.tmp 6), (.tmp 8)], argTypes := #[72, 72] }), none⟩,
  ⟨some 10, (.move (.tmp 9)), none⟩,
  ⟨some 11, (.fieldAddr 75 (.tmp 2) 1), some (some 10, true)⟩,
  ⟨some 12, (.load 73 (.tmp 11)), some (some 10, true)⟩,
  ⟨some 13, (.fieldAddr 75 (.tmp 3) 1), some (some 10, true)⟩,
  ⟨some 14, (.load 73 (.tmp 13)), some (some 10, true)⟩,
  ⟨some 15, (.call { callee := (.value (.func 70)), args := #[(.tmp 12), (.tmp 14)], argTypes := #[73, 73] }), some (some 10, true)⟩,
  ⟨some 16, (.pick (.tmp 10) (.tmp 15) (.const (.bool false))), none⟩,
  ⟨some 17, (.move (.tmp 16)), none⟩,
  ⟨some 18, (.fieldAddr 75 (.tmp 2) 2), some (some 17, true)⟩,
  ⟨some 19, (.load 3 (.tmp 18)), some (some 17, true)⟩,
  ⟨some 20, (.fieldAddr 75 (.tmp 3) 2), some (some 17, true)⟩,
  ⟨some 21, (.load 3 (.tmp 20)), some (some 17, true)⟩,
  ⟨some 22, (.binOp .eql 3 (.tmp 19) (.tmp 21) 3), some (some 17, true)⟩,
  ⟨some 23, (.pick (.tmp 17) (.tmp 22) (.const (.bool false))), none⟩,
  ⟨some 4, (.assign (.tmp 23)), none⟩]
def x39_0 : X := .ops r39_0 [2, 3] (.ops r39_1 [4] .ret)
def n39 : Ann := .ops [2, 3] (.ops [4] .stop)
theorem ok39 : annFn Try.f39 2 n39 = some x39_0 := by kernel_rfl
noncomputable def kF39 (K : V → H → Prop) : XQ := kFnX C.P Try.f39.results.toList K
theorem e39_nx {K : V → H → Prop} {e : E} {h : H} : kF39 K .nx e h = K (E.get e 4) h := nrfl (by kernel_rfl)
theorem e39_rt {K : V → H → Prop} {e : E} {h : H} : kF39 K .rt e h = K (E.get e 4) h := nrfl (by kernel_rfl)
theorem enter39 {lo : Nat} {h : H} {vs : List V} {K : V → H → Prop} (hl : vs.length = 2) (hw : XW C lo x39_0 (kF39 K) (args 0 vs) h) : CW C 39 vs lo h K := by
  refine CW_X hS rfl Try.func39 ok39 hl ?_ hw
  rw [Try.ntmps39]
  decide
theorem q39_0 {lo : Nat} {Q : XQ} {e : E} {h : H} : XW C lo x39_0 Q e h =
    bd (fieldAddrV Try.prog 75 (.ptr (H.next h) 0) 0) fun t1 =>
    bd (loadV Try.prog 72 t1 (H.read (H.alloc (H.alloc h (V.cells (E.get e 0))) (V.cells (E.get e 1))))) fun t2 =>
    bd (fieldAddrV Try.prog 75 (.ptr (H.next (H.alloc h (V.cells (E.get e 0)))) 0) 0) fun t3 =>
    bd (loadV Try.prog 72 t3 (H.read (H.alloc (H.alloc h (V.cells (E.get e 0))) (V.cells (E.get e 1))))) fun t4 =>
    CW C 69 [t2, t4] lo (H.alloc (H.alloc h (V.cells (E.get e 0))) (V.cells (E.get e 1))) fun t5 h6 =>
    byV t5 (bd (fieldAddrV Try.prog 75 (.ptr (H.next h) 0) 1) fun t7 =>
    bd (loadV Try.prog 73 t7 (H.read h6)) fun t8 =>
    bd (fieldAddrV Try.prog 75 (.ptr (H.next (H.alloc h (V.cells (E.get e 0)))) 0) 1) fun t9 =>
    bd (loadV Try.prog 73 t9 (H.read h6)) fun t10 =>
    CW C 70 [t8, t10] lo h6 fun t11 h12 =>
    byV t11 (bd (fieldAddrV Try.prog 75 (.ptr (H.next h) 0) 2) fun t13 =>
    bd (loadV Try.prog 3 t13 (H.read h12)) fun t14 =>
    bd (fieldAddrV Try.prog 75 (.ptr (H.next (H.alloc h (V.cells (E.get e 0)))) 0) 2) fun t15 =>
    bd (loadV Try.prog 3 t15 (H.read h12)) fun t16 =>
    bdB (binV Try.prog .eql 3 t14 t16) fun b17 =>
    Q .rt ((4, .bool b17) :: (2, .ptr (H.next h) 0) :: (3, .ptr (H.next (H.alloc h (V.cells (E.get e 0)))) 0) :: e) h12) (Q .rt ((4, .bool false) :: (2, .ptr (H.next h) 0) :: (3, .ptr (H.next (H.alloc h (V.cells (E.get e 0)))) 0) :: e) h12) (False)) (Q .rt ((4, .bool false) :: (2, .ptr (H.next h) 0) :: (3, .ptr (H.next (H.alloc h (V.cells (E.get e 0)))) 0) :: e) h6) (False) := nrfl (by kernel_rfl)

/-! ### chancery/chancerykit.SameTexts -/
def r69_0 : List SI := [⟨some 4, (.assign (.const (.bool false))), none⟩]
def r69_1 : List SI := [⟨some 6, (.move (.tmp 0)), none⟩,
  ⟨some 7, (.call { callee := (.builtin .len), args := #[(.tmp 6)], argTypes := #[72] }), none⟩,
  ⟨some 8, (.move (.tmp 1)), none⟩,
  ⟨some 9, (.call { callee := (.builtin .len), args := #[(.tmp 8)], argTypes := #[72] }), none⟩,
  ⟨some 10, (.binOp .neq 3 (.tmp 7) (.tmp 9) 3), none⟩]
def r69_2 : List SI := [⟨some 4, (.assign (.const (.bool false))), none⟩]
def x69_1 : X := .ops r69_2 [4] .ret
def r69_3 : List SI := [⟨some 5, (.assign (.const (.int .i64 0))), none⟩]
def r69_4 : List SI := [⟨some 11, (.move (.tmp 5)), none⟩,
  ⟨some 12, (.move (.tmp 0)), none⟩,
  ⟨some 13, (.call { callee := (.builtin .len), args := #[(.tmp 12)], argTypes := #[72] }), none⟩,
  ⟨some 14, (.binOp .lss 3 (.tmp 11) (.tmp 13) 3), none⟩]
def r69_6a : List SI := [⟨some 17, (.move (.tmp 0)), none⟩,
  ⟨some 18, (.move (.tmp 5)), none⟩,
  ⟨some 19, (.indexAddr 72 (.tmp 17) (.tmp 18)), none⟩,
  ⟨some 20, (.load 9 (.tmp 19)), none⟩,
  ⟨some 21, (.move (.tmp 1)), none⟩,
  ⟨some 22, (.move (.tmp 5)), none⟩,
  ⟨some 23, (.indexAddr 72 (.tmp 21) (.tmp 22)), none⟩,
  ⟨some 24, (.load 9 (.tmp 23)), none⟩]
def r69_6b : List SI := [⟨some 25, (.binOp .neq 9 (.tmp 20) (.tmp 24) 9), none⟩]
def r69_7 : List SI := [⟨some 4, (.assign (.const (.bool false))), none⟩]
def x69_7 : X := .ops r69_7 [4] .ret
def x69_6 : X := .front false r69_6a r69_6b [25] (.cond (.tmp 25) x69_7 .skip .skip)
def r69_5 : List SI := [⟨some 15, (.move (.tmp 5)), none⟩,
  ⟨some 16, (.binOp .add 3 (.tmp 15) (.const (.int .i64 1)) 3), none⟩,
  ⟨some 5, (.assign (.tmp 16)), none⟩]
def x69_8 : X := .trim [0, 1, 5] (.ops r69_5 [5] .skip)
def x69_5 : X := .block 1 x69_6 x69_8
def x69_4 : X := .ops r69_4 [14] (.cond (.tmp 14) .skip (.exit 0) x69_5)
def x69_3 : X := .loop [0, 1, 5] x69_4
def r69_8 : List SI := [⟨some 4, (.assign (.const (.bool true))), none⟩]
def x69_9 : X := .trim [] (.ops r69_8 [4] .ret)
def x69_2 : X := .ops r69_3 [5] (.block 0 x69_3 x69_9)
def x69_0 : X := .ops r69_0 [] (.ops r69_1 [10] (.cond (.tmp 10) x69_1 .skip x69_2))
def n69 : Ann := .ops [] (.ops [10] (.cond (.ops [4] .stop) .stop (.ops [5] (.block [] (.loop [0, 1, 5] (.ops [14] (.cond .stop .stop (.block [0, 1, 5] (.ops [25] (.cond (.ops [4] .stop) .stop .stop)) (.trim [0, 1, 5] (.ops [5] .stop)))))) (.trim [] (.ops [4] .stop))))))
theorem ok69 : annFn Try.f69 2 n69 = some x69_0 := by kernel_rfl
noncomputable def kF69 (K : V → H → Prop) : XQ := kFnX C.P Try.f69.results.toList K
theorem e69_nx {K : V → H → Prop} {e : E} {h : H} : kF69 K .nx e h = K (E.get e 4) h := nrfl (by kernel_rfl)
theorem e69_rt {K : V → H → Prop} {e : E} {h : H} : kF69 K .rt e h = K (E.get e 4) h := nrfl (by kernel_rfl)
theorem enter69 {lo : Nat} {h : H} {vs : List V} {K : V → H → Prop} (hl : vs.length = 2) (hw : XW C lo x69_0 (kF69 K) (args 0 vs) h) : CW C 69 vs lo h K := by
  refine CW_X hS rfl Try.func69 ok69 hl ?_ hw
  rw [Try.ntmps69]
  decide
theorem q69_1 {lo : Nat} {Q : XQ} {e : E} {h : H} : XW C lo x69_1 Q e h =
    Q .rt ((4, .bool false) :: e) h := nrfl (by kernel_rfl)
theorem q69_7 {lo : Nat} {Q : XQ} {e : E} {h : H} : XW C lo x69_7 Q e h =
    Q .rt ((4, .bool false) :: e) h := nrfl (by kernel_rfl)
theorem q69_6 {lo : Nat} {Q : XQ} {e : E} {h : H} : XW C lo x69_6 Q e h =
    bd (addrV Try.prog 72 (E.get e 0) (E.get e 5)) fun t1 =>
    bd (loadV Try.prog 9 t1 (H.read h)) fun t2 =>
    bd (addrV Try.prog 72 (E.get e 1) (E.get e 5)) fun t3 =>
    bd (loadV Try.prog 9 t3 (H.read h)) fun t4 =>
    bdB (binV Try.prog .neq 9 t2 t4) fun b5 =>
    byT b5 (XW C lo x69_7 (kX (XW C lo .skip Q) Q) ((25, .bool b5) :: e) h) (XW C lo .skip (kX (XW C lo .skip Q) Q) ((25, .bool b5) :: e) h) := nrfl (by kernel_rfl)
theorem q69_8 {lo : Nat} {Q : XQ} {e : E} {h : H} : XW C lo x69_8 Q e h =
    bd (binV Try.prog .add 3 (E.get e 5) (.int .i64 1)) fun t1 =>
    Q .nx [(5, t1), (0, E.get e 0), (1, E.get e 1), (5, E.get e 5)] h := nrfl (by kernel_rfl)
theorem q69_5 {lo : Nat} {Q : XQ} {e : E} {h : H} : XW C lo x69_5 Q e h =
    XW C lo x69_6 (kXB 1 (XW C lo x69_8 Q) Q) e h := nrfl (by kernel_rfl)
theorem q69_4 {lo : Nat} {Q : XQ} {e : E} {h : H} : XW C lo x69_4 Q e h =
    bd (lenV Try.prog [72] (E.get e 0)) fun t1 =>
    bdB (binV Try.prog .lss 3 (E.get e 5) t1) fun b2 =>
    byT b2 (XW C lo .skip (kX (XW C lo x69_5 Q) Q) ((14, .bool b2) :: e) h) (XW C lo (.exit 0) (kX (XW C lo x69_5 Q) Q) ((14, .bool b2) :: e) h) := nrfl (by kernel_rfl)
theorem q69_3 {lo : Nat} {Q : XQ} {e : E} {h : H} : XW C lo x69_3 Q e h =
    ∃ n, loopX [0, 1, 5] (XW C lo x69_4) Q n e h := nrfl (by kernel_rfl)
theorem q69_9 {lo : Nat} {Q : XQ} {e : E} {h : H} : XW C lo x69_9 Q e h =
    Q .rt [(4, .bool true)] h := nrfl (by kernel_rfl)
theorem z69_2 {lo : Nat} {Z : E → H → Prop} {e : E} {h : H} : LX C lo r69_3 (fun e1 h1 => Z (outs [5] e1 e) h1) e h =
    Z ((5, .int .i64 0) :: e) h := nrfl (by kernel_rfl)
theorem q69_2 {lo : Nat} {Q : XQ} {e : E} {h : H} : XW C lo x69_2 Q e h =
    XW C lo x69_3 (kXB 0 (XW C lo x69_9 Q) Q) ((5, .int .i64 0) :: e) h :=
  (opsblkCodeW (l := r69_3) (out := [5]) (id := 0) (b := x69_3) (k := x69_9)).trans (z69_2 (Z := fun e1 h1 => XW C lo x69_3 (kXB 0 (XW C lo x69_9 Q) Q) e1 h1))
theorem q69_0 {lo : Nat} {Q : XQ} {e : E} {h : H} : XW C lo x69_0 Q e h =
    bd (lenV Try.prog [72] (E.get e 0)) fun t1 =>
    bd (lenV Try.prog [72] (E.get e 1)) fun t2 =>
    bdB (binV Try.prog .neq 3 t1 t2) fun b3 =>
    byT b3 (XW C lo x69_1 (kX (XW C lo x69_2 Q) Q) ((10, .bool b3) :: e) h) (XW C lo .skip (kX (XW C lo x69_2 Q) Q) ((10, .bool b3) :: e) h) := nrfl (by kernel_rfl)

/-! ### chancery/chancerykit.SameRows -/
def r70_0 : List SI := [⟨some 4, (.assign (.const (.bool false))), none⟩]
def r70_1 : List SI := [⟨some 6, (.move (.tmp 0)), none⟩,
  ⟨some 7, (.call { callee := (.builtin .len), args := #[(.tmp 6)], argTypes := #[73] }), none⟩,
  ⟨some 8, (.move (.tmp 1)), none⟩,
  ⟨some 9, (.call { callee := (.builtin .len), args := #[(.tmp 8)], argTypes := #[73] }), none⟩,
  ⟨some 10, (.binOp .neq 3 (.tmp 7) (.tmp 9) 3), none⟩]
def r70_2 : List SI := [⟨some 4, (.assign (.const (.bool false))), none⟩]
def x70_1 : X := .ops r70_2 [4] .ret
def r70_3 : List SI := [⟨some 5, (.assign (.const (.int .i64 0))), none⟩]
def r70_4 : List SI := [⟨some 11, (.move (.tmp 5)), none⟩,
  ⟨some 12, (.move (.tmp 0)), none⟩,
  ⟨some 13, (.call { callee := (.builtin .len), args := #[(.tmp 12)], argTypes := #[73] }), none⟩,
  ⟨some 14, (.binOp .lss 3 (.tmp 11) (.tmp 13) 3), none⟩]
def r70_6a : List SI := [⟨some 17, (.move (.tmp 0)), none⟩,
  ⟨some 18, (.move (.tmp 5)), none⟩,
  ⟨some 19, (.indexAddr 73 (.tmp 17) (.tmp 18)), none⟩,
  ⟨some 20, (.load 48 (.tmp 19)), none⟩,
  ⟨some 21, (.move (.tmp 1)), none⟩,
  ⟨some 22, (.move (.tmp 5)), none⟩,
  ⟨some 23, (.indexAddr 73 (.tmp 21) (.tmp 22)), none⟩,
  ⟨some 24, (.load 48 (.tmp 23)), none⟩]
def r70_6b : List SI := [⟨some 25, (.call { callee := (.value (.func 25)), args := #[(.tmp 20), (.tmp 24)], argTypes := #[48, 48] }), none⟩,
  ⟨some 26, (.unOp .not 4 (.tmp 25)), none⟩]
def r70_7 : List SI := [⟨some 4, (.assign (.const (.bool false))), none⟩]
def x70_7 : X := .ops r70_7 [4] .ret
def x70_6 : X := .front false r70_6a r70_6b [26] (.cond (.tmp 26) x70_7 .skip .skip)
def r70_5 : List SI := [⟨some 15, (.move (.tmp 5)), none⟩,
  ⟨some 16, (.binOp .add 3 (.tmp 15) (.const (.int .i64 1)) 3), none⟩,
  ⟨some 5, (.assign (.tmp 16)), none⟩]
def x70_8 : X := .trim [0, 1, 5] (.ops r70_5 [5] .skip)
def x70_5 : X := .block 1 x70_6 x70_8
def x70_4 : X := .ops r70_4 [14] (.cond (.tmp 14) .skip (.exit 0) x70_5)
def x70_3 : X := .loop [0, 1, 5] x70_4
def r70_8 : List SI := [⟨some 4, (.assign (.const (.bool true))), none⟩]
def x70_9 : X := .trim [] (.ops r70_8 [4] .ret)
def x70_2 : X := .ops r70_3 [5] (.block 0 x70_3 x70_9)
def x70_0 : X := .ops r70_0 [] (.ops r70_1 [10] (.cond (.tmp 10) x70_1 .skip x70_2))
def n70 : Ann := .ops [] (.ops [10] (.cond (.ops [4] .stop) .stop (.ops [5] (.block [] (.loop [0, 1, 5] (.ops [14] (.cond .stop .stop (.block [0, 1, 5] (.ops [26] (.cond (.ops [4] .stop) .stop .stop)) (.trim [0, 1, 5] (.ops [5] .stop)))))) (.trim [] (.ops [4] .stop))))))
theorem ok70 : annFn Try.f70 2 n70 = some x70_0 := by kernel_rfl
noncomputable def kF70 (K : V → H → Prop) : XQ := kFnX C.P Try.f70.results.toList K
theorem e70_nx {K : V → H → Prop} {e : E} {h : H} : kF70 K .nx e h = K (E.get e 4) h := nrfl (by kernel_rfl)
theorem e70_rt {K : V → H → Prop} {e : E} {h : H} : kF70 K .rt e h = K (E.get e 4) h := nrfl (by kernel_rfl)
theorem enter70 {lo : Nat} {h : H} {vs : List V} {K : V → H → Prop} (hl : vs.length = 2) (hw : XW C lo x70_0 (kF70 K) (args 0 vs) h) : CW C 70 vs lo h K := by
  refine CW_X hS rfl Try.func70 ok70 hl ?_ hw
  rw [Try.ntmps70]
  decide
theorem q70_1 {lo : Nat} {Q : XQ} {e : E} {h : H} : XW C lo x70_1 Q e h =
    Q .rt ((4, .bool false) :: e) h := nrfl (by kernel_rfl)
theorem q70_7 {lo : Nat} {Q : XQ} {e : E} {h : H} : XW C lo x70_7 Q e h =
    Q .rt ((4, .bool false) :: e) h := nrfl (by kernel_rfl)
theorem q70_6 {lo : Nat} {Q : XQ} {e : E} {h : H} : XW C lo x70_6 Q e h =
    bd (addrV Try.prog 73 (E.get e 0) (E.get e 5)) fun t1 =>
    bd (loadV Try.prog 48 t1 (H.read h)) fun t2 =>
    bd (addrV Try.prog 73 (E.get e 1) (E.get e 5)) fun t3 =>
    bd (loadV Try.prog 48 t3 (H.read h)) fun t4 =>
    CW C 25 [t2, t4] lo h fun t5 h6 =>
    bd (unV .not t5) fun t7 =>
    byV t7 (XW C lo x70_7 (kX (XW C lo .skip Q) Q) ((26, t7) :: e) h6) (XW C lo .skip (kX (XW C lo .skip Q) Q) ((26, t7) :: e) h6) False := nrfl (by kernel_rfl)
theorem q70_8 {lo : Nat} {Q : XQ} {e : E} {h : H} : XW C lo x70_8 Q e h =
    bd (binV Try.prog .add 3 (E.get e 5) (.int .i64 1)) fun t1 =>
    Q .nx [(5, t1), (0, E.get e 0), (1, E.get e 1), (5, E.get e 5)] h := nrfl (by kernel_rfl)
theorem q70_5 {lo : Nat} {Q : XQ} {e : E} {h : H} : XW C lo x70_5 Q e h =
    XW C lo x70_6 (kXB 1 (XW C lo x70_8 Q) Q) e h := nrfl (by kernel_rfl)
theorem q70_4 {lo : Nat} {Q : XQ} {e : E} {h : H} : XW C lo x70_4 Q e h =
    bd (lenV Try.prog [73] (E.get e 0)) fun t1 =>
    bdB (binV Try.prog .lss 3 (E.get e 5) t1) fun b2 =>
    byT b2 (XW C lo .skip (kX (XW C lo x70_5 Q) Q) ((14, .bool b2) :: e) h) (XW C lo (.exit 0) (kX (XW C lo x70_5 Q) Q) ((14, .bool b2) :: e) h) := nrfl (by kernel_rfl)
theorem q70_3 {lo : Nat} {Q : XQ} {e : E} {h : H} : XW C lo x70_3 Q e h =
    ∃ n, loopX [0, 1, 5] (XW C lo x70_4) Q n e h := nrfl (by kernel_rfl)
theorem q70_9 {lo : Nat} {Q : XQ} {e : E} {h : H} : XW C lo x70_9 Q e h =
    Q .rt [(4, .bool true)] h := nrfl (by kernel_rfl)
theorem z70_2 {lo : Nat} {Z : E → H → Prop} {e : E} {h : H} : LX C lo r70_3 (fun e1 h1 => Z (outs [5] e1 e) h1) e h =
    Z ((5, .int .i64 0) :: e) h := nrfl (by kernel_rfl)
theorem q70_2 {lo : Nat} {Q : XQ} {e : E} {h : H} : XW C lo x70_2 Q e h =
    XW C lo x70_3 (kXB 0 (XW C lo x70_9 Q) Q) ((5, .int .i64 0) :: e) h :=
  (opsblkCodeW (l := r70_3) (out := [5]) (id := 0) (b := x70_3) (k := x70_9)).trans (z70_2 (Z := fun e1 h1 => XW C lo x70_3 (kXB 0 (XW C lo x70_9 Q) Q) e1 h1))
theorem q70_0 {lo : Nat} {Q : XQ} {e : E} {h : H} : XW C lo x70_0 Q e h =
    bd (lenV Try.prog [73] (E.get e 0)) fun t1 =>
    bd (lenV Try.prog [73] (E.get e 1)) fun t2 =>
    bdB (binV Try.prog .neq 3 t1 t2) fun b3 =>
    byT b3 (XW C lo x70_1 (kX (XW C lo x70_2 Q) Q) ((10, .bool b3) :: e) h) (XW C lo .skip (kX (XW C lo x70_2 Q) Q) ((10, .bool b3) :: e) h) := nrfl (by kernel_rfl)

end Go.Proofs.Ytghmbmblhdgabaa.Code
