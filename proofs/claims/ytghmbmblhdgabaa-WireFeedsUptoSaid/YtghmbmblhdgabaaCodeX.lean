/- The code of functions, with short environments; what each part comes to. -/
import Derived.Test.YtghmbmblhdgabaaShort
import Derived.Test.YtghmbmblhdgabaaProg
import Derived.KernelRfl
set_option linter.all false
namespace Go.Proofs.Ytghmbmblhdgabaa.Code
open Go Go.Den
set_option maxRecDepth 100000
noncomputable abbrev C : Cfg := { P := Try.prog, S := shortS [(15, .bool true), (26, .bool true)] [32, 77] }
theorem hS : ShortLow C := shortS_low _ _
/-! ### chancery/wire.number -/
def r46_0 : List SI := [⟨some 2, (.assign (.const (.int .i64 0))), none⟩]
def r46_1a : List SI := [⟨some 3, (.move (.tmp 0)), none⟩,
  ⟨some 4, (.indexAddr 22 (.tmp 3) (.const (.int .i64 0))), none⟩,
  ⟨some 5, (.load 5 (.tmp 4)), none⟩,
  ⟨some 6, (.convert 5 3 (.tmp 5)), none⟩,
  ⟨some 7, (.binOp .shl 3 (.tmp 6) (.const (.int .u64 24)) 95), none⟩,
  ⟨some 8, (.move (.tmp 0)), none⟩,
  ⟨some 9, (.indexAddr 22 (.tmp 8) (.const (.int .i64 1))), none⟩,
  ⟨some 10, (.load 5 (.tmp 9)), none⟩,
  ⟨some 11, (.convert 5 3 (.tmp 10)), none⟩,
  ⟨some 12, (.binOp .shl 3 (.tmp 11) (.const (.int .u64 16)) 95), none⟩,
  ⟨some 13, (.binOp .or 3 (.tmp 7) (.tmp 12) 3), none⟩,
  ⟨some 14, (.move (.tmp 0)), none⟩,
  ⟨some 15, (.indexAddr 22 (.tmp 14) (.const (.int .i64 2))), none⟩,
  ⟨some 16, (.load 5 (.tmp 15)), none⟩,
  ⟨some 17, (.convert 5 3 (.tmp 16)), none⟩,
  ⟨some 18, (.binOp .shl 3 (.tmp 17) (.const (.int .u64 8)) 95), none⟩,
  ⟨some 19, (.binOp .or 3 (.tmp 13) (.tmp 18) 3), none⟩,
  ⟨some 20, (.move (.tmp 0)), none⟩,
  ⟨some 21, (.indexAddr 22 (.tmp 20) (.const (.int .i64 3))), none⟩,
  ⟨some 22, (.load 5 (.tmp 21)), none⟩,
  ⟨some 23, (.convert 5 3 (.tmp 22)), none⟩]
def r46_1b : List SI := [⟨some 24, (.binOp .or 3 (.tmp 19) (.tmp 23) 3), none⟩,
  ⟨some 2, (.assign (.tmp 24)), none⟩]
def x46_0 : X := .ops r46_0 [] (.front false r46_1a r46_1b [2] .ret)
def n46 : Ann := .ops [] (.ops [2] .stop)
theorem ok46 : annFn Try.f46 1 n46 = some x46_0 := by kernel_rfl
noncomputable def kF46 (K : V → H → Prop) : XQ := kFnX C.P Try.f46.results.toList K
theorem e46_nx {K : V → H → Prop} {e : E} {h : H} : kF46 K .nx e h = K (E.get e 2) h := nrfl (by kernel_rfl)
theorem e46_rt {K : V → H → Prop} {e : E} {h : H} : kF46 K .rt e h = K (E.get e 2) h := nrfl (by kernel_rfl)
theorem enter46 {lo : Nat} {h : H} {vs : List V} {K : V → H → Prop} (hl : vs.length = 1) (hw : XW C lo x46_0 (kF46 K) (args 0 vs) h) : CW C 46 vs lo h K := by
  refine CW_X hS rfl Try.func46 ok46 hl ?_ hw
  rw [Try.ntmps46]
  decide
theorem q46_0 {lo : Nat} {Q : XQ} {e : E} {h : H} : XW C lo x46_0 Q e h =
    bd (addrV Try.prog 22 (E.get e 0) (.int .i64 0)) fun t1 =>
    bd (loadV Try.prog 5 t1 (H.read h)) fun t2 =>
    bd (convV Try.prog (H.read h) 5 3 t2) fun r3 => KX h (fun t4 h5 =>
    bd (binV Try.prog .shl 3 t4 (.int .u64 24)) fun t6 =>
    bd (addrV Try.prog 22 (E.get e 0) (.int .i64 1)) fun t7 =>
    bd (loadV Try.prog 5 t7 (H.read h5)) fun t8 =>
    bd (convV Try.prog (H.read h5) 5 3 t8) fun r9 => KX h5 (fun t10 h11 =>
    bd (binV Try.prog .shl 3 t10 (.int .u64 16)) fun t12 =>
    bd (binV Try.prog .or 3 t6 t12) fun t13 =>
    bd (addrV Try.prog 22 (E.get e 0) (.int .i64 2)) fun t14 =>
    bd (loadV Try.prog 5 t14 (H.read h11)) fun t15 =>
    bd (convV Try.prog (H.read h11) 5 3 t15) fun r16 => KX h11 (fun t17 h18 =>
    bd (binV Try.prog .shl 3 t17 (.int .u64 8)) fun t19 =>
    bd (binV Try.prog .or 3 t13 t19) fun t20 =>
    bd (addrV Try.prog 22 (E.get e 0) (.int .i64 3)) fun t21 =>
    bd (loadV Try.prog 5 t21 (H.read h18)) fun t22 =>
    bd (convV Try.prog (H.read h18) 5 3 t22) fun r23 => KX h18 (fun t24 h25 =>
    bd (binV Try.prog .or 3 t20 t24) fun t26 =>
    Q .rt ((2, t26) :: e) h25) r23) r16) r9) r3 := nrfl (by kernel_rfl)

/-! ### chancery/chancerykit.SameBytes -/
def r27_0 : List SI := [⟨some 4, (.assign (.const (.bool false))), none⟩]
def r27_1 : List SI := [⟨some 6, (.move (.tmp 0)), none⟩,
  ⟨some 7, (.call { callee := (.builtin .len), args := #[(.tmp 6)], argTypes := #[22] }), none⟩,
  ⟨some 8, (.move (.tmp 1)), none⟩,
  ⟨some 9, (.call { callee := (.builtin .len), args := #[(.tmp 8)], argTypes := #[22] }), none⟩,
  ⟨some 10, (.binOp .neq 3 (.tmp 7) (.tmp 9) 3), none⟩]
def r27_2 : List SI := [⟨some 4, (.assign (.const (.bool false))), none⟩]
def x27_1 : X := .ops r27_2 [4] .ret
def r27_3 : List SI := [⟨some 5, (.assign (.const (.int .i64 0))), none⟩]
def r27_4 : List SI := [⟨some 11, (.move (.tmp 5)), none⟩,
  ⟨some 12, (.move (.tmp 0)), none⟩,
  ⟨some 13, (.call { callee := (.builtin .len), args := #[(.tmp 12)], argTypes := #[22] }), none⟩,
  ⟨some 14, (.binOp .lss 3 (.tmp 11) (.tmp 13) 3), none⟩]
def r27_6a : List SI := [⟨some 17, (.move (.tmp 0)), none⟩,
  ⟨some 18, (.move (.tmp 5)), none⟩,
  ⟨some 19, (.indexAddr 22 (.tmp 17) (.tmp 18)), none⟩,
  ⟨some 20, (.load 5 (.tmp 19)), none⟩,
  ⟨some 21, (.move (.tmp 1)), none⟩,
  ⟨some 22, (.move (.tmp 5)), none⟩,
  ⟨some 23, (.indexAddr 22 (.tmp 21) (.tmp 22)), none⟩,
  ⟨some 24, (.load 5 (.tmp 23)), none⟩]
def r27_6b : List SI := [⟨some 25, (.binOp .neq 5 (.tmp 20) (.tmp 24) 5), none⟩]
def r27_7 : List SI := [⟨some 4, (.assign (.const (.bool false))), none⟩]
def x27_7 : X := .ops r27_7 [4] .ret
def x27_6 : X := .front false r27_6a r27_6b [25] (.cond (.tmp 25) x27_7 .skip .skip)
def r27_5 : List SI := [⟨some 15, (.move (.tmp 5)), none⟩,
  ⟨some 16, (.binOp .add 3 (.tmp 15) (.const (.int .i64 1)) 3), none⟩,
  ⟨some 5, (.assign (.tmp 16)), none⟩]
def x27_8 : X := .trim [0, 1, 5] (.ops r27_5 [5] .skip)
def x27_5 : X := .block 1 x27_6 x27_8
def x27_4 : X := .ops r27_4 [14] (.cond (.tmp 14) .skip (.exit 0) x27_5)
def x27_3 : X := .loop [0, 1, 5] x27_4
def r27_8 : List SI := [⟨some 4, (.assign (.const (.bool true))), none⟩]
def x27_9 : X := .trim [] (.ops r27_8 [4] .ret)
def x27_2 : X := .ops r27_3 [5] (.block 0 x27_3 x27_9)
def x27_0 : X := .ops r27_0 [] (.ops r27_1 [10] (.cond (.tmp 10) x27_1 .skip x27_2))
def n27 : Ann := .ops [] (.ops [10] (.cond (.ops [4] .stop) .stop (.ops [5] (.block [] (.loop [0, 1, 5] (.ops [14] (.cond .stop .stop (.block [0, 1, 5] (.ops [25] (.cond (.ops [4] .stop) .stop .stop)) (.trim [0, 1, 5] (.ops [5] .stop)))))) (.trim [] (.ops [4] .stop))))))
theorem ok27 : annFn Try.f27 2 n27 = some x27_0 := by kernel_rfl
noncomputable def kF27 (K : V → H → Prop) : XQ := kFnX C.P Try.f27.results.toList K
theorem e27_nx {K : V → H → Prop} {e : E} {h : H} : kF27 K .nx e h = K (E.get e 4) h := nrfl (by kernel_rfl)
theorem e27_rt {K : V → H → Prop} {e : E} {h : H} : kF27 K .rt e h = K (E.get e 4) h := nrfl (by kernel_rfl)
theorem enter27 {lo : Nat} {h : H} {vs : List V} {K : V → H → Prop} (hl : vs.length = 2) (hw : XW C lo x27_0 (kF27 K) (args 0 vs) h) : CW C 27 vs lo h K := by
  refine CW_X hS rfl Try.func27 ok27 hl ?_ hw
  rw [Try.ntmps27]
  decide
theorem q27_1 {lo : Nat} {Q : XQ} {e : E} {h : H} : XW C lo x27_1 Q e h =
    Q .rt ((4, .bool false) :: e) h := nrfl (by kernel_rfl)
theorem q27_7 {lo : Nat} {Q : XQ} {e : E} {h : H} : XW C lo x27_7 Q e h =
    Q .rt ((4, .bool false) :: e) h := nrfl (by kernel_rfl)
theorem q27_6 {lo : Nat} {Q : XQ} {e : E} {h : H} : XW C lo x27_6 Q e h =
    bd (addrV Try.prog 22 (E.get e 0) (E.get e 5)) fun t1 =>
    bd (loadV Try.prog 5 t1 (H.read h)) fun t2 =>
    bd (addrV Try.prog 22 (E.get e 1) (E.get e 5)) fun t3 =>
    bd (loadV Try.prog 5 t3 (H.read h)) fun t4 =>
    bdB (binV Try.prog .neq 5 t2 t4) fun b5 =>
    byT b5 (XW C lo x27_7 (kX (XW C lo .skip Q) Q) ((25, .bool b5) :: e) h) (XW C lo .skip (kX (XW C lo .skip Q) Q) ((25, .bool b5) :: e) h) := nrfl (by kernel_rfl)
theorem q27_8 {lo : Nat} {Q : XQ} {e : E} {h : H} : XW C lo x27_8 Q e h =
    bd (binV Try.prog .add 3 (E.get e 5) (.int .i64 1)) fun t1 =>
    Q .nx [(5, t1), (0, E.get e 0), (1, E.get e 1), (5, E.get e 5)] h := nrfl (by kernel_rfl)
theorem q27_5 {lo : Nat} {Q : XQ} {e : E} {h : H} : XW C lo x27_5 Q e h =
    XW C lo x27_6 (kXB 1 (XW C lo x27_8 Q) Q) e h := nrfl (by kernel_rfl)
theorem q27_4 {lo : Nat} {Q : XQ} {e : E} {h : H} : XW C lo x27_4 Q e h =
    bd (lenV Try.prog [22] (E.get e 0)) fun t1 =>
    bdB (binV Try.prog .lss 3 (E.get e 5) t1) fun b2 =>
    byT b2 (XW C lo .skip (kX (XW C lo x27_5 Q) Q) ((14, .bool b2) :: e) h) (XW C lo (.exit 0) (kX (XW C lo x27_5 Q) Q) ((14, .bool b2) :: e) h) := nrfl (by kernel_rfl)
theorem q27_3 {lo : Nat} {Q : XQ} {e : E} {h : H} : XW C lo x27_3 Q e h =
    ∃ n, loopX [0, 1, 5] (XW C lo x27_4) Q n e h := nrfl (by kernel_rfl)
theorem q27_9 {lo : Nat} {Q : XQ} {e : E} {h : H} : XW C lo x27_9 Q e h =
    Q .rt [(4, .bool true)] h := nrfl (by kernel_rfl)
theorem q27_2 {lo : Nat} {Q : XQ} {e : E} {h : H} : XW C lo x27_2 Q e h =
    XW C lo x27_3 (kXB 0 (XW C lo x27_9 Q) Q) ((5, .int .i64 0) :: e) h := nrfl (by kernel_rfl)
theorem q27_0 {lo : Nat} {Q : XQ} {e : E} {h : H} : XW C lo x27_0 Q e h =
    bd (lenV Try.prog [22] (E.get e 0)) fun t1 =>
    bd (lenV Try.prog [22] (E.get e 1)) fun t2 =>
    bdB (binV Try.prog .neq 3 t1 t2) fun b3 =>
    byT b3 (XW C lo x27_1 (kX (XW C lo x27_2 Q) Q) ((10, .bool b3) :: e) h) (XW C lo .skip (kX (XW C lo x27_2 Q) Q) ((10, .bool b3) :: e) h) := nrfl (by kernel_rfl)

/-! ### chancery/chancerykit.CopyBytes -/
def r13_0 : List SI := [⟨some 2, (.assign (.const (.slice none 0 0))), none⟩]
def r13_1 : List SI := [⟨some 3, (.assign (.const (.slice none 0 0))), none⟩]
def r13_2 : List SI := [⟨some 4, (.assign (.const (.int .i64 0))), none⟩]
def r13_3 : List SI := [⟨some 5, (.move (.tmp 4)), none⟩,
  ⟨some 6, (.move (.tmp 0)), none⟩,
  ⟨some 7, (.call { callee := (.builtin .len), args := #[(.tmp 6)], argTypes := #[22] }), none⟩,
  ⟨some 8, (.binOp .lss 3 (.tmp 5) (.tmp 7) 3), none⟩]
def r13_5 : List SI := [⟨some 11, (.move (.tmp 3)), none⟩,
  ⟨some 12, (.move (.tmp 0)), none⟩,
  ⟨some 13, (.move (.tmp 4)), none⟩,
  ⟨some 14, (.indexAddr 22 (.tmp 12) (.tmp 13)), none⟩,
  ⟨some 15, (.load 5 (.tmp 14)), none⟩,
  ⟨some 16, (.buildSlice 22 1 #[(0, (.tmp 15))]), none⟩,
  ⟨some 17, (.call { callee := (.builtin .append), args := #[(.tmp 11), (.tmp 16)], argTypes := #[22, 22] }), none⟩,
  ⟨some 3, (.assign (.tmp 17)), none⟩]
def x13_4 : X := .ops r13_5 [3] .skip
def r13_4 : List SI := [⟨some 9, (.move (.tmp 4)), none⟩,
  ⟨some 10, (.binOp .add 3 (.tmp 9) (.const (.int .i64 1)) 3), none⟩,
  ⟨some 4, (.assign (.tmp 10)), none⟩]
def x13_5 : X := .trim [0, 3, 4] (.ops r13_4 [4] .skip)
def x13_3 : X := .block 1 x13_4 x13_5
def x13_2 : X := .ops r13_3 [8] (.cond (.tmp 8) .skip (.exit 0) x13_3)
def x13_1 : X := .loop [0, 3, 4] x13_2
def r13_6 : List SI := [⟨some 18, (.move (.tmp 3)), none⟩,
  ⟨some 2, (.assign (.tmp 18)), none⟩]
def x13_6 : X := .trim [3] (.ops r13_6 [2] .ret)
def x13_0 : X := .ops r13_0 [] (.ops r13_1 [3] (.ops r13_2 [4] (.block 0 x13_1 x13_6)))
def n13 : Ann := .ops [] (.ops [3] (.ops [4] (.block [3] (.loop [0, 3, 4] (.ops [8] (.cond .stop .stop (.block [0, 3, 4] (.ops [3] .stop) (.trim [0, 3, 4] (.ops [4] .stop)))))) (.trim [3] (.ops [2] .stop)))))
theorem ok13 : annFn Try.f13 1 n13 = some x13_0 := by kernel_rfl
noncomputable def kF13 (K : V → H → Prop) : XQ := kFnX C.P Try.f13.results.toList K
theorem e13_nx {K : V → H → Prop} {e : E} {h : H} : kF13 K .nx e h = K (E.get e 2) h := nrfl (by kernel_rfl)
theorem e13_rt {K : V → H → Prop} {e : E} {h : H} : kF13 K .rt e h = K (E.get e 2) h := nrfl (by kernel_rfl)
theorem enter13 {lo : Nat} {h : H} {vs : List V} {K : V → H → Prop} (hl : vs.length = 1) (hw : XW C lo x13_0 (kF13 K) (args 0 vs) h) : CW C 13 vs lo h K := by
  refine CW_X hS rfl Try.func13 ok13 hl ?_ hw
  rw [Try.ntmps13]
  decide
theorem q13_4 {lo : Nat} {Q : XQ} {e : E} {h : H} : XW C lo x13_4 Q e h =
    bd (addrV Try.prog 22 (E.get e 0) (E.get e 4)) fun t1 =>
    bd (loadV Try.prog 5 t1 (H.read h)) fun t2 =>
    bd (buildSliceV Try.prog 22 1 [(0, t2)]) fun r3 => KX h (fun t4 h5 =>
    bd2 (appendV Try.prog lo [22, 22] (E.get e 3) t4 h5) fun t6 h7 =>
    Q .nx ((3, t6) :: e) h7) r3 := nrfl (by kernel_rfl)
theorem q13_5 {lo : Nat} {Q : XQ} {e : E} {h : H} : XW C lo x13_5 Q e h =
    bd (binV Try.prog .add 3 (E.get e 4) (.int .i64 1)) fun t1 =>
    Q .nx [(4, t1), (0, E.get e 0), (3, E.get e 3), (4, E.get e 4)] h := nrfl (by kernel_rfl)
theorem q13_3 {lo : Nat} {Q : XQ} {e : E} {h : H} : XW C lo x13_3 Q e h =
    XW C lo x13_4 (kXB 1 (XW C lo x13_5 Q) Q) e h := nrfl (by kernel_rfl)
theorem q13_2 {lo : Nat} {Q : XQ} {e : E} {h : H} : XW C lo x13_2 Q e h =
    bd (lenV Try.prog [22] (E.get e 0)) fun t1 =>
    bdB (binV Try.prog .lss 3 (E.get e 4) t1) fun b2 =>
    byT b2 (XW C lo .skip (kX (XW C lo x13_3 Q) Q) ((8, .bool b2) :: e) h) (XW C lo (.exit 0) (kX (XW C lo x13_3 Q) Q) ((8, .bool b2) :: e) h) := nrfl (by kernel_rfl)
theorem q13_1 {lo : Nat} {Q : XQ} {e : E} {h : H} : XW C lo x13_1 Q e h =
    ∃ n, loopX [0, 3, 4] (XW C lo x13_2) Q n e h := nrfl (by kernel_rfl)
theorem q13_6 {lo : Nat} {Q : XQ} {e : E} {h : H} : XW C lo x13_6 Q e h =
    Q .rt [(2, E.get e 3), (3, E.get e 3)] h := nrfl (by kernel_rfl)
theorem q13_0 {lo : Nat} {Q : XQ} {e : E} {h : H} : XW C lo x13_0 Q e h =
    XW C lo x13_1 (kXB 0 (XW C lo x13_6 Q) Q) ((4, .int .i64 0) :: (3, .nils) :: e) h := nrfl (by kernel_rfl)

/-! ### chancery/chancerykit.Pick -/
def r14_0 : List SI := [⟨some 4, (.assign (.const (.int .i64 0))), none⟩]
def r14_1 : List SI := [⟨some 5, (.move (.tmp 1)), none⟩,
  ⟨some 6, (.binOp .lss 3 (.tmp 5) (.const (.int .i64 1)) 3), none⟩]
def r14_2 : List SI := [⟨some 4, (.assign (.const (.int .i64 0))), none⟩]
def x14_1 : X := .ops r14_2 [4] .ret
def r14_3 : List SI := [⟨some 7, (.move (.tmp 0)), none⟩,
  ⟨some 8, (.move (.tmp 1)), none⟩,
  ⟨some 9, (.binOp .rem 3 (.tmp 7) (.tmp 8) 3), none⟩,
  ⟨some 0, (.assign (.tmp 9)), none⟩]
def r14_4 : List SI := [⟨some 10, (.move (.tmp 0)), none⟩,
  ⟨some 11, (.binOp .lss 3 (.tmp 10) (.const (.int .i64 0)) 3), none⟩]
def r14_5 : List SI := [⟨some 12, (.move (.tmp 0)), none⟩,
  ⟨some 13, (.move (.tmp 1)), none⟩,
  ⟨some 14, (.binOp .add 3 (.tmp 12) (.tmp 13) 3), none⟩,
  ⟨some 0, (.assign (.tmp 14)), none⟩]
def x14_3 : X := .ops r14_5 [0] .skip
def r14_6 : List SI := [⟨some 15, (.move (.tmp 0)), none⟩,
  ⟨some 4, (.assign (.tmp 15)), none⟩]
def x14_4 : X := .trim [0] (.ops r14_6 [4] .ret)
def x14_2 : X := .ops r14_3 [0] (.ops r14_4 [11] (.cond (.tmp 11) x14_3 .skip x14_4))
def x14_0 : X := .ops r14_0 [] (.ops r14_1 [6] (.cond (.tmp 6) x14_1 .skip x14_2))
def n14 : Ann := .ops [] (.ops [6] (.cond (.ops [4] .stop) .stop (.ops [0] (.ops [11] (.cond (.ops [0] .stop) .stop (.trim [0] (.ops [4] .stop)))))))
theorem ok14 : annFn Try.f14 2 n14 = some x14_0 := by kernel_rfl
noncomputable def kF14 (K : V → H → Prop) : XQ := kFnX C.P Try.f14.results.toList K
theorem e14_nx {K : V → H → Prop} {e : E} {h : H} : kF14 K .nx e h = K (E.get e 4) h := nrfl (by kernel_rfl)
theorem e14_rt {K : V → H → Prop} {e : E} {h : H} : kF14 K .rt e h = K (E.get e 4) h := nrfl (by kernel_rfl)
theorem enter14 {lo : Nat} {h : H} {vs : List V} {K : V → H → Prop} (hl : vs.length = 2) (hw : XW C lo x14_0 (kF14 K) (args 0 vs) h) : CW C 14 vs lo h K := by
  refine CW_X hS rfl Try.func14 ok14 hl ?_ hw
  rw [Try.ntmps14]
  decide
theorem q14_1 {lo : Nat} {Q : XQ} {e : E} {h : H} : XW C lo x14_1 Q e h =
    Q .rt ((4, .int .i64 0) :: e) h := nrfl (by kernel_rfl)
theorem q14_3 {lo : Nat} {Q : XQ} {e : E} {h : H} : XW C lo x14_3 Q e h =
    bd (binV Try.prog .add 3 (E.get e 0) (E.get e 1)) fun t1 =>
    Q .nx ((0, t1) :: e) h := nrfl (by kernel_rfl)
theorem q14_4 {lo : Nat} {Q : XQ} {e : E} {h : H} : XW C lo x14_4 Q e h =
    Q .rt [(4, E.get e 0), (0, E.get e 0)] h := nrfl (by kernel_rfl)
theorem q14_2 {lo : Nat} {Q : XQ} {e : E} {h : H} : XW C lo x14_2 Q e h =
    bd (binV Try.prog .rem 3 (E.get e 0) (E.get e 1)) fun t1 =>
    bdB (binV Try.prog .lss 3 t1 (.int .i64 0)) fun b2 =>
    byT b2 (XW C lo x14_3 (kX (XW C lo x14_4 Q) Q) ((11, .bool b2) :: (0, t1) :: e) h) (XW C lo .skip (kX (XW C lo x14_4 Q) Q) ((11, .bool b2) :: (0, t1) :: e) h) := nrfl (by kernel_rfl)
theorem q14_0 {lo : Nat} {Q : XQ} {e : E} {h : H} : XW C lo x14_0 Q e h =
    bdB (binV Try.prog .lss 3 (E.get e 1) (.int .i64 1)) fun b1 =>
    byT b1 (XW C lo x14_1 (kX (XW C lo x14_2 Q) Q) ((6, .bool b1) :: e) h) (XW C lo .skip (kX (XW C lo x14_2 Q) Q) ((6, .bool b1) :: e) h) := nrfl (by kernel_rfl)

/-! ### chancery/wire.New -/
def r11_0 : List SI := [⟨some 0, (.assign (.const (.pointer none))), none⟩]
def r11_1 : List SI := [⟨some 1, (.build 45 #[(2, (.const (.bool true)))]), none⟩,
  ⟨some 2, (.box 45 (.tmp 1)), none⟩,
  ⟨some 0, (.assign (.tmp 2)), none⟩]
def x11_0 : X := .ops r11_0 [] (.ops r11_1 [0] .ret)
def n11 : Ann := .ops [] (.ops [0] .stop)
theorem ok11 : annFn Try.f11 0 n11 = some x11_0 := by kernel_rfl
noncomputable def kF11 (K : V → H → Prop) : XQ := kFnX C.P Try.f11.results.toList K
theorem e11_nx {K : V → H → Prop} {e : E} {h : H} : kF11 K .nx e h = K (E.get e 0) h := nrfl (by kernel_rfl)
theorem e11_rt {K : V → H → Prop} {e : E} {h : H} : kF11 K .rt e h = K (E.get e 0) h := nrfl (by kernel_rfl)
theorem enter11 {lo : Nat} {h : H} {vs : List V} {K : V → H → Prop} (hl : vs.length = 0) (hw : XW C lo x11_0 (kF11 K) (args 0 vs) h) : CW C 11 vs lo h K := by
  refine CW_X hS rfl Try.func11 ok11 hl ?_ hw
  rw [Try.ntmps11]
  decide
theorem q11_0 {lo : Nat} {Q : XQ} {e : E} {h : H} : XW C lo x11_0 Q e h =
    bd (buildV Try.prog 45 [(2, .bool true)]) fun t1 =>
    Q .rt ((0, .ptr (H.next h) 0) :: e) (H.alloc h (V.cells t1)) := nrfl (by kernel_rfl)

/-! ### (*chancery/wire.Reader).right -/
def r44_0 : List SI := [⟨some 2, (.assign (.const (.bool false))), none⟩]
def r44_1 : List SI := [⟨some 3, (.move (.tmp 0)), none⟩,
  ⟨some 4, (.binOp .neq 24 (.tmp 3) (.const (.pointer none)) 24), none⟩,
  ⟨some 5, (.move (.tmp 4)), none⟩,
  ⟨some 6, (.move (.tmp 0)), some (some 5, true)⟩,
  ⟨some 7, (.nilCheck (.tmp 6)), some (some 5, true)⟩,
  ⟨some 8, (.fieldAddr 45 (.tmp 7) 2), some (some 5, true)⟩,
  ⟨some 9, (.load 4 (.tmp 8)), some (some 5, true)⟩,
  ⟨some 10, (.pick (.tmp 5) (.tmp 9) (.const (.bool false))), none⟩,
  ⟨some 2, (.assign (.tmp 10)), none⟩]
def x44_0 : X := .ops r44_0 [] (.ops r44_1 [2] .ret)
def n44 : Ann := .ops [] (.ops [2] .stop)
theorem ok44 : annFn Try.f44 1 n44 = some x44_0 := by kernel_rfl
noncomputable def kF44 (K : V → H → Prop) : XQ := kFnX C.P Try.f44.results.toList K
theorem e44_nx {K : V → H → Prop} {e : E} {h : H} : kF44 K .nx e h = K (E.get e 2) h := nrfl (by kernel_rfl)
theorem e44_rt {K : V → H → Prop} {e : E} {h : H} : kF44 K .rt e h = K (E.get e 2) h := nrfl (by kernel_rfl)
theorem enter44 {lo : Nat} {h : H} {vs : List V} {K : V → H → Prop} (hl : vs.length = 1) (hw : XW C lo x44_0 (kF44 K) (args 0 vs) h) : CW C 44 vs lo h K := by
  refine CW_X hS rfl Try.func44 ok44 hl ?_ hw
  rw [Try.ntmps44]
  decide
theorem q44_0 {lo : Nat} {Q : XQ} {e : E} {h : H} : XW C lo x44_0 Q e h =
    bdB (binV Try.prog .neq 24 (E.get e 0) .nilp) fun b1 =>
    byT b1 (bd (ncV (E.get e 0)) fun t2 =>
    bd (fieldAddrV Try.prog 45 t2 2) fun t3 =>
    bd (loadV Try.prog 4 t3 (H.read h)) fun t4 =>
    Q .rt ((2, t4) :: e) h) (Q .rt ((2, .bool false) :: e) h) := nrfl (by kernel_rfl)

/-! ### (*chancery/wire.Reader).wrong -/
def r45_0 : List SI := [⟨some 2, (.assign (.const (.bool false))), none⟩]
def r45_1 : List SI := [⟨some 4, (.move (.tmp 0)), none⟩,
  ⟨some 5, (.nilCheck (.tmp 4)), none⟩,
  ⟨some 6, (.fieldAddr 45 (.tmp 5) 0), none⟩,
  ⟨some 7, (.load 22 (.tmp 6)), none⟩,
  ⟨some 8, (.call { callee := (.builtin .len), args := #[(.tmp 7)], argTypes := #[22] }), none⟩,
  ⟨some 9, (.binOp .lss 3 (.tmp 8) (.const (.int .i64 4)) 3), none⟩]
def r45_2 : List SI := [⟨some 2, (.assign (.const (.bool false))), none⟩]
def x45_1 : X := .ops r45_2 [2] .ret
def r45_3 : List SI := [⟨some 10, (.move (.tmp 0)), none⟩,
  ⟨some 11, (.nilCheck (.tmp 10)), none⟩,
  ⟨some 12, (.fieldAddr 45 (.tmp 11) 0), none⟩,
  ⟨some 13, (.load 22 (.tmp 12)), none⟩,
  ⟨some 14, (.call { callee := (.value (.func 46)), args := #[(.tmp 13)], argTypes := #[22] }), none⟩,
  ⟨some 3, (.assign (.tmp 14)), none⟩]
def r45_4 : List SI := [⟨some 15, (.move (.tmp 3)), none⟩,
  ⟨some 16, (.binOp .lss 3 (.tmp 15) (.const (.int .i64 1)) 3), none⟩,
  ⟨some 17, (.move (.tmp 16)), none⟩,
  ⟨some 18, (.move (.tmp 3)), some (some 17, false)⟩,
  ⟨some 19, (.binOp .gtr 3 (.tmp 18) (.const (.int .i64 8192)) 3), some (some 17, false)⟩,
  ⟨some 20, (.pick (.tmp 17) (.const (.bool true)) (.tmp 19)), none⟩,
  ⟨some 21, (.move (.tmp 20)), none⟩,
  ⟨some 22, (.move (.tmp 0)), some (some 21, false)⟩,
  ⟨some 23, (.nilCheck (.tmp 22)), some (some 21, false)⟩,
  ⟨some 24, (.fieldAddr 45 (.tmp 23) 0), some (some 21, false)⟩,
  ⟨some 25, (.load 22 (.tmp 24)), some (some 21, false)⟩,
  ⟨some 26, (.call { callee := (.builtin .len), args := #[(.tmp 25)], argTypes := #[22] }), some (some 21, false)⟩,
  ⟨some 27, (.binOp .gtr 3 (.tmp 26) (.const (.int .i64 4)) 3), some (some 21, false)⟩,
  ⟨some 28, (.move (.tmp 27)), some (some 21, false)⟩,
  ⟨some 29, (.move (.tmp 0)), some (some 28, true)⟩,
  ⟨some 30, (.nilCheck (.tmp 29)), some (some 28, true)⟩,
  ⟨some 31, (.fieldAddr 45 (.tmp 30) 0), some (some 28, true)⟩,
  ⟨some 32, (.load 22 (.tmp 31)), some (some 28, true)⟩,
  ⟨some 33, (.indexAddr 22 (.tmp 32) (.const (.int .i64 4))), some (some 28, true)⟩,
  ⟨some 34, (.load 5 (.tmp 33)), some (some 28, true)⟩,
  ⟨some 35, (.call { callee := (.value (.func 71)), args := #[(.tmp 34)], argTypes := #[40] }), some (some 28, true)⟩,
  ⟨some 36, (.unOp .not 4 (.tmp 35)), some (some 28, true)⟩,
  ⟨some 37, (.pick (.tmp 28) (.tmp 36) (.const (.bool false))), some (some 21, false)⟩,
  ⟨some 38, (.pick (.tmp 21) (.const (.bool true)) (.tmp 37)), none⟩,
  ⟨some 2, (.assign (.tmp 38)), none⟩]
def x45_2 : X := .ops r45_3 [3] (.ops r45_4 [2] .ret)
def x45_0 : X := .ops r45_0 [] (.ops r45_1 [9] (.cond (.tmp 9) x45_1 .skip x45_2))
def n45 : Ann := .ops [] (.ops [9] (.cond (.ops [2] .stop) .stop (.ops [3] (.ops [2] .stop))))
theorem ok45 : annFn Try.f45 1 n45 = some x45_0 := by kernel_rfl
noncomputable def kF45 (K : V → H → Prop) : XQ := kFnX C.P Try.f45.results.toList K
theorem e45_nx {K : V → H → Prop} {e : E} {h : H} : kF45 K .nx e h = K (E.get e 2) h := nrfl (by kernel_rfl)
theorem e45_rt {K : V → H → Prop} {e : E} {h : H} : kF45 K .rt e h = K (E.get e 2) h := nrfl (by kernel_rfl)
theorem enter45 {lo : Nat} {h : H} {vs : List V} {K : V → H → Prop} (hl : vs.length = 1) (hw : XW C lo x45_0 (kF45 K) (args 0 vs) h) : CW C 45 vs lo h K := by
  refine CW_X hS rfl Try.func45 ok45 hl ?_ hw
  rw [Try.ntmps45]
  decide
theorem q45_1 {lo : Nat} {Q : XQ} {e : E} {h : H} : XW C lo x45_1 Q e h =
    Q .rt ((2, .bool false) :: e) h := nrfl (by kernel_rfl)
theorem q45_2 {lo : Nat} {Q : XQ} {e : E} {h : H} : XW C lo x45_2 Q e h =
    bd (ncV (E.get e 0)) fun t1 =>
    bd (fieldAddrV Try.prog 45 t1 0) fun t2 =>
    bd (loadV Try.prog 22 t2 (H.read h)) fun t3 =>
    CW C 46 [t3] lo h fun t4 h5 =>
    bdB (binV Try.prog .lss 3 t4 (.int .i64 1)) fun b6 =>
    byT b6 (Q .rt ((2, .bool true) :: (3, t4) :: e) h5) (bdB (binV Try.prog .gtr 3 t4 (.int .i64 8192)) fun b7 =>
    byT b7 (Q .rt ((2, .bool true) :: (3, t4) :: e) h5) (bd (ncV (E.get e 0)) fun t8 =>
    bd (fieldAddrV Try.prog 45 t8 0) fun t9 =>
    bd (loadV Try.prog 22 t9 (H.read h5)) fun t10 =>
    bd (lenV Try.prog [22] t10) fun t11 =>
    bdB (binV Try.prog .gtr 3 t11 (.int .i64 4)) fun b12 =>
    byT b12 (bd (ncV (E.get e 0)) fun t13 =>
    bd (fieldAddrV Try.prog 45 t13 0) fun t14 =>
    bd (loadV Try.prog 22 t14 (H.read h5)) fun t15 =>
    bd (addrV Try.prog 22 t15 (.int .i64 4)) fun t16 =>
    bd (loadV Try.prog 5 t16 (H.read h5)) fun t17 =>
    CW C 71 [t17] lo h5 fun t18 h19 =>
    bd (unV .not t18) fun t20 =>
    Q .rt ((2, t20) :: (3, t4) :: e) h19) (Q .rt ((2, .bool false) :: (3, t4) :: e) h5))) := nrfl (by kernel_rfl)
theorem q45_0 {lo : Nat} {Q : XQ} {e : E} {h : H} : XW C lo x45_0 Q e h =
    bd (ncV (E.get e 0)) fun t1 =>
    bd (fieldAddrV Try.prog 45 t1 0) fun t2 =>
    bd (loadV Try.prog 22 t2 (H.read h)) fun t3 =>
    bd (lenV Try.prog [22] t3) fun t4 =>
    bdB (binV Try.prog .lss 3 t4 (.int .i64 4)) fun b5 =>
    byT b5 (XW C lo x45_1 (kX (XW C lo x45_2 Q) Q) ((9, .bool b5) :: e) h) (XW C lo .skip (kX (XW C lo x45_2 Q) Q) ((9, .bool b5) :: e) h) := nrfl (by kernel_rfl)

/-! ### (*chancery/wire.Reader).Feed -/
def r12_0 : List SI := [⟨some 4, (.assign (.const (.slice none 0 0))), none⟩,
  ⟨some 5, (.assign (.const (.int .i64 0))), none⟩]
def r12_1 : List SI := [⟨some 9, (.move (.tmp 0)), none⟩,
  ⟨some 10, (.call { callee := (.value (.func 44)), args := #[(.tmp 9)], argTypes := #[24] }), none⟩,
  ⟨some 11, (.unOp .not 4 (.tmp 10)), none⟩]
def r12_2 : List SI := [⟨some 4, (.assign (.const (.slice none 0 0))), none⟩,
  ⟨some 5, (.assign (.const (.int .i64 1))), none⟩]
def x12_1 : X := .ops r12_2 [4, 5] .ret
def r12_3 : List SI := [⟨some 12, (.move (.tmp 0)), none⟩,
  ⟨some 13, (.nilCheck (.tmp 12)), none⟩,
  ⟨some 14, (.fieldAddr 45 (.tmp 13) 1), none⟩,
  ⟨some 15, (.load 4 (.tmp 14)), none⟩]
def r12_4 : List SI := [⟨some 4, (.assign (.const (.slice none 0 0))), none⟩,
  ⟨some 5, (.assign (.const (.int .i64 390))), none⟩]
def x12_3 : X := .ops r12_4 [4, 5] .ret
def r12_5 : List SI := [⟨some 16, (.move (.tmp 0)), none⟩,
  ⟨some 17, (.nilCheck (.tmp 16)), none⟩,
  ⟨some 18, (.fieldAddr 45 (.tmp 17) 0), none⟩,
  ⟨some 19, (.load 22 (.tmp 18)), none⟩,
  ⟨some 20, (.call { callee := (.builtin .len), args := #[(.tmp 19)], argTypes := #[22] }), none⟩,
  ⟨some 21, (.move (.tmp 1)), none⟩,
  ⟨some 22, (.call { callee := (.builtin .len), args := #[(.tmp 21)], argTypes := #[22] }), none⟩,
  ⟨some 23, (.binOp .add 3 (.tmp 20) (.tmp 22) 3), none⟩,
  ⟨some 24, (.makeSlice 22 (.tmp 23) (.tmp 23)), none⟩,
  ⟨some 6, (.assign (.tmp 24)), none⟩]
def r12_6 : List SI := [⟨some 25, (.move (.tmp 6)), none⟩,
  ⟨some 26, (.move (.tmp 6)), none⟩,
  ⟨some 27, (.move (.tmp 0)), none⟩,
  ⟨some 28, (.nilCheck (.tmp 27)), none⟩,
  ⟨some 29, (.fieldAddr 45 (.tmp 28) 0), none⟩,
  ⟨some 30, (.load 22 (.tmp 29)), none⟩,
  ⟨some 31, (.call { callee := (.builtin .copy), args := #[(.tmp 26), (.tmp 30)], argTypes := #[22, 22] }), none⟩,
  ⟨some 32, (.slice 22 (.tmp 25) (some (.tmp 31)) none none), none⟩,
  ⟨some 33, (.move (.tmp 1)), none⟩,
  ⟨some 34, (.call { callee := (.builtin .copy), args := #[(.tmp 32), (.tmp 33)], argTypes := #[22, 22] }), none⟩]
def r12_7 : List SI := [⟨some 35, (.move (.tmp 0)), none⟩,
  ⟨some 36, (.move (.tmp 6)), none⟩,
  ⟨some 37, (.nilCheck (.tmp 35)), none⟩,
  ⟨some 38, (.fieldAddr 45 (.tmp 37) 0), none⟩,
  ⟨none, (.store 22 (.tmp 38) (.tmp 36)), none⟩]
def r12_8 : List SI := [⟨some 7, (.assign (.const (.slice none 0 0))), none⟩]
def r12_9 : List SI := [⟨some 39, (.move (.tmp 0)), none⟩,
  ⟨some 40, (.call { callee := (.value (.func 45)), args := #[(.tmp 39)], argTypes := #[24] }), none⟩]
def r12_10 : List SI := [⟨some 41, (.move (.tmp 0)), none⟩,
  ⟨some 42, (.move (.tmp 0)), none⟩,
  ⟨some 43, (.nilCheck (.tmp 41)), none⟩,
  ⟨some 44, (.fieldAddr 45 (.tmp 43) 0), none⟩,
  ⟨none, (.store 22 (.tmp 44) (.const (.slice none 0 0))), none⟩,
  ⟨some 45, (.nilCheck (.tmp 42)), none⟩,
  ⟨some 46, (.fieldAddr 45 (.tmp 45) 1), none⟩,
  ⟨none, (.store 4 (.tmp 46) (.const (.bool true))), none⟩]
def r12_11 : List SI := [⟨some 47, (.move (.tmp 7)), none⟩,
  ⟨some 4, (.assign (.tmp 47)), none⟩,
  ⟨some 5, (.assign (.const (.int .i64 390))), none⟩]
def x12_8 : X := .ops r12_10 [] (.ops r12_11 [4, 5] .ret)
def r12_12a : List SI := [⟨some 48, (.move (.tmp 0)), none⟩,
  ⟨some 49, (.nilCheck (.tmp 48)), none⟩,
  ⟨some 50, (.fieldAddr 45 (.tmp 49) 0), none⟩,
  ⟨some 51, (.load 22 (.tmp 50)), none⟩,
  ⟨some 52, (.call { callee := (.builtin .len), args := #[(.tmp 51)], argTypes := #[22] }), none⟩,
  ⟨some 53, (.binOp .lss 3 (.tmp 52) (.const (.int .i64 4)) 3), none⟩,
  ⟨some 54, (.move (.tmp 53)), none⟩,
  ⟨some 55, (.move (.tmp 0)), some (some 54, false)⟩,
  ⟨some 56, (.nilCheck (.tmp 55)), some (some 54, false)⟩,
  ⟨some 57, (.fieldAddr 45 (.tmp 56) 0), some (some 54, false)⟩,
  ⟨some 58, (.load 22 (.tmp 57)), some (some 54, false)⟩,
  ⟨some 59, (.call { callee := (.builtin .len), args := #[(.tmp 58)], argTypes := #[22] }), some (some 54, false)⟩,
  ⟨some 60, (.move (.tmp 0)), some (some 54, false)⟩,
  ⟨some 61, (.nilCheck (.tmp 60)), some (some 54, false)⟩,
  ⟨some 62, (.fieldAddr 45 (.tmp 61) 0), some (some 54, false)⟩,
  ⟨some 63, (.load 22 (.tmp 62)), some (some 54, false)⟩,
  ⟨some 64, (.call { callee := (.value (.func 46)), args := #[(.tmp 63)], argTypes := #[22] }), some (some 54, false)⟩,
  ⟨some 65, (.binOp .add 3 (.const (.int .i64 4)) (.tmp 64) 3), some (some 54, false)⟩]
def r12_12b : List SI := [⟨some 66, (.binOp .lss 3 (.tmp 59) (.tmp 65) 3), some (some 54, false)⟩,
  ⟨some 67, (.pick (.tmp 54) (.const (.bool true)) (.tmp 66)), none⟩]
def r12_13 : List SI := [⟨some 68, (.move (.tmp 7)), none⟩,
  ⟨some 4, (.assign (.tmp 68)), none⟩,
  ⟨some 5, (.assign (.const (.int .i64 0))), none⟩]
def x12_11 : X := .ops r12_13 [4, 5] .ret
def r12_14 : List SI := [⟨some 69, (.move (.tmp 0)), none⟩,
  ⟨some 70, (.nilCheck (.tmp 69)), none⟩,
  ⟨some 71, (.fieldAddr 45 (.tmp 70) 0), none⟩,
  ⟨some 72, (.load 22 (.tmp 71)), none⟩,
  ⟨some 73, (.call { callee := (.value (.func 46)), args := #[(.tmp 72)], argTypes := #[22] }), none⟩,
  ⟨some 74, (.binOp .add 3 (.const (.int .i64 4)) (.tmp 73) 3), none⟩,
  ⟨some 8, (.assign (.tmp 74)), none⟩]
def r12_15a : List SI := [⟨some 75, (.move (.tmp 7)), none⟩,
  ⟨some 76, (.move (.tmp 0)), none⟩,
  ⟨some 77, (.nilCheck (.tmp 76)), none⟩,
  ⟨some 78, (.fieldAddr 45 (.tmp 77) 0), none⟩,
  ⟨some 79, (.load 22 (.tmp 78)), none⟩,
  ⟨some 80, (.indexAddr 22 (.tmp 79) (.const (.int .i64 4))), none⟩,
  ⟨some 81, (.load 5 (.tmp 80)), none⟩,
  ⟨some 82, (.move (.tmp 0)), none⟩,
  ⟨some 83, (.nilCheck (.tmp 82)), none⟩,
  ⟨some 84, (.fieldAddr 45 (.tmp 83) 0), none⟩,
  ⟨some 85, (.load 22 (.tmp 84)), none⟩,
  ⟨some 86, (.move (.tmp 8)), none⟩,
  ⟨some 87, (.slice 22 (.tmp 85) (some (.const (.int .i64 5))) (some (.tmp 86)) none), none⟩,
  ⟨some 88, (.call { callee := (.value (.func 47)), args := #[(.tmp 87)], argTypes := #[22] }), none⟩,
  ⟨some 89, (.build 42 #[(0, (.tmp 81)), (1, (.tmp 88))]), none⟩,
  ⟨some 90, (.buildSlice 26 1 #[(0, (.tmp 89))]), none⟩]
def r12_15b : List SI := [⟨some 91, (.call { callee := (.builtin .append), args := #[(.tmp 75), (.tmp 90)], argTypes := #[26, 26] }), none⟩,
  ⟨some 7, (.assign (.tmp 91)), none⟩]
def r12_16 : List SI := [⟨some 92, (.move (.tmp 0)), none⟩,
  ⟨some 93, (.move (.tmp 0)), none⟩,
  ⟨some 94, (.nilCheck (.tmp 93)), none⟩,
  ⟨some 95, (.fieldAddr 45 (.tmp 94) 0), none⟩,
  ⟨some 96, (.load 22 (.tmp 95)), none⟩,
  ⟨some 97, (.move (.tmp 8)), none⟩,
  ⟨some 98, (.slice 22 (.tmp 96) (some (.tmp 97)) none none), none⟩,
  ⟨some 99, (.nilCheck (.tmp 92)), none⟩,
  ⟨some 100, (.fieldAddr 45 (.tmp 99) 0), none⟩,
  ⟨none, (.store 22 (.tmp 100) (.tmp 98)), none⟩]
def x12_12 : X := .ops r12_14 [8] (.front false r12_15a r12_15b [7] (.ops r12_16 [] .skip))
def x12_10 : X := .cond (.tmp 67) x12_11 .skip x12_12
def x12_9 : X := .front false r12_12a r12_12b [67] x12_10
def x12_7 : X := .ops r12_9 [40] (.cond (.tmp 40) x12_8 .skip x12_9)
def x12_13 : X := .trim [0, 7] .skip
def x12_6 : X := .block 1 x12_7 x12_13
def x12_5 : X := .loop [0, 7] x12_6
def x12_14 : X := .trim [4, 5] .skip
def x12_4 : X := .ops r12_5 [6] (.ops r12_6 [] (.ops r12_7 [] (.ops r12_8 [7] (.block 0 x12_5 x12_14))))
def x12_2 : X := .ops r12_3 [15] (.cond (.tmp 15) x12_3 .skip x12_4)
def x12_0 : X := .ops r12_0 [] (.ops r12_1 [11] (.cond (.tmp 11) x12_1 .skip x12_2))
def n12 : Ann := .ops [] (.ops [11] (.cond (.ops [4, 5] .stop) .stop (.ops [15] (.cond (.ops [4, 5] .stop) .stop (.ops [6] (.ops [] (.ops [] (.ops [7] (.block [4, 5] (.loop [0, 7] (.block [0, 7] (.ops [40] (.cond (.ops [] (.ops [4, 5] .stop)) .stop (.ops [67] (.cond (.ops [4, 5] .stop) .stop (.ops [8] (.ops [7] (.ops [] .stop))))))) (.trim [0, 7] .stop))) (.trim [4, 5] .stop))))))))))
theorem ok12 : annFn Try.f12 2 n12 = some x12_0 := by kernel_rfl
noncomputable def kF12 (K : V → H → Prop) : XQ := kFnX C.P Try.f12.results.toList K
theorem e12_nx {K : V → H → Prop} {e : E} {h : H} : kF12 K .nx e h = K (.tup [E.get e 4, E.get e 5]) h := nrfl (by kernel_rfl)
theorem e12_rt {K : V → H → Prop} {e : E} {h : H} : kF12 K .rt e h = K (.tup [E.get e 4, E.get e 5]) h := nrfl (by kernel_rfl)
theorem enter12 {lo : Nat} {h : H} {vs : List V} {K : V → H → Prop} (hl : vs.length = 2) (hw : XW C lo x12_0 (kF12 K) (args 0 vs) h) : CW C 12 vs lo h K := by
  refine CW_X hS rfl Try.func12 ok12 hl ?_ hw
  rw [Try.ntmps12]
  decide
theorem q12_1 {lo : Nat} {Q : XQ} {e : E} {h : H} : XW C lo x12_1 Q e h =
    Q .rt ((4, .nils) :: (5, .int .i64 1) :: e) h := nrfl (by kernel_rfl)
theorem q12_3 {lo : Nat} {Q : XQ} {e : E} {h : H} : XW C lo x12_3 Q e h =
    Q .rt ((4, .nils) :: (5, .int .i64 390) :: e) h := nrfl (by kernel_rfl)
theorem q12_8 {lo : Nat} {Q : XQ} {e : E} {h : H} : XW C lo x12_8 Q e h =
    bd (ncV (E.get e 0)) fun t1 =>
    bd (fieldAddrV Try.prog 45 t1 0) fun t2 =>
    bd (storeV Try.prog lo 22 t2 .nils h) fun h3 =>
    bd (ncV (E.get e 0)) fun t4 =>
    bd (fieldAddrV Try.prog 45 t4 1) fun t5 =>
    bd (storeV Try.prog lo 4 t5 (.bool true) h3) fun h6 =>
    Q .rt ((4, E.get e 7) :: (5, .int .i64 390) :: e) h6 := nrfl (by kernel_rfl)
theorem q12_11 {lo : Nat} {Q : XQ} {e : E} {h : H} : XW C lo x12_11 Q e h =
    Q .rt ((4, E.get e 7) :: (5, .int .i64 0) :: e) h := nrfl (by kernel_rfl)
theorem q12_12 {lo : Nat} {Q : XQ} {e : E} {h : H} : XW C lo x12_12 Q e h =
    bd (ncV (E.get e 0)) fun t1 =>
    bd (fieldAddrV Try.prog 45 t1 0) fun t2 =>
    bd (loadV Try.prog 22 t2 (H.read h)) fun t3 =>
    CW C 46 [t3] lo h fun t4 h5 =>
    bd (binV Try.prog .add 3 (.int .i64 4) t4) fun t6 =>
    bd (ncV (E.get e 0)) fun t7 =>
    bd (fieldAddrV Try.prog 45 t7 0) fun t8 =>
    bd (loadV Try.prog 22 t8 (H.read h5)) fun t9 =>
    bd (addrV Try.prog 22 t9 (.int .i64 4)) fun t10 =>
    bd (loadV Try.prog 5 t10 (H.read h5)) fun t11 =>
    bd (ncV (E.get e 0)) fun t12 =>
    bd (fieldAddrV Try.prog 45 t12 0) fun t13 =>
    bd (loadV Try.prog 22 t13 (H.read h5)) fun t14 =>
    bd (sliceV Try.prog (H.read h5) 22 t14 (some (.int .i64 5)) (some t6) none) fun t15 =>
    CW C 47 [t15] (H.next h5) h5 fun t16 h17 =>
    bd (buildV Try.prog 42 [(0, t11), (1, t16)]) fun t18 =>
    bd (buildSliceV Try.prog 26 1 [(0, t18)]) fun r19 => KX h17 (fun t20 h21 =>
    bd2 (appendV Try.prog lo [26, 26] (E.get e 7) t20 h21) fun t22 h23 =>
    bd (ncV (E.get e 0)) fun t24 =>
    bd (fieldAddrV Try.prog 45 t24 0) fun t25 =>
    bd (loadV Try.prog 22 t25 (H.read h23)) fun t26 =>
    bd (sliceV Try.prog (H.read h23) 22 t26 (some t6) none none) fun t27 =>
    bd (ncV (E.get e 0)) fun t28 =>
    bd (fieldAddrV Try.prog 45 t28 0) fun t29 =>
    bd (storeV Try.prog lo 22 t29 t27 h23) fun h30 =>
    Q .nx ((7, t22) :: (8, t6) :: e) h30) r19 := nrfl (by kernel_rfl)
theorem q12_10 {lo : Nat} {Q : XQ} {e : E} {h : H} : XW C lo x12_10 Q e h =
    byV (E.get e 67) (XW C lo x12_11 (kX (XW C lo x12_12 Q) Q) e h) (XW C lo .skip (kX (XW C lo x12_12 Q) Q) e h) False := nrfl (by kernel_rfl)
theorem q12_9 {lo : Nat} {Q : XQ} {e : E} {h : H} : XW C lo x12_9 Q e h =
    bd (ncV (E.get e 0)) fun t1 =>
    bd (fieldAddrV Try.prog 45 t1 0) fun t2 =>
    bd (loadV Try.prog 22 t2 (H.read h)) fun t3 =>
    bd (lenV Try.prog [22] t3) fun t4 =>
    bdB (binV Try.prog .lss 3 t4 (.int .i64 4)) fun b5 =>
    byT b5 (XW C lo x12_11 (kX (XW C lo x12_12 Q) Q) ((67, .bool true) :: e) h) (bd (ncV (E.get e 0)) fun t6 =>
    bd (fieldAddrV Try.prog 45 t6 0) fun t7 =>
    bd (loadV Try.prog 22 t7 (H.read h)) fun t8 =>
    bd (lenV Try.prog [22] t8) fun t9 =>
    bd (ncV (E.get e 0)) fun t10 =>
    bd (fieldAddrV Try.prog 45 t10 0) fun t11 =>
    bd (loadV Try.prog 22 t11 (H.read h)) fun t12 =>
    CW C 46 [t12] (H.next h) h fun t13 h14 =>
    bd (binV Try.prog .add 3 (.int .i64 4) t13) fun t15 =>
    bdB (binV Try.prog .lss 3 t9 t15) fun b16 =>
    byT b16 (XW C lo x12_11 (kX (XW C lo x12_12 Q) Q) ((67, .bool b16) :: e) h14) (XW C lo .skip (kX (XW C lo x12_12 Q) Q) ((67, .bool b16) :: e) h14)) := nrfl (by kernel_rfl)
theorem q12_7 {lo : Nat} {Q : XQ} {e : E} {h : H} : XW C lo x12_7 Q e h =
    CW C 45 [E.get e 0] lo h fun t1 h2 =>
    byV t1 (XW C lo x12_8 (kX (XW C lo x12_9 Q) Q) ((40, t1) :: e) h2) (XW C lo .skip (kX (XW C lo x12_9 Q) Q) ((40, t1) :: e) h2) False := nrfl (by kernel_rfl)
theorem q12_13 {lo : Nat} {Q : XQ} {e : E} {h : H} : XW C lo x12_13 Q e h =
    Q .nx [(0, E.get e 0), (7, E.get e 7)] h := nrfl (by kernel_rfl)
theorem q12_6 {lo : Nat} {Q : XQ} {e : E} {h : H} : XW C lo x12_6 Q e h =
    XW C lo x12_7 (kXB 1 (XW C lo x12_13 Q) Q) e h := nrfl (by kernel_rfl)
theorem q12_5 {lo : Nat} {Q : XQ} {e : E} {h : H} : XW C lo x12_5 Q e h =
    ∃ n, loopX [0, 7] (XW C lo x12_6) Q n e h := nrfl (by kernel_rfl)
theorem q12_14 {lo : Nat} {Q : XQ} {e : E} {h : H} : XW C lo x12_14 Q e h =
    Q .nx [(4, E.get e 4), (5, E.get e 5)] h := nrfl (by kernel_rfl)
theorem q12_4 {lo : Nat} {Q : XQ} {e : E} {h : H} : XW C lo x12_4 Q e h =
    bd (ncV (E.get e 0)) fun t1 =>
    bd (fieldAddrV Try.prog 45 t1 0) fun t2 =>
    bd (loadV Try.prog 22 t2 (H.read h)) fun t3 =>
    bd (lenV Try.prog [22] t3) fun t4 =>
    bd (lenV Try.prog [22] (E.get e 1)) fun t5 =>
    bd (binV Try.prog .add 3 t4 t5) fun t6 =>
    bd (makeSliceV Try.prog 22 t6 t6) fun r7 => KX h (fun t8 h9 =>
    bd (ncV (E.get e 0)) fun t10 =>
    bd (fieldAddrV Try.prog 45 t10 0) fun t11 =>
    bd (loadV Try.prog 22 t11 (H.read h9)) fun t12 =>
    bd2 (copyV Try.prog lo [22, 22] t8 t12 h9) fun t13 h14 =>
    bd (sliceV Try.prog (H.read h14) 22 t8 (some t13) none none) fun t15 =>
    bd2 (copyV Try.prog lo [22, 22] t15 (E.get e 1) h14) fun t16 h17 =>
    bd (ncV (E.get e 0)) fun t18 =>
    bd (fieldAddrV Try.prog 45 t18 0) fun t19 =>
    bd (storeV Try.prog lo 22 t19 t8 h17) fun h20 =>
    XW C lo x12_5 (kXB 0 (XW C lo x12_14 Q) Q) ((7, .nils) :: (6, t8) :: e) h20) r7 := nrfl (by kernel_rfl)
theorem q12_2 {lo : Nat} {Q : XQ} {e : E} {h : H} : XW C lo x12_2 Q e h =
    bd (ncV (E.get e 0)) fun t1 =>
    bd (fieldAddrV Try.prog 45 t1 1) fun t2 =>
    bd (loadV Try.prog 4 t2 (H.read h)) fun t3 =>
    byV t3 (XW C lo x12_3 (kX (XW C lo x12_4 Q) Q) ((15, t3) :: e) h) (XW C lo .skip (kX (XW C lo x12_4 Q) Q) ((15, t3) :: e) h) False := nrfl (by kernel_rfl)
theorem q12_0 {lo : Nat} {Q : XQ} {e : E} {h : H} : XW C lo x12_0 Q e h =
    CW C 44 [E.get e 0] lo h fun t1 h2 =>
    bd (unV .not t1) fun t3 =>
    byV t3 (XW C lo x12_1 (kX (XW C lo x12_2 Q) Q) ((11, t3) :: e) h2) (XW C lo .skip (kX (XW C lo x12_2 Q) Q) ((11, t3) :: e) h2) False := nrfl (by kernel_rfl)

/-! ### (*chancery/wire.Reader).Left -/
def r17_0 : List SI := [⟨some 2, (.assign (.const (.int .i64 0))), none⟩]
def r17_1 : List SI := [⟨some 3, (.move (.tmp 0)), none⟩,
  ⟨some 4, (.call { callee := (.value (.func 44)), args := #[(.tmp 3)], argTypes := #[24] }), none⟩,
  ⟨some 5, (.unOp .not 4 (.tmp 4)), none⟩]
def r17_2 : List SI := [⟨some 2, (.assign (.const (.int .i64 0))), none⟩]
def x17_1 : X := .ops r17_2 [2] .ret
def r17_3 : List SI := [⟨some 6, (.move (.tmp 0)), none⟩,
  ⟨some 7, (.nilCheck (.tmp 6)), none⟩,
  ⟨some 8, (.fieldAddr 45 (.tmp 7) 0), none⟩,
  ⟨some 9, (.load 22 (.tmp 8)), none⟩,
  ⟨some 10, (.call { callee := (.builtin .len), args := #[(.tmp 9)], argTypes := #[22] }), none⟩,
  ⟨some 2, (.assign (.tmp 10)), none⟩]
def x17_2 : X := .ops r17_3 [2] .ret
def x17_0 : X := .ops r17_0 [] (.ops r17_1 [5] (.cond (.tmp 5) x17_1 .skip x17_2))
def n17 : Ann := .ops [] (.ops [5] (.cond (.ops [2] .stop) .stop (.ops [2] .stop)))
theorem ok17 : annFn Try.f17 1 n17 = some x17_0 := by kernel_rfl
noncomputable def kF17 (K : V → H → Prop) : XQ := kFnX C.P Try.f17.results.toList K
theorem e17_nx {K : V → H → Prop} {e : E} {h : H} : kF17 K .nx e h = K (E.get e 2) h := nrfl (by kernel_rfl)
theorem e17_rt {K : V → H → Prop} {e : E} {h : H} : kF17 K .rt e h = K (E.get e 2) h := nrfl (by kernel_rfl)
theorem enter17 {lo : Nat} {h : H} {vs : List V} {K : V → H → Prop} (hl : vs.length = 1) (hw : XW C lo x17_0 (kF17 K) (args 0 vs) h) : CW C 17 vs lo h K := by
  refine CW_X hS rfl Try.func17 ok17 hl ?_ hw
  rw [Try.ntmps17]
  decide
theorem q17_1 {lo : Nat} {Q : XQ} {e : E} {h : H} : XW C lo x17_1 Q e h =
    Q .rt ((2, .int .i64 0) :: e) h := nrfl (by kernel_rfl)
theorem q17_2 {lo : Nat} {Q : XQ} {e : E} {h : H} : XW C lo x17_2 Q e h =
    bd (ncV (E.get e 0)) fun t1 =>
    bd (fieldAddrV Try.prog 45 t1 0) fun t2 =>
    bd (loadV Try.prog 22 t2 (H.read h)) fun t3 =>
    bd (lenV Try.prog [22] t3) fun t4 =>
    Q .rt ((2, t4) :: e) h := nrfl (by kernel_rfl)
theorem q17_0 {lo : Nat} {Q : XQ} {e : E} {h : H} : XW C lo x17_0 Q e h =
    CW C 44 [E.get e 0] lo h fun t1 h2 =>
    bd (unV .not t1) fun t3 =>
    byV t3 (XW C lo x17_1 (kX (XW C lo x17_2 Q) Q) ((5, t3) :: e) h2) (XW C lo .skip (kX (XW C lo x17_2 Q) Q) ((5, t3) :: e) h2) False := nrfl (by kernel_rfl)

/-! ### chancery/wire.kind -/
def r71_0 : List SI := [⟨some 2, (.assign (.const (.bool false))), none⟩]
def r71_1 : List SI := [⟨some 3, (.move (.tmp 0)), none⟩,
  ⟨some 4, (.binOp .geq 40 (.tmp 3) (.const (.int .u8 1)) 40), none⟩,
  ⟨some 5, (.move (.tmp 4)), none⟩,
  ⟨some 6, (.move (.tmp 0)), some (some 5, true)⟩,
  ⟨some 7, (.binOp .leq 40 (.tmp 6) (.const (.int .u8 9)) 40), some (some 5, true)⟩,
  ⟨some 8, (.pick (.tmp 5) (.tmp 7) (.const (.bool false))), none⟩,
  ⟨some 2, (.assign (.tmp 8)), none⟩]
def x71_0 : X := .ops r71_0 [] (.ops r71_1 [2] .ret)
def n71 : Ann := .ops [] (.ops [2] .stop)
theorem ok71 : annFn Try.f71 1 n71 = some x71_0 := by kernel_rfl
noncomputable def kF71 (K : V → H → Prop) : XQ := kFnX C.P Try.f71.results.toList K
theorem e71_nx {K : V → H → Prop} {e : E} {h : H} : kF71 K .nx e h = K (E.get e 2) h := nrfl (by kernel_rfl)
theorem e71_rt {K : V → H → Prop} {e : E} {h : H} : kF71 K .rt e h = K (E.get e 2) h := nrfl (by kernel_rfl)
theorem enter71 {lo : Nat} {h : H} {vs : List V} {K : V → H → Prop} (hl : vs.length = 1) (hw : XW C lo x71_0 (kF71 K) (args 0 vs) h) : CW C 71 vs lo h K := by
  refine CW_X hS rfl Try.func71 ok71 hl ?_ hw
  rw [Try.ntmps71]
  decide
theorem q71_0 {lo : Nat} {Q : XQ} {e : E} {h : H} : XW C lo x71_0 Q e h =
    bdB (binV Try.prog .geq 40 (E.get e 0) (.int .u8 1)) fun b1 =>
    byT b1 (bdB (binV Try.prog .leq 40 (E.get e 0) (.int .u8 9)) fun b2 =>
    Q .rt ((2, .bool b2) :: e) h) (Q .rt ((2, .bool false) :: e) h) := nrfl (by kernel_rfl)

/-! ### slices.Clone[[]byte,byte] -/
def r47_0 : List SI := [⟨some 2, (.assign (.const (.slice none 0 0))), none⟩]
def r47_1 : List SI := [⟨some 3, (.move (.tmp 0)), none⟩,
  ⟨some 4, (.binOp .eql 22 (.tmp 3) (.const (.slice none 0 0)) 22), none⟩]
def r47_2 : List SI := [⟨some 2, (.assign (.const (.slice none 0 0))), none⟩]
def x47_1 : X := .ops r47_2 [2] .ret
def r47_3 : List SI := [⟨some 5, (.buildSlice 22 0 #[]), none⟩,
  ⟨some 6, (.move (.tmp 0)), none⟩,
  ⟨some 7, (.call { callee := (.builtin .append), args := #[(.tmp 5), (.tmp 6)], argTypes := #[22, 22] }), none⟩,
  ⟨some 2, (.assign (.tmp 7)), none⟩]
def x47_2 : X := .ops r47_3 [2] .ret
def x47_0 : X := .ops r47_0 [] (.ops r47_1 [4] (.cond (.tmp 4) x47_1 .skip x47_2))
def n47 : Ann := .ops [] (.ops [4] (.cond (.ops [2] .stop) .stop (.ops [2] .stop)))
theorem ok47 : annFn Try.f47 1 n47 = some x47_0 := by kernel_rfl
noncomputable def kF47 (K : V → H → Prop) : XQ := kFnX C.P Try.f47.results.toList K
theorem e47_nx {K : V → H → Prop} {e : E} {h : H} : kF47 K .nx e h = K (E.get e 2) h := nrfl (by kernel_rfl)
theorem e47_rt {K : V → H → Prop} {e : E} {h : H} : kF47 K .rt e h = K (E.get e 2) h := nrfl (by kernel_rfl)
theorem enter47 {lo : Nat} {h : H} {vs : List V} {K : V → H → Prop} (hl : vs.length = 1) (hw : XW C lo x47_0 (kF47 K) (args 0 vs) h) : CW C 47 vs lo h K := by
  refine CW_X hS rfl Try.func47 ok47 hl ?_ hw
  rw [Try.ntmps47]
  decide
theorem q47_1 {lo : Nat} {Q : XQ} {e : E} {h : H} : XW C lo x47_1 Q e h =
    Q .rt ((2, .nils) :: e) h := nrfl (by kernel_rfl)
theorem q47_2 {lo : Nat} {Q : XQ} {e : E} {h : H} : XW C lo x47_2 Q e h =
    bd (buildSliceV Try.prog 22 0 []) fun r1 => KX h (fun t2 h3 =>
    bd2 (appendV Try.prog lo [22, 22] t2 (E.get e 0) h3) fun t4 h5 =>
    Q .rt ((2, t4) :: e) h5) r1 := nrfl (by kernel_rfl)
theorem q47_0 {lo : Nat} {Q : XQ} {e : E} {h : H} : XW C lo x47_0 Q e h =
    bdB (binV Try.prog .eql 22 (E.get e 0) .nils) fun b1 =>
    byT b1 (XW C lo x47_1 (kX (XW C lo x47_2 Q) Q) ((4, .bool b1) :: e) h) (XW C lo .skip (kX (XW C lo x47_2 Q) Q) ((4, .bool b1) :: e) h) := nrfl (by kernel_rfl)

/-! ### chancery/chancerykit.SameFrames -/
def r16_0 : List SI := [⟨some 4, (.assign (.const (.bool false))), none⟩]
def r16_1 : List SI := [⟨some 6, (.move (.tmp 0)), none⟩,
  ⟨some 7, (.call { callee := (.builtin .len), args := #[(.tmp 6)], argTypes := #[26] }), none⟩,
  ⟨some 8, (.move (.tmp 1)), none⟩,
  ⟨some 9, (.call { callee := (.builtin .len), args := #[(.tmp 8)], argTypes := #[26] }), none⟩,
  ⟨some 10, (.binOp .neq 3 (.tmp 7) (.tmp 9) 3), none⟩]
def r16_2 : List SI := [⟨some 4, (.assign (.const (.bool false))), none⟩]
def x16_1 : X := .ops r16_2 [4] .ret
def r16_3 : List SI := [⟨some 5, (.assign (.const (.int .i64 0))), none⟩]
def r16_4 : List SI := [⟨some 11, (.move (.tmp 5)), none⟩,
  ⟨some 12, (.move (.tmp 0)), none⟩,
  ⟨some 13, (.call { callee := (.builtin .len), args := #[(.tmp 12)], argTypes := #[26] }), none⟩,
  ⟨some 14, (.binOp .lss 3 (.tmp 11) (.tmp 13) 3), none⟩]
def r16_6a : List SI := [⟨some 17, (.move (.tmp 0)), none⟩,
  ⟨some 18, (.move (.tmp 5)), none⟩,
  ⟨some 19, (.indexAddr 26 (.tmp 17) (.tmp 18)), none⟩,
  ⟨some 20, (.fieldAddr 42 (.tmp 19) 0), none⟩,
  ⟨some 21, (.load 40 (.tmp 20)), none⟩,
  ⟨some 22, (.move (.tmp 1)), none⟩,
  ⟨some 23, (.move (.tmp 5)), none⟩,
  ⟨some 24, (.indexAddr 26 (.tmp 22) (.tmp 23)), none⟩,
  ⟨some 25, (.fieldAddr 42 (.tmp 24) 0), none⟩,
  ⟨some 26, (.load 40 (.tmp 25)), none⟩,
  ⟨some 27, (.binOp .neq 40 (.tmp 21) (.tmp 26) 40), none⟩,
  ⟨some 28, (.move (.tmp 27)), none⟩,
  ⟨some 29, (.move (.tmp 0)), some (some 28, false)⟩,
  ⟨some 30, (.move (.tmp 5)), some (some 28, false)⟩,
  ⟨some 31, (.indexAddr 26 (.tmp 29) (.tmp 30)), some (some 28, false)⟩,
  ⟨some 32, (.fieldAddr 42 (.tmp 31) 1), some (some 28, false)⟩,
  ⟨some 33, (.load 22 (.tmp 32)), some (some 28, false)⟩,
  ⟨some 34, (.move (.tmp 1)), some (some 28, false)⟩,
  ⟨some 35, (.move (.tmp 5)), some (some 28, false)⟩,
  ⟨some 36, (.indexAddr 26 (.tmp 34) (.tmp 35)), some (some 28, false)⟩,
  ⟨some 37, (.fieldAddr 42 (.tmp 36) 1), some (some 28, false)⟩,
  ⟨some 38, (.load 22 (.tmp 37)), some (some 28, false)⟩]
def r16_6b : List SI := [⟨some 39, (.call { callee := (.value (.func 27)), args := #[(.tmp 33), (.tmp 38)], argTypes := #[22, 22] }), some (some 28, false)⟩,
  ⟨some 40, (.unOp .not 4 (.tmp 39)), some (some 28, false)⟩,
  ⟨some 41, (.pick (.tmp 28) (.const (.bool true)) (.tmp 40)), none⟩]
def r16_7 : List SI := [⟨some 4, (.assign (.const (.bool false))), none⟩]
def x16_8 : X := .ops r16_7 [4] .ret
def x16_7 : X := .cond (.tmp 41) x16_8 .skip .skip
def x16_6 : X := .front false r16_6a r16_6b [41] x16_7
def r16_5 : List SI := [⟨some 15, (.move (.tmp 5)), none⟩,
  ⟨some 16, (.binOp .add 3 (.tmp 15) (.const (.int .i64 1)) 3), none⟩,
  ⟨some 5, (.assign (.tmp 16)), none⟩]
def x16_9 : X := .trim [0, 1, 5] (.ops r16_5 [5] .skip)
def x16_5 : X := .block 1 x16_6 x16_9
def x16_4 : X := .ops r16_4 [14] (.cond (.tmp 14) .skip (.exit 0) x16_5)
def x16_3 : X := .loop [0, 1, 5] x16_4
def r16_8 : List SI := [⟨some 4, (.assign (.const (.bool true))), none⟩]
def x16_10 : X := .trim [] (.ops r16_8 [4] .ret)
def x16_2 : X := .ops r16_3 [5] (.block 0 x16_3 x16_10)
def x16_0 : X := .ops r16_0 [] (.ops r16_1 [10] (.cond (.tmp 10) x16_1 .skip x16_2))
def n16 : Ann := .ops [] (.ops [10] (.cond (.ops [4] .stop) .stop (.ops [5] (.block [] (.loop [0, 1, 5] (.ops [14] (.cond .stop .stop (.block [0, 1, 5] (.ops [41] (.cond (.ops [4] .stop) .stop .stop)) (.trim [0, 1, 5] (.ops [5] .stop)))))) (.trim [] (.ops [4] .stop))))))
theorem ok16 : annFn Try.f16 2 n16 = some x16_0 := by kernel_rfl
noncomputable def kF16 (K : V → H → Prop) : XQ := kFnX C.P Try.f16.results.toList K
theorem e16_nx {K : V → H → Prop} {e : E} {h : H} : kF16 K .nx e h = K (E.get e 4) h := nrfl (by kernel_rfl)
theorem e16_rt {K : V → H → Prop} {e : E} {h : H} : kF16 K .rt e h = K (E.get e 4) h := nrfl (by kernel_rfl)
theorem enter16 {lo : Nat} {h : H} {vs : List V} {K : V → H → Prop} (hl : vs.length = 2) (hw : XW C lo x16_0 (kF16 K) (args 0 vs) h) : CW C 16 vs lo h K := by
  refine CW_X hS rfl Try.func16 ok16 hl ?_ hw
  rw [Try.ntmps16]
  decide
theorem q16_1 {lo : Nat} {Q : XQ} {e : E} {h : H} : XW C lo x16_1 Q e h =
    Q .rt ((4, .bool false) :: e) h := nrfl (by kernel_rfl)
theorem q16_8 {lo : Nat} {Q : XQ} {e : E} {h : H} : XW C lo x16_8 Q e h =
    Q .rt ((4, .bool false) :: e) h := nrfl (by kernel_rfl)
theorem q16_7 {lo : Nat} {Q : XQ} {e : E} {h : H} : XW C lo x16_7 Q e h =
    byV (E.get e 41) (XW C lo x16_8 (kX (XW C lo .skip Q) Q) e h) (XW C lo .skip (kX (XW C lo .skip Q) Q) e h) False := nrfl (by kernel_rfl)
theorem q16_6 {lo : Nat} {Q : XQ} {e : E} {h : H} : XW C lo x16_6 Q e h =
    bd (addrV Try.prog 26 (E.get e 0) (E.get e 5)) fun t1 =>
    bd (fieldAddrV Try.prog 42 t1 0) fun t2 =>
    bd (loadV Try.prog 40 t2 (H.read h)) fun t3 =>
    bd (addrV Try.prog 26 (E.get e 1) (E.get e 5)) fun t4 =>
    bd (fieldAddrV Try.prog 42 t4 0) fun t5 =>
    bd (loadV Try.prog 40 t5 (H.read h)) fun t6 =>
    bdB (binV Try.prog .neq 40 t3 t6) fun b7 =>
    byT b7 (XW C lo x16_8 (kX (XW C lo .skip Q) Q) ((41, .bool true) :: e) h) (bd (addrV Try.prog 26 (E.get e 0) (E.get e 5)) fun t8 =>
    bd (fieldAddrV Try.prog 42 t8 1) fun t9 =>
    bd (loadV Try.prog 22 t9 (H.read h)) fun t10 =>
    bd (addrV Try.prog 26 (E.get e 1) (E.get e 5)) fun t11 =>
    bd (fieldAddrV Try.prog 42 t11 1) fun t12 =>
    bd (loadV Try.prog 22 t12 (H.read h)) fun t13 =>
    CW C 27 [t10, t13] lo h fun t14 h15 =>
    bd (unV .not t14) fun t16 =>
    byV t16 (XW C lo x16_8 (kX (XW C lo .skip Q) Q) ((41, t16) :: e) h15) (XW C lo .skip (kX (XW C lo .skip Q) Q) ((41, t16) :: e) h15) False) := nrfl (by kernel_rfl)
theorem q16_9 {lo : Nat} {Q : XQ} {e : E} {h : H} : XW C lo x16_9 Q e h =
    bd (binV Try.prog .add 3 (E.get e 5) (.int .i64 1)) fun t1 =>
    Q .nx [(5, t1), (0, E.get e 0), (1, E.get e 1), (5, E.get e 5)] h := nrfl (by kernel_rfl)
theorem q16_5 {lo : Nat} {Q : XQ} {e : E} {h : H} : XW C lo x16_5 Q e h =
    XW C lo x16_6 (kXB 1 (XW C lo x16_9 Q) Q) e h := nrfl (by kernel_rfl)
theorem q16_4 {lo : Nat} {Q : XQ} {e : E} {h : H} : XW C lo x16_4 Q e h =
    bd (lenV Try.prog [26] (E.get e 0)) fun t1 =>
    bdB (binV Try.prog .lss 3 (E.get e 5) t1) fun b2 =>
    byT b2 (XW C lo .skip (kX (XW C lo x16_5 Q) Q) ((14, .bool b2) :: e) h) (XW C lo (.exit 0) (kX (XW C lo x16_5 Q) Q) ((14, .bool b2) :: e) h) := nrfl (by kernel_rfl)
theorem q16_3 {lo : Nat} {Q : XQ} {e : E} {h : H} : XW C lo x16_3 Q e h =
    ∃ n, loopX [0, 1, 5] (XW C lo x16_4) Q n e h := nrfl (by kernel_rfl)
theorem q16_10 {lo : Nat} {Q : XQ} {e : E} {h : H} : XW C lo x16_10 Q e h =
    Q .rt [(4, .bool true)] h := nrfl (by kernel_rfl)
theorem q16_2 {lo : Nat} {Q : XQ} {e : E} {h : H} : XW C lo x16_2 Q e h =
    XW C lo x16_3 (kXB 0 (XW C lo x16_10 Q) Q) ((5, .int .i64 0) :: e) h := nrfl (by kernel_rfl)
theorem q16_0 {lo : Nat} {Q : XQ} {e : E} {h : H} : XW C lo x16_0 Q e h =
    bd (lenV Try.prog [26] (E.get e 0)) fun t1 =>
    bd (lenV Try.prog [26] (E.get e 1)) fun t2 =>
    bdB (binV Try.prog .neq 3 t1 t2) fun b3 =>
    byT b3 (XW C lo x16_1 (kX (XW C lo x16_2 Q) Q) ((10, .bool b3) :: e) h) (XW C lo .skip (kX (XW C lo x16_2 Q) Q) ((10, .bool b3) :: e) h) := nrfl (by kernel_rfl)

/-! ### chancery/chancerylaw29.WireChunks -/
def r3_0 : List SI := [⟨some 4, (.assign (.const (.bool false))), none⟩]
def r3_1 : List SI := [⟨some 16, (.call { callee := (.value (.func 11)), args := #[], argTypes := #[] }), none⟩,
  ⟨some 17, (.call { callee := (.value (.func 11)), args := #[], argTypes := #[] }), none⟩,
  ⟨some 5, (.assign (.tmp 16)), none⟩,
  ⟨some 6, (.assign (.tmp 17)), none⟩]
def r3_2 : List SI := [⟨some 18, (.move (.tmp 5)), none⟩,
  ⟨some 19, (.binOp .eql 24 (.tmp 18) (.const (.pointer none)) 24), none⟩,
  ⟨some 20, (.move (.tmp 19)), none⟩,
  ⟨some 21, (.move (.tmp 6)), some (some 20, false)⟩,
  ⟨some 22, (.binOp .eql 24 (.tmp 21) (.const (.pointer none)) 24), some (some 20, false)⟩,
  ⟨some 23, (.pick (.tmp 20) (.const (.bool true)) (.tmp 22)), none⟩]
def r3_3 : List SI := [⟨some 4, (.assign (.const (.bool false))), none⟩]
def x3_2 : X := .ops r3_3 [4] .ret
def r3_4 : List SI := [⟨some 25, (.move (.tmp 5)), none⟩,
  ⟨some 26, (.move (.tmp 0)), none⟩,
  ⟨some 27, (.call { callee := (.value (.func 13)), args := #[(.tmp 26)], argTypes := #[22] }), none⟩,
  ⟨some 28, (.call { callee := (.value (.func 12)), args := #[(.tmp 25), (.tmp 27)], argTypes := #[24, 22] }), none⟩,
  ⟨some 24, (.move (.tmp 28)), none⟩,
  ⟨some 29, (.extract (.tmp 24) 0), none⟩,
  ⟨some 30, (.extract (.tmp 24) 1), none⟩,
  ⟨some 7, (.assign (.tmp 29)), none⟩,
  ⟨some 8, (.assign (.tmp 30)), none⟩]
def r3_5 : List SI := [⟨some 9, (.assign (.const (.slice none 0 0))), none⟩]
def r3_6 : List SI := [⟨some 10, (.assign (.const (.int .i64 0))), none⟩]
def r3_7 : List SI := [⟨some 11, (.assign (.const (.int .i64 0))), none⟩]
def r3_8 : List SI := [⟨some 12, (.assign (.const (.int .i64 0))), none⟩]
def r3_9 : List SI := [⟨some 31, (.move (.tmp 12)), none⟩,
  ⟨some 32, (.move (.tmp 1)), none⟩,
  ⟨some 33, (.call { callee := (.builtin .len), args := #[(.tmp 32)], argTypes := #[23] }), none⟩,
  ⟨some 34, (.binOp .leq 3 (.tmp 31) (.tmp 33) 3), none⟩,
  ⟨some 35, (.move (.tmp 34)), none⟩,
  ⟨some 36, (.move (.tmp 12)), some (some 35, true)⟩,
  ⟨some 37, (.binOp .lss 3 (.tmp 36) (.const (.int .i64 300)) 3), some (some 35, true)⟩,
  ⟨some 38, (.pick (.tmp 35) (.tmp 37) (.const (.bool false))), none⟩]
def r3_11 : List SI := [⟨some 41, (.move (.tmp 0)), none⟩,
  ⟨some 42, (.call { callee := (.builtin .len), args := #[(.tmp 41)], argTypes := #[22] }), none⟩,
  ⟨some 13, (.assign (.tmp 42)), none⟩]
def r3_12 : List SI := [⟨some 43, (.move (.tmp 12)), none⟩,
  ⟨some 44, (.move (.tmp 1)), none⟩,
  ⟨some 45, (.call { callee := (.builtin .len), args := #[(.tmp 44)], argTypes := #[23] }), none⟩,
  ⟨some 46, (.binOp .lss 3 (.tmp 43) (.tmp 45) 3), none⟩]
def r3_13 : List SI := [⟨some 47, (.move (.tmp 11)), none⟩,
  ⟨some 48, (.move (.tmp 1)), none⟩,
  ⟨some 49, (.move (.tmp 12)), none⟩,
  ⟨some 50, (.indexAddr 23 (.tmp 48) (.tmp 49)), none⟩,
  ⟨some 51, (.load 3 (.tmp 50)), none⟩,
  ⟨some 52, (.move (.tmp 0)), none⟩,
  ⟨some 53, (.call { callee := (.builtin .len), args := #[(.tmp 52)], argTypes := #[22] }), none⟩,
  ⟨some 54, (.move (.tmp 11)), none⟩,
  ⟨some 55, (.binOp .sub 3 (.tmp 53) (.tmp 54) 3), none⟩,
  ⟨some 56, (.binOp .add 3 (.tmp 55) (.const (.int .i64 1)) 3), none⟩,
  ⟨some 57, (.call { callee := (.value (.func 14)), args := #[(.tmp 51), (.tmp 56)], argTypes := #[3, 3] }), none⟩,
  ⟨some 58, (.binOp .add 3 (.tmp 47) (.tmp 57) 3), none⟩,
  ⟨some 13, (.assign (.tmp 58)), none⟩]
def x3_9 : X := .ops r3_13 [13] .skip
def r3_14 : List SI := [⟨some 60, (.move (.tmp 6)), none⟩,
  ⟨some 61, (.move (.tmp 0)), none⟩,
  ⟨some 62, (.move (.tmp 11)), none⟩,
  ⟨some 63, (.move (.tmp 13)), none⟩,
  ⟨some 64, (.slice 22 (.tmp 61) (some (.tmp 62)) (some (.tmp 63)) none), none⟩,
  ⟨some 65, (.call { callee := (.value (.func 13)), args := #[(.tmp 64)], argTypes := #[22] }), none⟩,
  ⟨some 66, (.call { callee := (.value (.func 12)), args := #[(.tmp 60), (.tmp 65)], argTypes := #[24, 22] }), none⟩,
  ⟨some 59, (.move (.tmp 66)), none⟩,
  ⟨some 67, (.extract (.tmp 59) 0), none⟩,
  ⟨some 68, (.extract (.tmp 59) 1), none⟩,
  ⟨some 14, (.assign (.tmp 67)), none⟩,
  ⟨some 15, (.assign (.tmp 68)), none⟩]
def r3_15 : List SI := [⟨some 69, (.move (.tmp 9)), none⟩,
  ⟨some 70, (.move (.tmp 14)), none⟩,
  ⟨some 71, (.call { callee := (.builtin .append), args := #[(.tmp 69), (.tmp 70)], argTypes := #[26, 26] }), none⟩,
  ⟨some 9, (.assign (.tmp 71)), none⟩]
def r3_16 : List SI := [⟨some 72, (.move (.tmp 15)), none⟩,
  ⟨some 73, (.binOp .neq 27 (.tmp 72) (.const (.int .i64 0)) 27), none⟩]
def r3_17 : List SI := [⟨some 74, (.move (.tmp 15)), none⟩,
  ⟨some 10, (.assign (.tmp 74)), none⟩]
def x3_11 : X := .ops r3_17 [10] .skip
def r3_18 : List SI := [⟨some 75, (.move (.tmp 13)), none⟩,
  ⟨some 11, (.assign (.tmp 75)), none⟩]
def x3_12 : X := .trim [0, 1, 5, 6, 7, 8, 9, 10, 12, 13] (.ops r3_18 [11] .skip)
def x3_10 : X := .trim [0, 1, 5, 6, 7, 8, 9, 10, 11, 12, 13] (.ops r3_14 [14, 15] (.ops r3_15 [9] (.ops r3_16 [73] (.cond (.tmp 73) x3_11 .skip x3_12))))
def x3_8 : X := .ops r3_11 [13] (.ops r3_12 [46] (.cond (.tmp 46) x3_9 .skip x3_10))
def r3_10 : List SI := [⟨some 39, (.move (.tmp 12)), none⟩,
  ⟨some 40, (.binOp .add 3 (.tmp 39) (.const (.int .i64 1)) 3), none⟩,
  ⟨some 12, (.assign (.tmp 40)), none⟩]
def x3_13 : X := .trim [0, 1, 5, 6, 7, 8, 9, 10, 11, 12] (.ops r3_10 [12] .skip)
def x3_7 : X := .block 1 x3_8 x3_13
def x3_6 : X := .cond (.tmp 38) .skip (.exit 0) x3_7
def x3_5 : X := .ops r3_9 [38] x3_6
def x3_4 : X := .loop [0, 1, 5, 6, 7, 8, 9, 10, 11, 12] x3_5
def r3_19 : List SI := [⟨some 76, (.move (.tmp 11)), none⟩,
  ⟨some 77, (.move (.tmp 0)), none⟩,
  ⟨some 78, (.call { callee := (.builtin .len), args := #[(.tmp 77)], argTypes := #[22] }), none⟩,
  ⟨some 79, (.binOp .lss 3 (.tmp 76) (.tmp 78) 3), none⟩]
def r3_20 : List SI := [⟨some 80, (.call { callee := (.value (.func 15)), args := #[], argTypes := #[] }), none⟩,
  ⟨some 4, (.assign (.tmp 80)), none⟩]
def x3_15 : X := .ops r3_20 [4] .ret
def r3_21 : List SI := [⟨some 81, (.move (.tmp 7)), none⟩,
  ⟨some 82, (.move (.tmp 9)), none⟩,
  ⟨some 83, (.call { callee := (.value (.func 16)), args := #[(.tmp 81), (.tmp 82)], argTypes := #[26, 26] }), none⟩,
  ⟨some 84, (.move (.tmp 83)), none⟩,
  ⟨some 85, (.move (.tmp 8)), some (some 84, true)⟩,
  ⟨some 86, (.move (.tmp 10)), some (some 84, true)⟩,
  ⟨some 87, (.binOp .eql 27 (.tmp 85) (.tmp 86) 27), some (some 84, true)⟩,
  ⟨some 88, (.pick (.tmp 84) (.tmp 87) (.const (.bool false))), none⟩,
  ⟨some 89, (.move (.tmp 88)), none⟩,
  ⟨some 90, (.move (.tmp 5)), some (some 89, true)⟩,
  ⟨some 91, (.call { callee := (.value (.func 17)), args := #[(.tmp 90)], argTypes := #[24] }), some (some 89, true)⟩,
  ⟨some 92, (.move (.tmp 6)), some (some 89, true)⟩,
  ⟨some 93, (.call { callee := (.value (.func 17)), args := #[(.tmp 92)], argTypes := #[24] }), some (some 89, true)⟩,
  ⟨some 94, (.binOp .eql 3 (.tmp 91) (.tmp 93) 3), some (some 89, true)⟩,
  ⟨some 95, (.pick (.tmp 89) (.tmp 94) (.const (.bool false))), none⟩,
  ⟨some 96, (.move (.tmp 95)), none⟩,
  ⟨some 97, (.call { callee := (.value (.func 15)), args := #[], argTypes := #[] }), some (some 96, true)⟩,
  ⟨some 98, (.pick (.tmp 96) (.tmp 97) (.const (.bool false))), none⟩,
  ⟨some 4, (.assign (.tmp 98)), none⟩]
def x3_16 : X := .ops r3_21 [4] .ret
def x3_14 : X := .trim [0, 5, 6, 7, 8, 9, 10, 11] (.ops r3_19 [79] (.cond (.tmp 79) x3_15 .skip x3_16))
def x3_3 : X := .ops r3_4 [7, 8] (.ops r3_5 [9] (.ops r3_6 [10] (.ops r3_7 [11] (.ops r3_8 [12] (.block 0 x3_4 x3_14)))))
def x3_1 : X := .cond (.tmp 23) x3_2 .skip x3_3
def x3_0 : X := .ops r3_0 [] (.ops r3_1 [5, 6] (.ops r3_2 [23] x3_1))
def n3 : Ann := .ops [] (.ops [5, 6] (.ops [23] (.cond (.ops [4] .stop) .stop (.ops [7, 8] (.ops [9] (.ops [10] (.ops [11] (.ops [12] (.block [0, 5, 6, 7, 8, 9, 10, 11] (.loop [0, 1, 5, 6, 7, 8, 9, 10, 11, 12] (.ops [38] (.cond .stop .stop (.block [0, 1, 5, 6, 7, 8, 9, 10, 11, 12] (.ops [13] (.ops [46] (.cond (.ops [13] .stop) .stop (.trim [0, 1, 5, 6, 7, 8, 9, 10, 11, 12, 13] (.ops [14, 15] (.ops [9] (.ops [73] (.cond (.ops [10] .stop) .stop (.trim [0, 1, 5, 6, 7, 8, 9, 10, 12, 13] (.ops [11] .stop)))))))))) (.trim [0, 1, 5, 6, 7, 8, 9, 10, 11, 12] (.ops [12] .stop)))))) (.trim [0, 5, 6, 7, 8, 9, 10, 11] (.ops [79] (.cond (.ops [4] .stop) .stop (.ops [4] .stop)))))))))))))
theorem ok3 : annFn Try.f3 2 n3 = some x3_0 := by kernel_rfl
noncomputable def kF3 (K : V → H → Prop) : XQ := kFnX C.P Try.f3.results.toList K
theorem e3_nx {K : V → H → Prop} {e : E} {h : H} : kF3 K .nx e h = K (E.get e 4) h := nrfl (by kernel_rfl)
theorem e3_rt {K : V → H → Prop} {e : E} {h : H} : kF3 K .rt e h = K (E.get e 4) h := nrfl (by kernel_rfl)
theorem enter3 {lo : Nat} {h : H} {vs : List V} {K : V → H → Prop} (hl : vs.length = 2) (hw : XW C lo x3_0 (kF3 K) (args 0 vs) h) : CW C 3 vs lo h K := by
  refine CW_X hS rfl Try.func3 ok3 hl ?_ hw
  rw [Try.ntmps3]
  decide
theorem q3_2 {lo : Nat} {Q : XQ} {e : E} {h : H} : XW C lo x3_2 Q e h =
    Q .rt ((4, .bool false) :: e) h := nrfl (by kernel_rfl)
theorem q3_9 {lo : Nat} {Q : XQ} {e : E} {h : H} : XW C lo x3_9 Q e h =
    bd (addrV Try.prog 23 (E.get e 1) (E.get e 12)) fun t1 =>
    bd (loadV Try.prog 3 t1 (H.read h)) fun t2 =>
    bd (lenV Try.prog [22] (E.get e 0)) fun t3 =>
    bd (binV Try.prog .sub 3 t3 (E.get e 11)) fun t4 =>
    bd (binV Try.prog .add 3 t4 (.int .i64 1)) fun t5 =>
    CW C 14 [t2, t5] lo h fun t6 h7 =>
    bd (binV Try.prog .add 3 (E.get e 11) t6) fun t8 =>
    Q .nx ((13, t8) :: e) h7 := nrfl (by kernel_rfl)
theorem q3_11 {lo : Nat} {Q : XQ} {e : E} {h : H} : XW C lo x3_11 Q e h =
    Q .nx ((10, E.get e 15) :: e) h := nrfl (by kernel_rfl)
theorem q3_12 {lo : Nat} {Q : XQ} {e : E} {h : H} : XW C lo x3_12 Q e h =
    Q .nx [(11, E.get e 13), (0, E.get e 0), (1, E.get e 1), (5, E.get e 5), (6, E.get e 6), (7, E.get e 7), (8, E.get e 8), (9, E.get e 9), (10, E.get e 10), (12, E.get e 12), (13, E.get e 13)] h := nrfl (by kernel_rfl)
theorem q3_10 {lo : Nat} {Q : XQ} {e : E} {h : H} : XW C lo x3_10 Q e h =
    bd (sliceV Try.prog (H.read h) 22 (E.get e 0) (some (E.get e 11)) (some (E.get e 13)) none) fun t1 =>
    CW C 13 [t1] lo h fun t2 h3 =>
    CW C 12 [E.get e 6, t2] lo h3 fun t4 h5 =>
    tupX t4 fun l6 => bd (l6[0]?) fun t7 =>
    tupX t4 fun l8 => bd (l8[1]?) fun t9 =>
    bd2 (appendV Try.prog lo [26, 26] (E.get e 9) t7 h5) fun t10 h11 =>
    bdB (binV Try.prog .neq 27 t9 (.int .i64 0)) fun b12 =>
    byT b12 (XW C lo x3_11 (kX (XW C lo x3_12 Q) Q) [(73, .bool b12), (9, t10), (14, t7), (15, t9), (0, E.get e 0), (1, E.get e 1), (5, E.get e 5), (6, E.get e 6), (7, E.get e 7), (8, E.get e 8), (9, E.get e 9), (10, E.get e 10), (11, E.get e 11), (12, E.get e 12), (13, E.get e 13)] h11) (XW C lo .skip (kX (XW C lo x3_12 Q) Q) [(73, .bool b12), (9, t10), (14, t7), (15, t9), (0, E.get e 0), (1, E.get e 1), (5, E.get e 5), (6, E.get e 6), (7, E.get e 7), (8, E.get e 8), (9, E.get e 9), (10, E.get e 10), (11, E.get e 11), (12, E.get e 12), (13, E.get e 13)] h11) := nrfl (by kernel_rfl)
theorem q3_8 {lo : Nat} {Q : XQ} {e : E} {h : H} : XW C lo x3_8 Q e h =
    bd (lenV Try.prog [22] (E.get e 0)) fun t1 =>
    bd (lenV Try.prog [23] (E.get e 1)) fun t2 =>
    bdB (binV Try.prog .lss 3 (E.get e 12) t2) fun b3 =>
    byT b3 (XW C lo x3_9 (kX (XW C lo x3_10 Q) Q) ((46, .bool b3) :: (13, t1) :: e) h) (XW C lo .skip (kX (XW C lo x3_10 Q) Q) ((46, .bool b3) :: (13, t1) :: e) h) := nrfl (by kernel_rfl)
theorem q3_13 {lo : Nat} {Q : XQ} {e : E} {h : H} : XW C lo x3_13 Q e h =
    bd (binV Try.prog .add 3 (E.get e 12) (.int .i64 1)) fun t1 =>
    Q .nx [(12, t1), (0, E.get e 0), (1, E.get e 1), (5, E.get e 5), (6, E.get e 6), (7, E.get e 7), (8, E.get e 8), (9, E.get e 9), (10, E.get e 10), (11, E.get e 11), (12, E.get e 12)] h := nrfl (by kernel_rfl)
theorem q3_7 {lo : Nat} {Q : XQ} {e : E} {h : H} : XW C lo x3_7 Q e h =
    XW C lo x3_8 (kXB 1 (XW C lo x3_13 Q) Q) e h := nrfl (by kernel_rfl)
theorem q3_6 {lo : Nat} {Q : XQ} {e : E} {h : H} : XW C lo x3_6 Q e h =
    byV (E.get e 38) (XW C lo .skip (kX (XW C lo x3_7 Q) Q) e h) (XW C lo (.exit 0) (kX (XW C lo x3_7 Q) Q) e h) False := nrfl (by kernel_rfl)
theorem q3_5 {lo : Nat} {Q : XQ} {e : E} {h : H} : XW C lo x3_5 Q e h =
    bd (lenV Try.prog [23] (E.get e 1)) fun t1 =>
    bdB (binV Try.prog .leq 3 (E.get e 12) t1) fun b2 =>
    byT b2 (bdB (binV Try.prog .lss 3 (E.get e 12) (.int .i64 300)) fun b3 =>
    byT b3 (XW C lo .skip (kX (XW C lo x3_7 Q) Q) ((38, .bool b3) :: e) h) (XW C lo (.exit 0) (kX (XW C lo x3_7 Q) Q) ((38, .bool b3) :: e) h)) (XW C lo (.exit 0) (kX (XW C lo x3_7 Q) Q) ((38, .bool false) :: e) h) := nrfl (by kernel_rfl)
theorem q3_4 {lo : Nat} {Q : XQ} {e : E} {h : H} : XW C lo x3_4 Q e h =
    ∃ n, loopX [0, 1, 5, 6, 7, 8, 9, 10, 11, 12] (XW C lo x3_5) Q n e h := nrfl (by kernel_rfl)
theorem q3_15 {lo : Nat} {Q : XQ} {e : E} {h : H} : XW C lo x3_15 Q e h =
    CW C 15 [] lo h fun t1 h2 =>
    Q .rt ((4, t1) :: e) h2 := nrfl (by kernel_rfl)
theorem q3_16 {lo : Nat} {Q : XQ} {e : E} {h : H} : XW C lo x3_16 Q e h =
    CW C 16 [E.get e 7, E.get e 9] lo h fun t1 h2 =>
    byV t1 (bdB (binV Try.prog .eql 27 (E.get e 8) (E.get e 10)) fun b3 =>
    byT b3 (CW C 17 [E.get e 5] lo h2 fun t4 h5 =>
    CW C 17 [E.get e 6] lo h5 fun t6 h7 =>
    bdB (binV Try.prog .eql 3 t4 t6) fun b8 =>
    byT b8 (CW C 15 [] lo h7 fun t9 h10 =>
    Q .rt ((4, t9) :: e) h10) (Q .rt ((4, .bool false) :: e) h7)) (Q .rt ((4, .bool false) :: e) h2)) (Q .rt ((4, .bool false) :: e) h2) (False) := nrfl (by kernel_rfl)
theorem q3_14 {lo : Nat} {Q : XQ} {e : E} {h : H} : XW C lo x3_14 Q e h =
    bd (lenV Try.prog [22] (E.get e 0)) fun t1 =>
    bdB (binV Try.prog .lss 3 (E.get e 11) t1) fun b2 =>
    byT b2 (XW C lo x3_15 (kX (XW C lo x3_16 Q) Q) [(79, .bool b2), (0, E.get e 0), (5, E.get e 5), (6, E.get e 6), (7, E.get e 7), (8, E.get e 8), (9, E.get e 9), (10, E.get e 10), (11, E.get e 11)] h) (XW C lo .skip (kX (XW C lo x3_16 Q) Q) [(79, .bool b2), (0, E.get e 0), (5, E.get e 5), (6, E.get e 6), (7, E.get e 7), (8, E.get e 8), (9, E.get e 9), (10, E.get e 10), (11, E.get e 11)] h) := nrfl (by kernel_rfl)
theorem q3_3 {lo : Nat} {Q : XQ} {e : E} {h : H} : XW C lo x3_3 Q e h =
    CW C 13 [E.get e 0] lo h fun t1 h2 =>
    CW C 12 [E.get e 5, t1] lo h2 fun t3 h4 =>
    tupX t3 fun l5 => bd (l5[0]?) fun t6 =>
    tupX t3 fun l7 => bd (l7[1]?) fun t8 =>
    XW C lo x3_4 (kXB 0 (XW C lo x3_14 Q) Q) ((12, .int .i64 0) :: (11, .int .i64 0) :: (10, .int .i64 0) :: (9, .nils) :: (7, t6) :: (8, t8) :: e) h4 := nrfl (by kernel_rfl)
theorem q3_1 {lo : Nat} {Q : XQ} {e : E} {h : H} : XW C lo x3_1 Q e h =
    byV (E.get e 23) (XW C lo x3_2 (kX (XW C lo x3_3 Q) Q) e h) (XW C lo .skip (kX (XW C lo x3_3 Q) Q) e h) False := nrfl (by kernel_rfl)
theorem q3_0 {lo : Nat} {Q : XQ} {e : E} {h : H} : XW C lo x3_0 Q e h =
    CW C 11 [] lo h fun t1 h2 =>
    CW C 11 [] lo h2 fun t3 h4 =>
    bdB (binV Try.prog .eql 24 t1 .nilp) fun b5 =>
    byT b5 (XW C lo x3_2 (kX (XW C lo x3_3 Q) Q) ((23, .bool true) :: (5, t1) :: (6, t3) :: e) h4) (bdB (binV Try.prog .eql 24 t3 .nilp) fun b6 =>
    byT b6 (XW C lo x3_2 (kX (XW C lo x3_3 Q) Q) ((23, .bool b6) :: (5, t1) :: (6, t3) :: e) h4) (XW C lo .skip (kX (XW C lo x3_3 Q) Q) ((23, .bool b6) :: (5, t1) :: (6, t3) :: e) h4)) := nrfl (by kernel_rfl)

end Go.Proofs.Ytghmbmblhdgabaa.Code
