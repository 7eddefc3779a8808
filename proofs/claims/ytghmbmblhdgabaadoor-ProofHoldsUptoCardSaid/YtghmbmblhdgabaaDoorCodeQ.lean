/- The code of functions, with short environments; what each part comes to. -/
import Derived.Test.YtghmbmblhdgabaaDoorShort
import Derived.Test.YtghmbmblhdgabaaDoorProg
import Derived.KernelRfl
import Derived.Test.YtghmbmblhdgabaaDoorCodeP
set_option linter.all false
namespace Go.Proofs.YtghmbmblhdgabaaDoor.Code
open Go Go.Den
set_option maxRecDepth 100000
theorem opsblkCodeQ {lo : Nat} {Q : XQ} {e : E} {h : H} {l : List SI} {out : List Nat} {id : Nat} {b k : X} : XW C lo (.ops l out (.block id b k)) Q e h = LX C lo l (fun e1 h1 => XW C lo b (kXB id (XW C lo k Q) Q) (outs out e1 e) h1) e h := propext Iff.rfl
theorem opsblkCodeQT {lo : Nat} {Q : XQ} {e : E} {h : H} {l : List SI} {out : List Nat} {id : Nat} {b k : X} {L : List Nat} : XW C lo (.trim L (.ops l out (.block id b k))) Q e h = LX C lo l (fun e1 h1 => XW C lo b (kXB id (XW C lo k Q) Q) (outs out e1 (only L e)) h1) (only L e) h := propext Iff.rfl
theorem opsblkCodeQF {lo : Nat} {Q : XQ} {e : E} {h : H} {l : List SI} {out : List Nat} {id : Nat} {b k : X} {r : List SI} {st : Bool} : XW C lo (.front st l r out (.block id b k)) Q e h = FX C lo (H.next h) st l (LX C lo r (fun e1 h1 => XW C lo b (kXB id (XW C lo k Q) Q) (outs out e1 e) h1)) e h := propext Iff.rfl
theorem opsblkCodeQFT {lo : Nat} {Q : XQ} {e : E} {h : H} {l : List SI} {out : List Nat} {id : Nat} {b k : X} {r : List SI} {st : Bool} {L : List Nat} : XW C lo (.trim L (.front st l r out (.block id b k))) Q e h = FX C lo (H.next h) st l (LX C lo r (fun e1 h1 => XW C lo b (kXB id (XW C lo k Q) Q) (outs out e1 (only L e)) h1)) (only L e) h := propext Iff.rfl
/-! ### chancery/proof.Mac -/
def r10_0 : List SI := [⟨some 4, (.alloc 24), none⟩]
def r10_1 : List SI := [⟨some 10, (.move (.tmp 0)), none⟩,
  ⟨some 11, (.call { callee := (.builtin .len), args := #[(.tmp 10)], argTypes := #[22] }), none⟩,
  ⟨some 12, (.binOp .gtr 3 (.tmp 11) (.const (.int .i64 64)) 3), none⟩]
def r10_2 : List SI := [⟨some 13, (.move (.tmp 0)), none⟩,
  ⟨some 14, (.call { callee := (.value (.func 8)), args := #[(.tmp 13)], argTypes := #[22] }), none⟩,
  ⟨some 5, (.alloc 24), none⟩,
  ⟨none, (.store 24 (.tmp 5) (.tmp 14)), none⟩]
def r10_3 : List SI := [⟨some 15, (.slice 24 (.tmp 5) none none none), none⟩,
  ⟨some 0, (.assign (.tmp 15)), none⟩]
def x10_1 : X := .ops r10_2 [5] (.ops r10_3 [0] .skip)
def r10_4 : List SI := [⟨some 6, (.alloc 49), none⟩,
  ⟨some 7, (.alloc 49), none⟩]
def r10_5 : List SI := [⟨some 16, (.slice 49 (.tmp 6) none none none), none⟩,
  ⟨some 17, (.move (.tmp 0)), none⟩,
  ⟨some 18, (.call { callee := (.builtin .copy), args := #[(.tmp 16), (.tmp 17)], argTypes := #[22, 22] }), none⟩]
def r10_6 : List SI := [⟨some 19, (.load 49 (.tmp 6)), none⟩,
  ⟨none, (.store 49 (.tmp 7) (.tmp 19)), none⟩]
def r10_7 : List SI := [⟨some 20, (.move (.const (.int .i64 0))), none⟩]
def r10_8 : List SI := [⟨some 21, (.binOp .lss 3 (.tmp 20) (.const (.int .i64 64)) 3), none⟩]
def r10_9 : List SI := [⟨some 22, (.move (.tmp 20)), none⟩,
  ⟨some 8, (.assign (.tmp 22)), none⟩]
def r10_10 : List SI := [⟨some 23, (.move (.tmp 8)), none⟩,
  ⟨some 24, (.indexAddr 49 (.tmp 6) (.tmp 23)), none⟩,
  ⟨some 25, (.load 5 (.tmp 24)), none⟩,
  ⟨some 26, (.binOp .xor 5 (.tmp 25) (.const (.int .u8 54)) 5), none⟩,
  ⟨some 27, (.indexAddr 49 (.tmp 6) (.tmp 23)), none⟩,
  ⟨none, (.store 5 (.tmp 27) (.tmp 26)), none⟩]
def r10_11 : List SI := [⟨some 28, (.move (.tmp 8)), none⟩,
  ⟨some 29, (.indexAddr 49 (.tmp 7) (.tmp 28)), none⟩,
  ⟨some 30, (.load 5 (.tmp 29)), none⟩,
  ⟨some 31, (.binOp .xor 5 (.tmp 30) (.const (.int .u8 92)) 5), none⟩,
  ⟨some 32, (.indexAddr 49 (.tmp 7) (.tmp 28)), none⟩,
  ⟨none, (.store 5 (.tmp 32) (.tmp 31)), none⟩]
def x10_6 : X := .ops r10_9 [8] (.ops r10_10 [] (.ops r10_11 [] .skip))
def r10_12 : List SI := [⟨some 33, (.binOp .add 3 (.tmp 20) (.const (.int .i64 1)) 3), none⟩,
  ⟨some 20, (.move (.tmp 33)), none⟩]
def x10_7 : X := .trim [1, 4, 6, 7, 20] (.ops r10_12 [20] .skip)
def x10_5 : X := .block 1 x10_6 x10_7
def x10_4 : X := .ops r10_8 [21] (.cond (.tmp 21) .skip (.exit 0) x10_5)
def x10_3 : X := .loop [1, 4, 6, 7, 20] x10_4
def r10_13 : List SI := [⟨some 34, (.slice 49 (.tmp 6) none none none), none⟩,
  ⟨some 35, (.move (.tmp 1)), none⟩,
  ⟨some 36, (.call { callee := (.builtin .append), args := #[(.tmp 34), (.tmp 35)], argTypes := #[22, 22] }), none⟩,
  ⟨some 37, (.call { callee := (.value (.func 8)), args := #[(.tmp 36)], argTypes := #[22] }), none⟩,
  ⟨some 9, (.alloc 24), none⟩,
  ⟨none, (.store 24 (.tmp 9) (.tmp 37)), none⟩]
def r10_14a : List SI := [⟨some 38, (.slice 49 (.tmp 7) none none none), none⟩,
  ⟨some 39, (.slice 24 (.tmp 9) none none none), none⟩]
def r10_14b : List SI := [⟨some 40, (.call { callee := (.builtin .append), args := #[(.tmp 38), (.tmp 39)], argTypes := #[22, 22] }), none⟩,
  ⟨some 41, (.call { callee := (.value (.func 8)), args := #[(.tmp 40)], argTypes := #[22] }), none⟩,
  ⟨none, (.store 24 (.tmp 4) (.tmp 41)), none⟩]
def x10_8 : X := .trim [1, 4, 6, 7] (.ops r10_13 [9] (.front false r10_14a r10_14b [] .ret))
def x10_2 : X := .trim [0, 1, 4] (.ops r10_4 [6, 7] (.ops r10_5 [] (.ops r10_6 [] (.ops r10_7 [20] (.block 0 x10_3 x10_8)))))
def x10_0 : X := .ops r10_0 [4] (.ops r10_1 [12] (.cond (.tmp 12) x10_1 .skip x10_2))
def n10 : Ann := .ops [4] (.ops [12] (.cond (.ops [5] (.ops [0] .stop)) .stop (.trim [0, 1, 4] (.ops [6, 7] (.ops [] (.ops [] (.ops [20] (.block [1, 4, 6, 7] (.loop [1, 4, 6, 7, 20] (.ops [21] (.cond .stop .stop (.block [1, 4, 6, 7, 20] (.ops [8] (.ops [] (.ops [] .stop))) (.trim [1, 4, 6, 7, 20] (.ops [20] .stop)))))) (.trim [1, 4, 6, 7] (.ops [9] (.ops [] .stop)))))))))))
theorem ok10 : annFn Tryd.f10 2 n10 = some x10_0 := by kernel_rfl
noncomputable def kF10 (K : V → H → Prop) : XQ := kFnX C.P Tryd.f10.results.toList K
theorem e10_nx {K : V → H → Prop} {e : E} {h : H} : kF10 K .nx e h = resX C.P Tryd.f10.results.toList e h K := nrfl (by kernel_rfl)
theorem e10_rt {K : V → H → Prop} {e : E} {h : H} : kF10 K .rt e h = resX C.P Tryd.f10.results.toList e h K := nrfl (by kernel_rfl)
theorem enter10 {lo : Nat} {h : H} {vs : List V} {K : V → H → Prop} (hl : vs.length = 2) (hw : XW C lo x10_0 (kF10 K) (args 0 vs) h) : CW C 10 vs lo h K := by
  refine CW_X hS rfl Tryd.func10 ok10 hl ?_ hw
  rw [Tryd.ntmps10]
  decide
theorem q10_1 {lo : Nat} {Q : XQ} {e : E} {h : H} : XW C lo x10_1 Q e h =
    CW C 8 [E.get e 0] lo h fun t1 h2 =>
    bd (zero? Tryd.prog 24) fun z3 =>
    bd (storeV Tryd.prog lo 24 (.ptr (H.next h2) 0) t1 (H.alloc h2 (V.cells z3))) fun h4 =>
    bd (sliceV Tryd.prog (H.read h4) 24 (.ptr (H.next h2) 0) none none none) fun t5 =>
    Q .nx ((0, t5) :: (5, .ptr (H.next h2) 0) :: e) h4 := nrfl (by kernel_rfl)
theorem q10_6 {lo : Nat} {Q : XQ} {e : E} {h : H} : XW C lo x10_6 Q e h =
    bd (addrV Tryd.prog 49 (E.get e 6) (E.get e 20)) fun t1 =>
    bd (loadV Tryd.prog 5 t1 (H.read h)) fun t2 =>
    bd (binV Tryd.prog .xor 5 t2 (.int .u8 54)) fun t3 =>
    bd (addrV Tryd.prog 49 (E.get e 6) (E.get e 20)) fun t4 =>
    bd (storeV Tryd.prog lo 5 t4 t3 h) fun h5 =>
    bd (addrV Tryd.prog 49 (E.get e 7) (E.get e 20)) fun t6 =>
    bd (loadV Tryd.prog 5 t6 (H.read h5)) fun t7 =>
    bd (binV Tryd.prog .xor 5 t7 (.int .u8 92)) fun t8 =>
    bd (addrV Tryd.prog 49 (E.get e 7) (E.get e 20)) fun t9 =>
    bd (storeV Tryd.prog lo 5 t9 t8 h5) fun h10 =>
    Q .nx ((8, E.get e 20) :: e) h10 := nrfl (by kernel_rfl)
theorem q10_7 {lo : Nat} {Q : XQ} {e : E} {h : H} : XW C lo x10_7 Q e h =
    bd (binV Tryd.prog .add 3 (E.get e 20) (.int .i64 1)) fun t1 =>
    Q .nx [(20, t1), (1, E.get e 1), (4, E.get e 4), (6, E.get e 6), (7, E.get e 7), (20, E.get e 20)] h := nrfl (by kernel_rfl)
theorem q10_5 {lo : Nat} {Q : XQ} {e : E} {h : H} : XW C lo x10_5 Q e h =
    XW C lo x10_6 (kXB 1 (XW C lo x10_7 Q) Q) e h := nrfl (by kernel_rfl)
theorem q10_4 {lo : Nat} {Q : XQ} {e : E} {h : H} : XW C lo x10_4 Q e h =
    bdB (binV Tryd.prog .lss 3 (E.get e 20) (.int .i64 64)) fun b1 =>
    byT b1 (XW C lo .skip (kX (XW C lo x10_5 Q) Q) ((21, .bool b1) :: e) h) (XW C lo (.exit 0) (kX (XW C lo x10_5 Q) Q) ((21, .bool b1) :: e) h) := nrfl (by kernel_rfl)
theorem q10_3 {lo : Nat} {Q : XQ} {e : E} {h : H} : XW C lo x10_3 Q e h =
    ∃ n, loopX [1, 4, 6, 7, 20] (XW C lo x10_4) Q n e h := nrfl (by kernel_rfl)
theorem q10_8 {lo : Nat} {Q : XQ} {e : E} {h : H} : XW C lo x10_8 Q e h =
    bd (sliceV Tryd.prog (H.read h) 49 (E.get e 6) none none none) fun t1 =>
    bd2 (appendV Tryd.prog lo [22, 22] t1 (E.get e 1) h) fun t2 h3 =>
    CW C 8 [t2] lo h3 fun t4 h5 =>
    bd (zero? Tryd.prog 24) fun z6 =>
    bd (storeV Tryd.prog lo 24 (.ptr (H.next h5) 0) t4 (H.alloc h5 (V.cells z6))) fun h7 =>
    bd (sliceV Tryd.prog (H.read h7) 49 (E.get e 7) none none none) fun t8 =>
    bd (sliceV Tryd.prog (H.read h7) 24 (.ptr (H.next h5) 0) none none none) fun t9 =>
    bd2 (appendV Tryd.prog lo [22, 22] t8 t9 h7) fun t10 h11 =>
    CW C 8 [t10] lo h11 fun t12 h13 =>
    bd (storeV Tryd.prog lo 24 (E.get e 4) t12 h13) fun h14 =>
    Q .rt [(9, .ptr (H.next h5) 0), (1, E.get e 1), (4, E.get e 4), (6, E.get e 6), (7, E.get e 7)] h14 := nrfl (by kernel_rfl)
theorem q10_2 {lo : Nat} {Q : XQ} {e : E} {h : H} : XW C lo x10_2 Q e h =
    bd (zero? Tryd.prog 49) fun z1 =>
    bd (zero? Tryd.prog 49) fun z2 =>
    bd (sliceV Tryd.prog (H.read (H.alloc (H.alloc h (V.cells z1)) (V.cells z2))) 49 (.ptr (H.next h) 0) none none none) fun t3 =>
    bd2 (copyV Tryd.prog lo [22, 22] t3 (E.get e 0) (H.alloc (H.alloc h (V.cells z1)) (V.cells z2))) fun t4 h5 =>
    bd (loadV Tryd.prog 49 (.ptr (H.next h) 0) (H.read h5)) fun t6 =>
    bd (storeV Tryd.prog lo 49 (.ptr (H.next (H.alloc h (V.cells z1))) 0) t6 h5) fun h7 =>
    XW C lo x10_3 (kXB 0 (XW C lo x10_8 Q) Q) [(20, .int .i64 0), (6, .ptr (H.next h) 0), (7, .ptr (H.next (H.alloc h (V.cells z1))) 0), (0, E.get e 0), (1, E.get e 1), (4, E.get e 4)] h7 := nrfl (by kernel_rfl)
theorem q10_0 {lo : Nat} {Q : XQ} {e : E} {h : H} : XW C lo x10_0 Q e h =
    bd (zero? Tryd.prog 24) fun z1 =>
    bd (lenV Tryd.prog [22] (E.get e 0)) fun t2 =>
    bdB (binV Tryd.prog .gtr 3 t2 (.int .i64 64)) fun b3 =>
    byT b3 (XW C lo x10_1 (kX (XW C lo x10_2 Q) Q) ((12, .bool b3) :: (4, .ptr (H.next h) 0) :: e) (H.alloc h (V.cells z1))) (XW C lo .skip (kX (XW C lo x10_2 Q) Q) ((12, .bool b3) :: (4, .ptr (H.next h) 0) :: e) (H.alloc h (V.cells z1))) := nrfl (by kernel_rfl)

/-! ### chancery/proof.Proof -/
def r14_0 : List SI := [⟨some 8, (.assign (.const (.slice none 0 0))), none⟩]
def r14_1 : List SI := [⟨some 10, (.move (.tmp 0)), none⟩,
  ⟨some 11, (.convert 9 22 (.tmp 10)), none⟩,
  ⟨some 12, (.move (.tmp 1)), none⟩,
  ⟨some 13, (.move (.tmp 2)), none⟩,
  ⟨some 14, (.move (.tmp 3)), none⟩,
  ⟨some 15, (.call { callee := (.value (.func 17)), args := #[(.tmp 12), (.tmp 13), (.tmp 14)], argTypes := #[3, 9, 29] }), none⟩,
  ⟨some 16, (.call { callee := (.value (.func 10)), args := #[(.tmp 11), (.tmp 15)], argTypes := #[22, 22] }), none⟩,
  ⟨some 9, (.alloc 24), none⟩,
  ⟨none, (.store 24 (.tmp 9) (.tmp 16)), none⟩]
def r14_2 : List SI := [⟨some 17, (.slice 24 (.tmp 9) none none none), none⟩,
  ⟨some 18, (.call { callee := (.value (.func 22)), args := #[(.tmp 17)], argTypes := #[22] }), none⟩,
  ⟨some 8, (.assign (.tmp 18)), none⟩]
def x14_0 : X := .ops r14_0 [] (.ops r14_1 [9] (.ops r14_2 [8] .ret))
def n14 : Ann := .ops [] (.ops [9] (.ops [8] .stop))
theorem ok14 : annFn Tryd.f14 4 n14 = some x14_0 := by kernel_rfl
noncomputable def kF14 (K : V → H → Prop) : XQ := kFnX C.P Tryd.f14.results.toList K
theorem e14_nx {K : V → H → Prop} {e : E} {h : H} : kF14 K .nx e h = K (E.get e 8) h := nrfl (by kernel_rfl)
theorem e14_rt {K : V → H → Prop} {e : E} {h : H} : kF14 K .rt e h = K (E.get e 8) h := nrfl (by kernel_rfl)
theorem enter14 {lo : Nat} {h : H} {vs : List V} {K : V → H → Prop} (hl : vs.length = 4) (hw : XW C lo x14_0 (kF14 K) (args 0 vs) h) : CW C 14 vs lo h K := by
  refine CW_X hS rfl Tryd.func14 ok14 hl ?_ hw
  rw [Tryd.ntmps14]
  decide
theorem q14_0 {lo : Nat} {Q : XQ} {e : E} {h : H} : XW C lo x14_0 Q e h =
    bd (convV Tryd.prog (H.read h) 9 22 (E.get e 0)) fun r1 => KX h (fun t2 h3 =>
    CW C 17 [E.get e 1, E.get e 2, E.get e 3] lo h3 fun t4 h5 =>
    CW C 10 [t2, t4] lo h5 fun t6 h7 =>
    bd (zero? Tryd.prog 24) fun z8 =>
    bd (storeV Tryd.prog lo 24 (.ptr (H.next h7) 0) t6 (H.alloc h7 (V.cells z8))) fun h9 =>
    bd (sliceV Tryd.prog (H.read h9) 24 (.ptr (H.next h7) 0) none none none) fun t10 =>
    CW C 22 [t10] lo h9 fun t11 h12 =>
    Q .rt ((8, t11) :: (9, .ptr (H.next h7) 0) :: e) h12) r1 := nrfl (by kernel_rfl)

/-! ### chancery/proof.Message -/
def r17_0 : List SI := [⟨some 6, (.assign (.const (.slice none 0 0))), none⟩]
def r17_1 : List SI := [⟨some 8, (.buildSlice 22 8 #[(0, (.const (.int .u8 99))), (1, (.const (.int .u8 104))), (2, (.const (.int .u8 97))), (3, (.const (.int .u8 110))), (4, (.const (.int .u8 99))), (5, (.const (.int .u8 101))), (6, (.const (.int .u8 114))), (7, (.const (.int .u8 121)))]), none⟩,
  ⟨some 9, (.convert 22 22 (.tmp 8)), none⟩,
  ⟨some 10, (.move (.tmp 0)), none⟩,
  ⟨some 11, (.convert 3 5 (.tmp 10)), none⟩,
  ⟨some 12, (.buildSlice 22 2 #[(0, (.const (.int .u8 0))), (1, (.tmp 11))]), none⟩,
  ⟨some 13, (.call { callee := (.builtin .append), args := #[(.tmp 9), (.tmp 12)], argTypes := #[22, 22] }), none⟩,
  ⟨some 7, (.assign (.tmp 13)), none⟩]
def r17_2 : List SI := [⟨some 14, (.move (.tmp 7)), none⟩,
  ⟨some 15, (.move (.tmp 1)), none⟩,
  ⟨some 16, (.call { callee := (.builtin .append), args := #[(.tmp 14), (.tmp 15)], argTypes := #[22, 9] }), none⟩,
  ⟨some 17, (.buildSlice 22 1 #[(0, (.const (.int .u8 0)))]), none⟩,
  ⟨some 18, (.call { callee := (.builtin .append), args := #[(.tmp 16), (.tmp 17)], argTypes := #[22, 22] }), none⟩,
  ⟨some 7, (.assign (.tmp 18)), none⟩]
def r17_3 : List SI := [⟨some 19, (.move (.tmp 7)), none⟩,
  ⟨some 20, (.move (.tmp 2)), none⟩,
  ⟨some 21, (.call { callee := (.value (.func 23)), args := #[(.tmp 19), (.tmp 20)], argTypes := #[22, 29] }), none⟩,
  ⟨some 6, (.assign (.tmp 21)), none⟩]
def x17_0 : X := .ops r17_0 [] (.ops r17_1 [7] (.ops r17_2 [7] (.ops r17_3 [6] .ret)))
def n17 : Ann := .ops [] (.ops [7] (.ops [7] (.ops [6] .stop)))
theorem ok17 : annFn Tryd.f17 3 n17 = some x17_0 := by kernel_rfl
noncomputable def kF17 (K : V → H → Prop) : XQ := kFnX C.P Tryd.f17.results.toList K
theorem e17_nx {K : V → H → Prop} {e : E} {h : H} : kF17 K .nx e h = K (E.get e 6) h := nrfl (by kernel_rfl)
theorem e17_rt {K : V → H → Prop} {e : E} {h : H} : kF17 K .rt e h = K (E.get e 6) h := nrfl (by kernel_rfl)
theorem enter17 {lo : Nat} {h : H} {vs : List V} {K : V → H → Prop} (hl : vs.length = 3) (hw : XW C lo x17_0 (kF17 K) (args 0 vs) h) : CW C 17 vs lo h K := by
  refine CW_X hS rfl Tryd.func17 ok17 hl ?_ hw
  rw [Tryd.ntmps17]
  decide
theorem q17_0 {lo : Nat} {Q : XQ} {e : E} {h : H} : XW C lo x17_0 Q e h =
    bd (buildSliceV Tryd.prog 22 8 [(0, .int .u8 99), (1, .int .u8 104), (2, .int .u8 97), (3, .int .u8 110), (4, .int .u8 99), (5, .int .u8 101), (6, .int .u8 114), (7, .int .u8 121)]) fun r1 => KX h (fun t2 h3 =>
    bd2 (markV Tryd.prog lo 22 t2 h3) fun t4 h5 =>
    bd (convV Tryd.prog (H.read h5) 3 5 (E.get e 0)) fun r6 => KX h5 (fun t7 h8 =>
    bd (buildSliceV Tryd.prog 22 2 [(0, .int .u8 0), (1, t7)]) fun r9 => KX h8 (fun t10 h11 =>
    bd2 (appendV Tryd.prog lo [22, 22] t4 t10 h11) fun t12 h13 =>
    bd2 (appendV Tryd.prog lo [22, 9] t12 (E.get e 1) h13) fun t14 h15 =>
    bd (buildSliceV Tryd.prog 22 1 [(0, .int .u8 0)]) fun r16 => KX h15 (fun t17 h18 =>
    bd2 (appendV Tryd.prog lo [22, 22] t14 t17 h18) fun t19 h20 =>
    CW C 23 [t19, E.get e 2] lo h20 fun t21 h22 =>
    Q .rt ((6, t21) :: (7, t19) :: (7, t12) :: e) h22) r16) r9) r6) r1 := nrfl (by kernel_rfl)

/-! ### chancery/proof.Holds -/
def r19_0 : List SI := [⟨some 10, (.assign (.const (.bool false))), none⟩]
def r19_1 : List SI := [⟨some 11, (.move (.tmp 0)), none⟩,
  ⟨some 12, (.move (.tmp 1)), none⟩,
  ⟨some 13, (.move (.tmp 2)), none⟩,
  ⟨some 14, (.move (.tmp 3)), none⟩,
  ⟨some 15, (.call { callee := (.value (.func 14)), args := #[(.tmp 11), (.tmp 12), (.tmp 13), (.tmp 14)], argTypes := #[9, 3, 9, 29] }), none⟩,
  ⟨some 16, (.move (.tmp 4)), none⟩,
  ⟨some 17, (.call { callee := (.value (.func 31)), args := #[(.tmp 15), (.tmp 16)], argTypes := #[22, 22] }), none⟩,
  ⟨some 10, (.assign (.tmp 17)), none⟩]
def x19_0 : X := .ops r19_0 [] (.ops r19_1 [10] .ret)
def n19 : Ann := .ops [] (.ops [10] .stop)
theorem ok19 : annFn Tryd.f19 5 n19 = some x19_0 := by kernel_rfl
noncomputable def kF19 (K : V → H → Prop) : XQ := kFnX C.P Tryd.f19.results.toList K
theorem e19_nx {K : V → H → Prop} {e : E} {h : H} : kF19 K .nx e h = K (E.get e 10) h := nrfl (by kernel_rfl)
theorem e19_rt {K : V → H → Prop} {e : E} {h : H} : kF19 K .rt e h = K (E.get e 10) h := nrfl (by kernel_rfl)
theorem enter19 {lo : Nat} {h : H} {vs : List V} {K : V → H → Prop} (hl : vs.length = 5) (hw : XW C lo x19_0 (kF19 K) (args 0 vs) h) : CW C 19 vs lo h K := by
  refine CW_X hS rfl Tryd.func19 ok19 hl ?_ hw
  rw [Tryd.ntmps19]
  decide
theorem q19_0 {lo : Nat} {Q : XQ} {e : E} {h : H} : XW C lo x19_0 Q e h =
    CW C 14 [E.get e 0, E.get e 1, E.get e 2, E.get e 3] lo h fun t1 h2 =>
    CW C 31 [t1, E.get e 4] lo h2 fun t3 h4 =>
    Q .rt ((10, t3) :: e) h4 := nrfl (by kernel_rfl)

/-! ### chancery/chancerykit.CopyBytes -/
def r20_0 : List SI := [⟨some 2, (.assign (.const (.slice none 0 0))), none⟩]
def r20_1 : List SI := [⟨some 3, (.assign (.const (.slice none 0 0))), none⟩]
def r20_2 : List SI := [⟨some 4, (.assign (.const (.int .i64 0))), none⟩]
def r20_3 : List SI := [⟨some 5, (.move (.tmp 4)), none⟩,
  ⟨some 6, (.move (.tmp 0)), none⟩,
  ⟨some 7, (.call { callee := (.builtin .len), args := #[(.tmp 6)], argTypes := #[22] }), none⟩,
  ⟨some 8, (.binOp .lss 3 (.tmp 5) (.tmp 7) 3), none⟩]
def r20_5 : List SI := [⟨some 11, (.move (.tmp 3)), none⟩,
  ⟨some 12, (.move (.tmp 0)), none⟩,
  ⟨some 13, (.move (.tmp 4)), none⟩,
  ⟨some 14, (.indexAddr 22 (.tmp 12) (.tmp 13)), none⟩,
  ⟨some 15, (.load 5 (.tmp 14)), none⟩,
  ⟨some 16, (.buildSlice 22 1 #[(0, (.tmp 15))]), none⟩,
  ⟨some 17, (.call { callee := (.builtin .append), args := #[(.tmp 11), (.tmp 16)], argTypes := #[22, 22] }), none⟩,
  ⟨some 3, (.assign (.tmp 17)), none⟩]
def x20_4 : X := .ops r20_5 [3] .skip
def r20_4 : List SI := [⟨some 9, (.move (.tmp 4)), none⟩,
  ⟨some 10, (.binOp .add 3 (.tmp 9) (.const (.int .i64 1)) 3), none⟩,
  ⟨some 4, (.assign (.tmp 10)), none⟩]
def x20_5 : X := .trim [0, 3, 4] (.ops r20_4 [4] .skip)
def x20_3 : X := .block 1 x20_4 x20_5
def x20_2 : X := .ops r20_3 [8] (.cond (.tmp 8) .skip (.exit 0) x20_3)
def x20_1 : X := .loop [0, 3, 4] x20_2
def r20_6 : List SI := [⟨some 18, (.move (.tmp 3)), none⟩,
  ⟨some 2, (.assign (.tmp 18)), none⟩]
def x20_6 : X := .trim [3] (.ops r20_6 [2] .ret)
def x20_0 : X := .ops r20_0 [] (.ops r20_1 [3] (.ops r20_2 [4] (.block 0 x20_1 x20_6)))
def n20 : Ann := .ops [] (.ops [3] (.ops [4] (.block [3] (.loop [0, 3, 4] (.ops [8] (.cond .stop .stop (.block [0, 3, 4] (.ops [3] .stop) (.trim [0, 3, 4] (.ops [4] .stop)))))) (.trim [3] (.ops [2] .stop)))))
theorem ok20 : annFn Tryd.f20 1 n20 = some x20_0 := by kernel_rfl
noncomputable def kF20 (K : V → H → Prop) : XQ := kFnX C.P Tryd.f20.results.toList K
theorem e20_nx {K : V → H → Prop} {e : E} {h : H} : kF20 K .nx e h = K (E.get e 2) h := nrfl (by kernel_rfl)
theorem e20_rt {K : V → H → Prop} {e : E} {h : H} : kF20 K .rt e h = K (E.get e 2) h := nrfl (by kernel_rfl)
theorem enter20 {lo : Nat} {h : H} {vs : List V} {K : V → H → Prop} (hl : vs.length = 1) (hw : XW C lo x20_0 (kF20 K) (args 0 vs) h) : CW C 20 vs lo h K := by
  refine CW_X hS rfl Tryd.func20 ok20 hl ?_ hw
  rw [Tryd.ntmps20]
  decide
theorem q20_4 {lo : Nat} {Q : XQ} {e : E} {h : H} : XW C lo x20_4 Q e h =
    bd (addrV Tryd.prog 22 (E.get e 0) (E.get e 4)) fun t1 =>
    bd (loadV Tryd.prog 5 t1 (H.read h)) fun t2 =>
    bd (buildSliceV Tryd.prog 22 1 [(0, t2)]) fun r3 => KX h (fun t4 h5 =>
    bd2 (appendV Tryd.prog lo [22, 22] (E.get e 3) t4 h5) fun t6 h7 =>
    Q .nx ((3, t6) :: e) h7) r3 := nrfl (by kernel_rfl)
theorem q20_5 {lo : Nat} {Q : XQ} {e : E} {h : H} : XW C lo x20_5 Q e h =
    bd (binV Tryd.prog .add 3 (E.get e 4) (.int .i64 1)) fun t1 =>
    Q .nx [(4, t1), (0, E.get e 0), (3, E.get e 3), (4, E.get e 4)] h := nrfl (by kernel_rfl)
theorem q20_3 {lo : Nat} {Q : XQ} {e : E} {h : H} : XW C lo x20_3 Q e h =
    XW C lo x20_4 (kXB 1 (XW C lo x20_5 Q) Q) e h := nrfl (by kernel_rfl)
theorem q20_2 {lo : Nat} {Q : XQ} {e : E} {h : H} : XW C lo x20_2 Q e h =
    bd (lenV Tryd.prog [22] (E.get e 0)) fun t1 =>
    bdB (binV Tryd.prog .lss 3 (E.get e 4) t1) fun b2 =>
    byT b2 (XW C lo .skip (kX (XW C lo x20_3 Q) Q) ((8, .bool b2) :: e) h) (XW C lo (.exit 0) (kX (XW C lo x20_3 Q) Q) ((8, .bool b2) :: e) h) := nrfl (by kernel_rfl)
theorem q20_1 {lo : Nat} {Q : XQ} {e : E} {h : H} : XW C lo x20_1 Q e h =
    ∃ n, loopX [0, 3, 4] (XW C lo x20_2) Q n e h := nrfl (by kernel_rfl)
theorem q20_6 {lo : Nat} {Q : XQ} {e : E} {h : H} : XW C lo x20_6 Q e h =
    Q .rt [(2, E.get e 3), (3, E.get e 3)] h := nrfl (by kernel_rfl)
theorem q20_0 {lo : Nat} {Q : XQ} {e : E} {h : H} : XW C lo x20_0 Q e h =
    XW C lo x20_1 (kXB 0 (XW C lo x20_6 Q) Q) ((4, .int .i64 0) :: (3, .nils) :: e) h := nrfl (by kernel_rfl)

/-! ### chancery/chancerykit.Pick -/
def r21_0 : List SI := [⟨some 4, (.assign (.const (.int .i64 0))), none⟩]
def r21_1 : List SI := [⟨some 5, (.move (.tmp 1)), none⟩,
  ⟨some 6, (.binOp .lss 3 (.tmp 5) (.const (.int .i64 1)) 3), none⟩]
def r21_2 : List SI := [⟨some 4, (.assign (.const (.int .i64 0))), none⟩]
def x21_1 : X := .ops r21_2 [4] .ret
def r21_3 : List SI := [⟨some 7, (.move (.tmp 0)), none⟩,
  ⟨some 8, (.move (.tmp 1)), none⟩,
  ⟨some 9, (.binOp .rem 3 (.tmp 7) (.tmp 8) 3), none⟩,
  ⟨some 0, (.assign (.tmp 9)), none⟩]
def r21_4 : List SI := [⟨some 10, (.move (.tmp 0)), none⟩,
  ⟨some 11, (.binOp .lss 3 (.tmp 10) (.const (.int .i64 0)) 3), none⟩]
def r21_5 : List SI := [⟨some 12, (.move (.tmp 0)), none⟩,
  ⟨some 13, (.move (.tmp 1)), none⟩,
  ⟨some 14, (.binOp .add 3 (.tmp 12) (.tmp 13) 3), none⟩,
  ⟨some 0, (.assign (.tmp 14)), none⟩]
def x21_3 : X := .ops r21_5 [0] .skip
def r21_6 : List SI := [⟨some 15, (.move (.tmp 0)), none⟩,
  ⟨some 4, (.assign (.tmp 15)), none⟩]
def x21_4 : X := .trim [0] (.ops r21_6 [4] .ret)
def x21_2 : X := .ops r21_3 [0] (.ops r21_4 [11] (.cond (.tmp 11) x21_3 .skip x21_4))
def x21_0 : X := .ops r21_0 [] (.ops r21_1 [6] (.cond (.tmp 6) x21_1 .skip x21_2))
def n21 : Ann := .ops [] (.ops [6] (.cond (.ops [4] .stop) .stop (.ops [0] (.ops [11] (.cond (.ops [0] .stop) .stop (.trim [0] (.ops [4] .stop)))))))
theorem ok21 : annFn Tryd.f21 2 n21 = some x21_0 := by kernel_rfl
noncomputable def kF21 (K : V → H → Prop) : XQ := kFnX C.P Tryd.f21.results.toList K
theorem e21_nx {K : V → H → Prop} {e : E} {h : H} : kF21 K .nx e h = K (E.get e 4) h := nrfl (by kernel_rfl)
theorem e21_rt {K : V → H → Prop} {e : E} {h : H} : kF21 K .rt e h = K (E.get e 4) h := nrfl (by kernel_rfl)
theorem enter21 {lo : Nat} {h : H} {vs : List V} {K : V → H → Prop} (hl : vs.length = 2) (hw : XW C lo x21_0 (kF21 K) (args 0 vs) h) : CW C 21 vs lo h K := by
  refine CW_X hS rfl Tryd.func21 ok21 hl ?_ hw
  rw [Tryd.ntmps21]
  decide
theorem q21_1 {lo : Nat} {Q : XQ} {e : E} {h : H} : XW C lo x21_1 Q e h =
    Q .rt ((4, .int .i64 0) :: e) h := nrfl (by kernel_rfl)
theorem q21_3 {lo : Nat} {Q : XQ} {e : E} {h : H} : XW C lo x21_3 Q e h =
    bd (binV Tryd.prog .add 3 (E.get e 0) (E.get e 1)) fun t1 =>
    Q .nx ((0, t1) :: e) h := nrfl (by kernel_rfl)
theorem q21_4 {lo : Nat} {Q : XQ} {e : E} {h : H} : XW C lo x21_4 Q e h =
    Q .rt [(4, E.get e 0), (0, E.get e 0)] h := nrfl (by kernel_rfl)
theorem q21_2 {lo : Nat} {Q : XQ} {e : E} {h : H} : XW C lo x21_2 Q e h =
    bd (binV Tryd.prog .rem 3 (E.get e 0) (E.get e 1)) fun t1 =>
    bdB (binV Tryd.prog .lss 3 t1 (.int .i64 0)) fun b2 =>
    byT b2 (XW C lo x21_3 (kX (XW C lo x21_4 Q) Q) ((11, .bool b2) :: (0, t1) :: e) h) (XW C lo .skip (kX (XW C lo x21_4 Q) Q) ((11, .bool b2) :: (0, t1) :: e) h) := nrfl (by kernel_rfl)
theorem q21_0 {lo : Nat} {Q : XQ} {e : E} {h : H} : XW C lo x21_0 Q e h =
    bdB (binV Tryd.prog .lss 3 (E.get e 1) (.int .i64 1)) fun b1 =>
    byT b1 (XW C lo x21_1 (kX (XW C lo x21_2 Q) Q) ((6, .bool b1) :: e) h) (XW C lo .skip (kX (XW C lo x21_2 Q) Q) ((6, .bool b1) :: e) h) := nrfl (by kernel_rfl)

/-! ### chancery/chancerykit.SameBytes -/
def r16_0 : List SI := [⟨some 4, (.assign (.const (.bool false))), none⟩]
def r16_1 : List SI := [⟨some 6, (.move (.tmp 0)), none⟩,
  ⟨some 7, (.call { callee := (.builtin .len), args := #[(.tmp 6)], argTypes := #[22] }), none⟩,
  ⟨some 8, (.move (.tmp 1)), none⟩,
  ⟨some 9, (.call { callee := (.builtin .len), args := #[(.tmp 8)], argTypes := #[22] }), none⟩,
  ⟨some 10, (.binOp .neq 3 (.tmp 7) (.tmp 9) 3), none⟩]
def r16_2 : List SI := [⟨some 4, (.assign (.const (.bool false))), none⟩]
def x16_1 : X := .ops r16_2 [4] .ret
def r16_3 : List SI := [⟨some 5, (.assign (.const (.int .i64 0))), none⟩]
def r16_4 : List SI := [⟨some 11, (.move (.tmp 5)), none⟩,
  ⟨some 12, (.move (.tmp 0)), none⟩,
  ⟨some 13, (.call { callee := (.builtin .len), args := #[(.tmp 12)], argTypes := #[22] }), none⟩,
  ⟨some 14, (.binOp .lss 3 (.tmp 11) (.tmp 13) 3), none⟩]
def r16_6a : List SI := [⟨some 17, (.move (.tmp 0)), none⟩,
  ⟨some 18, (.move (.tmp 5)), none⟩,
  ⟨some 19, (.indexAddr 22 (.tmp 17) (.tmp 18)), none⟩,
  ⟨some 20, (.load 5 (.tmp 19)), none⟩,
  ⟨some 21, (.move (.tmp 1)), none⟩,
  ⟨some 22, (.move (.tmp 5)), none⟩,
  ⟨some 23, (.indexAddr 22 (.tmp 21) (.tmp 22)), none⟩,
  ⟨some 24, (.load 5 (.tmp 23)), none⟩]
def r16_6b : List SI := [⟨some 25, (.binOp .neq 5 (.tmp 20) (.tmp 24) 5), none⟩]
def r16_7 : List SI := [⟨some 4, (.assign (.const (.bool false))), none⟩]
def x16_7 : X := .ops r16_7 [4] .ret
def x16_6 : X := .front false r16_6a r16_6b [25] (.cond (.tmp 25) x16_7 .skip .skip)
def r16_5 : List SI := [⟨some 15, (.move (.tmp 5)), none⟩,
  ⟨some 16, (.binOp .add 3 (.tmp 15) (.const (.int .i64 1)) 3), none⟩,
  ⟨some 5, (.assign (.tmp 16)), none⟩]
def x16_8 : X := .trim [0, 1, 5] (.ops r16_5 [5] .skip)
def x16_5 : X := .block 1 x16_6 x16_8
def x16_4 : X := .ops r16_4 [14] (.cond (.tmp 14) .skip (.exit 0) x16_5)
def x16_3 : X := .loop [0, 1, 5] x16_4
def r16_8 : List SI := [⟨some 4, (.assign (.const (.bool true))), none⟩]
def x16_9 : X := .trim [] (.ops r16_8 [4] .ret)
def x16_2 : X := .ops r16_3 [5] (.block 0 x16_3 x16_9)
def x16_0 : X := .ops r16_0 [] (.ops r16_1 [10] (.cond (.tmp 10) x16_1 .skip x16_2))
def n16 : Ann := .ops [] (.ops [10] (.cond (.ops [4] .stop) .stop (.ops [5] (.block [] (.loop [0, 1, 5] (.ops [14] (.cond .stop .stop (.block [0, 1, 5] (.ops [25] (.cond (.ops [4] .stop) .stop .stop)) (.trim [0, 1, 5] (.ops [5] .stop)))))) (.trim [] (.ops [4] .stop))))))
theorem ok16 : annFn Tryd.f16 2 n16 = some x16_0 := by kernel_rfl
noncomputable def kF16 (K : V → H → Prop) : XQ := kFnX C.P Tryd.f16.results.toList K
theorem e16_nx {K : V → H → Prop} {e : E} {h : H} : kF16 K .nx e h = K (E.get e 4) h := nrfl (by kernel_rfl)
theorem e16_rt {K : V → H → Prop} {e : E} {h : H} : kF16 K .rt e h = K (E.get e 4) h := nrfl (by kernel_rfl)
theorem enter16 {lo : Nat} {h : H} {vs : List V} {K : V → H → Prop} (hl : vs.length = 2) (hw : XW C lo x16_0 (kF16 K) (args 0 vs) h) : CW C 16 vs lo h K := by
  refine CW_X hS rfl Tryd.func16 ok16 hl ?_ hw
  rw [Tryd.ntmps16]
  decide
theorem q16_1 {lo : Nat} {Q : XQ} {e : E} {h : H} : XW C lo x16_1 Q e h =
    Q .rt ((4, .bool false) :: e) h := nrfl (by kernel_rfl)
theorem q16_7 {lo : Nat} {Q : XQ} {e : E} {h : H} : XW C lo x16_7 Q e h =
    Q .rt ((4, .bool false) :: e) h := nrfl (by kernel_rfl)
theorem q16_6 {lo : Nat} {Q : XQ} {e : E} {h : H} : XW C lo x16_6 Q e h =
    bd (addrV Tryd.prog 22 (E.get e 0) (E.get e 5)) fun t1 =>
    bd (loadV Tryd.prog 5 t1 (H.read h)) fun t2 =>
    bd (addrV Tryd.prog 22 (E.get e 1) (E.get e 5)) fun t3 =>
    bd (loadV Tryd.prog 5 t3 (H.read h)) fun t4 =>
    bdB (binV Tryd.prog .neq 5 t2 t4) fun b5 =>
    byT b5 (XW C lo x16_7 (kX (XW C lo .skip Q) Q) ((25, .bool b5) :: e) h) (XW C lo .skip (kX (XW C lo .skip Q) Q) ((25, .bool b5) :: e) h) := nrfl (by kernel_rfl)
theorem q16_8 {lo : Nat} {Q : XQ} {e : E} {h : H} : XW C lo x16_8 Q e h =
    bd (binV Tryd.prog .add 3 (E.get e 5) (.int .i64 1)) fun t1 =>
    Q .nx [(5, t1), (0, E.get e 0), (1, E.get e 1), (5, E.get e 5)] h := nrfl (by kernel_rfl)
theorem q16_5 {lo : Nat} {Q : XQ} {e : E} {h : H} : XW C lo x16_5 Q e h =
    XW C lo x16_6 (kXB 1 (XW C lo x16_8 Q) Q) e h := nrfl (by kernel_rfl)
theorem q16_4 {lo : Nat} {Q : XQ} {e : E} {h : H} : XW C lo x16_4 Q e h =
    bd (lenV Tryd.prog [22] (E.get e 0)) fun t1 =>
    bdB (binV Tryd.prog .lss 3 (E.get e 5) t1) fun b2 =>
    byT b2 (XW C lo .skip (kX (XW C lo x16_5 Q) Q) ((14, .bool b2) :: e) h) (XW C lo (.exit 0) (kX (XW C lo x16_5 Q) Q) ((14, .bool b2) :: e) h) := nrfl (by kernel_rfl)
theorem q16_3 {lo : Nat} {Q : XQ} {e : E} {h : H} : XW C lo x16_3 Q e h =
    ∃ n, loopX [0, 1, 5] (XW C lo x16_4) Q n e h := nrfl (by kernel_rfl)
theorem q16_9 {lo : Nat} {Q : XQ} {e : E} {h : H} : XW C lo x16_9 Q e h =
    Q .rt [(4, .bool true)] h := nrfl (by kernel_rfl)
theorem z16_2 {lo : Nat} {Q : XQ} {Z : E → H → Prop} {e : E} {h : H} : LX C lo r16_3 (fun e1 h1 => Z (outs [5] e1 e) h1) e h =
    Z ((5, .int .i64 0) :: e) h := nrfl (by kernel_rfl)
theorem q16_2 {lo : Nat} {Q : XQ} {e : E} {h : H} : XW C lo x16_2 Q e h =
    XW C lo x16_3 (kXB 0 (XW C lo x16_9 Q) Q) ((5, .int .i64 0) :: e) h :=
  (opsblkCodeQ (l := r16_3) (out := [5]) (id := 0) (b := x16_3) (k := x16_9)).trans (z16_2 (Q := Q) (Z := fun e1 h1 => XW C lo x16_3 (kXB 0 (XW C lo x16_9 Q) Q) e1 h1))
theorem q16_0 {lo : Nat} {Q : XQ} {e : E} {h : H} : XW C lo x16_0 Q e h =
    bd (lenV Tryd.prog [22] (E.get e 0)) fun t1 =>
    bd (lenV Tryd.prog [22] (E.get e 1)) fun t2 =>
    bdB (binV Tryd.prog .neq 3 t1 t2) fun b3 =>
    byT b3 (XW C lo x16_1 (kX (XW C lo x16_2 Q) Q) ((10, .bool b3) :: e) h) (XW C lo .skip (kX (XW C lo x16_2 Q) Q) ((10, .bool b3) :: e) h) := nrfl (by kernel_rfl)

/-! ### chancery/chancerylaw28.awake -/
def r13_0 : List SI := [⟨some 0, (.assign (.const (.bool false))), none⟩]
def r13_1 : List SI := [⟨some 2, (.buildSlice 22 3 #[(0, (.const (.int .u8 97))), (1, (.const (.int .u8 98))), (2, (.const (.int .u8 99)))]), none⟩,
  ⟨some 3, (.convert 22 22 (.tmp 2)), none⟩,
  ⟨some 4, (.call { callee := (.value (.func 8)), args := #[(.tmp 3)], argTypes := #[22] }), none⟩,
  ⟨some 1, (.alloc 24), none⟩,
  ⟨none, (.store 24 (.tmp 1) (.tmp 4)), none⟩]
def r13_2 : List SI := [⟨some 5, (.indexAddr 24 (.tmp 1) (.const (.int .i64 0))), none⟩,
  ⟨some 6, (.load 5 (.tmp 5)), none⟩,
  ⟨some 7, (.binOp .eql 5 (.tmp 6) (.const (.int .u8 186)) 5), none⟩,
  ⟨some 8, (.move (.tmp 7)), none⟩,
  ⟨some 9, (.indexAddr 24 (.tmp 1) (.const (.int .i64 1))), some (some 8, true)⟩,
  ⟨some 10, (.load 5 (.tmp 9)), some (some 8, true)⟩,
  ⟨some 11, (.binOp .eql 5 (.tmp 10) (.const (.int .u8 120)) 5), some (some 8, true)⟩,
  ⟨some 12, (.pick (.tmp 8) (.tmp 11) (.const (.bool false))), none⟩,
  ⟨some 13, (.move (.tmp 12)), none⟩,
  ⟨some 14, (.indexAddr 24 (.tmp 1) (.const (.int .i64 31))), some (some 13, true)⟩,
  ⟨some 15, (.load 5 (.tmp 14)), some (some 13, true)⟩,
  ⟨some 16, (.binOp .eql 5 (.tmp 15) (.const (.int .u8 173)) 5), some (some 13, true)⟩,
  ⟨some 17, (.pick (.tmp 13) (.tmp 16) (.const (.bool false))), none⟩,
  ⟨some 18, (.move (.tmp 17)), none⟩,
  ⟨some 19, (.call { callee := (.value (.func 14)), args := #[(.const (.string { data := #[107] })), (.const (.int .i64 1)), (.const (.string { data := #[114] })), (.const (.int .u64 7))], argTypes := #[9, 3, 9, 29] }), some (some 18, true)⟩,
  ⟨some 20, (.call { callee := (.value (.func 19)), args := #[(.const (.string { data := #[107] })), (.const (.int .i64 1)), (.const (.string { data := #[114] })), (.const (.int .u64 7)), (.tmp 19)], argTypes := #[9, 3, 9, 29, 22] }), some (some 18, true)⟩,
  ⟨some 21, (.pick (.tmp 18) (.tmp 20) (.const (.bool false))), none⟩,
  ⟨some 0, (.assign (.tmp 21)), none⟩]
def x13_0 : X := .ops r13_0 [] (.ops r13_1 [1] (.ops r13_2 [0] .ret))
def n13 : Ann := .ops [] (.ops [1] (.ops [0] .stop))
theorem ok13 : annFn Tryd.f13 0 n13 = some x13_0 := by kernel_rfl
noncomputable def kF13 (K : V → H → Prop) : XQ := kFnX C.P Tryd.f13.results.toList K
theorem e13_nx {K : V → H → Prop} {e : E} {h : H} : kF13 K .nx e h = K (E.get e 0) h := nrfl (by kernel_rfl)
theorem e13_rt {K : V → H → Prop} {e : E} {h : H} : kF13 K .rt e h = K (E.get e 0) h := nrfl (by kernel_rfl)
theorem enter13 {lo : Nat} {h : H} {vs : List V} {K : V → H → Prop} (hl : vs.length = 0) (hw : XW C lo x13_0 (kF13 K) (args 0 vs) h) : CW C 13 vs lo h K := by
  refine CW_X hS rfl Tryd.func13 ok13 hl ?_ hw
  rw [Tryd.ntmps13]
  decide
theorem q13_0 {lo : Nat} {Q : XQ} {e : E} {h : H} : XW C lo x13_0 Q e h =
    bd (buildSliceV Tryd.prog 22 3 [(0, .int .u8 97), (1, .int .u8 98), (2, .int .u8 99)]) fun r1 => KX h (fun t2 h3 =>
    bd2 (markV Tryd.prog lo 22 t2 h3) fun t4 h5 =>
    CW C 8 [t4] lo h5 fun t6 h7 =>
    bd (zero? Tryd.prog 24) fun z8 =>
    bd (storeV Tryd.prog lo 24 (.ptr (H.next h7) 0) t6 (H.alloc h7 (V.cells z8))) fun h9 =>
    bd (addrV Tryd.prog 24 (.ptr (H.next h7) 0) (.int .i64 0)) fun t10 =>
    bd (loadV Tryd.prog 5 t10 (H.read h9)) fun t11 =>
    bdB (binV Tryd.prog .eql 5 t11 (.int .u8 186)) fun b12 =>
    byT b12 (bd (addrV Tryd.prog 24 (.ptr (H.next h7) 0) (.int .i64 1)) fun t13 =>
    bd (loadV Tryd.prog 5 t13 (H.read h9)) fun t14 =>
    bdB (binV Tryd.prog .eql 5 t14 (.int .u8 120)) fun b15 =>
    byT b15 (bd (addrV Tryd.prog 24 (.ptr (H.next h7) 0) (.int .i64 31)) fun t16 =>
    bd (loadV Tryd.prog 5 t16 (H.read h9)) fun t17 =>
    bdB (binV Tryd.prog .eql 5 t17 (.int .u8 173)) fun b18 =>
    byT b18 (CW C 14 [.str [107], .int .i64 1, .str [114], .int .u64 7] lo h9 fun t19 h20 =>
    CW C 19 [.str [107], .int .i64 1, .str [114], .int .u64 7, t19] lo h20 fun t21 h22 =>
    Q .rt ((0, t21) :: (1, .ptr (H.next h7) 0) :: e) h22) (Q .rt ((0, .bool false) :: (1, .ptr (H.next h7) 0) :: e) h9)) (Q .rt ((0, .bool false) :: (1, .ptr (H.next h7) 0) :: e) h9)) (Q .rt ((0, .bool false) :: (1, .ptr (H.next h7) 0) :: e) h9)) r1 := nrfl (by kernel_rfl)

/-! ### chancery/chancerylaw28.ProofHolds -/
def r5_0 : List SI := [⟨some 3, (.box 31 (.tmp 0)), none⟩,
  ⟨some 6, (.assign (.const (.bool false))), none⟩]
def r5_1 : List SI := [⟨some 9, (.fieldAddr 31 (.tmp 3) 0), none⟩,
  ⟨some 10, (.load 9 (.tmp 9)), none⟩,
  ⟨some 11, (.call { callee := (.builtin .len), args := #[(.tmp 10)], argTypes := #[9] }), none⟩,
  ⟨some 12, (.binOp .gtr 3 (.tmp 11) (.const (.int .i64 300)) 3), none⟩,
  ⟨some 13, (.move (.tmp 12)), none⟩,
  ⟨some 14, (.fieldAddr 31 (.tmp 3) 2), some (some 13, false)⟩,
  ⟨some 15, (.load 9 (.tmp 14)), some (some 13, false)⟩,
  ⟨some 16, (.call { callee := (.builtin .len), args := #[(.tmp 15)], argTypes := #[9] }), some (some 13, false)⟩,
  ⟨some 17, (.binOp .gtr 3 (.tmp 16) (.const (.int .i64 300)) 3), some (some 13, false)⟩,
  ⟨some 18, (.pick (.tmp 13) (.const (.bool true)) (.tmp 17)), none⟩]
def r5_2 : List SI := [⟨some 19, (.call { callee := (.value (.func 13)), args := #[], argTypes := #[] }), none⟩,
  ⟨some 6, (.assign (.tmp 19)), none⟩]
def x5_2 : X := .ops r5_2 [6] .ret
def r5_3 : List SI := [⟨some 20, (.fieldAddr 31 (.tmp 3) 0), none⟩,
  ⟨some 21, (.load 9 (.tmp 20)), none⟩,
  ⟨some 22, (.fieldAddr 31 (.tmp 3) 1), none⟩,
  ⟨some 23, (.load 3 (.tmp 22)), none⟩,
  ⟨some 24, (.fieldAddr 31 (.tmp 3) 2), none⟩,
  ⟨some 25, (.load 9 (.tmp 24)), none⟩,
  ⟨some 26, (.fieldAddr 31 (.tmp 3) 3), none⟩,
  ⟨some 27, (.load 29 (.tmp 26)), none⟩,
  ⟨some 28, (.call { callee := (.value (.func 14)), args := #[(.tmp 21), (.tmp 23), (.tmp 25), (.tmp 27)], argTypes := #[9, 3, 9, 29] }), none⟩,
  ⟨some 7, (.assign (.tmp 28)), none⟩]
def r5_4 : List SI := [⟨some 29, (.move (.tmp 7)), none⟩,
  ⟨some 30, (.call { callee := (.builtin .len), args := #[(.tmp 29)], argTypes := #[22] }), none⟩,
  ⟨some 31, (.binOp .neq 3 (.tmp 30) (.const (.int .i64 32)) 3), none⟩,
  ⟨some 32, (.move (.tmp 31)), none⟩,
  ⟨some 33, (.fieldAddr 31 (.tmp 3) 0), some (some 32, false)⟩,
  ⟨some 34, (.load 9 (.tmp 33)), some (some 32, false)⟩,
  ⟨some 35, (.fieldAddr 31 (.tmp 3) 1), some (some 32, false)⟩,
  ⟨some 36, (.load 3 (.tmp 35)), some (some 32, false)⟩,
  ⟨some 37, (.fieldAddr 31 (.tmp 3) 2), some (some 32, false)⟩,
  ⟨some 38, (.load 9 (.tmp 37)), some (some 32, false)⟩,
  ⟨some 39, (.fieldAddr 31 (.tmp 3) 3), some (some 32, false)⟩,
  ⟨some 40, (.load 29 (.tmp 39)), some (some 32, false)⟩,
  ⟨some 41, (.move (.tmp 7)), some (some 32, false)⟩,
  ⟨some 42, (.call { callee := (.value (.func 19)), args := #[(.tmp 34), (.tmp 36), (.tmp 38), (.tmp 40), (.tmp 41)], argTypes := #[9, 3, 9, 29, 22] }), some (some 32, false)⟩,
  ⟨some 43, (.unOp .not 4 (.tmp 42)), some (some 32, false)⟩,
  ⟨some 44, (.pick (.tmp 32) (.const (.bool true)) (.tmp 43)), none⟩]
def r5_5 : List SI := [⟨some 6, (.assign (.const (.bool false))), none⟩]
def x5_5 : X := .ops r5_5 [6] .ret
def r5_6 : List SI := [⟨some 45, (.fieldAddr 31 (.tmp 3) 0), none⟩,
  ⟨some 46, (.load 9 (.tmp 45)), none⟩,
  ⟨some 47, (.fieldAddr 31 (.tmp 3) 1), none⟩,
  ⟨some 48, (.load 3 (.tmp 47)), none⟩,
  ⟨some 49, (.fieldAddr 31 (.tmp 3) 2), none⟩,
  ⟨some 50, (.load 9 (.tmp 49)), none⟩,
  ⟨some 51, (.fieldAddr 31 (.tmp 3) 3), none⟩,
  ⟨some 52, (.load 29 (.tmp 51)), none⟩,
  ⟨some 53, (.move (.tmp 1)), none⟩,
  ⟨some 54, (.call { callee := (.value (.func 19)), args := #[(.tmp 46), (.tmp 48), (.tmp 50), (.tmp 52), (.tmp 53)], argTypes := #[9, 3, 9, 29, 22] }), none⟩,
  ⟨some 55, (.move (.tmp 1)), none⟩,
  ⟨some 56, (.move (.tmp 7)), none⟩,
  ⟨some 57, (.call { callee := (.value (.func 16)), args := #[(.tmp 55), (.tmp 56)], argTypes := #[22, 22] }), none⟩,
  ⟨some 58, (.binOp .neq 4 (.tmp 54) (.tmp 57) 4), none⟩]
def r5_7 : List SI := [⟨some 6, (.assign (.const (.bool false))), none⟩]
def x5_7 : X := .ops r5_7 [6] .ret
def r5_8 : List SI := [⟨some 59, (.move (.tmp 7)), none⟩,
  ⟨some 60, (.call { callee := (.value (.func 20)), args := #[(.tmp 59)], argTypes := #[22] }), none⟩,
  ⟨some 8, (.assign (.tmp 60)), none⟩]
def r5_9 : List SI := [⟨some 61, (.move (.tmp 2)), none⟩,
  ⟨some 62, (.call { callee := (.value (.func 21)), args := #[(.tmp 61), (.const (.int .i64 256))], argTypes := #[3, 3] }), none⟩,
  ⟨some 2, (.assign (.tmp 62)), none⟩]
def r5_10a : List SI := [⟨some 63, (.move (.tmp 8)), none⟩,
  ⟨some 64, (.move (.tmp 2)), none⟩,
  ⟨some 65, (.binOp .quo 3 (.tmp 64) (.const (.int .i64 8)) 3), none⟩,
  ⟨some 66, (.indexAddr 22 (.tmp 63) (.tmp 65)), none⟩,
  ⟨some 67, (.load 5 (.tmp 66)), none⟩,
  ⟨some 68, (.move (.tmp 2)), none⟩,
  ⟨some 69, (.binOp .rem 3 (.tmp 68) (.const (.int .i64 8)) 3), none⟩,
  ⟨some 70, (.binOp .shl 5 (.const (.int .u8 1)) (.tmp 69) 3), none⟩]
def r5_10b : List SI := [⟨some 71, (.binOp .xor 5 (.tmp 67) (.tmp 70) 5), none⟩,
  ⟨some 72, (.indexAddr 22 (.tmp 63) (.tmp 65)), none⟩,
  ⟨none, (.store 5 (.tmp 72) (.tmp 71)), none⟩]
def r5_11a : List SI := [⟨some 73, (.fieldAddr 31 (.tmp 3) 0), none⟩,
  ⟨some 74, (.load 9 (.tmp 73)), none⟩,
  ⟨some 75, (.fieldAddr 31 (.tmp 3) 1), none⟩,
  ⟨some 76, (.load 3 (.tmp 75)), none⟩,
  ⟨some 77, (.fieldAddr 31 (.tmp 3) 2), none⟩,
  ⟨some 78, (.load 9 (.tmp 77)), none⟩,
  ⟨some 79, (.fieldAddr 31 (.tmp 3) 3), none⟩,
  ⟨some 80, (.load 29 (.tmp 79)), none⟩,
  ⟨some 81, (.move (.tmp 8)), none⟩,
  ⟨some 82, (.call { callee := (.value (.func 19)), args := #[(.tmp 74), (.tmp 76), (.tmp 78), (.tmp 80), (.tmp 81)], argTypes := #[9, 3, 9, 29, 22] }), none⟩,
  ⟨some 83, (.unOp .not 4 (.tmp 82)), none⟩,
  ⟨some 84, (.move (.tmp 83)), none⟩,
  ⟨some 85, (.fieldAddr 31 (.tmp 3) 0), some (some 84, true)⟩,
  ⟨some 86, (.load 9 (.tmp 85)), some (some 84, true)⟩,
  ⟨some 87, (.fieldAddr 31 (.tmp 3) 1), some (some 84, true)⟩,
  ⟨some 88, (.load 3 (.tmp 87)), some (some 84, true)⟩,
  ⟨some 89, (.fieldAddr 31 (.tmp 3) 2), some (some 84, true)⟩,
  ⟨some 90, (.load 9 (.tmp 89)), some (some 84, true)⟩,
  ⟨some 91, (.fieldAddr 31 (.tmp 3) 3), some (some 84, true)⟩,
  ⟨some 92, (.load 29 (.tmp 91)), some (some 84, true)⟩,
  ⟨some 93, (.move (.tmp 7)), some (some 84, true)⟩,
  ⟨some 94, (.slice 22 (.tmp 93) none (some (.const (.int .i64 31))) none), some (some 84, true)⟩,
  ⟨some 95, (.call { callee := (.value (.func 19)), args := #[(.tmp 86), (.tmp 88), (.tmp 90), (.tmp 92), (.tmp 94)], argTypes := #[9, 3, 9, 29, 22] }), some (some 84, true)⟩,
  ⟨some 96, (.unOp .not 4 (.tmp 95)), some (some 84, true)⟩,
  ⟨some 97, (.pick (.tmp 84) (.tmp 96) (.const (.bool false))), none⟩,
  ⟨some 98, (.move (.tmp 97)), none⟩,
  ⟨some 99, (.fieldAddr 31 (.tmp 3) 0), some (some 98, true)⟩,
  ⟨some 100, (.load 9 (.tmp 99)), some (some 98, true)⟩,
  ⟨some 101, (.fieldAddr 31 (.tmp 3) 1), some (some 98, true)⟩,
  ⟨some 102, (.load 3 (.tmp 101)), some (some 98, true)⟩,
  ⟨some 103, (.fieldAddr 31 (.tmp 3) 2), some (some 98, true)⟩,
  ⟨some 104, (.load 9 (.tmp 103)), some (some 98, true)⟩,
  ⟨some 105, (.fieldAddr 31 (.tmp 3) 3), some (some 98, true)⟩,
  ⟨some 106, (.load 29 (.tmp 105)), some (some 98, true)⟩,
  ⟨some 107, (.move (.tmp 7)), some (some 98, true)⟩,
  ⟨some 108, (.buildSlice 22 1 #[(0, (.const (.int .u8 0)))]), some (some 98, true)⟩,
  ⟨some 109, (.call { callee := (.builtin .append), args := #[(.tmp 107), (.tmp 108)], argTypes := #[22, 22] }), some (some 98, true)⟩]
def r5_11b : List SI := [⟨some 110, (.call { callee := (.value (.func 19)), args := #[(.tmp 100), (.tmp 102), (.tmp 104), (.tmp 106), (.tmp 109)], argTypes := #[9, 3, 9, 29, 22] }), some (some 98, true)⟩,
  ⟨some 111, (.unOp .not 4 (.tmp 110)), some (some 98, true)⟩,
  ⟨some 112, (.pick (.tmp 98) (.tmp 111) (.const (.bool false))), none⟩,
  ⟨some 113, (.move (.tmp 112)), none⟩,
  ⟨some 114, (.call { callee := (.value (.func 13)), args := #[], argTypes := #[] }), some (some 113, true)⟩,
  ⟨some 115, (.pick (.tmp 113) (.tmp 114) (.const (.bool false))), none⟩,
  ⟨some 6, (.assign (.tmp 115)), none⟩]
def x5_8 : X := .ops r5_8 [8] (.ops r5_9 [2] (.front false r5_10a r5_10b [] (.front false r5_11a r5_11b [6] .ret)))
def x5_6 : X := .ops r5_6 [58] (.cond (.tmp 58) x5_7 .skip x5_8)
def x5_4 : X := .cond (.tmp 44) x5_5 .skip x5_6
def x5_3 : X := .ops r5_3 [7] (.ops r5_4 [44] x5_4)
def x5_1 : X := .cond (.tmp 18) x5_2 .skip x5_3
def x5_0 : X := .ops r5_0 [3] (.ops r5_1 [18] x5_1)
def n5 : Ann := .ops [3] (.ops [18] (.cond (.ops [6] .stop) .stop (.ops [7] (.ops [44] (.cond (.ops [6] .stop) .stop (.ops [58] (.cond (.ops [6] .stop) .stop (.ops [8] (.ops [2] (.ops [] (.ops [6] .stop)))))))))))
theorem ok5 : annFn Tryd.f5 3 n5 = some x5_0 := by kernel_rfl
noncomputable def kF5 (K : V → H → Prop) : XQ := kFnX C.P Tryd.f5.results.toList K
theorem e5_nx {K : V → H → Prop} {e : E} {h : H} : kF5 K .nx e h = K (E.get e 6) h := nrfl (by kernel_rfl)
theorem e5_rt {K : V → H → Prop} {e : E} {h : H} : kF5 K .rt e h = K (E.get e 6) h := nrfl (by kernel_rfl)
theorem enter5 {lo : Nat} {h : H} {vs : List V} {K : V → H → Prop} (hl : vs.length = 3) (hw : XW C lo x5_0 (kF5 K) (args 0 vs) h) : CW C 5 vs lo h K := by
  refine CW_X hS rfl Tryd.func5 ok5 hl ?_ hw
  rw [Tryd.ntmps5]
  decide
theorem q5_2 {lo : Nat} {Q : XQ} {e : E} {h : H} : XW C lo x5_2 Q e h =
    CW C 13 [] lo h fun t1 h2 =>
    Q .rt ((6, t1) :: e) h2 := nrfl (by kernel_rfl)
theorem q5_5 {lo : Nat} {Q : XQ} {e : E} {h : H} : XW C lo x5_5 Q e h =
    Q .rt ((6, .bool false) :: e) h := nrfl (by kernel_rfl)
theorem q5_7 {lo : Nat} {Q : XQ} {e : E} {h : H} : XW C lo x5_7 Q e h =
    Q .rt ((6, .bool false) :: e) h := nrfl (by kernel_rfl)
theorem q5_8 {lo : Nat} {Q : XQ} {e : E} {h : H} : XW C lo x5_8 Q e h =
    CW C 20 [E.get e 7] lo h fun t1 h2 =>
    CW C 21 [E.get e 2, .int .i64 256] lo h2 fun t3 h4 =>
    bd (binV Tryd.prog .quo 3 t3 (.int .i64 8)) fun t5 =>
    bd (addrV Tryd.prog 22 t1 t5) fun t6 =>
    bd (loadV Tryd.prog 5 t6 (H.read h4)) fun t7 =>
    bd (binV Tryd.prog .rem 3 t3 (.int .i64 8)) fun t8 =>
    bd (binV Tryd.prog .shl 5 (.int .u8 1) t8) fun t9 =>
    bd (binV Tryd.prog .xor 5 t7 t9) fun t10 =>
    bd (addrV Tryd.prog 22 t1 t5) fun t11 =>
    bd (storeV Tryd.prog lo 5 t11 t10 h4) fun h12 =>
    bd (fieldAddrV Tryd.prog 31 (E.get e 3) 0) fun t13 =>
    bd (loadV Tryd.prog 9 t13 (H.read h12)) fun t14 =>
    bd (fieldAddrV Tryd.prog 31 (E.get e 3) 1) fun t15 =>
    bd (loadV Tryd.prog 3 t15 (H.read h12)) fun t16 =>
    bd (fieldAddrV Tryd.prog 31 (E.get e 3) 2) fun t17 =>
    bd (loadV Tryd.prog 9 t17 (H.read h12)) fun t18 =>
    bd (fieldAddrV Tryd.prog 31 (E.get e 3) 3) fun t19 =>
    bd (loadV Tryd.prog 29 t19 (H.read h12)) fun t20 =>
    CW C 19 [t14, t16, t18, t20, t1] (H.next h12) h12 fun t21 h22 =>
    bd (unV .not t21) fun t23 =>
    byV t23 (bd (fieldAddrV Tryd.prog 31 (E.get e 3) 0) fun t24 =>
    bd (loadV Tryd.prog 9 t24 (H.read h22)) fun t25 =>
    bd (fieldAddrV Tryd.prog 31 (E.get e 3) 1) fun t26 =>
    bd (loadV Tryd.prog 3 t26 (H.read h22)) fun t27 =>
    bd (fieldAddrV Tryd.prog 31 (E.get e 3) 2) fun t28 =>
    bd (loadV Tryd.prog 9 t28 (H.read h22)) fun t29 =>
    bd (fieldAddrV Tryd.prog 31 (E.get e 3) 3) fun t30 =>
    bd (loadV Tryd.prog 29 t30 (H.read h22)) fun t31 =>
    bd (sliceV Tryd.prog (H.read h22) 22 (E.get e 7) none (some (.int .i64 31)) none) fun t32 =>
    CW C 19 [t25, t27, t29, t31, t32] (H.next h22) h22 fun t33 h34 =>
    bd (unV .not t33) fun t35 =>
    byV t35 (bd (fieldAddrV Tryd.prog 31 (E.get e 3) 0) fun t36 =>
    bd (loadV Tryd.prog 9 t36 (H.read h34)) fun t37 =>
    bd (fieldAddrV Tryd.prog 31 (E.get e 3) 1) fun t38 =>
    bd (loadV Tryd.prog 3 t38 (H.read h34)) fun t39 =>
    bd (fieldAddrV Tryd.prog 31 (E.get e 3) 2) fun t40 =>
    bd (loadV Tryd.prog 9 t40 (H.read h34)) fun t41 =>
    bd (fieldAddrV Tryd.prog 31 (E.get e 3) 3) fun t42 =>
    bd (loadV Tryd.prog 29 t42 (H.read h34)) fun t43 =>
    bd (buildSliceV Tryd.prog 22 1 [(0, .int .u8 0)]) fun r44 => KX h34 (fun t45 h46 =>
    endX h46 (E.get e 7) (bd2 (appendV Tryd.prog lo [22, 22] (E.get e 7) t45 h46) fun t47 h48 =>
    CW C 19 [t37, t39, t41, t43, t47] lo h48 fun t49 h50 =>
    bd (unV .not t49) fun t51 =>
    byV t51 (CW C 13 [] lo h50 fun t52 h53 =>
    Q .rt ((6, t52) :: (2, t3) :: (8, t1) :: e) h53) (Q .rt ((6, .bool false) :: (2, t3) :: (8, t1) :: e) h50) (False))) r44) (Q .rt ((6, .bool false) :: (2, t3) :: (8, t1) :: e) h34) (False)) (Q .rt ((6, .bool false) :: (2, t3) :: (8, t1) :: e) h22) (False) := nrfl (by kernel_rfl)
theorem q5_6 {lo : Nat} {Q : XQ} {e : E} {h : H} : XW C lo x5_6 Q e h =
    bd (fieldAddrV Tryd.prog 31 (E.get e 3) 0) fun t1 =>
    bd (loadV Tryd.prog 9 t1 (H.read h)) fun t2 =>
    bd (fieldAddrV Tryd.prog 31 (E.get e 3) 1) fun t3 =>
    bd (loadV Tryd.prog 3 t3 (H.read h)) fun t4 =>
    bd (fieldAddrV Tryd.prog 31 (E.get e 3) 2) fun t5 =>
    bd (loadV Tryd.prog 9 t5 (H.read h)) fun t6 =>
    bd (fieldAddrV Tryd.prog 31 (E.get e 3) 3) fun t7 =>
    bd (loadV Tryd.prog 29 t7 (H.read h)) fun t8 =>
    CW C 19 [t2, t4, t6, t8, E.get e 1] lo h fun t9 h10 =>
    CW C 16 [E.get e 1, E.get e 7] lo h10 fun t11 h12 =>
    bdB (binV Tryd.prog .neq 4 t9 t11) fun b13 =>
    byT b13 (XW C lo x5_7 (kX (XW C lo x5_8 Q) Q) ((58, .bool b13) :: e) h12) (XW C lo .skip (kX (XW C lo x5_8 Q) Q) ((58, .bool b13) :: e) h12) := nrfl (by kernel_rfl)
theorem q5_4 {lo : Nat} {Q : XQ} {e : E} {h : H} : XW C lo x5_4 Q e h =
    byV (E.get e 44) (XW C lo x5_5 (kX (XW C lo x5_6 Q) Q) e h) (XW C lo .skip (kX (XW C lo x5_6 Q) Q) e h) False := nrfl (by kernel_rfl)
theorem q5_3 {lo : Nat} {Q : XQ} {e : E} {h : H} : XW C lo x5_3 Q e h =
    bd (fieldAddrV Tryd.prog 31 (E.get e 3) 0) fun t1 =>
    bd (loadV Tryd.prog 9 t1 (H.read h)) fun t2 =>
    bd (fieldAddrV Tryd.prog 31 (E.get e 3) 1) fun t3 =>
    bd (loadV Tryd.prog 3 t3 (H.read h)) fun t4 =>
    bd (fieldAddrV Tryd.prog 31 (E.get e 3) 2) fun t5 =>
    bd (loadV Tryd.prog 9 t5 (H.read h)) fun t6 =>
    bd (fieldAddrV Tryd.prog 31 (E.get e 3) 3) fun t7 =>
    bd (loadV Tryd.prog 29 t7 (H.read h)) fun t8 =>
    CW C 14 [t2, t4, t6, t8] lo h fun t9 h10 =>
    bd (lenV Tryd.prog [22] t9) fun t11 =>
    bdB (binV Tryd.prog .neq 3 t11 (.int .i64 32)) fun b12 =>
    byT b12 (XW C lo x5_5 (kX (XW C lo x5_6 Q) Q) ((44, .bool true) :: (7, t9) :: e) h10) (bd (fieldAddrV Tryd.prog 31 (E.get e 3) 0) fun t13 =>
    bd (loadV Tryd.prog 9 t13 (H.read h10)) fun t14 =>
    bd (fieldAddrV Tryd.prog 31 (E.get e 3) 1) fun t15 =>
    bd (loadV Tryd.prog 3 t15 (H.read h10)) fun t16 =>
    bd (fieldAddrV Tryd.prog 31 (E.get e 3) 2) fun t17 =>
    bd (loadV Tryd.prog 9 t17 (H.read h10)) fun t18 =>
    bd (fieldAddrV Tryd.prog 31 (E.get e 3) 3) fun t19 =>
    bd (loadV Tryd.prog 29 t19 (H.read h10)) fun t20 =>
    CW C 19 [t14, t16, t18, t20, t9] lo h10 fun t21 h22 =>
    bd (unV .not t21) fun t23 =>
    byV t23 (XW C lo x5_5 (kX (XW C lo x5_6 Q) Q) ((44, t23) :: (7, t9) :: e) h22) (XW C lo .skip (kX (XW C lo x5_6 Q) Q) ((44, t23) :: (7, t9) :: e) h22) False) := nrfl (by kernel_rfl)
theorem q5_1 {lo : Nat} {Q : XQ} {e : E} {h : H} : XW C lo x5_1 Q e h =
    byV (E.get e 18) (XW C lo x5_2 (kX (XW C lo x5_3 Q) Q) e h) (XW C lo .skip (kX (XW C lo x5_3 Q) Q) e h) False := nrfl (by kernel_rfl)
theorem q5_0 {lo : Nat} {Q : XQ} {e : E} {h : H} : XW C lo x5_0 Q e h =
    bd (fieldAddrV Tryd.prog 31 (.ptr (H.next h) 0) 0) fun t1 =>
    bd (loadV Tryd.prog 9 t1 (H.read (H.alloc h (V.cells (E.get e 0))))) fun t2 =>
    bd (lenV Tryd.prog [9] t2) fun t3 =>
    bdB (binV Tryd.prog .gtr 3 t3 (.int .i64 300)) fun b4 =>
    byT b4 (XW C lo x5_2 (kX (XW C lo x5_3 Q) Q) ((18, .bool true) :: (3, .ptr (H.next h) 0) :: e) (H.alloc h (V.cells (E.get e 0)))) (bd (fieldAddrV Tryd.prog 31 (.ptr (H.next h) 0) 2) fun t5 =>
    bd (loadV Tryd.prog 9 t5 (H.read (H.alloc h (V.cells (E.get e 0))))) fun t6 =>
    bd (lenV Tryd.prog [9] t6) fun t7 =>
    bdB (binV Tryd.prog .gtr 3 t7 (.int .i64 300)) fun b8 =>
    byT b8 (XW C lo x5_2 (kX (XW C lo x5_3 Q) Q) ((18, .bool b8) :: (3, .ptr (H.next h) 0) :: e) (H.alloc h (V.cells (E.get e 0)))) (XW C lo .skip (kX (XW C lo x5_3 Q) Q) ((18, .bool b8) :: (3, .ptr (H.next h) 0) :: e) (H.alloc h (V.cells (E.get e 0))))) := nrfl (by kernel_rfl)

end Go.Proofs.YtghmbmblhdgabaaDoor.Code
