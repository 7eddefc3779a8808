/- Bytes that are lent, a reader's copy. -/
import Derived.Test.YtghmbmblhdgabaaW6a
import Derived.Test.YtghmbmblhdgabaaCodeF
set_option linter.all false
namespace Go.Proofs.Ytghmbmblhdgabaa
open Go Go.Den Code
set_option maxRecDepth 100000
/-- how many places a slice surely has -/
def capLow (c : Option Nat) : Nat := match c with
  | some k => if k < 9223372036854775808 then k else k - 9223372036854775808
  | none => 0
theorem capLow_le (c : Option Nat) (n : Nat) : capLow c ≤ capOf c n := by
  cases c with
  | none => exact Nat.zero_le _
  | some k => exact Nat.le_max_right _ _
theorem capUp_low (c : Option Nat) (n : Nat) (hf : ∀ k, c = some k → k < 9223372036854775808 → n ≤ k) : n ≤ capLow (capUp c n) := by
  cases c with
  | none => unfold capLow capUp; simp only; split <;> omega
  | some k =>
    have h := hf k rfl
    unfold capLow capUp
    simp only
    split
    · rename_i h1
      exact h h1
    · rename_i h1
      split <;> omega
theorem append_cap {P : Program} {h h' : H} {lo : Nat} {t u e es by_ n m : Nat} {s x v : V} {cs xs : List V} {F : Option Nat} (T : ApT P t u e es by_) (hb : Buf h lo es s n cs F) (hx : elems h.read es x = some (m, xs)) (hsc : xs.all scal = true) (hm : m ≠ 0)
    (ha : appendV P lo [t, u] s x h = some (v, h')) : ∃ b c, v = .sl b 0 (n + m) c es ∧ n + m ≤ capLow c := by
  rw [append_tail T hx hsc] at ha
  rcases hb with ⟨rfl, rfl, rfl, rfl⟩ | ⟨b, c, f, low, rfl, ho, hl, rfl⟩
  · simp only [apTail] at ha
    rw [if_neg hm] at ha
    split at ha
    · cases ha
      exact ⟨_, _, by rw [Nat.zero_add], by rw [Nat.zero_add]; exact capUp_low none m fun _ h => by cases h⟩
    · cases ha
  · simp only [apTail] at ha
    rw [if_neg (by simp), if_neg hm] at ha
    split at ha
    · split at ha
      · split at ha
        · split at ha
          · cases ha
            exact ⟨_, _, rfl, capUp_low none (n + m) fun _ h => by cases h⟩
          · cases ha
        · cases ha
      · rename_i hf
        split at ha
        · split at ha
          · cases ha
            refine ⟨_, _, rfl, capUp_low c (n + m) fun k hk _ => ?_⟩
            subst hk
            simp [forced] at hf
            omega
          · cases ha
        · cases ha
    · cases ha
theorem slice_up {P : Program} {t e es : Nat} (T : SlT P t e es) {rd : Rd} {b o n : Nat} {c : Option Nat} {hi : Nat} {k : IntKind} (h1 : hi ≤ capOf c n) :
    sliceV P rd t (.sl b o n c es) none (some (.int k (hi : Int))) none = some (.sl b o hi c es) := by
  unfold sliceV
  simp only [T.u, T.s, if_true, bound_none, bound_ok h1]
  simp [capSub_zero]
/-- bytes with two more behind them -/
def Lent (h : H) (lo : Nat) (v : V) (f : Nat) (xs : List UInt8) : Prop := ∃ b c, v = .sl b 0 xs.length c 1 ∧ xs.length + 2 ≤ capLow c ∧ Own h lo b f ((xs ++ [77, 78]).map byteV)
theorem Lent.ch {h h' : H} {lo : Nat} {v : V} {f : Nat} {xs : List UInt8} {X Y : Nat → Prop} (l : Lent h lo v f xs) (a : Ch X Y h h') (hf : ¬ Y f) : Lent h' lo v f xs := by
  obtain ⟨b, c, h1, h2, h3⟩ := l
  exact ⟨b, c, h1, h2, h3.ch a hf⟩
theorem Lent.bytes {h : H} {lo : Nat} {v : V} {f : Nat} {xs : List UInt8} (wf : HWF h) (l : Lent h lo v f xs) : Bytes h.read v xs := by
  obtain ⟨b, c, rfl, _, h3⟩ := l
  exact .inr ⟨b, 0, c, _, rfl, h3.read wf, by simp, by simp⟩
theorem bld22_2' (a b : UInt8) : buildSliceV Try.prog 22 2 [(0, byteV a), (1, byteV b)] = some (.new [byteV a, byteV b] (.sl 2 (some 2) 1)) := by
  unfold byteV
  kernel_rfl
theorem bld22_77 : buildSliceV Try.prog 22 2 [(0, .int .u8 77), (1, .int .u8 78)] = some (.new [byteV 77, byteV 78] (.sl 2 (some 2) 1)) := bld22_2' 77 78
theorem lent {a : V} {h : H} {xs : List UInt8} {lo : Nat} (wf : HWF h) (hlo : lo ≤ h.next) (ha : Bytes h.read a xs) (hx : xs.length ≤ 1048576) : CW C 18 [a] lo h fun v h' => ∃ f, Lent h' lo v f xs ∧ h.next ≤ f ∧ Ch None_ None_ h h' := by
  refine enter18 rfl ?_
  simp only [q18_0, sx, reduceIte, Nat.reduceEqDiff, Nat.reduceAdd]
  refine (copyBytes wf hlo ha (by omega)).mono ?_
  rintro v1 h1 ⟨⟨F1, nb1, nb2⟩, c1⟩
  have cA := ch_alloc c1.wf [byteV 77, byteV 78]
  have bA : Buf (h1.alloc [byteV 77, byteV 78]) h.next 1 v1 xs.length (xs.map byteV) F1 := Buf.ch nb1 cA fun _ _ h => h
  have bA' : Buf (h1.alloc [byteV 77, byteV 78]) lo 1 v1 xs.length (xs.map byteV) F1 := Buf.lower hlo bA
  have hel : elems (h1.alloc [byteV 77, byteV 78]).read 1 (.sl h1.next 0 2 (some 2) 1) = some (2, [byteV 77, byteV 78]) := elems_new (c := some 2) c1.wf (n := 2) (es := 1) rfl
  obtain ⟨v2, h2, F2, e1, e2, e3, e4, _⟩ := append_ch a22 cA.wf (Nat.le_trans hlo (Nat.le_trans c1.next cA.next)) bA' hel rfl rfl (by omega) (by omega)
  obtain ⟨b, c, rfl, hc⟩ := append_cap a22 bA' hel rfl (by decide) e1
  have hlen := ha.len t22
  have hs := slice_up (P := Try.prog) (rd := h2.read) t22 (b := b) (o := 0) (n := xs.length + 2) (c := c) (hi := xs.length) (k := .i64) (Nat.le_trans (by omega) (capLow_le c (xs.length + 2)))
  simp only [bld22_77, sx, reduceIte, Nat.reduceEqDiff, Nat.reduceAdd, e1, hlen, hs, e18_rt]
  rcases e2 with ⟨h, _⟩ | ⟨b', c', f, low, h3, h4, h5, h6⟩
  · cases h
  · cases h3
    have hf : h.next ≤ f := by
      rcases e4 f h6 with h | h
      · exact nb2 f h
      · have := c1.next; have := cA.next; omega
    refine ⟨f, ⟨b, c, rfl, hc, ⟨low, by rw [h4]; simp [byteV]⟩⟩, hf, ((c1.trans cA).mono (fun _ h => h) (None_sub _)).trans e3 |>.old wf (fun _ h _ => h) fun g h1 h2 => ?_⟩
    have := nb2 g h1
    omega
theorem kept {v a : V} {h : H} {f : Nat} {xs : List UInt8} {lo lo' : Nat} (wf : HWF h) (hv : Lent h lo' v f xs) (ha : Bytes h.read a xs) (hx : xs.length ≤ 1048576) : CW C 20 [v, a] lo h fun v h' => v = .bool true ∧ h' = h := by
  have hb := hv.bytes wf
  obtain ⟨b, c, rfl, hc, o⟩ := hv
  have all : Bytes h.read (.sl b 0 (xs.length + 2) c 1) (xs ++ [77, 78]) := .inr ⟨b, 0, c, _, by simp, o.read wf, by simp, by rw [List.drop_zero, List.take_of_length_le (by simp)]⟩
  have hs := slice_up (P := Try.prog) (rd := h.read) t22 (b := b) (o := 0) (n := xs.length) (c := c) (hi := xs.length + 2) (k := .i64) (Nat.le_trans hc (capLow_le c _))
  have ha2 := add64 (a := xs.length) (b := 2) (by omega)
  have ha1 := add64 (a := xs.length) (b := 1) (by omega)
  simp only [Int.cast_ofNat_Int] at ha2 ha1
  obtain ⟨p, p1, p2⟩ := all.at t22 c5 (i := xs.length) (by simp) (k := .i64)
  obtain ⟨q, q1, q2⟩ := all.at t22 c5 (i := xs.length + 1) (by simp) (k := .i64)
  have g0 : (xs ++ [77, 78])[xs.length]'(by simp) = (77 : UInt8) := by simp
  have g1 : (xs ++ [77, 78])[xs.length + 1]'(by simp) = (78 : UInt8) := by simp
  rw [g0] at p2
  rw [g1] at q2
  have k7 : binV Try.prog .eql 5 (byteV 77) (.int .u8 77) = some (.bool (decide ((77 : UInt8) = 77))) := byte_eql 5 77 77
  have k8 : binV Try.prog .eql 5 (byteV 78) (.int .u8 78) = some (.bool (decide ((78 : UInt8) = 78))) := byte_eql 5 78 78
  refine enter20 rfl ?_
  simp only [q20_0, sx, reduceIte, Nat.reduceEqDiff, Nat.reduceAdd, hb.len t22, ha2, hs]
  refine (sameBytes hb ha (by omega)).mono ?_
  rintro _ h2 ⟨rfl, rfl⟩
  simp only [sx, reduceIte, Nat.reduceEqDiff, Nat.reduceAdd, decide_true, ha.len t22, p1, p2, k7, ha1, q1, q2, k8, e20_rt]
  exact ⟨trivial, trivial⟩
theorem b45 (br : Bool) {w : V} (i : IsSl w) : buildV Try.prog 45 [(0, w), (1, .bool br), (2, .bool true)] = some (.agg [w, .bool br, .bool true]) := by
  rcases i with rfl | ⟨b, o, n, c, es, rfl⟩ <;> kernel_rfl
theorem copyReader {h : H} {lo b f : Nat} {lv : V} {br : Bool} {ls : List UInt8} (wf : HWF h) (hlo : lo ≤ h.next) (hr : Rdr h lo b f lv br) (hl : Bytes h.read lv ls) (hls : ls.length ≤ 1048576) :
    CW C 19 [.ptr b 0] lo h fun v h' => ∃ b2 lv2, v = .ptr b2 0 ∧ Rdr h' lo b2 b2 lv2 br ∧ h.next ≤ b2 ∧ b2 < h'.next ∧ Bytes (h'.rb fun g => g < h.next ∨ g = b2) lv2 ls ∧ Ch None_ None_ h h' := by
  refine enter19 rfl ?_
  have hrd := hr.read wf
  simp only [q19_0, sx, reduceIte, Nat.reduceEqDiff, Nat.reduceAdd]
  refine (right hrd).mono ?_
  rintro _ h1 ⟨rfl, rfl⟩
  simp only [sx, reduceIte, Nat.reduceEqDiff, Nat.reduceAdd, Bool.not_true, q19_2, fa45_0, ld0 hrd]
  refine (clone wf (Nat.le_refl _) hl (by omega)).mono ?_
  rintro v2 h2 ⟨⟨F, nb1, nb2⟩, c2⟩
  have i : IsSl v2 := Sl.isSl (Buf.sl c2.wf nb1)
  have hrd2 := (hr.ch c2 fun h => h).read c2.wf
  have c3 := ch_alloc c2.wf [v2, .bool br, .bool true]
  have eC : (V.agg [v2, .bool br, .bool true]).cells = [v2, .bool br, .bool true] := rfl
  simp only [sx, reduceIte, Nat.reduceEqDiff, Nat.reduceAdd, fa45_1, ld1 hrd2, b45 br i, eC, e19_rt]
  have hn := c2.next
  refine ⟨h2.next, v2, rfl, ⟨_, owned_alloc_new (Nat.le_trans hlo hn)⟩, hn, Nat.lt_succ_self _, ?_, c2.trans c3⟩
  have hb : Bytes (h2.rb fun g => g < h1.next ∨ h2.next ≤ g) v2 ls := Buf.bytes c2.wf nb1 fun g hg hx => by
    have h1 := nb2 g hg
    have h2 := Buf.lt c2.wf nb1 hg
    rcases hx with hx | hx <;> omega
  exact (hb.mono (rb_mono fun g hg => by rcases hg with h | h; exact .inl h; exact .inr (by omega))).mono (c3.rb (None_sub _))
end Go.Proofs.Ytghmbmblhdgabaa
