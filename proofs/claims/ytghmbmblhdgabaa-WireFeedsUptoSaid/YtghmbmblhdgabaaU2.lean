/- What the functions of the reader come to. -/
import Derived.Test.YtghmbmblhdgabaaU1
set_option linter.all false
namespace Go.Proofs.Ytghmbmblhdgabaa
open Go Go.Den Code
set_option maxRecDepth 100000
theorem kind {k : UInt8} {h : H} {lo : Nat} : CW C 71 [byteV k] lo h fun v h' => v = .bool (decide (1 ≤ k.toNat ∧ k.toNat ≤ 9)) ∧ h' = h := by
  refine enter71 rfl ?_
  simp only [q71_0, sx, reduceIte, Nat.reduceEqDiff, Nat.reduceAdd, byteV]
  refine byT_dec (fun h1 => ?_) (fun h1 => ?_)
  · simp only [sx, reduceIte, Nat.reduceEqDiff, Nat.reduceAdd, e71_rt]
    have h1 : 1 ≤ k.toNat := by omega
    refine ⟨?_, trivial⟩
    congr 1
    simp only [h1, true_and]
    by_cases h2 : k.toNat ≤ 9
    · have : (k.toNat : Int) ≤ 9 := by omega
      simp [this, h2]
    · have : ¬ (k.toNat : Int) ≤ 9 := by omega
      simp [this, h2]
  · simp only [sx, reduceIte, Nat.reduceEqDiff, Nat.reduceAdd, e71_rt]
    have h1 : ¬ 1 ≤ k.toNat := by omega
    simp [h1]
theorem newReader {h : H} {lo : Nat} : CW C 11 [] lo h fun v h' => v = .ptr h.next 0 ∧ h' = h.alloc [.nils, .bool false, .bool true] := by
  refine enter11 rfl ?_
  have hb : buildV Try.prog 45 [(2, .bool true)] = some (.agg [.nils, .bool false, .bool true]) := by kernel_rfl
  simp only [q11_0, sx, reduceIte, Nat.reduceEqDiff, Nat.reduceAdd, e11_rt, hb, V.cells]
  exact ⟨trivial, trivial⟩
theorem fa45_0 (b : Nat) : fieldAddrV Try.prog 45 (.ptr b 0) 0 = some (.ptr b 0) := by kernel_rfl
theorem fa45_1 (b : Nat) : fieldAddrV Try.prog 45 (.ptr b 0) 1 = some (.ptr b 1) := by kernel_rfl
theorem fa45_2 (b : Nat) : fieldAddrV Try.prog 45 (.ptr b 0) 2 = some (.ptr b 2) := by kernel_rfl
theorem c4 : Sc Try.prog 4 := ⟨by kernel_rfl, by kernel_rfl⟩
theorem c22 : Sc Try.prog 22 := ⟨by kernel_rfl, by kernel_rfl⟩
theorem neq24 (b o : Nat) : binV Try.prog .neq 24 (.ptr b o) .nilp = some (.bool true) := by kernel_rfl
theorem eql24 (b o : Nat) : binV Try.prog .eql 24 (.ptr b o) .nilp = some (.bool false) := by kernel_rfl
section
variable {h : H} {b : Nat} {lv : V} {br md : Bool}
theorem ld0 (hr : h.read b = some [lv, .bool br, .bool md]) : loadV Try.prog 22 (.ptr b 0) h.read = some lv := loadV_one c22 hr rfl
theorem ld1 (hr : h.read b = some [lv, .bool br, .bool md]) : loadV Try.prog 4 (.ptr b 1) h.read = some (.bool br) := loadV_one c4 hr rfl
theorem ld2 (hr : h.read b = some [lv, .bool br, .bool md]) : loadV Try.prog 4 (.ptr b 2) h.read = some (.bool md) := loadV_one c4 hr rfl
theorem right {lo : Nat} (hr : h.read b = some [lv, .bool br, .bool md]) : CW C 44 [.ptr b 0] lo h fun v h' => v = .bool md ∧ h' = h := by
  refine enter44 rfl ?_
  simp only [q44_0, sx, reduceIte, Nat.reduceEqDiff, Nat.reduceAdd, e44_rt, neq24, fa45_2, ld2 hr]
  exact ⟨trivial, trivial⟩
def kindOk (k : UInt8) : Bool := decide (1 ≤ k.toNat ∧ k.toNat ≤ 9)
def wrongB (ls : List UInt8) : Bool := decide (4 ≤ ls.length) && (decide (num4 ls < 1) || (decide (8192 < num4 ls) || (decide (4 < ls.length) && !kindOk (ls.getD 4 0))))
theorem wrong {lo : Nat} {ls : List UInt8} (hr : h.read b = some [lv, .bool br, .bool md]) (hl : Bytes h.read lv ls) : CW C 45 [.ptr b 0] lo h fun v h' => v = .bool (wrongB ls) ∧ h' = h := by
  refine enter45 rfl ?_
  simp only [q45_0, sx, reduceIte, Nat.reduceEqDiff, Nat.reduceAdd, fa45_0, ld0 hr, hl.len t22]
  refine byT_dec (fun h4 => ?_) (fun h4 => ?_)
  · simp only [q45_1, sx, reduceIte, Nat.reduceEqDiff, Nat.reduceAdd, e45_rt]
    have : ¬ 4 ≤ ls.length := by omega
    simp [wrongB, this]
  · have h4 : 4 ≤ ls.length := by omega
    simp only [q45_2, sx, reduceIte, Nat.reduceEqDiff, Nat.reduceAdd, fa45_0, ld0 hr]
    refine (number hl h4).mono ?_
    rintro v h' ⟨rfl, rfl⟩
    simp only [sx, reduceIte, Nat.reduceEqDiff, Nat.reduceAdd]
    refine byT_dec (fun h1 => ?_) (fun h1 => ?_)
    · simp only [sx, reduceIte, Nat.reduceEqDiff, Nat.reduceAdd, e45_rt]
      have h1 : num4 ls < 1 := by omega
      simp [wrongB, h4, h1]
    · have h1 : ¬ num4 ls < 1 := by omega
      refine byT_dec (fun h2 => ?_) (fun h2 => ?_)
      · simp only [sx, reduceIte, Nat.reduceEqDiff, Nat.reduceAdd, e45_rt]
        have h2 : 8192 < num4 ls := by omega
        simp [wrongB, h4, h2]
      · have h2 : ¬ 8192 < num4 ls := by omega
        simp only [sx, reduceIte, Nat.reduceEqDiff, Nat.reduceAdd, fa45_0, ld0 hr, hl.len t22]
        refine byT_dec (fun h3 => ?_) (fun h3 => ?_)
        · have h3 : 4 < ls.length := by omega
          obtain ⟨p, p1, p2⟩ := hl.at t22 c5 h3 (k := .i64)
          simp only [Int.cast_ofNat_Int] at p1
          simp only [sx, reduceIte, Nat.reduceEqDiff, Nat.reduceAdd, fa45_0, ld0 hr, p1, p2]
          refine kind.mono ?_
          rintro v h'' ⟨rfl, rfl⟩
          simp only [sx, reduceIte, Nat.reduceEqDiff, Nat.reduceAdd, e45_rt]
          refine ⟨?_, trivial⟩
          congr 1
          have e4 : ls.getD 4 0 = ls[4] := by rw [List.getD_eq_getElem?_getD, List.getElem?_eq_getElem h3]; rfl
          simp [wrongB, h4, h1, h2, h3, kindOk]
        · have h3 : ¬ 4 < ls.length := by omega
          simp only [sx, reduceIte, Nat.reduceEqDiff, Nat.reduceAdd, e45_rt]
          simp [wrongB, h4, h1, h2, h3]
end
theorem nil22 : binV Try.prog .eql 22 .nils .nils = some (.bool true) := by kernel_rfl
theorem nonil22 (b o n : Nat) (c : Option Nat) (es : Nat) : binV Try.prog .eql 22 (.sl b o n c es) .nils = some (.bool false) := by kernel_rfl
theorem build22_0 : buildSliceV Try.prog 22 0 [] = some (.new [] (.sl 0 (some 0) 1)) := by kernel_rfl
theorem clone {a : V} {h : H} {xs : List UInt8} {lo : Nat} (wf : HWF h) (hlo : lo ≤ h.next) (ha : Bytes h.read a xs) (hx : xs.length < 100000000000) : CW C 47 [a] lo h fun v h' => NewBytes h h' v xs ∧ Ch None_ None_ h h' := by
  refine CW.low hS hlo (enter47 rfl ?_)
  rcases ha.isSl with rfl | ⟨b, o, n, c, es, rfl⟩
  · have h0 : xs = [] := by
      rcases ha with ⟨_, h2, _⟩ | ⟨_, _, _, _, h2, _⟩
      · exact List.eq_nil_of_length_eq_zero h2
      · cases h2
    subst h0
    simp only [q47_0, sx, reduceIte, Nat.reduceEqDiff, Nat.reduceAdd, nil22, q47_1, e47_rt]
    exact ⟨⟨none, .inl ⟨rfl, rfl, rfl, rfl⟩, fun g hg => by cases hg⟩, Ch.refl _ _ wf⟩
  · have c1 := ch_alloc wf []
    have ha1 : Bytes (h.alloc []).read _ xs := ((ha.mono (rb_none h)).mono (c1.rb (Z := None_) fun _ h => h)).mono (rb_le _ _)
    obtain ⟨v2, h2, F2, e1, e2, e3, e4, _⟩ := append_ch a22 c1.wf (Nat.le_of_lt (Nat.lt_succ_self h.next)) (Buf.new (h := h) (lo := h.next) (es := 1) (n := 0) (c := some 0) (cs := []) (Nat.le_refl _) rfl) ha1.elems (by simp) (bytes_scal xs) (by omega) (by omega)
    simp only [q47_0, sx, reduceIte, Nat.reduceEqDiff, Nat.reduceAdd, nonil22, q47_2, build22_0, e1, e47_rt]
    refine ⟨⟨F2, by simpa using e2, fun g hg => ?_⟩, ((c1.mono (None_sub _) (None_sub _)).trans e3).old wf (fun _ h _ => h) fun g h1 h2 => ?_⟩
    · rcases e4 g hg with h1 | h1
      · cases h1; exact Nat.le_refl _
      · have : (h.alloc []).next = h.next + 1 := rfl
        omega
    · cases h1; omega
/-! ### frames -/
abbrev Fm := UInt8 × List UInt8
def cut (ls : List UInt8) : List Fm × Option (List UInt8) :=
  if wrongB ls = true then ([], none)
  else if ls.length < 4 ∨ ls.length < 4 + num4 ls then ([], some ls)
  else ((ls.getD 4 0, (ls.drop 5).take (4 + num4 ls - 5)) :: (cut (ls.drop (4 + num4 ls))).1, (cut (ls.drop (4 + num4 ls))).2)
termination_by ls.length
decreasing_by all_goals (simp; omega)
/-- a frame whose body is its own -/
def frOwn (h : H) (lo : Nat) (G : Nat → Prop) (c : List V) (f : Fm) : Prop := ∃ w F, c = [byteV f.1, w] ∧ Buf h lo 1 w f.2.length (f.2.map byteV) F ∧ ∀ g, F = some g → G g
theorem frOwn.ch {h h' : H} {lo : Nat} {G X Y : Nat → Prop} {c : List V} {f : Fm} (a : Ch X Y h h') (hg : ∀ g, G g → ¬ Y g) (hf : frOwn h lo G c f) : frOwn h' lo G c f := by
  obtain ⟨w, F, h1, h2, h3⟩ := hf
  exact ⟨w, F, h1, h2.ch a fun g hF => hg g (h3 g hF), h3⟩
theorem frOwn.lt {h : H} {lo : Nat} {G : Nat → Prop} {c : List V} {f : Fm} (wf : HWF h) (hf : frOwn h lo G c f) : frOwn h lo (fun g => G g ∧ g < h.next) c f := by
  obtain ⟨w, F, h1, h2, h3⟩ := hf
  exact ⟨w, F, h1, h2, fun g hF => ⟨h3 g hF, h2.lt wf hF⟩⟩
theorem frOwn.imp {h : H} {lo : Nat} {G G' : Nat → Prop} {c : List V} {f : Fm} (hg : ∀ g, G g → G' g) (hf : frOwn h lo G c f) : frOwn h lo G' c f := by
  obtain ⟨w, F, h1, h2, h3⟩ := hf
  exact ⟨w, F, h1, h2, fun g hF => hg g (h3 g hF)⟩
theorem build42 (k : UInt8) {w : V} (i : IsSl w) : buildV Try.prog 42 [(0, byteV k), (1, w)] = some (.agg [byteV k, w]) := by
  unfold byteV
  rcases i with rfl | ⟨b, o, n, c, es, rfl⟩ <;> kernel_rfl
theorem s26 : SlT Try.prog 26 42 2 := ⟨Try.underlying26, by kernel_rfl⟩
theorem a26 : ApT Try.prog 26 26 42 2 32 := ⟨Try.underlying26, .inl ⟨42, Try.underlying26⟩, (Try.prog.info? 42).get (by kernel_rfl), .agg #[.int .u8 0, .slice none 0 0], by kernel_rfl, by kernel_rfl, by kernel_rfl, by kernel_rfl, by kernel_rfl⟩
theorem b26 : BsT Try.prog 26 42 2 := ⟨Try.underlying26, ⟨(Try.prog.info? 42).get (by kernel_rfl), .agg [.int .u8 0, .nils], by kernel_rfl, by kernel_rfl, by kernel_rfl, by kernel_rfl⟩, by decide⟩
theorem m22 : MkT Try.prog 22 5 1 1 [.int .u8 0] := ⟨Try.underlying22, ⟨(Try.prog.info? 5).get (by kernel_rfl), .int .u8 0, by kernel_rfl, by kernel_rfl, by kernel_rfl, by kernel_rfl, by kernel_rfl⟩, rfl⟩
theorem cp22 : CpT Try.prog 22 5 1 := ⟨Try.underlying22, by kernel_rfl, by decide⟩
theorem sz22 : size? Try.prog 22 = some 1 := by kernel_rfl
theorem sz4 : size? Try.prog 4 = some 1 := by kernel_rfl
end Go.Proofs.Ytghmbmblhdgabaa
