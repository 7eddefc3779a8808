/- Bytes taken off the front; the plain reading of a row. -/
import Derived.Test.YtghmbmblhdgabaaK4
set_option linter.all false
namespace Go.Proofs.Ytghmbmblhdgabaa
open Go Go.Den Code
set_option maxRecDepth 100000
/-- n bytes off the front: they, the rest, is all well? -/
def takeP (n : Nat) (l : List UInt8) (ok : Bool) : List UInt8 × List UInt8 × Bool := if l.length < n then (List.replicate n 0, l, false) else (l.take n, l.drop n, ok)
theorem takeP_len (n : Nat) (l : List UInt8) (ok : Bool) : (takeP n l ok).1.length = n := by
  unfold takeP
  split <;> simp
  omega
section
variable {h : H} {lo bl fl bo fo : Nat} {lv : V} {l : List UInt8} {ok : Bool} {Z X : Nat → Prop}
theorem take {n : Nat} (wf : HWF h) (oL : Own h lo bl fl [lv]) (oK : Own h lo bo fo [.bool ok]) (hl : Bytes (h.rb Z) lv l) (hne : fl ≠ fo) (zl : Z fl) (zo : Z fo) (hX : ∀ g, X g → Z g ∧ g < h.next) (hn : n ≤ 1000000000) :
    CW C 54 [.int .i64 (n : Int), .ptr bl 0, .ptr bo 0] lo h fun v h' => ∃ lv', Bytes (h'.rb X) v (takeP n l ok).1 ∧ Own h' lo bl fl [lv'] ∧ Bytes (h'.rb Z) lv' (takeP n l ok).2.1 ∧ Own h' lo bo fo [.bool (takeP n l ok).2.2] ∧
      Ch (fun g => g = fl ∨ g = fo) (fun g => g = fl ∨ g = fo) h h' := by
  refine enter54 rfl ?_
  have ld : loadV Try.prog 22 (.ptr bl 0) h.read = some lv := (oL.at wf).cell0 c22 rfl
  have hl' := hl.mono (rb_le _ _)
  simp only [q54_0, sx, reduceIte, Nat.reduceEqDiff, Nat.reduceAdd, ld, hl'.len t22]
  refine byT_dec (fun hgt => ?_) (fun hle => ?_)
  · have hgt : l.length < n := by omega
    obtain ⟨h1, s1, o1, c1, n1⟩ := oK.set (P := Try.prog) (t := 4) (o := 0) (w := .bool false) wf sz4 rfl rfl (by simp)
    have mk := make_ok (k := .i64) (k' := .i64) (n := n) (m := n) m22 (Nat.le_refl _) (by omega) (by omega)
    have c2 := ch_alloc c1.wf (reps n [V.int .u8 0])
    have oL1 := oL.ch c1 hne
    have e : takeP n l ok = (List.replicate n 0, l, false) := by unfold takeP; rw [if_pos hgt]
    simp only [q54_1, sx, reduceIte, Nat.reduceEqDiff, Nat.reduceAdd, s1, mk, e54_rt]
    rw [e]
    have hlo1 := (oL1.lt c1.wf).1
    refine ⟨lv, ?_, oL1.ch c2 fun h => h, (hl.mono (c1.rb fun g hg => hg ▸ zo)).mono (c2.rb (None_sub _)), o1.ch c2 fun h => h, (c1.mono (fun g h => .inr h) fun g h => .inr h).trans (c2.mono (None_sub _) (None_sub _))⟩
    have ho : (h1.alloc (reps n [V.int .u8 0])).owned lo h1.next = _ := owned_alloc_new hlo1
    refine .inr ⟨h1.next, 0, some n, reps n [V.int .u8 0], by simp, rb_owned c2.wf ho fun hx => ?_, ?_, ?_⟩
    · have := (hX _ hx).2
      omega
    · rw [reps_one]; simp
    · rw [reps_one]
      have e0 : byteV 0 = .int .u8 0 := rfl
      simp [e0]
  · have hle : n ≤ l.length := by omega
    have e : takeP n l ok = (l.take n, l.drop n, ok) := by unfold takeP; rw [if_neg (by omega)]
    obtain ⟨w, w1, w2⟩ := hl.to (rd' := h.read) t22 (hi := n) (k := .i64) hle
    obtain ⟨w', x1, x2⟩ := hl.from (rd' := h.read) t22 (lo := n) (k := .i64) hle
    obtain ⟨h1, s1, o1, c1, n1⟩ := oL.set (P := Try.prog) (t := 22) (o := 0) (w := w') wf sz22 x2.isSl.cells x2.isSl.scal (by simp)
    simp only [q54_2, sx, reduceIte, Nat.reduceEqDiff, Nat.reduceAdd, ld, w1, x1, s1, e54_rt]
    rw [e]
    have hz : ∀ g, g = fl → Z g := fun g hg => hg ▸ zl
    exact ⟨w', (w2.mono (c1.rb hz)).mono (rb_mono fun g hg => (hX g hg).1), o1, x2.mono (c1.rb hz), oK.ch c1 fun h => hne h.symm, c1.mono (fun g h => .inl h) fun g h => .inl h⟩
end
/-- a number out of its bytes -/
def accP (n : Int) (x : UInt8) : Int := IntKind.wrap .i64 (n * 256 + (x.toNat : Int))
def num8 (p : List UInt8) : Int := p.foldl accP 0
def bodyV (k : UInt8) (l : List UInt8) (ok : Bool) : Vl × List UInt8 × Bool :=
  if k.toNat = 1 then (⟨k, ((takeP 1 l ok).1.getD 0 0).toNat, []⟩, (takeP 1 l ok).2)
  else if k.toNat = 2 ∨ k.toNat = 3 then (⟨k, num8 (takeP 8 l ok).1, []⟩, (takeP 8 l ok).2)
  else if k.toNat = 4 ∨ k.toNat = 5 then (⟨k, 0, (takeP ((takeP 1 l ok).1.getD 0 0).toNat (takeP 1 l ok).2.1 (takeP 1 l ok).2.2).1⟩, (takeP ((takeP 1 l ok).1.getD 0 0).toNat (takeP 1 l ok).2.1 (takeP 1 l ok).2.2).2)
  else (⟨k, 0, []⟩, l, ok)
def stepV (l : List UInt8) (ok : Bool) : Vl × List UInt8 × Bool :=
  let r := bodyV ((takeP 1 l ok).1.getD 0 0) (takeP 1 l ok).2.1 (takeP 1 l ok).2.2
  (r.1, r.2.1, r.2.2 && rightV r.1)
def iterP : Nat → List UInt8 → Bool → List Vl × List UInt8 × Bool
  | 0, l, ok => ([], l, ok)
  | n + 1, l, ok => ((iterP n l ok).1 ++ [(stepV (iterP n l ok).2.1 (iterP n l ok).2.2).1], (stepV (iterP n l ok).2.1 (iterP n l ok).2.2).2)
def readP (b : List UInt8) : Option (List Vl) :=
  if 480 < b.length then none
  else if 12 < ((takeP 1 b true).1.getD 0 0).toNat then none
  else let r := iterP ((takeP 1 b true).1.getD 0 0).toNat (takeP 1 b true).2.1 (takeP 1 b true).2.2
    if r.2.2 = true ∧ r.2.1 = [] then some r.1 else none
end Go.Proofs.Ytghmbmblhdgabaa
