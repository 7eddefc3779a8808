/- Append, make, copy, slices of slices: what they leave, said without blocks. -/
import Derived.Test.YtghmbmblhdgabaaView2
set_option linter.all false
namespace Go.Den
open Go
variable {P : Program} {h h' h'' : H} {lo : Nat}

theorem read_lt (wf : HWF h) {b : Nat} {l : List V} (hr : h.read b = some l) : b < h.next := by
  rcases read_some hr with hg | ⟨_, _, _, hg, _⟩ <;> exact wf.lt _ _ hg
theorem append_ch {t u e es by_ n m : Nat} {s x : V} {cs xs : List V} {F : Option Nat} (T : ApT P t u e es by_) (wf : HWF h) (hlo : lo ≤ h.next) (hb : Buf h lo es s n cs F) (hx : elems h.read es x = some (m, xs)) (hxl : xs.length = m * es) (hsc : xs.all scal = true)
    (hroom : (n + m) * by_ ≤ 140737488355328) (hroom2 : n + m ≤ 9223372036854775807) :
    ∃ v h' F', appendV P lo [t, u] s x h = some (v, h') ∧ Buf h' lo es v (n + m) (cs ++ xs) F' ∧ Ch None_ (fun g => F = some g) h h' ∧ (∀ g, F' = some g → F = some g ∨ h.next ≤ g) ∧ (v = .nils → n + m = 0) := by
  obtain ⟨v, h', F', e1, e2, e3, e4, e5, e6, e7⟩ := append_buf T wf hlo hb hx hxl hsc hroom hroom2
  refine ⟨v, h', F', e1, e2, ch_keeps wf e3 e4 fun b l hr => ?_, e5, e6⟩
  unfold H.famOf
  rw [e7 b (read_lt wf hr)]
theorem append_of {α : Type} {Er : Rd → List V → α → Prop} {t u e es by_ : Nat} {s x : V} {r : Rd} {xs ys : List α} {ds : List (List V)} {F : Option Nat} (T : ApT P t u e es by_) (wf : HWF h) (hlo : lo ≤ h.next) (hb : BufOf Er es lo h r s xs F)
    (hx : elems h.read es x = some (ys.length, ds.flatten)) (w : Wide es ds) (he : Each (Er r) ds ys) (hsc : ds.flatten.all scal = true)
    (hroom : (xs.length + ys.length) * by_ ≤ 140737488355328) (hroom2 : xs.length + ys.length ≤ 9223372036854775807) :
    ∃ v h' F', appendV P lo [t, u] s x h = some (v, h') ∧ BufOf Er es lo h' r v (xs ++ ys) F' ∧ Ch None_ (fun g => F = some g) h h' ∧ (∀ g, F' = some g → F = some g ∨ h.next ≤ g) := by
  obtain ⟨cs, h1, h2, h3⟩ := hb
  obtain ⟨v, h', F', e1, e2, e3, e4, _⟩ := append_ch T wf hlo h2 hx (by rw [w.length, he.1]) hsc hroom hroom2
  refine ⟨v, h', F', e1, ⟨cs ++ ds, h1.append w, ?_, h3.append he⟩, e3, e4⟩
  rw [List.flatten_append, List.length_append]
  exact e2
theorem append_one {α : Type} {Er : Rd → List V → α → Prop} {t u e es by_ : Nat} {s x : V} {r : Rd} {xs : List α} {y : α} {d : List V} {F : Option Nat} (T : ApT P t u e es by_) (wf : HWF h) (hlo : lo ≤ h.next) (hb : BufOf Er es lo h r s xs F)
    (hx : elems h.read es x = some (1, d)) (w : d.length = es) (he : Er r d y) (hsc : d.all scal = true)
    (hroom : (xs.length + 1) * by_ ≤ 140737488355328) (hroom2 : xs.length + 1 ≤ 9223372036854775807) :
    ∃ v h' F', appendV P lo [t, u] s x h = some (v, h') ∧ BufOf Er es lo h' r v (xs ++ [y]) F' ∧ Ch None_ (fun g => F = some g) h h' ∧ (∀ g, F' = some g → F = some g ∨ h.next ≤ g) := by
  have e1 : Each (Er r) [d] [y] := (Each.nil (Er r)).snoc he
  exact append_of (ds := [d]) (ys := [y]) T wf hlo hb (by simpa using hx) (fun c hc => by simp at hc; subst hc; exact w) e1 (by simpa using hsc) hroom hroom2

/-! ### make, copy -/
structure MkT (P : Program) (t e es by_ : Nat) (z : List V) : Prop where
  t : P.underlying t = some (.slice e)
  i : ∃ i w, P.info? e = some i ∧ i.size = es ∧ i.bytes = by_ ∧ i.zero.bind ofValue = some w ∧ w.cells = z
  z : z.length = es
theorem make_ok {t e es by_ n m : Nat} {z : List V} {k k' : IntKind} (T : MkT P t e es by_ z) (hn : n ≤ m) (hm : m ≤ 9223372036854775807) (hb : by_ * m ≤ 281474976710656) :
    makeSliceV P t (.int k (n : Int)) (.int k' (m : Int)) = some (.new (reps m z) (.sl n (some m) es)) := by
  obtain ⟨i, w, hi, hs, hby, hz, hw⟩ := T.i
  have hzl := T.z
  subst hs
  subst hby
  subst hw
  unfold makeSliceV
  simp only [T.t, hi, hz]
  have h1 : (i.bytes : Int) * (m : Int) ≤ 281474976710656 := by
    have : ((i.bytes * m : Nat) : Int) ≤ 281474976710656 := by omega
    simpa using this
  rw [if_pos ⟨hzl, by omega, by omega, by omega, h1⟩]
  simp
theorem reps_one {z : V} : ∀ n, reps n [z] = List.replicate n z
  | 0 => rfl
  | n + 1 => by simp [reps, reps_one n, List.replicate_succ]
structure CpT (P : Program) (t e es : Nat) : Prop where
  t : P.underlying t = some (.slice e)
  s : size? P e = some es
  p : 0 < es
/-- copy into cells that are one's own -/
theorem copy_ok {t u e es n m : Nat} {b o f low : Nat} {c : Option Nat} {s : V} {cs xs : List V} (T : CpT P t e es) (wf : HWF h) (ho : h.owned lo b = some (cs, f, low)) (hs : elems h.read es s = some (m, xs)) (hxl : xs.length = m * es) (hsc : xs.all scal = true)
    (hn : m ≤ n) (hr : o + n * es ≤ cs.length) :
    ∃ h' low', copyV P lo [t, u] (.sl b o n c es) s h = some (.int .i64 (m : Int), h') ∧ h'.owned lo b = some (cs.take o ++ xs ++ cs.drop (o + m * es), f, low') ∧ Ch (· = f) (· = f) h h' ∧ h'.next = h.next := by
  have hmin : min m n = m := by omega
  have hp := T.p
  have hcond : ¬ (es ≠ es ∨ xs.all scal = false) := by simp [hsc]
  by_cases hm : m = 0
  · subst hm
    have hx0 : xs = [] := List.eq_nil_of_length_eq_zero (by omega)
    subst hx0
    refine ⟨h, low, ?_, by simpa using ho, Ch.refl _ _ wf, rfl⟩
    unfold copyV
    simp only [T.t, T.s, hs]
    rw [if_neg hcond]
    simp
  · have hle : o + m * es ≤ cs.length := by
      have := Nat.mul_le_mul_right es hn
      omega
    refine ⟨h.put b f (cs.take o ++ xs ++ cs.drop (o + m * es)), b, ?_, owned_put_same ho, ch_put wf ho, rfl⟩
    unfold copyV
    simp only [T.t, T.s, hs]
    rw [if_neg hcond]
    simp only [hmin]
    have h0 : ¬ (m * es = 0) := by
      intro h
      rcases Nat.mul_eq_zero.1 h with h1 | h1 <;> omega
    rw [if_neg h0]
    simp only [ho]
    have htake : xs.take (m * es) = xs := List.take_of_length_le (by omega)
    rw [htake]
    unfold fill1
    rw [hxl, if_pos hle]

/-! ### slices of slices -/
theorem bound_ok {k : IntKind} {i top d : Nat} (h1 : i ≤ top) : bound (some (.int k (i : Int))) d top = some i := by
  simp only [bound]
  rw [if_pos (by omega)]
  simp
theorem bound_none {top d : Nat} : bound none d top = some d := rfl
theorem slice_ok {t e es : Nat} (T : SlT P t e es) {rd : Rd} {b o n : Nat} {c : Option Nat} {lo hi : Nat} {k k' : IntKind} (h1 : lo ≤ hi) (h2 : hi ≤ n) :
    sliceV P rd t (.sl b o n c es) (some (.int k (lo : Int))) (some (.int k' (hi : Int))) none = some (.sl b (o + lo * es) (hi - lo) (c.map (· - lo)) es) := by
  unfold sliceV
  simp only [T.u, T.s, if_true, bound_none, bound_ok h2, bound_ok h1]
  simp
theorem slice_from {t e es : Nat} (T : SlT P t e es) {rd : Rd} {b o n : Nat} {c : Option Nat} {lo : Nat} {k : IntKind} (h1 : lo ≤ n) :
    sliceV P rd t (.sl b o n c es) (some (.int k (lo : Int))) none none = some (.sl b (o + lo * es) (n - lo) (c.map (· - lo)) es) := by
  unfold sliceV
  simp only [T.u, T.s, if_true, bound_none, bound_ok h1]
  simp
theorem slice_to {t e es : Nat} (T : SlT P t e es) {rd : Rd} {b o n : Nat} {c : Option Nat} {hi : Nat} {k : IntKind} (h1 : hi ≤ n) :
    sliceV P rd t (.sl b o n c es) none (some (.int k (hi : Int))) none = some (.sl b o hi c es) := by
  unfold sliceV
  simp only [T.u, T.s, if_true, bound_none, bound_ok h1]
  cases c <;> simp
/-- a part of a slice holds a part of what it holds -/
theorem Sl.part {rd : Rd} {es b o n : Nat} {c : Option Nat} {cs : List V} (hs : Sl rd es (.sl b o n c es) n cs) {lo hi : Nat} (c' : Option Nat) (h1 : lo ≤ hi) (h2 : hi ≤ n) : Sl rd es (.sl b (o + lo * es) (hi - lo) c' es) (hi - lo) ((cs.drop (lo * es)).take ((hi - lo) * es)) := by
  rcases hs with ⟨h, _, _⟩ | ⟨b', o', c'', l, h3, h4, h5, h6⟩
  · cases h
  · cases h3
    have e1 : lo * es + (hi - lo) * es = hi * es := by rw [← Nat.add_mul]; congr 1; omega
    have e2 : hi * es ≤ n * es := Nat.mul_le_mul_right es h2
    refine .inr ⟨b, o + lo * es, c', l, rfl, h4, by omega, ?_⟩
    rw [h6, List.drop_take, List.take_take, List.drop_drop, Nat.min_eq_left (by omega)]
theorem Bytes.slice {t e : Nat} (T : SlT P t e 1) {rd rd' : Rd} {v : V} {bs : List UInt8} (hb : Bytes rd v bs) {lo hi : Nat} {k k' : IntKind} (h1 : lo ≤ hi) (h2 : hi ≤ bs.length) :
    ∃ w, sliceV P rd' t v (some (.int k (lo : Int))) (some (.int k' (hi : Int))) none = some w ∧ Bytes rd w ((bs.drop lo).take (hi - lo)) := by
  have hb' := hb
  rcases hb with ⟨rfl, h3, h4⟩ | ⟨b, o, c, l, rfl, h4, h5, h6⟩
  · have h0 : bs = [] := List.eq_nil_of_length_eq_zero h3
    subst h0
    have hhi : hi = 0 := by simpa using h2
    subst hhi
    have hlo : lo = 0 := by omega
    subst hlo
    refine ⟨.nils, ?_, by simpa using hb'⟩
    unfold sliceV
    simp only [T.u, T.s]
    simp [bound]
  · refine ⟨_, slice_ok T h1 h2, ?_⟩
    have := Sl.part hb' (c.map (· - lo)) h1 h2
    unfold Bytes
    have e1 : ((bs.drop lo).take (hi - lo)).length = hi - lo := by simp; omega
    rw [e1, List.map_take, List.map_drop]
    simpa using this
theorem Bytes.from {t e : Nat} (T : SlT P t e 1) {rd rd' : Rd} {v : V} {bs : List UInt8} (hb : Bytes rd v bs) {lo : Nat} {k : IntKind} (h1 : lo ≤ bs.length) :
    ∃ w, sliceV P rd' t v (some (.int k (lo : Int))) none none = some w ∧ Bytes rd w (bs.drop lo) := by
  have hb' := hb
  rcases hb with ⟨rfl, h3, h4⟩ | ⟨b, o, c, l, rfl, h4, h5, h6⟩
  · have h0 : bs = [] := List.eq_nil_of_length_eq_zero h3
    subst h0
    have hlo : lo = 0 := by simpa using h1
    subst hlo
    refine ⟨.nils, ?_, by simpa using hb'⟩
    unfold sliceV
    simp only [T.u, T.s]
    simp [bound]
  · refine ⟨_, slice_from T h1, ?_⟩
    have := Sl.part hb' (c.map (· - lo)) h1 (Nat.le_refl _)
    unfold Bytes
    rw [List.length_drop, List.map_drop]
    have e2 : ((bs.map byteV).drop (lo * 1)).take ((bs.length - lo) * 1) = (bs.map byteV).drop lo := by
      rw [Nat.mul_one, Nat.mul_one, List.take_of_length_le (by simp)]
    rw [e2] at this
    exact this
theorem Bytes.elems {rd : Rd} {v : V} {bs : List UInt8} (hb : Bytes rd v bs) : Den.elems rd 1 v = some (bs.length, bs.map byteV) := Sl.elems hb
theorem bytes_scal (bs : List UInt8) : (bs.map byteV).all scal = true := by
  rw [List.all_eq_true]
  intro x hx
  obtain ⟨b, _, rfl⟩ := List.mem_map.1 hx
  rfl
theorem Buf.bytes {lo : Nat} {v : V} {bs : List UInt8} {F : Option Nat} {X : Nat → Prop} (wf : HWF h) (hb : Buf h lo 1 v bs.length (bs.map byteV) F) (hF : ∀ f, F = some f → ¬ X f) : Bytes (h.rb X) v bs := by
  rcases hb with ⟨q1, q2, q3, _⟩ | ⟨b, c, f, low, q1, q2, q3, q4⟩
  · exact .inl ⟨q1, q2, q3⟩
  · refine .inr ⟨b, 0, c, _, q1, rb_iff.2 ⟨owned_read wf q2, fun g hg => ?_⟩, by omega, by rw [List.drop_zero, ← q3, List.take_length]⟩
    obtain ⟨hg2, _, _⟩ := owned_some q2
    rw [famOf_of hg2] at hg
    cases hg
    exact hF f q4
theorem cells_byte (b : UInt8) : (byteV b).cells = [byteV b] := rfl
theorem cells_bool (b : Bool) : (V.bool b).cells = [.bool b] := rfl
theorem cells_int (k : IntKind) (n : Int) : (V.int k n).cells = [.int k n] := rfl
theorem cells_str (b : List UInt8) : (V.str b).cells = [.str b] := rfl
theorem cells_ptr (b o : Nat) : (V.ptr b o).cells = [.ptr b o] := rfl
theorem cells_nils : V.nils.cells = [.nils] := rfl
theorem cells_sl (b o n es : Nat) (c : Option Nat) : (V.sl b o n c es).cells = [.sl b o n c es] := rfl
theorem cells_agg (cs : List V) : (V.agg cs).cells = cs := rfl
theorem rb_none (h : H) : Le h.read (h.rb None_) := fun b l hr => rb_iff.2 ⟨hr, fun _ _ h => h⟩
theorem Buf.ch {X Y : Nat → Prop} {es n : Nat} {v : V} {cs : List V} {F : Option Nat} (hb : Buf h lo es v n cs F) (a : Ch X Y h h') (hF : ∀ f, F = some f → ¬ Y f) : Buf h' lo es v n cs F := by
  rcases hb with h1 | ⟨b, c, f, low, h1, h2, h3, h4⟩
  · exact .inl h1
  · exact .inr ⟨b, c, f, low, h1, a.own _ _ _ _ _ h2 (hF f h4), h3, h4⟩
theorem CW.low {C : Cfg} (hS : ShortLow C) {f : FuncId} {as : List V} {lo lo' : Nat} {K : V → H → Prop} (hl : lo ≤ lo') (hw : CW C f as lo' h K) : CW C f as lo h K := by
  obtain ⟨n, v, h', h1, h2⟩ := hw
  exact ⟨n, v, h', call_le hS (Nat.le_refl n) _ _ _ _ _ _ _ hl h1, h2⟩
/-! ### stores -/
theorem store_cell {t b o f low : Nat} {cs : List V} {v : V} (hs : size? P t = some 1) (ho : h.owned lo b = some (cs, f, low)) (hv : v.cells = [v]) (hsc : scal v = true) (hlt : o < cs.length) :
    storeV P lo t (.ptr b o) v h = some (h.put b f (cs.take o ++ [v] ++ cs.drop (o + 1))) := by
  unfold storeV
  simp only [ho, hv, hs]
  have hc : (some 1 = some [v].length ∧ ([v].all scal) = true) := ⟨rfl, by simp [hsc]⟩
  rw [if_pos hc]
  unfold fill1
  rw [if_pos (by simp; omega)]
  simp
def IsSl (v : V) : Prop := v = .nils ∨ ∃ b o n c es, v = .sl b o n c es
theorem IsSl.cells {v : V} (i : IsSl v) : v.cells = [v] := by
  rcases i with rfl | ⟨b, o, n, c, es, rfl⟩ <;> rfl
theorem IsSl.scal {v : V} (i : IsSl v) : scal v = true := by
  rcases i with rfl | ⟨b, o, n, c, es, rfl⟩ <;> rfl
theorem Sl.isSl {rd : Rd} {es n : Nat} {v : V} {cs : List V} (hs : Sl rd es v n cs) : IsSl v := by
  rcases hs with ⟨rfl, _⟩ | ⟨b, o, c, l, rfl, _⟩
  · exact .inl rfl
  · exact .inr ⟨_, _, _, _, _, rfl⟩
theorem Buf.isSl {es n : Nat} {v : V} {cs : List V} {F : Option Nat} (hs : Buf h lo es v n cs F) : IsSl v := by
  rcases hs with ⟨rfl, _⟩ | ⟨b, c, f, low, rfl, _⟩
  · exact .inl rfl
  · exact .inr ⟨_, _, _, _, _, rfl⟩
theorem Buf.lt {es n : Nat} {v : V} {cs : List V} {F : Option Nat} (wf : HWF h) (hs : Buf h lo es v n cs F) {g : Nat} (hg : F = some g) : g < h.next := by
  rcases hs with ⟨rfl, _, _, h4⟩ | ⟨b, c, f, low, rfl, h2, h3, h4⟩
  · rw [h4] at hg; cases hg
  · rw [h4] at hg
    cases hg
    obtain ⟨h5, _, _⟩ := owned_some h2
    exact famOf_lt wf (famOf_of h5)
theorem BufOf.lt {α : Type} {Er : Rd → List V → α → Prop} {es : Nat} {r : Rd} {v : V} {xs : List α} {F : Option Nat} (wf : HWF h) (hb : BufOf Er es lo h r v xs F) {g : Nat} (hg : F = some g) : g < h.next := by
  obtain ⟨cs, _, h2, _⟩ := hb
  exact h2.lt wf hg
theorem BufOf.imp {α : Type} {Er Er' : Rd → List V → α → Prop} {es : Nat} {r r' : Rd} {v : V} {xs : List α} {F : Option Nat} (he : ∀ c x, Er r c x → Er' r' c x) (hb : BufOf Er es lo h r v xs F) : BufOf Er' es lo h r' v xs F := by
  obtain ⟨cs, h1, h2, h3⟩ := hb
  exact ⟨cs, h1, h2, h3.mono he⟩
theorem BufOf.own {α : Type} {Er : Rd → List V → α → Prop} {es : Nat} {X Y : Nat → Prop} {r : Rd} {v : V} {xs : List α} {F : Option Nat} (hb : BufOf Er es lo h r v xs F) (a : Ch X Y h h') (hF : ∀ f, F = some f → ¬ Y f) : BufOf Er es lo h' r v xs F := by
  obtain ⟨cs, h1, h2, h3⟩ := hb
  exact ⟨cs, h1, h2.ch a hF, h3⟩
theorem BufOf.len {α : Type} {Er : Rd → List V → α → Prop} {es : Nat} {r : Rd} {v : V} {xs : List α} {F : Option Nat} {t e : Nat} (T : SlT P t e es) (hb : BufOf Er es lo h r v xs F) : lenV P [t] v = some (.int .i64 (xs.length : Int)) := by
  obtain ⟨cs, h1, h2, h3⟩ := hb
  rcases h2 with ⟨rfl, h4, _⟩ | ⟨b, c, f, low, rfl, _, _, _⟩ <;> simp [lenV, T.u]
  omega
theorem SlOf.imp {α : Type} {Er Er' : Rd → List V → α → Prop} {es : Nat} {r : Rd} {v : V} {xs : List α} (he : ∀ c x, Er r c x → Er' r c x) (hb : SlOf Er es r v xs) : SlOf Er' es r v xs := by
  obtain ⟨cs, h1, h2, h3⟩ := hb
  exact ⟨cs, h1, h2, h3.mono he⟩
theorem SlOf.isSl {α : Type} {Er : Rd → List V → α → Prop} {es : Nat} {r : Rd} {v : V} {xs : List α} (hb : SlOf Er es r v xs) : IsSl v := by
  obtain ⟨cs, h1, h2, h3⟩ := hb
  exact h2.isSl
theorem rb_owned {X : Nat → Prop} {b f low : Nat} {l : List V} (wf : HWF h) (ho : h.owned lo b = some (l, f, low)) (hx : ¬ X f) : h.rb X b = some l := by
  obtain ⟨hg, _, _⟩ := owned_some ho
  exact rb_iff.2 ⟨owned_read wf ho, fun g hg2 => by rw [famOf_of hg] at hg2; cases hg2; exact hx⟩
theorem rb_new (wf : HWF h) (X : Nat → Prop) : Le (h.rb X) (h.rb fun g => X g ∨ h.next ≤ g) := fun b l hr => by
  obtain ⟨h1, h2⟩ := rb_iff.1 hr
  refine rb_iff.2 ⟨h1, fun f hf hx => ?_⟩
  rcases hx with h3 | h3
  · exact h2 f hf h3
  · have := famOf_lt wf hf
    omega
theorem byte_inj {x y : UInt8} : ((x.toNat : Int) = (y.toNat : Int)) = (x = y) := by
  apply propext
  constructor
  · intro h; exact UInt8.toNat_inj.1 (by omega)
  · rintro rfl; rfl
theorem byte_neq (t : Nat) (x y : UInt8) : binV P .neq t (byteV x) (byteV y) = some (.bool (decide (x ≠ y))) := by
  unfold byteV
  rw [binV_neq]
  congr 2
  rw [Bool.eq_iff_iff]
  simp [byte_inj]
theorem byte_eql (t : Nat) (x y : UInt8) : binV P .eql t (byteV x) (byteV y) = some (.bool (decide (x = y))) := by
  unfold byteV
  rw [binV_eql]
  congr 2
  rw [Bool.eq_iff_iff]
  simp [byte_inj]
theorem append_sl {α : Type} {Er : Rd → List V → α → Prop} {t u e es by_ : Nat} {s x : V} {r : Rd} {xs ys : List α} {F : Option Nat} (T : ApT P t u e es by_) (wf : HWF h) (hlo : lo ≤ h.next) (hb : BufOf Er es lo h r s xs F)
    (hx : SlOf Er es r x ys) (hr : Le r h.read) (hsc : ∀ c y, Er r c y → c.all scal = true)
    (hroom : (xs.length + ys.length) * by_ ≤ 140737488355328) (hroom2 : xs.length + ys.length ≤ 9223372036854775807) :
    ∃ v h' F', appendV P lo [t, u] s x h = some (v, h') ∧ BufOf Er es lo h' r v (xs ++ ys) F' ∧ Ch None_ (fun g => F = some g) h h' ∧ (∀ g, F' = some g → F = some g ∨ h.next ≤ g) := by
  obtain ⟨ds, w, sl, ea⟩ := hx
  refine append_of T wf hlo hb (sl.mono hr).elems w ea ?_ hroom hroom2
  rw [List.all_eq_true]
  intro v hv
  obtain ⟨c, hc, hv⟩ := List.mem_flatten.1 hv
  obtain ⟨i, hi⟩ := List.getElem?_of_mem hc
  have hlt := (List.getElem?_eq_some_iff.1 hi).1
  have hlen := ea.1
  have := hsc c _ (ea.2 i c _ hi (List.getElem?_eq_getElem (by omega)))
  rw [List.all_eq_true] at this
  exact this v hv
end Go.Den
