/- What a piece of code may change, and what slices of anything hold. -/
import Derived.Test.YtghmbmblhdgabaaDoorDenF
import Derived.Test.YtghmbmblhdgabaaDoorDenE
import Derived.Test.YtghmbmblhdgabaaDoorSxA
set_option linter.all false
namespace Go.Den
open Go
variable {P : Program} {h h' h'' : H} {lo : Nat}

/-! ### what is read beside the families that may change -/
open Classical in
noncomputable def H.rb (h : H) (X : Nat → Prop) : Rd := fun b => if ∃ f, h.famOf b = some f ∧ X f then none else h.read b
theorem rb_iff {X : Nat → Prop} {b : Nat} {l : List V} : h.rb X b = some l ↔ h.read b = some l ∧ ∀ f, h.famOf b = some f → ¬ X f := by
  unfold H.rb
  by_cases e : ∃ f, h.famOf b = some f ∧ X f
  · rw [if_pos e]
    obtain ⟨f, h1, h2⟩ := e
    exact ⟨fun h => (by cases h), fun ⟨_, h3⟩ => (h3 f h1 h2).elim⟩
  · rw [if_neg e]
    exact ⟨fun h3 => ⟨h3, fun f h1 h2 => e ⟨f, h1, h2⟩⟩, fun h => h.1⟩
def Le (r r' : Rd) : Prop := ∀ b l, r b = some l → r' b = some l
theorem Le.refl (r : Rd) : Le r r := fun _ _ h => h
theorem Le.trans {r r' r'' : Rd} (a : Le r r') (b : Le r' r'') : Le r r'' := fun c l h => b c l (a c l h)
theorem rb_le (h : H) (X : Nat → Prop) : Le (h.rb X) h.read := fun _ _ hr => (rb_iff.1 hr).1
theorem rb_mono {X Y : Nat → Prop} (hs : ∀ f, X f → Y f) : Le (h.rb Y) (h.rb X) := fun _ _ hr => by
  obtain ⟨h1, h2⟩ := rb_iff.1 hr
  exact rb_iff.2 ⟨h1, fun f hf hx => h2 f hf (hs f hx)⟩
theorem rb_ro (a : AllRo h) (X : Nat → Prop) : Le h.read (h.rb X) := fun b l hr => rb_iff.2 ⟨hr, fun f hf => by rw [a.fam b] at hf; cases hf⟩

/-- a change of no more than what the families X hold, what the families Y have room for, and what is new -/
structure Ch (X Y : Nat → Prop) (h h' : H) : Prop where
  next : h.next ≤ h'.next
  wf : HWF h'
  read : ∀ b l, h.rb X b = some l → h'.read b = some l ∧ h'.famOf b = h.famOf b
  own : ∀ lo b l f low, h.owned lo b = some (l, f, low) → ¬ Y f → h'.owned lo b = some (l, f, low)
theorem Ch.refl (X Y : Nat → Prop) (wf : HWF h) : Ch X Y h h := ⟨Nat.le_refl _, wf, fun _ _ hr => ⟨(rb_iff.1 hr).1, rfl⟩, fun _ _ _ _ _ ho _ => ho⟩
theorem Ch.rb {X Y Z : Nat → Prop} (a : Ch X Y h h') (hs : ∀ f, X f → Z f) : Le (h.rb Z) (h'.rb Z) := fun b l hr => by
  obtain ⟨h1, h2⟩ := rb_iff.1 hr
  obtain ⟨h3, h4⟩ := a.read b l (rb_mono hs _ _ hr)
  exact rb_iff.2 ⟨h3, by rw [h4]; exact h2⟩
theorem Ch.trans {X Y : Nat → Prop} (a : Ch X Y h h') (b : Ch X Y h' h'') : Ch X Y h h'' where
  next := Nat.le_trans a.next b.next
  wf := b.wf
  read := fun c l hr => by
    obtain ⟨h3, h4⟩ := a.read c l hr
    obtain ⟨h5, h6⟩ := b.read c l (a.rb (fun _ h => h) c l hr)
    exact ⟨h5, h6.trans h4⟩
  own := fun lo c l f low ho hy => b.own lo c l f low (a.own lo c l f low ho hy) hy
theorem Ch.mono {X Y X' Y' : Nat → Prop} (a : Ch X Y h h') (hx : ∀ f, X f → X' f) (hy : ∀ f, Y f → Y' f) : Ch X' Y' h h' :=
  ⟨a.next, a.wf, fun b l hr => a.read b l (rb_mono hx b l hr), fun lo b l f low ho hn => a.own lo b l f low ho fun h => hn (hy f h)⟩
theorem famOf_lt (wf : HWF h) {b f : Nat} (hf : h.famOf b = some f) : f < h.next := by
  unfold H.famOf at hf
  cases hg : h.get b with
  | none => rw [hg] at hf; cases hf
  | some o =>
    rw [hg] at hf
    cases o with
    | map es => cases hf
    | cells l g =>
      have hf : g = some f := hf
      subst hf
      have h1 := wf.lt _ _ hg
      have h2 := (wf.fam _ _ _ hg).1
      omega
/-- what concerns new families alone concerns nothing that there was -/
theorem Ch.old {X Y X' Y' : Nat → Prop} (wf : HWF h) (a : Ch X Y h h') (hx : ∀ f, X f → f < h.next → X' f) (hy : ∀ f, Y f → f < h.next → Y' f) : Ch X' Y' h h' where
  next := a.next
  wf := a.wf
  read := fun b l hr => by
    obtain ⟨h1, h2⟩ := rb_iff.1 hr
    exact a.read b l (rb_iff.2 ⟨h1, fun f hf hX => h2 f hf (hx f hX (famOf_lt wf hf))⟩)
  own := fun lo b l f low ho hn => a.own lo b l f low ho fun hY => hn (hy f hY (by
    obtain ⟨hg, _, _⟩ := owned_some ho
    exact famOf_lt wf (famOf_of hg)))
theorem Fr.own {F : Nat → Prop} (a : Fr F h h') (wf : HWF h) : ∀ lo b l f low, h.owned lo b = some (l, f, low) → ¬ F f → h'.owned lo b = some (l, f, low) := fun _ _ _ _ _ ho hn => a.owned wf ho hn
theorem Fr.ch {F : Nat → Prop} (a : Fr F h h') (wf : HWF h) : Ch F F h h' where
  next := a.next
  wf := a.wf wf
  read := fun b l hr => by
    obtain ⟨h1, h2⟩ := rb_iff.1 hr
    refine ⟨a.read wf h1 h2, ?_⟩
    have hlt : b < h.next := by rcases read_some h1 with hg | ⟨_, _, _, hg, _⟩ <;> exact wf.lt _ _ hg
    unfold H.famOf
    rw [a.get b hlt h2]
  own := a.own wf
abbrev None_ : Nat → Prop := fun _ => False
theorem Good.ch (g : Good h.next h h') (wf : HWF h) : Ch None_ None_ h h' := (g.fr None_).ch wf
theorem ch_alloc (wf : HWF h) (l : List V) : Ch None_ None_ h (h.alloc l) := (fr_alloc None_ l).ch wf
theorem ch_put (wf : HWF h) {b f low : Nat} {l l' : List V} (ho : h.owned lo b = some (l, f, low)) : Ch (· = f) (· = f) h (h.put b f l') := (fr_put ho).ch wf
/-- what keeps what is read, and the room of all other families -/
theorem ch_keeps {F : Nat → Prop} (wf : HWF h) (k : Keeps h h') (a : Fr F h h') (hf : ∀ b l, h.read b = some l → h'.famOf b = h.famOf b) : Ch None_ F h h' where
  next := a.next
  wf := a.wf wf
  read := fun b l hr => ⟨k b l (rb_iff.1 hr).1, hf b l (rb_iff.1 hr).1⟩
  own := a.own wf
theorem None_sub (Z : Nat → Prop) : ∀ f, None_ f → Z f := fun _ h => h.elim

/-! ### cells at a place -/
def At (rd : Rd) (b o : Nat) (c : List V) : Prop := ∃ l, rd b = some l ∧ (l.drop o).take c.length = c
theorem At.mono {r r' : Rd} (hl : Le r r') {b o : Nat} {c : List V} (a : At r b o c) : At r' b o c := by
  obtain ⟨l, h1, h2⟩ := a; exact ⟨l, hl _ _ h1, h2⟩
theorem At.cell {rd : Rd} {b o : Nat} {c : List V} (a : At rd b o c) {e j : Nat} {x : V} (S : Sc P e) (hx : c[j]? = some x) : loadV P e (.ptr b (o + j)) rd = some x := by
  obtain ⟨l, h1, h2⟩ := a
  refine loadV_one S h1 ?_
  have hj := (List.getElem?_eq_some_iff.1 hx).1
  rw [← hx, ← h2, List.getElem?_take, if_pos hj, List.getElem?_drop]
theorem At.cell0 {rd : Rd} {b o : Nat} {c : List V} (a : At rd b o c) {e : Nat} {x : V} (S : Sc P e) (hx : c[0]? = some x) : loadV P e (.ptr b o) rd = some x := a.cell S hx
theorem At.len {rd : Rd} {b o : Nat} {c : List V} (a : At rd b o c) : ∃ l, rd b = some l ∧ (c = [] ∨ o + c.length ≤ l.length) := by
  obtain ⟨l, h1, h2⟩ := a
  refine ⟨l, h1, ?_⟩
  have h3 := congrArg List.length h2
  simp only [List.length_take, List.length_drop] at h3
  by_cases h4 : c = []
  · exact .inl h4
  · have : 0 < c.length := List.length_pos_iff.2 h4
    exact .inr (by omega)
theorem At.agg {rd : Rd} {b o : Nat} {c : List V} (a : At rd b o c) {e n : Nat} (ha : agg? P e = some true) (hs : size? P e = some n) (hn : c.length = n) (h0 : 0 < n) : loadV P e (.ptr b o) rd = some (.agg c) := by
  obtain ⟨l, h1, h3⟩ := a.len
  obtain ⟨l', h1', h2⟩ := a
  rw [h1] at h1'
  cases h1'
  have h3 : o + c.length ≤ l.length := by
    rcases h3 with h3 | h3
    · subst h3; simp at hn; omega
    · exact h3
  subst hn
  unfold loadV partV
  simp only [h1, ha, hs]
  rw [if_pos h3, h2]

/-! ### slices of anything -/
def Each {α : Type} (Er : List V → α → Prop) (cs : List (List V)) (xs : List α) : Prop := cs.length = xs.length ∧ ∀ (i : Nat) (c : List V) (x : α), cs[i]? = some c → xs[i]? = some x → Er c x
theorem Each.nil {α : Type} (Er : List V → α → Prop) : Each Er [] [] := ⟨rfl, fun i c x h => by simp at h⟩
theorem Each.mono {α : Type} {Er Er' : List V → α → Prop} (he : ∀ c x, Er c x → Er' c x) {cs : List (List V)} {xs : List α} (a : Each Er cs xs) : Each Er' cs xs :=
  ⟨a.1, fun i c x h1 h2 => he c x (a.2 i c x h1 h2)⟩
theorem Each.snoc {α : Type} {Er : List V → α → Prop} {cs : List (List V)} {xs : List α} (a : Each Er cs xs) {c : List V} {x : α} (he : Er c x) : Each Er (cs ++ [c]) (xs ++ [x]) := by
  refine ⟨by simp [a.1], fun i d y h1 h2 => ?_⟩
  rw [List.getElem?_append] at h1 h2
  rw [a.1] at h1
  split at h1
  · rename_i hi
    rw [if_pos hi] at h2
    exact a.2 i d y h1 h2
  · rename_i hi
    rw [if_neg hi] at h2
    have : i - xs.length = 0 := by
      have := (List.getElem?_eq_some_iff.1 h1).1
      simp at this
      omega
    rw [this] at h1 h2
    simp at h1 h2
    subst h1
    subst h2
    exact he
theorem Each.append {α : Type} {Er : List V → α → Prop} {cs ds : List (List V)} {xs ys : List α} (a : Each Er cs xs) (b : Each Er ds ys) : Each Er (cs ++ ds) (xs ++ ys) := by
  refine ⟨by simp [a.1, b.1], fun i d y h1 h2 => ?_⟩
  rw [List.getElem?_append] at h1 h2
  rw [a.1] at h1
  split at h1
  · rename_i hi
    rw [if_pos hi] at h2
    exact a.2 i d y h1 h2
  · rename_i hi
    rw [if_neg hi] at h2
    exact b.2 _ d y h1 h2
def Wide (es : Nat) (cs : List (List V)) : Prop := ∀ c ∈ cs, c.length = es
theorem Wide.snoc {es : Nat} {cs : List (List V)} (w : Wide es cs) {c : List V} (hc : c.length = es) : Wide es (cs ++ [c]) := fun d hd => by
  rcases List.mem_append.1 hd with h | h
  · exact w d h
  · simp at h; subst h; exact hc
theorem Wide.append {es : Nat} {cs ds : List (List V)} (w : Wide es cs) (w' : Wide es ds) : Wide es (cs ++ ds) := fun d hd => by
  rcases List.mem_append.1 hd with h | h
  · exact w d h
  · exact w' d h
theorem Wide.length {es : Nat} {cs : List (List V)} (w : Wide es cs) : cs.flatten.length = cs.length * es := by
  induction cs with
  | nil => simp
  | cons c r ih =>
    simp only [List.flatten_cons, List.length_append, List.length_cons]
    rw [ih (fun d hd => w d (List.mem_cons_of_mem _ hd)), w c List.mem_cons_self, Nat.add_mul, Nat.one_mul, Nat.add_comm]
/-- the slice v holds xs, each in es cells as Er says -/
def SlOf {α : Type} (Er : Rd → List V → α → Prop) (es : Nat) (rd : Rd) (v : V) (xs : List α) : Prop :=
  ∃ cs, Wide es cs ∧ Sl rd es v xs.length cs.flatten ∧ Each (Er rd) cs xs
def Mono {α : Type} (Er : Rd → List V → α → Prop) : Prop := ∀ r r' c x, Le r r' → Er r c x → Er r' c x
theorem Sl.mono {r r' : Rd} (hl : Le r r') {es n : Nat} {v : V} {cs : List V} (hs : Sl r es v n cs) : Sl r' es v n cs := by
  rcases hs with h1 | ⟨b, o, c, l, h1, h2, h3, h4⟩
  · exact .inl h1
  · exact .inr ⟨b, o, c, l, h1, hl _ _ h2, h3, h4⟩
theorem Bytes.mono {r r' : Rd} (hl : Le r r') {v : V} {bs : List UInt8} (hb : Bytes r v bs) : Bytes r' v bs := Sl.mono hl hb
theorem SlOf.mono {α : Type} {Er : Rd → List V → α → Prop} (m : Mono Er) {es : Nat} {r r' : Rd} (hl : Le r r') {v : V} {xs : List α} (hs : SlOf Er es r v xs) : SlOf Er es r' v xs := by
  obtain ⟨cs, h1, h2, h3⟩ := hs
  exact ⟨cs, h1, h2.mono hl, h3.mono fun c x he => m _ _ c x hl he⟩
theorem SlOf.len {α : Type} {Er : Rd → List V → α → Prop} {es : Nat} {rd : Rd} {v : V} {xs : List α} {t e : Nat} (T : SlT P t e es) (hs : SlOf Er es rd v xs) : lenV P [t] v = some (.int .i64 (xs.length : Int)) := by
  obtain ⟨cs, h1, h2, h3⟩ := hs
  exact h2.lenV T
theorem SlOf.at {α : Type} {Er : Rd → List V → α → Prop} {es : Nat} {rd : Rd} {v : V} {xs : List α} {t e : Nat} (T : SlT P t e es) (hs : SlOf Er es rd v xs) {i : Nat} {x : α} (hi : xs[i]? = some x) (k : IntKind) :
    ∃ b o c, addrV P t v (.int k (i : Int)) = some (.ptr b o) ∧ At rd b o c ∧ c.length = es ∧ Er rd c x := by
  obtain ⟨cs, h1, h2, h3, h4⟩ := hs
  have hlt := (List.getElem?_eq_some_iff.1 hi).1
  obtain ⟨c, hc⟩ : ∃ c, cs[i]? = some c := ⟨_, List.getElem?_eq_getElem (by omega)⟩
  obtain ⟨b, o, l, q1, q2, q3, q4⟩ := h2.addr T hlt (k := k)
  have hw := h1 c (List.mem_of_getElem? hc)
  refine ⟨b, o + i * es, c, q1, ⟨l, q2, ?_⟩, hw, h4 i c x hc hi⟩
  have := part_even (es := es) (vss := cs) h1 hc
  rw [q4, List.drop_take, List.take_take, List.drop_drop] at this
  rw [hw]
  rw [Nat.min_eq_left] at this
  · exact this
  · have h5 := Nat.mul_le_mul_right es (show i + 1 ≤ xs.length from hlt)
    rw [Nat.add_mul, Nat.one_mul] at h5
    omega
/-- a slice of anything that may grow -/
def BufOf {α : Type} (Er : Rd → List V → α → Prop) (es lo : Nat) (h : H) (rd : Rd) (v : V) (xs : List α) (F : Option Nat) : Prop :=
  ∃ cs, Wide es cs ∧ Buf h lo es v xs.length cs.flatten F ∧ Each (Er rd) cs xs
theorem BufOf.nil {α : Type} {Er : Rd → List V → α → Prop} {es lo : Nat} {h : H} {rd : Rd} : BufOf Er es lo h rd .nils [] none := ⟨[], fun _ hc => (by cases hc), Buf.nil es, Each.nil _⟩
theorem BufOf.sl {α : Type} {Er : Rd → List V → α → Prop} {es lo : Nat} {X : Nat → Prop} {v : V} {xs : List α} {F : Option Nat} (wf : HWF h) (hb : BufOf Er es lo h (h.rb X) v xs F) (hF : ∀ f, F = some f → ¬ X f) : SlOf Er es (h.rb X) v xs := by
  obtain ⟨cs, h1, h2, h3⟩ := hb
  refine ⟨cs, h1, ?_, h3⟩
  rcases h2 with ⟨q1, q2, q3, _⟩ | ⟨b, c, f, low, q1, q2, q3, q4⟩
  · exact .inl ⟨q1, q2, q3⟩
  · refine .inr ⟨b, 0, c, _, q1, rb_iff.2 ⟨owned_read wf q2, fun g hg => ?_⟩, by omega, by rw [List.drop_zero, ← q3, List.take_length]⟩
    obtain ⟨hg2, _, _⟩ := owned_some q2
    rw [famOf_of hg2] at hg
    cases hg
    exact hF f q4
theorem BufOf.ch {α : Type} {Er : Rd → List V → α → Prop} (m : Mono Er) {es lo : Nat} {X Y : Nat → Prop} {r r' : Rd} {v : V} {xs : List α} {F : Option Nat} (hb : BufOf Er es lo h r v xs F) (a : Ch X Y h h') (hl : Le r r') (hF : ∀ f, F = some f → ¬ Y f) : BufOf Er es lo h' r' v xs F := by
  obtain ⟨cs, h1, h2, h3⟩ := hb
  refine ⟨cs, h1, ?_, h3.mono fun c x he => m _ _ c x hl he⟩
  rcases h2 with h1 | ⟨b, c, f, low, h1, h2, h3, h4⟩
  · exact .inl h1
  · exact .inr ⟨b, c, f, low, h1, a.own _ _ _ _ _ h2 (hF f h4), h3, h4⟩
end Go.Den
/- Append, make, copy, slices of slices: what they leave, said without blocks. -/
namespace Go.Den
open Go
variable {P : Program} {h h' h'' : H} {lo : Nat}

theorem read_lt (wf : HWF h) {b : Nat} {l : List V} (hr : h.read b = some l) : b < h.next := by
  rcases read_some hr with hg | ⟨_, _, _, hg, _⟩ <;> exact wf.lt _ _ hg
theorem append_ch {t u e es by_ n m : Nat} {s x : V} {cs xs : List V} {F : Option Nat} (T : ApT P t u e es by_) (wf : HWF h) (hlo : lo ≤ h.next) (hb : Buf h lo es s n cs F) (hx : elems h.read es x = some (m, xs)) (hxl : xs.length = m * es) (hsc : xs.all scal = true)
    (hroom : (n + m) * by_ ≤ 140737488355328) (hroom2 : n + m ≤ 9223372036854775807) :
    ∃ v h' F', appendV P lo [t, u] s x h = some (v, h') ∧ Buf h' lo es v (n + m) (cs ++ xs) F' ∧ Ch None_ (fun g => F = some g) h h' ∧ (∀ g, F' = some g → F = some g ∨ h.next ≤ g) ∧ (v = .nils → n + m = 0) := by
  obtain ⟨v, h', F', e1, e2, e3, e4, e5, e6, e7⟩ := append_buf T wf hlo hb hx hxl hsc hroom hroom2
  refine ⟨v, h', F', e1, e2, ch_keeps wf e3 e4 fun b l hr => ?_, e5, e6⟩
  unfold H.famOf
  rw [e7 b (read_lt wf hr)]
theorem append_of {α : Type} {Er : Rd → List V → α → Prop} {t u e es by_ : Nat} {s x : V} {r : Rd} {xs ys : List α} {ds : List (List V)} {F : Option Nat} (T : ApT P t u e es by_) (wf : HWF h) (hlo : lo ≤ h.next) (hb : BufOf Er es lo h r s xs F)
    (hx : elems h.read es x = some (ys.length, ds.flatten)) (w : Wide es ds) (he : Each (Er r) ds ys) (hsc : ds.flatten.all scal = true)
    (hroom : (xs.length + ys.length) * by_ ≤ 140737488355328) (hroom2 : xs.length + ys.length ≤ 9223372036854775807) :
    ∃ v h' F', appendV P lo [t, u] s x h = some (v, h') ∧ BufOf Er es lo h' r v (xs ++ ys) F' ∧ Ch None_ (fun g => F = some g) h h' ∧ (∀ g, F' = some g → F = some g ∨ h.next ≤ g) := by
  obtain ⟨cs, h1, h2, h3⟩ := hb
  obtain ⟨v, h', F', e1, e2, e3, e4, _⟩ := append_ch T wf hlo h2 hx (by rw [w.length, he.1]) hsc hroom hroom2
  refine ⟨v, h', F', e1, ⟨cs ++ ds, h1.append w, ?_, h3.append he⟩, e3, e4⟩
  rw [List.flatten_append, List.length_append]
  exact e2
theorem append_one {α : Type} {Er : Rd → List V → α → Prop} {t u e es by_ : Nat} {s x : V} {r : Rd} {xs : List α} {y : α} {d : List V} {F : Option Nat} (T : ApT P t u e es by_) (wf : HWF h) (hlo : lo ≤ h.next) (hb : BufOf Er es lo h r s xs F)
    (hx : elems h.read es x = some (1, d)) (w : d.length = es) (he : Er r d y) (hsc : d.all scal = true)
    (hroom : (xs.length + 1) * by_ ≤ 140737488355328) (hroom2 : xs.length + 1 ≤ 9223372036854775807) :
    ∃ v h' F', appendV P lo [t, u] s x h = some (v, h') ∧ BufOf Er es lo h' r v (xs ++ [y]) F' ∧ Ch None_ (fun g => F = some g) h h' ∧ (∀ g, F' = some g → F = some g ∨ h.next ≤ g) := by
  have e1 : Each (Er r) [d] [y] := (Each.nil (Er r)).snoc he
  exact append_of (ds := [d]) (ys := [y]) T wf hlo hb (by simpa using hx) (fun c hc => by simp at hc; subst hc; exact w) e1 (by simpa using hsc) hroom hroom2

/-! ### make, copy -/
structure MkT (P : Program) (t e es by_ : Nat) (z : List V) : Prop where
  t : P.underlying t = some (.slice e)
  i : ∃ i w, P.info? e = some i ∧ i.size = es ∧ i.bytes = by_ ∧ i.zero.bind ofValue = some w ∧ w.cells = z
  z : z.length = es
theorem make_ok {t e es by_ n m : Nat} {z : List V} {k k' : IntKind} (T : MkT P t e es by_ z) (hn : n ≤ m) (hm : m ≤ 9223372036854775807) (hb : by_ * m ≤ 281474976710656) :
    makeSliceV P t (.int k (n : Int)) (.int k' (m : Int)) = some (.new (reps m z) (.sl n (some m) es)) := by
  obtain ⟨i, w, hi, hs, hby, hz, hw⟩ := T.i
  have hzl := T.z
  subst hs
  subst hby
  subst hw
  unfold makeSliceV
  simp only [T.t, hi, hz]
  have h1 : (i.bytes : Int) * (m : Int) ≤ 281474976710656 := by
    have : ((i.bytes * m : Nat) : Int) ≤ 281474976710656 := by omega
    simpa using this
  rw [if_pos ⟨hzl, by omega, by omega, by omega, h1⟩]
  simp
theorem reps_one {z : V} : ∀ n, reps n [z] = List.replicate n z
  | 0 => rfl
  | n + 1 => by simp [reps, reps_one n, List.replicate_succ]
structure CpT (P : Program) (t e es : Nat) : Prop where
  t : P.underlying t = some (.slice e)
  s : size? P e = some es
  p : 0 < es
/-- copy into cells that are one's own -/
theorem copy_ok {t u e es n m : Nat} {b o f low : Nat} {c : Option Nat} {s : V} {cs xs : List V} (T : CpT P t e es) (wf : HWF h) (ho : h.owned lo b = some (cs, f, low)) (hs : elems h.read es s = some (m, xs)) (hxl : xs.length = m * es) (hsc : xs.all scal = true)
    (hn : m ≤ n) (hr : o + n * es ≤ cs.length) :
    ∃ h' low', copyV P lo [t, u] (.sl b o n c es) s h = some (.int .i64 (m : Int), h') ∧ h'.owned lo b = some (cs.take o ++ xs ++ cs.drop (o + m * es), f, low') ∧ Ch (· = f) (· = f) h h' ∧ h'.next = h.next := by
  have hmin : min m n = m := by omega
  have hp := T.p
  have hcond : ¬ (es ≠ es ∨ xs.all scal = false) := by simp [hsc]
  by_cases hm : m = 0
  · subst hm
    have hx0 : xs = [] := List.eq_nil_of_length_eq_zero (by omega)
    subst hx0
    refine ⟨h, low, ?_, by simpa using ho, Ch.refl _ _ wf, rfl⟩
    unfold copyV
    simp only [T.t, T.s, hs]
    rw [if_neg hcond]
    simp
  · have hle : o + m * es ≤ cs.length := by
      have := Nat.mul_le_mul_right es hn
      omega
    refine ⟨h.put b f (cs.take o ++ xs ++ cs.drop (o + m * es)), b, ?_, owned_put_same ho, ch_put wf ho, rfl⟩
    unfold copyV
    simp only [T.t, T.s, hs]
    rw [if_neg hcond]
    simp only [hmin]
    have h0 : ¬ (m * es = 0) := by
      intro h
      rcases Nat.mul_eq_zero.1 h with h1 | h1 <;> omega
    rw [if_neg h0]
    simp only [ho]
    have htake : xs.take (m * es) = xs := List.take_of_length_le (by omega)
    rw [htake]
    unfold fill1
    rw [hxl, if_pos hle]

/-! ### slices of slices -/
theorem bound_ok {k : IntKind} {i top d : Nat} (h1 : i ≤ top) : bound (some (.int k (i : Int))) d top = some i := by
  simp only [bound]
  rw [if_pos (by omega)]
  simp
theorem bound_none {top d : Nat} : bound none d top = some d := rfl
theorem capOf_le {c : Option Nat} {n i : Nat} (h : i ≤ n) : i ≤ capOf c n := by
  unfold capOf
  split <;> omega
theorem capSub_zero (c : Option Nat) : capSub c 0 = c := by
  cases c with
  | none => rfl
  | some k =>
    unfold capSub
    simp only
    congr 1
    split <;> omega
theorem slice_ok {t e es : Nat} (T : SlT P t e es) {rd : Rd} {b o n : Nat} {c : Option Nat} {lo hi : Nat} {k k' : IntKind} (h1 : lo ≤ hi) (h2 : hi ≤ n) :
    sliceV P rd t (.sl b o n c es) (some (.int k (lo : Int))) (some (.int k' (hi : Int))) none = some (.sl b (o + lo * es) (hi - lo) (capSub c lo) es) := by
  unfold sliceV
  simp only [T.u, T.s, if_true, bound_none, bound_ok (capOf_le h2), bound_ok h1]
  simp
theorem slice_from {t e es : Nat} (T : SlT P t e es) {rd : Rd} {b o n : Nat} {c : Option Nat} {lo : Nat} {k : IntKind} (h1 : lo ≤ n) :
    sliceV P rd t (.sl b o n c es) (some (.int k (lo : Int))) none none = some (.sl b (o + lo * es) (n - lo) (capSub c lo) es) := by
  unfold sliceV
  simp only [T.u, T.s, if_true, bound_none, bound_ok h1]
  simp
theorem slice_to {t e es : Nat} (T : SlT P t e es) {rd : Rd} {b o n : Nat} {c : Option Nat} {hi : Nat} {k : IntKind} (h1 : hi ≤ n) :
    sliceV P rd t (.sl b o n c es) none (some (.int k (hi : Int))) none = some (.sl b o hi c es) := by
  unfold sliceV
  simp only [T.u, T.s, if_true, bound_none, bound_ok (capOf_le h1)]
  simp [capSub_zero]
/-- a part of a slice holds a part of what it holds -/
theorem Sl.part {rd : Rd} {es b o n : Nat} {c : Option Nat} {cs : List V} (hs : Sl rd es (.sl b o n c es) n cs) {lo hi : Nat} (c' : Option Nat) (h1 : lo ≤ hi) (h2 : hi ≤ n) : Sl rd es (.sl b (o + lo * es) (hi - lo) c' es) (hi - lo) ((cs.drop (lo * es)).take ((hi - lo) * es)) := by
  rcases hs with ⟨h, _, _⟩ | ⟨b', o', c'', l, h3, h4, h5, h6⟩
  · cases h
  · cases h3
    have e1 : lo * es + (hi - lo) * es = hi * es := by rw [← Nat.add_mul]; congr 1; omega
    have e2 : hi * es ≤ n * es := Nat.mul_le_mul_right es h2
    refine .inr ⟨b, o + lo * es, c', l, rfl, h4, by omega, ?_⟩
    rw [h6, List.drop_take, List.take_take, List.drop_drop, Nat.min_eq_left (by omega)]
theorem Bytes.slice {t e : Nat} (T : SlT P t e 1) {rd rd' : Rd} {v : V} {bs : List UInt8} (hb : Bytes rd v bs) {lo hi : Nat} {k k' : IntKind} (h1 : lo ≤ hi) (h2 : hi ≤ bs.length) :
    ∃ w, sliceV P rd' t v (some (.int k (lo : Int))) (some (.int k' (hi : Int))) none = some w ∧ Bytes rd w ((bs.drop lo).take (hi - lo)) := by
  have hb' := hb
  rcases hb with ⟨rfl, h3, h4⟩ | ⟨b, o, c, l, rfl, h4, h5, h6⟩
  · have h0 : bs = [] := List.eq_nil_of_length_eq_zero h3
    subst h0
    have hhi : hi = 0 := by simpa using h2
    subst hhi
    have hlo : lo = 0 := by omega
    subst hlo
    refine ⟨.nils, ?_, by simpa using hb'⟩
    unfold sliceV
    simp only [T.u, T.s]
    simp [bound]
  · refine ⟨_, slice_ok T h1 h2, ?_⟩
    have := Sl.part hb' (capSub c lo) h1 h2
    unfold Bytes
    have e1 : ((bs.drop lo).take (hi - lo)).length = hi - lo := by simp; omega
    rw [e1, List.map_take, List.map_drop]
    simpa using this
theorem Bytes.from {t e : Nat} (T : SlT P t e 1) {rd rd' : Rd} {v : V} {bs : List UInt8} (hb : Bytes rd v bs) {lo : Nat} {k : IntKind} (h1 : lo ≤ bs.length) :
    ∃ w, sliceV P rd' t v (some (.int k (lo : Int))) none none = some w ∧ Bytes rd w (bs.drop lo) := by
  have hb' := hb
  rcases hb with ⟨rfl, h3, h4⟩ | ⟨b, o, c, l, rfl, h4, h5, h6⟩
  · have h0 : bs = [] := List.eq_nil_of_length_eq_zero h3
    subst h0
    have hlo : lo = 0 := by simpa using h1
    subst hlo
    refine ⟨.nils, ?_, by simpa using hb'⟩
    unfold sliceV
    simp only [T.u, T.s]
    simp [bound]
  · refine ⟨_, slice_from T h1, ?_⟩
    have := Sl.part hb' (capSub c lo) h1 (Nat.le_refl _)
    unfold Bytes
    rw [List.length_drop, List.map_drop]
    have e2 : ((bs.map byteV).drop (lo * 1)).take ((bs.length - lo) * 1) = (bs.map byteV).drop lo := by
      rw [Nat.mul_one, Nat.mul_one, List.take_of_length_le (by simp)]
    rw [e2] at this
    exact this
theorem Bytes.elems {rd : Rd} {v : V} {bs : List UInt8} (hb : Bytes rd v bs) : Den.elems rd 1 v = some (bs.length, bs.map byteV) := Sl.elems hb
theorem bytes_scal (bs : List UInt8) : (bs.map byteV).all scal = true := by
  rw [List.all_eq_true]
  intro x hx
  obtain ⟨b, _, rfl⟩ := List.mem_map.1 hx
  rfl
theorem Buf.bytes {lo : Nat} {v : V} {bs : List UInt8} {F : Option Nat} {X : Nat → Prop} (wf : HWF h) (hb : Buf h lo 1 v bs.length (bs.map byteV) F) (hF : ∀ f, F = some f → ¬ X f) : Bytes (h.rb X) v bs := by
  rcases hb with ⟨q1, q2, q3, _⟩ | ⟨b, c, f, low, q1, q2, q3, q4⟩
  · exact .inl ⟨q1, q2, q3⟩
  · refine .inr ⟨b, 0, c, _, q1, rb_iff.2 ⟨owned_read wf q2, fun g hg => ?_⟩, by omega, by rw [List.drop_zero, ← q3, List.take_length]⟩
    obtain ⟨hg2, _, _⟩ := owned_some q2
    rw [famOf_of hg2] at hg
    cases hg
    exact hF f q4
theorem cells_byte (b : UInt8) : (byteV b).cells = [byteV b] := rfl
theorem cells_bool (b : Bool) : (V.bool b).cells = [.bool b] := rfl
theorem cells_int (k : IntKind) (n : Int) : (V.int k n).cells = [.int k n] := rfl
theorem cells_str (b : List UInt8) : (V.str b).cells = [.str b] := rfl
theorem cells_ptr (b o : Nat) : (V.ptr b o).cells = [.ptr b o] := rfl
theorem cells_nils : V.nils.cells = [.nils] := rfl
theorem cells_sl (b o n es : Nat) (c : Option Nat) : (V.sl b o n c es).cells = [.sl b o n c es] := rfl
theorem cells_agg (cs : List V) : (V.agg cs).cells = cs := rfl
theorem rb_none (h : H) : Le h.read (h.rb None_) := fun b l hr => rb_iff.2 ⟨hr, fun _ _ h => h⟩
theorem Buf.ch {X Y : Nat → Prop} {es n : Nat} {v : V} {cs : List V} {F : Option Nat} (hb : Buf h lo es v n cs F) (a : Ch X Y h h') (hF : ∀ f, F = some f → ¬ Y f) : Buf h' lo es v n cs F := by
  rcases hb with h1 | ⟨b, c, f, low, h1, h2, h3, h4⟩
  · exact .inl h1
  · exact .inr ⟨b, c, f, low, h1, a.own _ _ _ _ _ h2 (hF f h4), h3, h4⟩
theorem CW.low {C : Cfg} (hS : ShortLow C) {f : FuncId} {as : List V} {lo lo' : Nat} {K : V → H → Prop} (hl : lo ≤ lo') (hw : CW C f as lo' h K) : CW C f as lo h K := by
  obtain ⟨n, v, h', h1, h2⟩ := hw
  exact ⟨n, v, h', call_le hS (Nat.le_refl n) _ _ _ _ _ _ _ hl h1, h2⟩
/-! ### stores -/
theorem store_cell {t b o f low : Nat} {cs : List V} {v : V} (hs : size? P t = some 1) (ho : h.owned lo b = some (cs, f, low)) (hv : v.cells = [v]) (hsc : scal v = true) (hlt : o < cs.length) :
    storeV P lo t (.ptr b o) v h = some (h.put b f (cs.take o ++ [v] ++ cs.drop (o + 1))) := by
  unfold storeV
  simp only [ho, hv, hs]
  have hc : (some 1 = some [v].length ∧ ([v].all scal) = true) := ⟨rfl, by simp [hsc]⟩
  rw [if_pos hc]
  unfold fill1
  rw [if_pos (by simp; omega)]
  simp
def IsSl (v : V) : Prop := v = .nils ∨ ∃ b o n c es, v = .sl b o n c es
theorem IsSl.cells {v : V} (i : IsSl v) : v.cells = [v] := by
  rcases i with rfl | ⟨b, o, n, c, es, rfl⟩ <;> rfl
theorem IsSl.scal {v : V} (i : IsSl v) : scal v = true := by
  rcases i with rfl | ⟨b, o, n, c, es, rfl⟩ <;> rfl
theorem Sl.isSl {rd : Rd} {es n : Nat} {v : V} {cs : List V} (hs : Sl rd es v n cs) : IsSl v := by
  rcases hs with ⟨rfl, _⟩ | ⟨b, o, c, l, rfl, _⟩
  · exact .inl rfl
  · exact .inr ⟨_, _, _, _, _, rfl⟩
theorem Buf.isSl {es n : Nat} {v : V} {cs : List V} {F : Option Nat} (hs : Buf h lo es v n cs F) : IsSl v := by
  rcases hs with ⟨rfl, _⟩ | ⟨b, c, f, low, rfl, _⟩
  · exact .inl rfl
  · exact .inr ⟨_, _, _, _, _, rfl⟩
theorem Buf.lt {es n : Nat} {v : V} {cs : List V} {F : Option Nat} (wf : HWF h) (hs : Buf h lo es v n cs F) {g : Nat} (hg : F = some g) : g < h.next := by
  rcases hs with ⟨rfl, _, _, h4⟩ | ⟨b, c, f, low, rfl, h2, h3, h4⟩
  · rw [h4] at hg; cases hg
  · rw [h4] at hg
    cases hg
    obtain ⟨h5, _, _⟩ := owned_some h2
    exact famOf_lt wf (famOf_of h5)
theorem BufOf.lt {α : Type} {Er : Rd → List V → α → Prop} {es : Nat} {r : Rd} {v : V} {xs : List α} {F : Option Nat} (wf : HWF h) (hb : BufOf Er es lo h r v xs F) {g : Nat} (hg : F = some g) : g < h.next := by
  obtain ⟨cs, _, h2, _⟩ := hb
  exact h2.lt wf hg
theorem BufOf.imp {α : Type} {Er Er' : Rd → List V → α → Prop} {es : Nat} {r r' : Rd} {v : V} {xs : List α} {F : Option Nat} (he : ∀ c x, Er r c x → Er' r' c x) (hb : BufOf Er es lo h r v xs F) : BufOf Er' es lo h r' v xs F := by
  obtain ⟨cs, h1, h2, h3⟩ := hb
  exact ⟨cs, h1, h2, h3.mono he⟩
theorem BufOf.own {α : Type} {Er : Rd → List V → α → Prop} {es : Nat} {X Y : Nat → Prop} {r : Rd} {v : V} {xs : List α} {F : Option Nat} (hb : BufOf Er es lo h r v xs F) (a : Ch X Y h h') (hF : ∀ f, F = some f → ¬ Y f) : BufOf Er es lo h' r v xs F := by
  obtain ⟨cs, h1, h2, h3⟩ := hb
  exact ⟨cs, h1, h2.ch a hF, h3⟩
theorem BufOf.len {α : Type} {Er : Rd → List V → α → Prop} {es : Nat} {r : Rd} {v : V} {xs : List α} {F : Option Nat} {t e : Nat} (T : SlT P t e es) (hb : BufOf Er es lo h r v xs F) : lenV P [t] v = some (.int .i64 (xs.length : Int)) := by
  obtain ⟨cs, h1, h2, h3⟩ := hb
  rcases h2 with ⟨rfl, h4, _⟩ | ⟨b, c, f, low, rfl, _, _, _⟩ <;> simp [lenV, T.u]
  omega
theorem SlOf.imp {α : Type} {Er Er' : Rd → List V → α → Prop} {es : Nat} {r : Rd} {v : V} {xs : List α} (he : ∀ c x, Er r c x → Er' r c x) (hb : SlOf Er es r v xs) : SlOf Er' es r v xs := by
  obtain ⟨cs, h1, h2, h3⟩ := hb
  exact ⟨cs, h1, h2, h3.mono he⟩
theorem SlOf.isSl {α : Type} {Er : Rd → List V → α → Prop} {es : Nat} {r : Rd} {v : V} {xs : List α} (hb : SlOf Er es r v xs) : IsSl v := by
  obtain ⟨cs, h1, h2, h3⟩ := hb
  exact h2.isSl
theorem rb_owned {X : Nat → Prop} {b f low : Nat} {l : List V} (wf : HWF h) (ho : h.owned lo b = some (l, f, low)) (hx : ¬ X f) : h.rb X b = some l := by
  obtain ⟨hg, _, _⟩ := owned_some ho
  exact rb_iff.2 ⟨owned_read wf ho, fun g hg2 => by rw [famOf_of hg] at hg2; cases hg2; exact hx⟩
theorem rb_new (wf : HWF h) (X : Nat → Prop) : Le (h.rb X) (h.rb fun g => X g ∨ h.next ≤ g) := fun b l hr => by
  obtain ⟨h1, h2⟩ := rb_iff.1 hr
  refine rb_iff.2 ⟨h1, fun f hf hx => ?_⟩
  rcases hx with h3 | h3
  · exact h2 f hf h3
  · have := famOf_lt wf hf
    omega
theorem byte_inj {x y : UInt8} : ((x.toNat : Int) = (y.toNat : Int)) = (x = y) := by
  apply propext
  constructor
  · intro h; exact UInt8.toNat_inj.1 (by omega)
  · rintro rfl; rfl
theorem byte_neq (t : Nat) (x y : UInt8) : binV P .neq t (byteV x) (byteV y) = some (.bool (decide (x ≠ y))) := by
  unfold byteV
  rw [binV_neq]
  congr 2
  rw [Bool.eq_iff_iff]
  simp [byte_inj]
theorem byte_eql (t : Nat) (x y : UInt8) : binV P .eql t (byteV x) (byteV y) = some (.bool (decide (x = y))) := by
  unfold byteV
  rw [binV_eql]
  congr 2
  rw [Bool.eq_iff_iff]
  simp [byte_inj]
theorem append_sl {α : Type} {Er : Rd → List V → α → Prop} {t u e es by_ : Nat} {s x : V} {r : Rd} {xs ys : List α} {F : Option Nat} (T : ApT P t u e es by_) (wf : HWF h) (hlo : lo ≤ h.next) (hb : BufOf Er es lo h r s xs F)
    (hx : SlOf Er es r x ys) (hr : Le r h.read) (hsc : ∀ c y, Er r c y → c.all scal = true)
    (hroom : (xs.length + ys.length) * by_ ≤ 140737488355328) (hroom2 : xs.length + ys.length ≤ 9223372036854775807) :
    ∃ v h' F', appendV P lo [t, u] s x h = some (v, h') ∧ BufOf Er es lo h' r v (xs ++ ys) F' ∧ Ch None_ (fun g => F = some g) h h' ∧ (∀ g, F' = some g → F = some g ∨ h.next ≤ g) := by
  obtain ⟨ds, w, sl, ea⟩ := hx
  refine append_of T wf hlo hb (sl.mono hr).elems w ea ?_ hroom hroom2
  rw [List.all_eq_true]
  intro v hv
  obtain ⟨c, hc, hv⟩ := List.mem_flatten.1 hv
  obtain ⟨i, hi⟩ := List.getElem?_of_mem hc
  have hlt := (List.getElem?_eq_some_iff.1 hi).1
  have hlen := ea.1
  have := hsc c _ (ea.2 i c _ hi (List.getElem?_eq_getElem (by omega)))
  rw [List.all_eq_true] at this
  exact this v hv
end Go.Den
/- Arguments as lists. -/
namespace Go.Den
open Go
variable {P : Program} {M : Nat}

theorem sl_ok {α : Type} {Er : Rd → List V → α → Prop} {rd : Rd} {t e es n : Nat} {v : V} (hu : P.underlying t = some (.slice e)) (hes : P.cellsOf e = es) (hel : ∀ cs, OkV P rd M n e cs → cs.length = es → ∃ x, Er rd cs x) (ho : OkV P rd M (n + 1) t [v]) :
    ∃ xs, SlOf Er es rd v xs ∧ xs.length ≤ M := by
  unfold OkV at ho
  simp only [hu, hes] at ho
  rcases ho with h | ⟨b, m, c, l, h1, h2, h3, h4, h5, h6⟩
  · cases h
    exact ⟨[], ⟨[], fun c hc => (by cases hc), .inl ⟨rfl, rfl, rfl⟩, Each.nil _⟩, Nat.zero_le _⟩
  · cases h1
    have hle : ∀ i, i < m → i * es + es ≤ l.length := fun i hi => by
      have h7 := Nat.mul_le_mul_right es (show i + 1 ≤ c by omega)
      rw [Nat.add_mul, Nat.one_mul] at h7
      omega
    have hw : ∀ i, i < m → ((l.drop (i * es)).take es).length = es := fun i hi => by
      have := hle i hi
      simp; omega
    have hx : ∀ i : Fin m, ∃ x, Er rd ((l.drop (i.1 * es)).take es) x := fun i => hel _ (h6 i.1 (by have := i.2; omega)) (hw i.1 i.2)
    refine ⟨List.ofFn fun i : Fin m => Classical.choose (hx i), ⟨(List.range m).map fun i => (l.drop (i * es)).take es, ?_, ?_, ?_⟩, by simp; omega⟩
    · intro c hc
      obtain ⟨i, hi, rfl⟩ := List.mem_map.1 hc
      exact hw i (List.mem_range.1 hi)
    · rw [flatten_pieces]
      have h7 := Nat.mul_le_mul_right es h2
      exact .inr ⟨b, 0, some c, l, by simp, h4, by simp; omega, by simp⟩
    · refine ⟨by simp, fun i c x q1 q2 => ?_⟩
      rw [List.getElem?_ofFn] at q2
      split at q2
      · rename_i hi
        cases q2
        rw [List.getElem?_map, List.getElem?_range hi] at q1
        cases q1
        exact Classical.choose_spec (hx ⟨i, hi⟩)
      · cases q2
def byteE (_ : Rd) (c : List V) (x : UInt8) : Prop := c = [byteV x]
theorem each_bytes {rd : Rd} : ∀ {cs : List (List V)} {xs : List UInt8}, Each (byteE rd) cs xs → cs.flatten = xs.map byteV
  | [], [], _ => rfl
  | [], _ :: _, h => by have := h.1; simp at this
  | _ :: _, [], h => by have := h.1; simp at this
  | c :: cs, x :: xs, h => by
    have h1 : c = [byteV x] := h.2 0 c x rfl rfl
    have h2 := each_bytes (rd := rd) (cs := cs) (xs := xs) ⟨by have := h.1; simpa using this, fun i c x q1 q2 => h.2 (i + 1) c x (by simpa using q1) (by simpa using q2)⟩
    simp [h1, h2]
theorem SlOf.bytes {rd : Rd} {v : V} {xs : List UInt8} (hs : SlOf byteE 1 rd v xs) : Bytes rd v xs := by
  obtain ⟨cs, h1, h2, h3⟩ := hs
  rw [each_bytes h3] at h2
  exact h2
theorem byte_ok {rd : Rd} {e n : Nat} {cs : List V} (hu : P.underlying e = some (.int .u8)) (ho : OkV P rd M n e cs) : ∃ x, byteE rd cs x := by
  cases n with
  | zero => exact ho.elim
  | succ n =>
    unfold OkV at ho
    simp only [hu] at ho
    obtain ⟨x, rfl, hw⟩ := ho
    have hr : 0 ≤ x ∧ x ≤ 255 := by
      simp [Lit.wf, IntKind.min, IntKind.max, IntKind.signed, IntKind.bits] at hw
      omega
    refine ⟨UInt8.ofNat x.toNat, ?_⟩
    unfold byteE byteV
    have : ((UInt8.ofNat x.toNat).toNat : Int) = x := by
      rw [UInt8.toNat_ofNat']
      omega
    rw [this]
theorem int_ok {rd : Rd} {e n : Nat} {k : IntKind} {cs : List V} (hu : P.underlying e = some (.int k)) (ho : OkV P rd M n e cs) : ∃ x, cs = [.int k x] ∧ (Lit.int k x).wf = true := by
  cases n with
  | zero => exact ho.elim
  | succ n =>
    unfold OkV at ho
    simp only [hu] at ho
    exact ho
theorem str_ok {rd : Rd} {e n : Nat} {cs : List V} (hu : P.underlying e = some .string) (ho : OkV P rd M n e cs) : ∃ x : List UInt8, cs = [.str x] ∧ x.length ≤ M := by
  cases n with
  | zero => exact ho.elim
  | succ n =>
    unfold OkV at ho
    simp only [hu] at ho
    exact ho
theorem bytes_ok {rd : Rd} {t e n : Nat} {v : V} (hu : P.underlying t = some (.slice e)) (he : P.underlying e = some (.int .u8)) (hes : P.cellsOf e = 1) (ho : OkV P rd M n t [v]) : ∃ bs, Bytes rd v bs ∧ bs.length ≤ M := by
  cases n with
  | zero => exact ho.elim
  | succ n =>
    obtain ⟨xs, h1, h2⟩ := sl_ok (Er := byteE) hu hes (fun cs hc _ => byte_ok he hc) ho
    exact ⟨xs, h1.bytes, h2⟩
theorem okA_slice {rd : Rd} {N t e : Nat} {v : V} (hu : P.underlying t = some (.slice e)) (ho : OkA P rd M N t v) : OkV P rd M N t [v] := by
  unfold OkA at ho
  simp only [hu] at ho
  exact ho
end Go.Den
/- Bytes that grow. -/
namespace Go.Den
open Go
variable {P : Program} {h h' h'' : H} {lo : Nat}
abbrev BufB (h : H) (lo : Nat) (v : V) (xs : List UInt8) (F : Option Nat) : Prop := Buf h lo 1 v xs.length (xs.map byteV) F
/-- what grew: the family, or a new one; nothing else has changed -/
structure Gr (h : H) (F : Option Nat) (h' : H) (F' : Option Nat) : Prop where
  ch : Ch None_ (fun g => F = some g ∨ h.next ≤ g) h h'
  F : ∀ g, F' = some g → F = some g ∨ h.next ≤ g
theorem Gr.refl (wf : HWF h) (F : Option Nat) : Gr h F h F := ⟨Ch.refl _ _ wf, fun _ h => .inl h⟩
theorem Gr.trans {F F1 F2 : Option Nat} (a : Gr h F h' F1) (b : Gr h' F1 h'' F2) : Gr h F h'' F2 where
  ch := a.ch.trans (b.ch.mono (fun _ h => h) fun g hg => by
    rcases hg with hg | hg
    · exact a.F g hg
    · exact .inr (Nat.le_trans a.ch.next hg))
  F := fun g hg => by
    rcases b.F g hg with h1 | h1
    · exact a.F g h1
    · exact .inr (Nat.le_trans a.ch.next h1)
theorem Gr.of {F : Option Nat} (a : Ch None_ None_ h h') : Gr h F h' F := ⟨a.mono (fun _ h => h) (None_sub _), fun _ h => .inl h⟩
theorem Gr.app {F F' : Option Nat} (a : Ch None_ (fun g => F = some g) h h') (hF : ∀ g, F' = some g → F = some g ∨ h.next ≤ g) : Gr h F h' F' := ⟨a.mono (fun _ h => h) fun _ h => .inl h, hF⟩
theorem append_bytes {t u e : Nat} {s x : V} {xs ys : List UInt8} {F : Option Nat} (T : ApT P t u e 1 1) (wf : HWF h) (hlo : lo ≤ h.next) (hb : BufB h lo s xs F) (hx : elems h.read 1 x = some (ys.length, ys.map byteV)) (hr : xs.length + ys.length ≤ 140737488355328) :
    ∃ v h' F', appendV P lo [t, u] s x h = some (v, h') ∧ BufB h' lo v (xs ++ ys) F' ∧ Gr h F h' F' := by
  obtain ⟨v, h', F', e1, e2, e3, e4, _⟩ := append_ch T wf hlo hb hx (by simp) (bytes_scal ys) (by omega) (by omega)
  refine ⟨v, h', F', e1, ?_, Gr.app e3 e4⟩
  unfold BufB
  rw [List.length_append, List.map_append]
  exact e2
/-- append of one byte out of a new literal -/
theorem append_byte {t e : Nat} {s : V} {xs : List UInt8} {F : Option Nat} (T : ApT P t t e 1 1) (wf : HWF h) (hlo : lo ≤ h.next) (hb : BufB h lo s xs F) (y : UInt8) (hr : xs.length + 1 ≤ 140737488355328) :
    ∃ v h' F', appendV P lo [t, t] s (.sl h.next 0 1 (some 1) 1) (h.alloc [byteV y]) = some (v, h') ∧ BufB h' lo v (xs ++ [y]) F' ∧ Gr h F h' F' := by
  have c1 := ch_alloc wf [byteV y]
  obtain ⟨v, h', F', e1, e2, e3⟩ := append_bytes (ys := [y]) T c1.wf (Nat.le_trans hlo c1.next) (Buf.ch hb c1 fun _ _ h => h) (elems_new (c := some 1) wf (n := 1) (es := 1) rfl) hr
  exact ⟨v, h', F', e1, e2, (Gr.of c1).trans e3⟩
theorem endX_buf {es n : Nat} {s : V} {cs : List V} {F : Option Nat} {K : Prop} (wf : HWF h) (hb : Buf h lo es s n cs F) (hk : K) : endX h s K := by
  rcases hb with ⟨rfl, _⟩ | ⟨b, c, f, low, rfl, h2, h3, _⟩
  · exact hk
  · unfold endX
    simp only [owned_read wf h2]
    exact ⟨by omega, hk⟩
theorem BufB.lower {lo' : Nat} {v : V} {xs : List UInt8} {F : Option Nat} (hl : lo' ≤ lo) (hb : BufB h lo v xs F) : BufB h lo' v xs F := Buf.lower hl hb
/-- a byte of a whole number -/
def lowB (n : Int) : UInt8 := UInt8.ofNat (n % 256).toNat
theorem byteV_low (n : Int) : V.int .u8 (IntKind.wrap .u8 n) = byteV (lowB n) := by
  unfold byteV lowB
  congr 1
  have h1 : IntKind.wrap .u8 n = n % 256 := by simp [IntKind.wrap, IntKind.bits, IntKind.signed]
  rw [h1, UInt8.toNat_ofNat']
  omega
/-- a struct is stored -/
theorem store_agg {t b o f low n : Nat} {cs c : List V} (hs : size? P t = some n) (ho : h.owned lo b = some (cs, f, low)) (hc : c.length = n) (hsc : c.all scal = true) (hle : o + n ≤ cs.length) :
    storeV P lo t (.ptr b o) (.agg c) h = some (h.put b f (cs.take o ++ c ++ cs.drop (o + n))) := by
  unfold storeV
  simp only [ho, hs]
  have h1 : (V.agg c).cells = c := rfl
  rw [h1, if_pos ⟨by rw [hc], hsc⟩]
  unfold fill1
  rw [hc, if_pos hle]
theorem at_owned {b f low : Nat} {cs : List V} (wf : HWF h) (ho : h.owned lo b = some (cs, f, low)) (X : Nat → Prop) (hx : ¬ X f) : At (h.rb X) b 0 cs := ⟨cs, rb_owned wf ho hx, by simp⟩
theorem Bytes.to {t e : Nat} (T : SlT P t e 1) {rd rd' : Rd} {v : V} {bs : List UInt8} (hb : Bytes rd v bs) {hi : Nat} {k : IntKind} (h1 : hi ≤ bs.length) :
    ∃ w, sliceV P rd' t v none (some (.int k (hi : Int))) none = some w ∧ Bytes rd w (bs.take hi) := by
  have hb' := hb
  rcases hb with ⟨rfl, h3, h4⟩ | ⟨b, o, c, l, rfl, h4, h5, h6⟩
  · have h0 : bs = [] := List.eq_nil_of_length_eq_zero h3
    subst h0
    have hhi : hi = 0 := by simpa using h1
    subst hhi
    refine ⟨.nils, ?_, by simpa using hb'⟩
    unfold sliceV
    simp only [T.u, T.s]
    simp [bound]
  · refine ⟨_, slice_to T h1, ?_⟩
    have := Sl.part hb' c (Nat.zero_le hi) h1
    unfold Bytes
    have e1 : (bs.take hi).length = hi := by simp; omega
    rw [e1, List.map_take]
    simpa using this
/-- an object of one's own -/
def Own (h : H) (lo b f : Nat) (cs : List V) : Prop := ∃ low, h.owned lo b = some (cs, f, low)
theorem Own.read {b f : Nat} {cs : List V} (wf : HWF h) (r : Own h lo b f cs) : h.read b = some cs := by
  obtain ⟨low, ho⟩ := r
  exact owned_read wf ho
theorem Own.ch {b f : Nat} {cs : List V} {X Y : Nat → Prop} (a : Ch X Y h h') (r : Own h lo b f cs) (hf : ¬ Y f) : Own h' lo b f cs := by
  obtain ⟨low, ho⟩ := r
  exact ⟨low, a.own _ _ _ _ _ ho hf⟩
theorem Own.lt {b f : Nat} {cs : List V} (wf : HWF h) (r : Own h lo b f cs) : lo ≤ h.next ∧ f < h.next ∧ b < h.next := by
  obtain ⟨low, ho⟩ := r
  obtain ⟨h1, _, h3⟩ := owned_some ho
  have := wf.lt _ _ h1
  exact ⟨by omega, famOf_lt wf (famOf_of h1), this⟩
theorem Own.at {b f : Nat} {cs : List V} (wf : HWF h) (r : Own h lo b f cs) : At h.read b 0 cs := ⟨cs, r.read wf, by simp⟩
theorem Own.new {cs : List V} (hlo : lo ≤ h.next) : Own (h.alloc cs) lo h.next h.next cs := ⟨_, owned_alloc_new hlo⟩
/-- one cell of it is set -/
theorem Own.set {t b o f : Nat} {cs : List V} {w : V} (wf : HWF h) (r : Own h lo b f cs) (hs : size? P t = some 1) (hc : w.cells = [w]) (hsc : scal w = true) (ho : o < cs.length) :
    ∃ h', storeV P lo t (.ptr b o) w h = some h' ∧ Own h' lo b f (cs.take o ++ [w] ++ cs.drop (o + 1)) ∧ Ch (· = f) (· = f) h h' ∧ h'.next = h.next := by
  obtain ⟨low, hw⟩ := r
  exact ⟨_, store_cell hs hw hc hsc ho, ⟨_, owned_put_same hw⟩, ch_put wf hw, rfl⟩
/-- all of it is set -/
theorem Own.fill {t b f n : Nat} {cs c : List V} (wf : HWF h) (r : Own h lo b f cs) (hs : size? P t = some n) (hc : c.length = n) (hsc : c.all scal = true) (hn : cs.length = n) :
    ∃ h', storeV P lo t (.ptr b 0) (.agg c) h = some h' ∧ Own h' lo b f c ∧ Ch (· = f) (· = f) h h' ∧ h'.next = h.next := by
  obtain ⟨low, hw⟩ := r
  have e : cs.take 0 ++ c ++ cs.drop (0 + n) = c := by simp [hn]
  refine ⟨h.put b f c, ?_, ⟨_, owned_put_same hw⟩, ch_put wf hw, rfl⟩
  have := store_agg hs hw hc hsc (o := 0) (by omega)
  rwa [e] at this
end Go.Den
