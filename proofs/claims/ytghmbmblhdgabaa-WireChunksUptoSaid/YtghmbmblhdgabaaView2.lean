/- What a piece of code may change, and what slices of anything hold. -/
import Derived.Test.YtghmbmblhdgabaaBuf
set_option linter.all false
namespace Go.Den
open Go
variable {P : Program} {h h' h'' : H} {lo : Nat}

/-! ### what is read beside the families that may change -/
open Classical in
noncomputable def H.rb (h : H) (X : Nat → Prop) : Rd := fun b => if ∃ f, h.famOf b = some f ∧ X f then none else h.read b
theorem rb_iff {X : Nat → Prop} {b : Nat} {l : List V} : h.rb X b = some l ↔ h.read b = some l ∧ ∀ f, h.famOf b = some f → ¬ X f := by
  unfold H.rb
  by_cases e : ∃ f, h.famOf b = some f ∧ X f
  · rw [if_pos e]
    obtain ⟨f, h1, h2⟩ := e
    exact ⟨fun h => (by cases h), fun ⟨_, h3⟩ => (h3 f h1 h2).elim⟩
  · rw [if_neg e]
    exact ⟨fun h3 => ⟨h3, fun f h1 h2 => e ⟨f, h1, h2⟩⟩, fun h => h.1⟩
def Le (r r' : Rd) : Prop := ∀ b l, r b = some l → r' b = some l
theorem Le.refl (r : Rd) : Le r r := fun _ _ h => h
theorem Le.trans {r r' r'' : Rd} (a : Le r r') (b : Le r' r'') : Le r r'' := fun c l h => b c l (a c l h)
theorem rb_le (h : H) (X : Nat → Prop) : Le (h.rb X) h.read := fun _ _ hr => (rb_iff.1 hr).1
theorem rb_mono {X Y : Nat → Prop} (hs : ∀ f, X f → Y f) : Le (h.rb Y) (h.rb X) := fun _ _ hr => by
  obtain ⟨h1, h2⟩ := rb_iff.1 hr
  exact rb_iff.2 ⟨h1, fun f hf hx => h2 f hf (hs f hx)⟩
theorem rb_ro (a : AllRo h) (X : Nat → Prop) : Le h.read (h.rb X) := fun b l hr => rb_iff.2 ⟨hr, fun f hf => by rw [a.fam b] at hf; cases hf⟩

/-- a change of no more than what the families X hold, what the families Y have room for, and what is new -/
structure Ch (X Y : Nat → Prop) (h h' : H) : Prop where
  next : h.next ≤ h'.next
  wf : HWF h'
  read : ∀ b l, h.rb X b = some l → h'.read b = some l ∧ h'.famOf b = h.famOf b
  own : ∀ lo b l f low, h.owned lo b = some (l, f, low) → ¬ Y f → h'.owned lo b = some (l, f, low)
theorem Ch.refl (X Y : Nat → Prop) (wf : HWF h) : Ch X Y h h := ⟨Nat.le_refl _, wf, fun _ _ hr => ⟨(rb_iff.1 hr).1, rfl⟩, fun _ _ _ _ _ ho _ => ho⟩
theorem Ch.rb {X Y Z : Nat → Prop} (a : Ch X Y h h') (hs : ∀ f, X f → Z f) : Le (h.rb Z) (h'.rb Z) := fun b l hr => by
  obtain ⟨h1, h2⟩ := rb_iff.1 hr
  obtain ⟨h3, h4⟩ := a.read b l (rb_mono hs _ _ hr)
  exact rb_iff.2 ⟨h3, by rw [h4]; exact h2⟩
theorem Ch.trans {X Y : Nat → Prop} (a : Ch X Y h h') (b : Ch X Y h' h'') : Ch X Y h h'' where
  next := Nat.le_trans a.next b.next
  wf := b.wf
  read := fun c l hr => by
    obtain ⟨h3, h4⟩ := a.read c l hr
    obtain ⟨h5, h6⟩ := b.read c l (a.rb (fun _ h => h) c l hr)
    exact ⟨h5, h6.trans h4⟩
  own := fun lo c l f low ho hy => b.own lo c l f low (a.own lo c l f low ho hy) hy
theorem Ch.mono {X Y X' Y' : Nat → Prop} (a : Ch X Y h h') (hx : ∀ f, X f → X' f) (hy : ∀ f, Y f → Y' f) : Ch X' Y' h h' :=
  ⟨a.next, a.wf, fun b l hr => a.read b l (rb_mono hx b l hr), fun lo b l f low ho hn => a.own lo b l f low ho fun h => hn (hy f h)⟩
theorem famOf_lt (wf : HWF h) {b f : Nat} (hf : h.famOf b = some f) : f < h.next := by
  unfold H.famOf at hf
  cases hg : h.get b with
  | none => rw [hg] at hf; cases hf
  | some o =>
    rw [hg] at hf
    cases o with
    | map es => cases hf
    | cells l g =>
      have hf : g = some f := hf
      subst hf
      have h1 := wf.lt _ _ hg
      have h2 := (wf.fam _ _ _ hg).1
      omega
/-- what concerns new families alone concerns nothing that there was -/
theorem Ch.old {X Y X' Y' : Nat → Prop} (wf : HWF h) (a : Ch X Y h h') (hx : ∀ f, X f → f < h.next → X' f) (hy : ∀ f, Y f → f < h.next → Y' f) : Ch X' Y' h h' where
  next := a.next
  wf := a.wf
  read := fun b l hr => by
    obtain ⟨h1, h2⟩ := rb_iff.1 hr
    exact a.read b l (rb_iff.2 ⟨h1, fun f hf hX => h2 f hf (hx f hX (famOf_lt wf hf))⟩)
  own := fun lo b l f low ho hn => a.own lo b l f low ho fun hY => hn (hy f hY (by
    obtain ⟨hg, _, _⟩ := owned_some ho
    exact famOf_lt wf (famOf_of hg)))
theorem Fr.own {F : Nat → Prop} (a : Fr F h h') (wf : HWF h) : ∀ lo b l f low, h.owned lo b = some (l, f, low) → ¬ F f → h'.owned lo b = some (l, f, low) := fun _ _ _ _ _ ho hn => a.owned wf ho hn
theorem Fr.ch {F : Nat → Prop} (a : Fr F h h') (wf : HWF h) : Ch F F h h' where
  next := a.next
  wf := a.wf wf
  read := fun b l hr => by
    obtain ⟨h1, h2⟩ := rb_iff.1 hr
    refine ⟨a.read wf h1 h2, ?_⟩
    have hlt : b < h.next := by rcases read_some h1 with hg | ⟨_, _, _, hg, _⟩ <;> exact wf.lt _ _ hg
    unfold H.famOf
    rw [a.get b hlt h2]
  own := a.own wf
abbrev None_ : Nat → Prop := fun _ => False
theorem Good.ch (g : Good h.next h h') (wf : HWF h) : Ch None_ None_ h h' := (g.fr None_).ch wf
theorem ch_alloc (wf : HWF h) (l : List V) : Ch None_ None_ h (h.alloc l) := (fr_alloc None_ l).ch wf
theorem ch_put (wf : HWF h) {b f low : Nat} {l l' : List V} (ho : h.owned lo b = some (l, f, low)) : Ch (· = f) (· = f) h (h.put b f l') := (fr_put ho).ch wf
/-- what keeps what is read, and the room of all other families -/
theorem ch_keeps {F : Nat → Prop} (wf : HWF h) (k : Keeps h h') (a : Fr F h h') (hf : ∀ b l, h.read b = some l → h'.famOf b = h.famOf b) : Ch None_ F h h' where
  next := a.next
  wf := a.wf wf
  read := fun b l hr => ⟨k b l (rb_iff.1 hr).1, hf b l (rb_iff.1 hr).1⟩
  own := a.own wf
theorem None_sub (Z : Nat → Prop) : ∀ f, None_ f → Z f := fun _ h => h.elim

/-! ### cells at a place -/
def At (rd : Rd) (b o : Nat) (c : List V) : Prop := ∃ l, rd b = some l ∧ (l.drop o).take c.length = c
theorem At.mono {r r' : Rd} (hl : Le r r') {b o : Nat} {c : List V} (a : At r b o c) : At r' b o c := by
  obtain ⟨l, h1, h2⟩ := a; exact ⟨l, hl _ _ h1, h2⟩
theorem At.cell {rd : Rd} {b o : Nat} {c : List V} (a : At rd b o c) {e j : Nat} {x : V} (S : Sc P e) (hx : c[j]? = some x) : loadV P e (.ptr b (o + j)) rd = some x := by
  obtain ⟨l, h1, h2⟩ := a
  refine loadV_one S h1 ?_
  have hj := (List.getElem?_eq_some_iff.1 hx).1
  rw [← hx, ← h2, List.getElem?_take, if_pos hj, List.getElem?_drop]
theorem At.cell0 {rd : Rd} {b o : Nat} {c : List V} (a : At rd b o c) {e : Nat} {x : V} (S : Sc P e) (hx : c[0]? = some x) : loadV P e (.ptr b o) rd = some x := a.cell S hx
theorem At.len {rd : Rd} {b o : Nat} {c : List V} (a : At rd b o c) : ∃ l, rd b = some l ∧ (c = [] ∨ o + c.length ≤ l.length) := by
  obtain ⟨l, h1, h2⟩ := a
  refine ⟨l, h1, ?_⟩
  have h3 := congrArg List.length h2
  simp only [List.length_take, List.length_drop] at h3
  by_cases h4 : c = []
  · exact .inl h4
  · have : 0 < c.length := List.length_pos_iff.2 h4
    exact .inr (by omega)
theorem At.agg {rd : Rd} {b o : Nat} {c : List V} (a : At rd b o c) {e n : Nat} (ha : agg? P e = some true) (hs : size? P e = some n) (hn : c.length = n) (h0 : 0 < n) : loadV P e (.ptr b o) rd = some (.agg c) := by
  obtain ⟨l, h1, h3⟩ := a.len
  obtain ⟨l', h1', h2⟩ := a
  rw [h1] at h1'
  cases h1'
  have h3 : o + c.length ≤ l.length := by
    rcases h3 with h3 | h3
    · subst h3; simp at hn; omega
    · exact h3
  subst hn
  unfold loadV partV
  simp only [h1, ha, hs]
  rw [if_pos h3, h2]

/-! ### slices of anything -/
def Each {α : Type} (Er : List V → α → Prop) (cs : List (List V)) (xs : List α) : Prop := cs.length = xs.length ∧ ∀ (i : Nat) (c : List V) (x : α), cs[i]? = some c → xs[i]? = some x → Er c x
theorem Each.nil {α : Type} (Er : List V → α → Prop) : Each Er [] [] := ⟨rfl, fun i c x h => by simp at h⟩
theorem Each.mono {α : Type} {Er Er' : List V → α → Prop} (he : ∀ c x, Er c x → Er' c x) {cs : List (List V)} {xs : List α} (a : Each Er cs xs) : Each Er' cs xs :=
  ⟨a.1, fun i c x h1 h2 => he c x (a.2 i c x h1 h2)⟩
theorem Each.snoc {α : Type} {Er : List V → α → Prop} {cs : List (List V)} {xs : List α} (a : Each Er cs xs) {c : List V} {x : α} (he : Er c x) : Each Er (cs ++ [c]) (xs ++ [x]) := by
  refine ⟨by simp [a.1], fun i d y h1 h2 => ?_⟩
  rw [List.getElem?_append] at h1 h2
  rw [a.1] at h1
  split at h1
  · rename_i hi
    rw [if_pos hi] at h2
    exact a.2 i d y h1 h2
  · rename_i hi
    rw [if_neg hi] at h2
    have : i - xs.length = 0 := by
      have := (List.getElem?_eq_some_iff.1 h1).1
      simp at this
      omega
    rw [this] at h1 h2
    simp at h1 h2
    subst h1
    subst h2
    exact he
theorem Each.append {α : Type} {Er : List V → α → Prop} {cs ds : List (List V)} {xs ys : List α} (a : Each Er cs xs) (b : Each Er ds ys) : Each Er (cs ++ ds) (xs ++ ys) := by
  refine ⟨by simp [a.1, b.1], fun i d y h1 h2 => ?_⟩
  rw [List.getElem?_append] at h1 h2
  rw [a.1] at h1
  split at h1
  · rename_i hi
    rw [if_pos hi] at h2
    exact a.2 i d y h1 h2
  · rename_i hi
    rw [if_neg hi] at h2
    exact b.2 _ d y h1 h2
def Wide (es : Nat) (cs : List (List V)) : Prop := ∀ c ∈ cs, c.length = es
theorem Wide.snoc {es : Nat} {cs : List (List V)} (w : Wide es cs) {c : List V} (hc : c.length = es) : Wide es (cs ++ [c]) := fun d hd => by
  rcases List.mem_append.1 hd with h | h
  · exact w d h
  · simp at h; subst h; exact hc
theorem Wide.append {es : Nat} {cs ds : List (List V)} (w : Wide es cs) (w' : Wide es ds) : Wide es (cs ++ ds) := fun d hd => by
  rcases List.mem_append.1 hd with h | h
  · exact w d h
  · exact w' d h
theorem Wide.length {es : Nat} {cs : List (List V)} (w : Wide es cs) : cs.flatten.length = cs.length * es := by
  induction cs with
  | nil => simp
  | cons c r ih =>
    simp only [List.flatten_cons, List.length_append, List.length_cons]
    rw [ih (fun d hd => w d (List.mem_cons_of_mem _ hd)), w c List.mem_cons_self, Nat.add_mul, Nat.one_mul, Nat.add_comm]
/-- the slice v holds xs, each in es cells as Er says -/
def SlOf {α : Type} (Er : Rd → List V → α → Prop) (es : Nat) (rd : Rd) (v : V) (xs : List α) : Prop :=
  ∃ cs, Wide es cs ∧ Sl rd es v xs.length cs.flatten ∧ Each (Er rd) cs xs
def Mono {α : Type} (Er : Rd → List V → α → Prop) : Prop := ∀ r r' c x, Le r r' → Er r c x → Er r' c x
theorem Sl.mono {r r' : Rd} (hl : Le r r') {es n : Nat} {v : V} {cs : List V} (hs : Sl r es v n cs) : Sl r' es v n cs := by
  rcases hs with h1 | ⟨b, o, c, l, h1, h2, h3, h4⟩
  · exact .inl h1
  · exact .inr ⟨b, o, c, l, h1, hl _ _ h2, h3, h4⟩
theorem Bytes.mono {r r' : Rd} (hl : Le r r') {v : V} {bs : List UInt8} (hb : Bytes r v bs) : Bytes r' v bs := Sl.mono hl hb
theorem SlOf.mono {α : Type} {Er : Rd → List V → α → Prop} (m : Mono Er) {es : Nat} {r r' : Rd} (hl : Le r r') {v : V} {xs : List α} (hs : SlOf Er es r v xs) : SlOf Er es r' v xs := by
  obtain ⟨cs, h1, h2, h3⟩ := hs
  exact ⟨cs, h1, h2.mono hl, h3.mono fun c x he => m _ _ c x hl he⟩
theorem SlOf.len {α : Type} {Er : Rd → List V → α → Prop} {es : Nat} {rd : Rd} {v : V} {xs : List α} {t e : Nat} (T : SlT P t e es) (hs : SlOf Er es rd v xs) : lenV P [t] v = some (.int .i64 (xs.length : Int)) := by
  obtain ⟨cs, h1, h2, h3⟩ := hs
  exact h2.lenV T
theorem SlOf.at {α : Type} {Er : Rd → List V → α → Prop} {es : Nat} {rd : Rd} {v : V} {xs : List α} {t e : Nat} (T : SlT P t e es) (hs : SlOf Er es rd v xs) {i : Nat} {x : α} (hi : xs[i]? = some x) (k : IntKind) :
    ∃ b o c, addrV P t v (.int k (i : Int)) = some (.ptr b o) ∧ At rd b o c ∧ c.length = es ∧ Er rd c x := by
  obtain ⟨cs, h1, h2, h3, h4⟩ := hs
  have hlt := (List.getElem?_eq_some_iff.1 hi).1
  obtain ⟨c, hc⟩ : ∃ c, cs[i]? = some c := ⟨_, List.getElem?_eq_getElem (by omega)⟩
  obtain ⟨b, o, l, q1, q2, q3, q4⟩ := h2.addr T hlt (k := k)
  have hw := h1 c (List.mem_of_getElem? hc)
  refine ⟨b, o + i * es, c, q1, ⟨l, q2, ?_⟩, hw, h4 i c x hc hi⟩
  have := part_even (es := es) (vss := cs) h1 hc
  rw [q4, List.drop_take, List.take_take, List.drop_drop] at this
  rw [hw]
  rw [Nat.min_eq_left] at this
  · exact this
  · have h5 := Nat.mul_le_mul_right es (show i + 1 ≤ xs.length from hlt)
    rw [Nat.add_mul, Nat.one_mul] at h5
    omega
/-- a slice of anything that may grow -/
def BufOf {α : Type} (Er : Rd → List V → α → Prop) (es lo : Nat) (h : H) (rd : Rd) (v : V) (xs : List α) (F : Option Nat) : Prop :=
  ∃ cs, Wide es cs ∧ Buf h lo es v xs.length cs.flatten F ∧ Each (Er rd) cs xs
theorem BufOf.nil {α : Type} {Er : Rd → List V → α → Prop} {es lo : Nat} {h : H} {rd : Rd} : BufOf Er es lo h rd .nils [] none := ⟨[], fun _ hc => (by cases hc), Buf.nil es, Each.nil _⟩
theorem BufOf.sl {α : Type} {Er : Rd → List V → α → Prop} {es lo : Nat} {X : Nat → Prop} {v : V} {xs : List α} {F : Option Nat} (wf : HWF h) (hb : BufOf Er es lo h (h.rb X) v xs F) (hF : ∀ f, F = some f → ¬ X f) : SlOf Er es (h.rb X) v xs := by
  obtain ⟨cs, h1, h2, h3⟩ := hb
  refine ⟨cs, h1, ?_, h3⟩
  rcases h2 with ⟨q1, q2, q3, _⟩ | ⟨b, c, f, low, q1, q2, q3, q4⟩
  · exact .inl ⟨q1, q2, q3⟩
  · refine .inr ⟨b, 0, c, _, q1, rb_iff.2 ⟨owned_read wf q2, fun g hg => ?_⟩, by omega, by rw [List.drop_zero, ← q3, List.take_length]⟩
    obtain ⟨hg2, _, _⟩ := owned_some q2
    rw [famOf_of hg2] at hg
    cases hg
    exact hF f q4
theorem BufOf.ch {α : Type} {Er : Rd → List V → α → Prop} (m : Mono Er) {es lo : Nat} {X Y : Nat → Prop} {r r' : Rd} {v : V} {xs : List α} {F : Option Nat} (hb : BufOf Er es lo h r v xs F) (a : Ch X Y h h') (hl : Le r r') (hF : ∀ f, F = some f → ¬ Y f) : BufOf Er es lo h' r' v xs F := by
  obtain ⟨cs, h1, h2, h3⟩ := hb
  refine ⟨cs, h1, ?_, h3.mono fun c x he => m _ _ c x hl he⟩
  rcases h2 with h1 | ⟨b, c, f, low, h1, h2, h3, h4⟩
  · exact .inl h1
  · exact .inr ⟨b, c, f, low, h1, a.own _ _ _ _ _ h2 (hF f h4), h3, h4⟩
end Go.Den
