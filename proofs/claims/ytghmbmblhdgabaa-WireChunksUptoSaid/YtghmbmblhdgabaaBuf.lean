/- Slices that grow: what append leaves, what stays. -/
import Derived.Test.YtghmbmblhdgabaaView
set_option linter.all false
namespace Go.Den
open Go
variable {P : Program} {h h' : H} {lo : Nat}

theorem owned_alloc_new {l : List V} (hlo : lo ≤ h.next) : (h.alloc l).owned lo h.next = some (l, h.next, h.next) := by
  unfold H.owned
  rw [get_alloc, if_pos rfl]
  simp only [fam_alloc, if_pos rfl]
  simp [hlo]
theorem owned_more_new {f low : Nat} {l : List V} (hlo : lo ≤ h.next) (hf : lo ≤ f) : (h.more f low l).owned lo h.next = some (l, f, low) := by
  unfold H.owned
  rw [get_more, if_pos rfl]
  simp only [fam_more, if_pos rfl]
  simp [hlo, hf]
theorem owned_put_same {b f low : Nat} {l l' : List V} (ho : h.owned lo b = some (l, f, low)) : (h.put b f l').owned lo b = some (l', f, b) := by
  obtain ⟨h1, h2, h3⟩ := owned_some ho
  have h4 := owned_fam ho
  unfold H.owned
  rw [get_put, if_pos rfl]
  simp only [fam_put, if_pos rfl]
  simp [h3, h4]
theorem keeps_alloc (wf : HWF h) (l : List V) : Keeps h (h.alloc l) := by
  intro b x hr
  have hlt : b < h.next := by rcases read_some hr with hg | ⟨_, _, _, hg, _⟩ <;> exact wf.lt _ _ hg
  rw [read_alloc wf, if_neg (by omega)]
  exact hr
/-- an append at the end leaves all that could be read -/
theorem keeps_more (wf : HWF h) {b f low : Nat} {l l' : List V} (ho : h.owned lo b = some (l, f, low)) : Keeps h (h.more f low l') := by
  obtain ⟨hg0, hf0, _⟩ := owned_some ho
  intro c x hr
  have hlt : c < h.next := by rcases read_some hr with hg | ⟨_, _, _, hg, _⟩ <;> exact wf.lt _ _ hg
  rcases read_some hr with hg | ⟨f2, o, lw, hg, hf2, hle⟩
  · exact read_ro (by rw [get_more, if_neg (by omega)]; exact hg)
  · by_cases e : f2 = f
    · subst e
      rw [hf0] at hf2
      cases hf2
      rw [read_fam (by rw [get_more, if_neg (by omega)]; exact hg) (by rw [fam_more, if_pos rfl]), if_pos hle]
    · rw [read_fam (by rw [get_more, if_neg (by omega)]; exact hg) (by rw [fam_more, if_neg e]; exact hf2), if_pos hle]
/-- all but the families F is as it was -/
structure Fr (F : Nat → Prop) (h h' : H) : Prop where
  next : h.next ≤ h'.next
  wf : HWF h → HWF h'
  get : ∀ b, b < h.next → (∀ g, h.famOf b = some g → ¬ F g) → h'.get b = h.get b
  fam : ∀ g, g < h.next → ¬ F g → h'.fam g = h.fam g
theorem Fr.refl (F : Nat → Prop) (h : H) : Fr F h h := ⟨Nat.le_refl _, id, fun _ _ _ => rfl, fun _ _ _ => rfl⟩
theorem Fr.trans {F : Nat → Prop} {h1 h2 h3 : H} (a : Fr F h1 h2) (b : Fr F h2 h3) : Fr F h1 h3 :=
  ⟨Nat.le_trans a.next b.next, fun w => b.wf (a.wf w), fun c hc hg => by
    have e := a.get c hc hg
    rw [← e]
    refine b.get c (by have := a.next; omega) fun g hg2 => hg g ?_
    unfold H.famOf at hg2 ⊢
    rwa [e] at hg2, fun g hg hF => (b.fam g (by have := a.next; omega) hF).trans (a.fam g hg hF)⟩
theorem Fr.mono {F F' : Nat → Prop} (a : Fr F h h') (hs : ∀ g, F g → F' g) : Fr F' h h' :=
  ⟨a.next, a.wf, fun b hb hg => a.get b hb fun g hg2 hF => hg g hg2 (hs g hF), fun g hg hF => a.fam g hg fun h2 => hF (hs g h2)⟩
theorem Good.fr (g : Good h.next h h') (F : Nat → Prop) : Fr F h h' := ⟨g.next, g.wf, fun b hb _ => g.get b hb, fun f hf _ => g.fam f hf⟩
/-- a slice that may grow: its own family F, its cells are all of its block -/
def Buf (h : H) (lo es : Nat) (v : V) (n : Nat) (cs : List V) (F : Option Nat) : Prop :=
  (v = .nils ∧ n = 0 ∧ cs = [] ∧ F = none) ∨ ∃ b c f low, v = .sl b 0 n c es ∧ h.owned lo b = some (cs, f, low) ∧ cs.length = n * es ∧ F = some f

theorem fr_alloc (F : Nat → Prop) (l : List V) : Fr F h (h.alloc l) :=
  ⟨Nat.le_succ _, fun w => w.alloc l, fun b hb _ => by rw [get_alloc, if_neg (by omega)], fun g hg _ => by rw [fam_alloc, if_neg (by omega)]⟩
theorem fr_more {b f low low' : Nat} {l l' : List V} (ho : h.owned lo b = some (l, f, low)) (hlow : low' = low ∨ low' = h.next) : Fr (· = f) h (h.more f low' l') := by
  obtain ⟨hg, hf, _⟩ := owned_some ho
  exact ⟨Nat.le_succ _, fun w => w.more hg hf hlow l', fun c hc _ => by rw [get_more, if_neg (by omega)], fun g hg hF => by rw [fam_more, if_neg hF]⟩
theorem fr_put {b f low : Nat} {l l' : List V} (ho : h.owned lo b = some (l, f, low)) : Fr (· = f) h (h.put b f l') := by
  obtain ⟨hg, hf, _⟩ := owned_some ho
  refine ⟨Nat.le_refl _, fun w => w.put hg hf l', fun c hc hn => ?_, fun g hg hF => by rw [fam_put, if_neg hF]⟩
  rw [get_put, if_neg]
  intro e
  subst e
  exact hn f (famOf_of hg) rfl
/-- what is of other families reads as it did -/
theorem Fr.read {F : Nat → Prop} (a : Fr F h h') (wf : HWF h) {b : Nat} {l : List V} (hr : h.read b = some l) (hn : ∀ g, h.famOf b = some g → ¬ F g) : h'.read b = some l := by
  rcases read_some hr with hg | ⟨f, o, lw, hg, hf, hle⟩
  · have hlt := wf.lt _ _ hg
    exact read_ro (by rw [a.get b hlt hn]; exact hg)
  · have hlt := wf.lt _ _ hg
    have hfb := (wf.fam _ _ _ hg).1
    rw [read_fam (by rw [a.get b hlt hn]; exact hg) (by rw [a.fam f (by omega) (hn f (famOf_of hg))]; exact hf), if_pos hle]
theorem Fr.owned {F : Nat → Prop} (a : Fr F h h') (wf : HWF h) {b f low : Nat} {l : List V} (ho : h.owned lo b = some (l, f, low)) (hn : ¬ F f) : h'.owned lo b = some (l, f, low) := by
  obtain ⟨hg, hf, hlo⟩ := owned_some ho
  have hlf := owned_fam ho
  have hlt := wf.lt _ _ hg
  have hfb := (wf.fam _ _ _ hg).1
  unfold H.owned
  rw [a.get b hlt (fun g hg2 => by rw [famOf_of hg] at hg2; cases hg2; exact hn), hg]
  simp only [a.fam f (by omega) hn, hf, if_true]
  rw [if_pos ⟨hlo, hlf⟩]
theorem Buf.sl {es n : Nat} {v : V} {cs : List V} {F : Option Nat} (wf : HWF h) (hb : Buf h lo es v n cs F) : Sl h.read es v n cs := by
  rcases hb with ⟨h1, h2, h3, _⟩ | ⟨b, c, f, low, h1, h2, h3, _⟩
  · exact .inl ⟨h1, h2, h3⟩
  · exact .inr ⟨b, 0, c, cs, h1, owned_read wf h2, by omega, by simp [h3.symm]⟩
theorem Buf.fr {es n : Nat} {v : V} {cs : List V} {F : Option Nat} {G : Nat → Prop} (a : Fr G h h') (wf : HWF h) (hb : Buf h lo es v n cs F) (hn : ∀ g, F = some g → ¬ G g) : Buf h' lo es v n cs F := by
  rcases hb with h1 | ⟨b, c, f, low, h1, h2, h3, h4⟩
  · exact .inl h1
  · exact .inr ⟨b, c, f, low, h1, a.owned wf h2 (hn f h4), h3, h4⟩
theorem Buf.nil (es : Nat) : Buf h lo es .nils 0 [] none := .inl ⟨rfl, rfl, rfl, rfl⟩
theorem Buf.new {es n : Nat} {c : Option Nat} {cs : List V} (hlo : lo ≤ h.next) (hl : cs.length = n * es) : Buf (h.alloc cs) lo es (.sl h.next 0 n c es) n cs (some h.next) :=
  .inr ⟨h.next, c, h.next, h.next, rfl, owned_alloc_new hlo, hl, rfl⟩
/-- what an append wants to know of the types -/
structure ApT (P : Program) (t u e es by_ : Nat) : Prop where
  t : P.underlying t = some (.slice e)
  u : (∃ e', P.underlying u = some (.slice e')) ∨ P.underlying u = some .string
  i : ∃ i z, P.info? e = some i ∧ i.size = es ∧ i.bytes = by_ ∧ i.zero = some z ∧ z.cells.size = es
def apTail (lo size by_ m : Nat) (xs : List V) (s : V) (h : H) : Option (V × H) :=
  match s with
  | .nils => if m = 0 then some (.nils, h) else if m * by_ ≤ 140737488355328 ∧ m ≤ 9223372036854775807 then some (.sl h.next 0 m none size, h.alloc xs) else none
  | .sl b o n c es =>
    if es ≠ size then none else
    if m = 0 then some (s, h) else
    if (n + m) * by_ ≤ 140737488355328 ∧ n + m ≤ 9223372036854775807 then
      if forced c (n + m) = true then
        match h.read b with
        | some cs => if o + n * es ≤ cs.length then some (.sl h.next 0 (n + m) none es, h.alloc ((cs.drop o).take (n * es) ++ xs)) else none
        | none => none
      else
        match h.owned lo b with
        | some (cs, f, low) => if o + n * es ≤ cs.length then
            some (.sl h.next 0 (n + m) c es, h.more f (if o + n * es = cs.length then low else h.next) ((cs.drop o).take (n * es) ++ xs)) else none
        | none => none
    else none
  | _ => none
theorem append_tail {t u e es by_ m : Nat} {x : V} {xs : List V} (T : ApT P t u e es by_) (hx : elems h.read es x = some (m, xs)) (hsc : xs.all scal = true) (s : V) : appendV P lo [t, u] s x h = apTail lo es by_ m xs s h := by
  obtain ⟨i, z, hi, hsz, hby, hz, hzs⟩ := T.i
  subst hsz
  subst hby
  have hcond : ¬ (z.cells.size ≠ i.size ∨ xs.all scal = false) := by simp [hzs, hsc]
  rcases T.u with ⟨e', hu⟩ | hu
  · unfold appendV
    simp only [T.t, hu, hi, hx, hz]
    rw [if_neg hcond]
    rfl
  · unfold appendV
    simp only [T.t, hu, hi, hx, hz]
    rw [if_neg hcond]
    rfl
/-- behind an append -/
theorem append_buf {t u e es by_ n m : Nat} {s x : V} {cs xs : List V} {F : Option Nat} (T : ApT P t u e es by_) (wf : HWF h) (hlo : lo ≤ h.next) (hb : Buf h lo es s n cs F) (hx : elems h.read es x = some (m, xs)) (hxl : xs.length = m * es) (hsc : xs.all scal = true)
    (hroom : (n + m) * by_ ≤ 140737488355328) (hroom2 : n + m ≤ 9223372036854775807) :
    ∃ v h' F', appendV P lo [t, u] s x h = some (v, h') ∧ Buf h' lo es v (n + m) (cs ++ xs) F' ∧ Keeps h h' ∧ Fr (fun g => F = some g) h h' ∧ (∀ g, F' = some g → F = some g ∨ h.next ≤ g) ∧ (v = .nils → n + m = 0) ∧ (∀ b, b < h.next → h'.get b = h.get b) := by
  simp only [append_tail T hx hsc]
  rcases hb with ⟨rfl, rfl, rfl, rfl⟩ | ⟨b, c, f, low, rfl, ho, hl, rfl⟩
  · by_cases hm : m = 0
    · subst hm
      have hx0 : xs = [] := List.eq_nil_of_length_eq_zero (by omega)
      subst hx0
      refine ⟨.nils, h, none, ?_, .inl ⟨rfl, rfl, rfl, rfl⟩, Keeps.refl h, Fr.refl _ h, fun g hg => (by cases hg), fun _ => rfl, fun _ _ => rfl⟩
      simp [apTail]
    · refine ⟨.sl h.next 0 m none es, h.alloc xs, some h.next, ?_, ?_, keeps_alloc wf xs, fr_alloc _ xs, fun g hg => (by cases hg; exact .inr (Nat.le_refl _)), fun hv => (by cases hv), fun b hb => by rw [get_alloc, if_neg (by omega)]⟩
      · rw [Nat.zero_add] at hroom hroom2
        simp [apTail, hm, hroom, hroom2]
      · have := Buf.new (es := es) (n := m) (c := none) (cs := xs) hlo hxl
        simpa using this
  · by_cases hm : m = 0
    · subst hm
      have hx0 : xs = [] := List.eq_nil_of_length_eq_zero (by omega)
      subst hx0
      refine ⟨.sl b 0 n c es, h, some f, ?_, .inr ⟨b, c, f, low, rfl, by simpa using ho, by simpa using hl, rfl⟩, Keeps.refl h, Fr.refl _ h, fun g hg => .inl hg, fun hv => (by cases hv), fun _ _ => rfl⟩
      simp [apTail]
    · have hrd := owned_read wf ho
      have hlf := owned_fam ho
      by_cases hf : forced c (n + m) = true
      · refine ⟨.sl h.next 0 (n + m) none es, h.alloc (cs ++ xs), some h.next, ?_, Buf.new hlo (by simp [hl, hxl, Nat.add_mul]), keeps_alloc wf _, fr_alloc _ _, fun g hg => (by cases hg; exact .inr (Nat.le_refl _)), fun hv => (by cases hv), fun b hb => by rw [get_alloc, if_neg (by omega)]⟩
        simp [apTail, hm, hroom, hroom2, hf, hrd, hl]
        rw [← hl, List.take_length]
      · refine ⟨.sl h.next 0 (n + m) c es, h.more f low (cs ++ xs), some f, ?_, .inr ⟨h.next, c, f, low, rfl, owned_more_new hlo hlf, by simp [hl, hxl, Nat.add_mul], rfl⟩, keeps_more wf ho, (fr_more ho (.inl rfl)).mono fun g hg => by rw [hg], fun g hg => .inl hg, fun hv => (by cases hv), fun b hb => by rw [get_more, if_neg (by omega)]⟩
        simp [apTail, hm, hroom, hroom2, hf, ho, hl]
        rw [← hl, List.take_length]
theorem Buf.lower {lo' es n : Nat} {v : V} {cs : List V} {F : Option Nat} (hl : lo' ≤ lo) (hb : Buf h lo es v n cs F) : Buf h lo' es v n cs F := by
  rcases hb with h1 | ⟨b, c, f, low, h1, h2, h3, h4⟩
  · exact .inl h1
  · exact .inr ⟨b, c, f, low, h1, owned_lower hl h2, h3, h4⟩
/-- a slice type of which literals are built -/
structure BsT (P : Program) (t e es : Nat) : Prop where
  t : P.underlying t = some (.slice e)
  i : ∃ i z, P.info? e = some i ∧ i.size = es ∧ i.zero.bind ofValue = some z ∧ z.cells.length = es
  small : es ≤ 1000
theorem buildSlice_one {t e es : Nat} (B : BsT P t e es) {v : V} (hv : v.cells.length = es) : buildSliceV P t 1 [(0, v)] = some (.new v.cells (.sl 1 (some 1) es)) := by
  obtain ⟨i, z, hi, hs, hz, hzl⟩ := B.i
  have := B.small
  subst hs
  unfold buildSliceV
  simp only [B.t, hi, hz]
  rw [if_pos (by omega)]
  simp [fillV, fill1, reps, hv, hzl]
theorem NK_at {n : Nat} {c : Option Nat} {es b : Nat} : NK.at (.sl n c es) b = .sl b 0 n c es := rfl
theorem NK_ptr {b : Nat} : NK.at .ptr b = .ptr b 0 := rfl
theorem elems_new {l : List V} (wf : HWF h) {n es : Nat} {c : Option Nat} (hl : l.length = n * es) : elems (h.alloc l).read es (.sl h.next 0 n c es) = some (n, l) := by
  simp [elems, read_alloc wf, hl]
  rw [← hl, List.take_length]
end Go.Den
