/- Rules for code with short environments. -/
import Derived.Test.YtghmbmblhdgabaaSx4
import Derived.Test.YtghmbmblhdgabaaBuf
set_option linter.all false
namespace Go.Den
open Go
variable {C : Cfg} {P : Program} {lo old : Nat} {st : Bool} {h : H} {e : E} {Q : XQ} {K : E → H → Prop}

theorem kX_nx : kX K Q .nx e h = K e h := propext Iff.rfl
theorem kX_ex (id : Nat) : kX K Q (.ex id) e h = Q (.ex id) e h := propext Iff.rfl
theorem kX_rt : kX K Q .rt e h = Q .rt e h := propext Iff.rfl
theorem kXB_nx (id : Nat) : kXB id K Q .nx e h = K e h := propext Iff.rfl
theorem kXB_ex (id i : Nat) : kXB id K Q (.ex i) e h = if i = id then K e h else Q (.ex i) e h := by
  show (bif Nat.beq i id then K e h else Q (.ex i) e h) = _
  cases hb : Nat.beq i id with
  | true => rw [if_pos (Nat.eq_of_beq_eq_true hb)]; rfl
  | false => rw [if_neg (beq_of_false hb)]; rfl
theorem kXB_rt (id : Nat) : kXB id K Q .rt e h = Q .rt e h := propext Iff.rfl
theorem kX_skip : kX (XW C lo .skip Q) Q = Q := by
  funext r e h
  cases r <;> rfl
theorem XW_skip : XW C lo .skip Q e h = Q .nx e h := propext Iff.rfl
theorem XW_ret : XW C lo .ret Q e h = Q .rt e h := propext Iff.rfl
theorem XW_exit (id : Nat) : XW C lo (.exit id) Q e h = Q (.ex id) e h := propext Iff.rfl
theorem gateX_mono {e : E} {g : Option (Option Nat × Bool)} {M N M' N' : E → Prop} (hm : ∀ e, M e → M' e) (hn : ∀ e, N e → N' e) (hw : gateX e g M N) : gateX e g M' N' := by
  cases g with
  | none => exact hm _ hw
  | some g =>
    obtain ⟨t, w⟩ := g
    cases t with
    | none => exact hn _ hw
    | some t =>
      unfold gateX at hw ⊢
      simp only at hw ⊢
      rcases byV_iff.1 hw with ⟨h1, h2⟩ | ⟨h1, h2⟩ | ⟨h1, h2⟩
      · exact byV_iff.2 (.inl ⟨h1, by cases w <;> first | exact hm _ h2 | exact hn _ h2⟩)
      · exact byV_iff.2 (.inr (.inl ⟨h1, by cases w <;> first | exact hm _ h2 | exact hn _ h2⟩))
      · exact byV_iff.2 (.inr (.inr ⟨h1, hn _ h2⟩))
theorem bd_mono {A : Type} {o : Option A} {K K' : A → Prop} (hk : ∀ a, K a → K' a) (hw : bd o K) : bd o K' := by
  cases o with
  | none => exact hw
  | some a => exact hk a hw
theorem bd2_mono {A B : Type} {o : Option (A × B)} {K K' : A → B → Prop} (hk : ∀ a b, K a b → K' a b) (hw : bd2 o K) : bd2 o K' := by
  cases o with
  | none => exact hw
  | some a => exact hk a.1 a.2 hw
theorem bdB_mono {o : Option V} {K K' : Bool → Prop} (hk : ∀ a, K a → K' a) (hw : bdB o K) : bdB o K' := by
  obtain ⟨b, h1, h2⟩ := bdB_iff.1 hw
  exact bdB_iff.2 ⟨b, h1, hk b h2⟩
theorem byV_mono {v : V} {A B D A' B' D' : Prop} (h1 : A → A') (h2 : B → B') (h3 : D → D') (hw : byV v A B D) : byV v A' B' D' := by
  rcases byV_iff.1 hw with ⟨h, k⟩ | ⟨h, k⟩ | ⟨h, k⟩
  · exact byV_iff.2 (.inl ⟨h, h1 k⟩)
  · exact byV_iff.2 (.inr (.inl ⟨h, h2 k⟩))
  · exact byV_iff.2 (.inr (.inr ⟨h, h3 k⟩))
section
variable {KO KO' : V → H → Prop} {ex : Operand → Option V}
theorem KX_mono (hk : ∀ v h, KO v h → KO' v h) {r : LR} (hw : KX h KO r) : KX h KO' r := by cases r <;> exact hk _ _ hw
theorem binX_mono {op : BinOp} {t : TypeId} {a b : V} {K K' : V → Prop} (hk : ∀ v, K v → K' v) (hw : binX P op t a b K) : binX P op t a b K' := by
  unfold binX at hw ⊢
  split at hw
  · exact bdB_mono (fun _ h => hk _ h) hw
  · exact bd_mono hk hw
theorem oneX_mono {l : List V} {K K' : V → Prop} (hk : ∀ v, K v → K' v) (hw : oneX l K) : oneX l K' := by
  obtain ⟨a, rfl, h⟩ := oneX_one hw; exact hk _ h
theorem twoX_mono {l : List V} {K K' : V → V → Prop} (hk : ∀ v w, K v w → K' v w) (hw : twoX l K) : twoX l K' := by
  obtain ⟨a, b, rfl, h⟩ := twoX_two hw; exact hk _ _ h
theorem intX_mono {v : V} {K K' : IntKind → Int → Prop} (hk : ∀ v w, K v w → K' v w) (hw : intX v K) : intX v K' := by
  obtain ⟨a, b, rfl, h⟩ := intX_int' hw; exact hk _ _ h
theorem tupX_mono {v : V} {K K' : List V → Prop} (hk : ∀ v, K v → K' v) (hw : tupX v K) : tupX v K' := by
  obtain ⟨a, rfl, h⟩ := tupX_tup' hw; exact hk _ h
theorem LO'_mono {rd : Rd} (hk : ∀ v h, KO v h → KO' v h) {o : Op} (hw : LO' ex P rd h o KO) : LO' ex P rd h o KO' := by
  cases o <;> try exact hw.elim
  case move x => exact bd_mono (fun _ h => hk _ _ h) hw
  case assign x => exact bd_mono (fun _ h => hk _ _ h) hw
  case pick => exact bd_mono (fun _ h => bd_mono (fun _ h => bd_mono (fun _ h => byV_mono (hk _ _) (hk _ _) id h) h) h) hw
  case alloc t => exact bd_mono (fun _ h => hk _ _ h) hw
  case box t x => exact bd_mono (fun _ h => hk _ _ h) hw
  case build t ps => exact bd_mono (fun _ h => bd_mono (fun _ h => hk _ _ h) h) hw
  case buildSlice t n ps => exact bd_mono (fun _ h => bd_mono (fun _ h => KX_mono hk h) h) hw
  case load t x => exact bd_mono (fun _ h => bd_mono (fun _ h => hk _ _ h) h) hw
  case nilCheck x => exact bd_mono (fun _ h => bd_mono (fun _ h => hk _ _ h) h) hw
  case binOp op t x y _ => exact bd_mono (fun _ h => bd_mono (fun _ h => binX_mono (fun _ h => hk _ _ h) h) h) hw
  case unOp op t x => exact bd_mono (fun _ h => bd_mono (fun _ h => hk _ _ h) h) hw
  case convert s d x => exact bd_mono (fun _ h => bd_mono (fun _ h => KX_mono hk h) h) hw
  case makeFunc f a c => exact bd_mono (fun _ h => bd_mono (fun _ h => hk _ _ h) h) hw
  case makeSlice t x y => exact bd_mono (fun _ h => bd_mono (fun _ h => bd_mono (fun _ h => KX_mono hk h) h) h) hw
  case slice t x l m k => exact bd_mono (fun _ h => bd_mono (fun _ h => bd_mono (fun _ h => bd_mono (fun _ h => bd_mono (fun _ h => hk _ _ h) h) h) h) h) hw
  case fieldAddr t x f => exact bd_mono (fun _ h => bd_mono (fun _ h => hk _ _ h) h) hw
  case field t x f => exact bd_mono (fun _ h => bd_mono (fun _ h => hk _ _ h) h) hw
  case indexAddr t x y => exact bd_mono (fun _ h => bd_mono (fun _ h => bd_mono (fun _ h => hk _ _ h) h) h) hw
  case index t x y => exact bd_mono (fun _ h => bd_mono (fun _ h => bd_mono (fun _ h => hk _ _ h) h) h) hw
  case extract x f => exact bd_mono (fun _ h => tupX_mono (fun _ h => bd_mono (fun _ h => hk _ _ h) h) h) hw
  case call c =>
    obtain ⟨callee, args, ts⟩ := c
    cases callee <;> try exact hw.elim
    rename_i b
    cases b <;> try exact hw.elim
    · exact bd_mono (fun _ h => oneX_mono (fun _ h => bd_mono (fun _ h => hk _ _ h) h) h) hw
    · exact bd_mono (fun _ h => twoX_mono (fun _ _ h => intX_mono (fun _ _ h => intX_mono (fun _ _ h => hk _ _ h) h) h) h) hw
    · exact bd_mono (fun _ h => twoX_mono (fun _ _ h => intX_mono (fun _ _ h => intX_mono (fun _ _ h => hk _ _ h) h) h) h) hw
theorem callX_mono (hk : ∀ v h, KO v h → KO' v h) {f : V} {vs : List V} (hw : callX C f vs lo h KO) : callX C f vs lo h KO' := by
  obtain ⟨g, a, b, rfl, hw⟩ := callX_CW hw
  exact hw.mono hk
theorem OX_mono (hk : ∀ v h, KO v h → KO' v h) {o : Op} (hw : OX ex C lo h o KO) : OX ex C lo h o KO' := by
  cases o <;> try exact hw.elim
  case store => exact bd_mono (fun _ h => bd_mono (fun _ h => bd_mono (fun _ h => hk _ _ h) h) h) hw
  case convert s d x =>
    unfold OX at hw ⊢
    simp only at hw ⊢
    cases hb : Nat.beq s d with
    | true =>
      rw [hb] at hw
      simp only [cond_true] at hw ⊢
      cases hs : isSlice C.P s with
      | true => rw [hs] at hw; exact bd_mono (fun _ h => bd2_mono hk h) hw
      | false => rw [hs] at hw; exact hw.elim
    | false => rw [hb] at hw; simp only [cond_false] at hw ⊢; exact LO'_mono hk hw
  case call c =>
    obtain ⟨callee, args, ts⟩ := c
    cases callee <;> try exact hw.elim
    case value f => exact bd_mono (fun _ h => bd_mono (fun _ h => callX_mono hk h) h) hw
    case builtin b =>
      cases b
      case append => exact bd_mono (fun _ h => twoX_mono (fun _ _ h => bd2_mono hk h) h) hw
      case copy => exact bd_mono (fun _ h => twoX_mono (fun _ _ h => bd2_mono hk h) h) hw
      all_goals (unfold OX at hw ⊢; exact LO'_mono hk hw)
  all_goals (unfold OX at hw ⊢; exact LO'_mono hk hw)
theorem FOX_mono (hk : ∀ v h, KO v h → KO' v h) {o : Op} (hw : FOX ex C lo old st h o KO) : FOX ex C lo old st h o KO' := by
  cases o <;> try exact hw.elim
  case store => exact bd_mono (fun _ h => bd_mono (fun _ h => bd_mono (fun _ h => hk _ _ h) h) h) hw
  case convert s d x =>
    unfold FOX at hw ⊢
    simp only at hw ⊢
    cases hb : Nat.beq s d with
    | true =>
      rw [hb] at hw
      simp only [cond_true] at hw ⊢
      cases hs : isSlice C.P s with
      | true => rw [hs] at hw; exact bd_mono (fun _ h => bd2_mono hk h) hw
      | false => rw [hs] at hw; exact hw.elim
    | false => rw [hb] at hw; simp only [cond_false] at hw ⊢; exact LO'_mono hk hw
  case call c =>
    obtain ⟨callee, args, ts⟩ := c
    cases callee <;> try exact hw.elim
    case value f => exact bd_mono (fun _ h => bd_mono (fun _ h => callX_mono hk h) h) hw
    case builtin b =>
      cases b
      case append =>
        refine bd_mono (fun _ h => twoX_mono (fun a b h => ?_) h) hw
        unfold endX at h ⊢
        split at h
        · exact bd_mono (fun _ h => ⟨h.1, bd2_mono hk h.2⟩) h
        · exact bd2_mono hk h
      case copy => exact hw.elim
      case min => exact hw.elim
      case max => exact hw.elim
      all_goals (unfold FOX at hw ⊢; exact LO'_mono hk hw)
  all_goals (unfold FOX at hw ⊢; exact LO'_mono hk hw)
end
theorem LX_mono {K K' : E → H → Prop} (hk : ∀ e h, K e h → K' e h) : ∀ {l : List SI} {e : E} {h : H}, LX C lo l K e h → LX C lo l K' e h
  | [], e, h, hw => hk _ _ hw
  | o :: r, e, h, hw => gateX_mono (fun _ hw => OX_mono (fun _ _ hw => LX_mono hk hw) hw) (fun _ hw => LX_mono hk hw) hw
theorem FX_mono {K K' : E → H → Prop} (hk : ∀ e h, K e h → K' e h) : ∀ {l : List SI} {e : E} {h : H}, FX C lo old st l K e h → FX C lo old st l K' e h
  | [], e, h, hw => hk _ _ hw
  | o :: r, e, h, hw => gateX_mono (fun _ hw => FOX_mono (fun _ _ hw => FX_mono hk hw) hw) (fun _ hw => FX_mono hk hw) hw
theorem loopX_mono {L : List Nat} {body : XQ → E → H → Prop} (hb : ∀ (Q Q' : XQ) (e : E) (h : H), (∀ r e h, Q r e h → Q' r e h) → body Q e h → body Q' e h) {Q Q' : XQ} (hq : ∀ r e h, Q r e h → Q' r e h) : ∀ {n : Nat} {e : E} {h : H}, loopX L body Q n e h → loopX L body Q' n e h
  | 0, _, _, hw => hw
  | n + 1, e, h, hw => hb _ _ _ h (fun r e h hr => by
    cases r with
    | nx => exact loopX_mono hb hq hr
    | ex id => exact hq _ _ _ hr
    | rt => exact hq _ _ _ hr) hw
theorem kX_mono {K K' : E → H → Prop} {Q Q' : XQ} (hk : ∀ e h, K e h → K' e h) (hq : ∀ r e h, Q r e h → Q' r e h) (r : R) (e : E) (h : H) (hr : kX K Q r e h) : kX K' Q' r e h := by
  cases r with
  | nx => exact hk _ _ hr
  | ex id => exact hq _ _ _ hr
  | rt => exact hq _ _ _ hr
theorem XW_mono : ∀ (x : X) {Q Q' : XQ} {e : E} {h : H}, (∀ r e h, Q r e h → Q' r e h) → XW C lo x Q e h → XW C lo x Q' e h
  | .skip, _, _, _, _, hq, hw => hq _ _ _ hw
  | .exit _, _, _, _, _, hq, hw => hq _ _ _ hw
  | .ret, _, _, _, _, hq, hw => hq _ _ _ hw
  | .ops l out k, _, _, _, _, hq, hw => LX_mono (fun _ _ hw => XW_mono k hq hw) hw
  | .front st l r out k, _, _, _, _, hq, hw => FX_mono (fun _ _ hw => LX_mono (fun _ _ hw => XW_mono k hq hw) hw) hw
  | .cond x a b k, _, _, _, _, hq, hw => bd_mono (fun _ hw => byV_mono (fun hw => XW_mono a (kX_mono (fun _ _ hw => XW_mono k hq hw) hq) hw) (fun hw => XW_mono b (kX_mono (fun _ _ hw => XW_mono k hq hw) hq) hw) id hw) hw
  | .block id b k, _, _, _, _, hq, hw => XW_mono b (fun r e h hr => by
    cases r with
    | nx => exact XW_mono k hq hr
    | rt => exact hq _ _ _ hr
    | ex i =>
      rw [kXB_ex] at hr ⊢
      split at hr
      · rename_i hi; rw [if_pos hi]; exact XW_mono k hq hr
      · rename_i hi; rw [if_neg hi]; exact hq _ _ _ hr) hw
  | .loop L b, _, _, _, _, hq, ⟨n, hw⟩ => ⟨n, loopX_mono (body := XW C lo b) (fun _ _ _ _ hq hw => XW_mono b hq hw) hq hw⟩
  | .trim L k, _, _, _, _, hq, hw => XW_mono k hq hw
/-- a loop: what holds at each round's start, and a number that falls -/
theorem rounds {L : List Nat} {b : X} (I : Nat → E → H → Prop) (hI : ∀ m e h, I m e h → XW C lo b (kX (fun e' h' => ∃ m', m' < m ∧ I m' (only L e') h') Q) e h)
    (m : Nat) (hi : I m (only L e) h) : ∃ n, loopX L (XW C lo b) Q n e h := by
  have key : ∀ (k m : Nat) (e : E) (h : H), m < k → I m (only L e) h → loopX L (XW C lo b) Q k e h := by
    intro k
    induction k with
    | zero => intro m e h hm; omega
    | succ k ih =>
      intro m e h hlt hi
      refine XW_mono b (fun r e' h' hq => ?_) (hI m _ h hi)
      cases r with
      | nx => obtain ⟨m', h1, h2⟩ := hq; exact ih m' e' h' (by omega) h2
      | ex id => exact hq
      | rt => exact hq
  exact ⟨m + 1, key (m + 1) m e h (by omega) hi⟩
end Go.Den
