/- A function without arguments, reckoned once over an empty memory, answers so over every memory: a shortcut. -/
import Derived.Test.YtghmbmblhdgabaaContract
import Derived.Test.YtghmbmblhdgabaaWp
set_option linter.all false
namespace Go.Den
open Go
variable {P : Program} {φ : Phi} {h : H} {w w' : World}

/-- what leaves the blocks that there are leaves the machine's view of them -/
theorem Sim.below (s : Sim φ h w) (hsz : w.heap.size ≤ w'.heap.size) (hk : ∀ g, g < w.heap.size → w'.heap[g]? = w.heap[g]?) : Sim φ h w' where
  at_ := fun b x l hb hr => by
    have hc := s.at_ b x l hb hr
    exact hc.mono (Phi.le.refl φ) (hk _ hc.lt)
  sep := s.sep
  wf := s.wf
  bnd := fun b x hb => Nat.lt_of_lt_of_le (s.bnd b x hb) hsz
  frz := fun b x l f hb hg => by
    have hc := s.frz b x l f hb hg
    have hlt := s.bnd b x hb
    have he := hk _ hlt
    unfold Clear at hc ⊢
    rw [he]
    exact hc
def closed (v : V) : List V → Nat → H → Option (V × H)
  | [], _, h => some (v, h)
  | _, _, _ => none
/-- the shortcuts: for each function of the list its answer -/
def closedS (l : List (Nat × V)) : FuncId → Option (List V → Nat → H → Option (V × H)) := fun f => match l.find? (fun p => Nat.beq p.1 f) with
  | some p => some (closed p.2)
  | none => none
theorem closedS_some {l : List (Nat × V)} {f : FuncId} {g : List V → Nat → H → Option (V × H)} (hs : closedS l f = some g) : ∃ v, (f, v) ∈ l ∧ g = closed v := by
  unfold closedS at hs
  split at hs
  · rename_i p hp
    cases hs
    have h1 := List.find?_some hp
    have h2 := List.mem_of_find?_eq_some hp
    have h3 := Nat.eq_of_beq_eq_true h1
    obtain ⟨a, b⟩ := p
    simp only at h3
    subst h3
    exact ⟨b, h2, rfl⟩
  · cases hs
theorem closed_some {v x : V} {as : List V} {lo : Nat} {h h' : H} (hc : closed v as lo h = some (x, h')) : as = [] ∧ x = v ∧ h' = h := by
  cases as with
  | nil => cases hc; exact ⟨rfl, rfl, rfl⟩
  | cons a r => cases hc
theorem progOk_closed {l : List (Nat × V)} (ok : ProgOk { P := P, S := fun _ => none })
    (hl : ∀ f v, (f, v) ∈ l → (∃ b, v = .bool b) ∧ ∃ n h', call { P := P, S := fun _ => none } n f [] 0 H0 = some (v, h')) : ProgOk { P := P, S := closedS l } where
  mix := ok.mix
  names := ok.names
  next := fun f g hs as lo h v h' hc => by
    obtain ⟨x, _, rfl⟩ := closedS_some hs
    obtain ⟨_, _, rfl⟩ := closed_some hc
    exact Nat.le_refl _
  good := fun f g hs as lo h v h' hc _ => by
    obtain ⟨x, _, rfl⟩ := closedS_some hs
    obtain ⟨_, _, rfl⟩ := closed_some hc
    exact Good.refl _ _
  sim := fun f g hs as lo h v h' hc => by
    obtain ⟨x, hm, rfl⟩ := closedS_some hs
    obtain ⟨rfl, rfl, rfl⟩ := closed_some hc
    obtain ⟨⟨b, rfl⟩, n, h1, hcall⟩ := hl _ _ hm
    obtain ⟨c1, c2⟩ := ok.call n f [] 0 H0 _ h1 hcall
    refine ⟨c1, fun hlo φ w as' s ff hr => ?_⟩
    cases hr
    refine (c2 (Nat.zero_le _) (fun _ => none) w [] (sim_none w) (fun _ _ _ => rfl) .nil).mono fun e w' hp => ?_
    obtain ⟨v', φ', he, x, _, hv⟩ := hp
    cases hv
    have hk : ∀ g, g < w.heap.size → w'.heap[g]? = w.heap[g]? := fun g hg => x.keep g hg (fun b y _ _ h2 => by cases h2)
    exact ⟨_, φ, he, ⟨Phi.le.refl φ, fun _ h1 h2 => absurd h1 h2, Nat.le_refl _, x.tape, x.os, x.out, x.size, fun g hg _ => hk g hg, fun b y hb ho hy => .inr ⟨b, y, hb, ho, hy, rfl⟩, fun _ _ h => h, fun _ _ h1 h2 => by rw [h1] at h2; cases h2⟩, s.below x.size hk, .bool _⟩
theorem closedS_low (l : List (Nat × V)) : ShortLow { P := P, S := closedS l } := fun f g hs as lo lo' h v h' _ hc => by
  obtain ⟨x, _, rfl⟩ := closedS_some hs
  obtain ⟨rfl, rfl, rfl⟩ := closed_some hc
  rfl
theorem closed_CW {l : List (Nat × V)} {f : FuncId} {v : V} (hs : closedS l f = some (closed v)) {lo : Nat} {K : V → H → Prop} (hk : K v h) : CW { P := P, S := closedS l } f [] lo h K :=
  ⟨0, v, h, by
    show callStep _ _ _ _ _ _ = _
    unfold callStep
    simp only [hs]
    rfl, hk⟩
end Go.Den
