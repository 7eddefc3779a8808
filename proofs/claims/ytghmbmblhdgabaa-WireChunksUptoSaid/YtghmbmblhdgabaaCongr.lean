/- What an operation tells hangs on the slots that it names alone. -/
import Derived.Test.YtghmbmblhdgabaaGood
set_option linter.all false
namespace Go.Den
open Go
variable {P : Program} {h : H}

theorem omap_congr {α β : Type} {f g : α → Option β} : ∀ {l : List α}, (∀ x ∈ l, f x = g x) → omap f l = omap g l
  | [], _ => rfl
  | x :: r, hx => by
    unfold omap
    rw [hx x (by simp), omap_congr (l := r) (fun y hy => hx y (by simp [hy]))]
theorem evs_congr {e e' : Env} {l : List Operand} (hx : ∀ x ∈ l, ev e x = ev e' x) : evs e l = evs e' l := omap_congr hx
theorem evo_congr {e e' : Env} {x : Option Operand} (hx : ∀ y, x = some y → ev e y = ev e' y) : evo e x = evo e' x := by
  cases x with
  | none => rfl
  | some y => simp only [evo, hx y rfl]
theorem evParts_congr {e e' : Env} {l : List (Nat × Operand)} (hx : ∀ p ∈ l, ev e p.2 = ev e' p.2) : evParts e l = evParts e' l := by
  refine omap_congr fun p hp => ?_
  unfold evPart
  rw [hx p hp]
theorem lightOp_congr {rd : Rd} {e e' : Env} {o : Op} (hx : ∀ x ∈ o.operands.toList, ev e x = ev e' x) : lightOp P rd e o = lightOp P rd e' o := by
  cases o
  case call c =>
    obtain ⟨cal, args, ats⟩ := c
    cases cal with
    | value f => rfl
    | invoke x m => rfl
    | builtin b =>
      have ha : evs e args.toList = evs e' args.toList := evs_congr fun x hm => hx x (by simp [Op.operands, Call.operands]; simpa using hm)
      cases b <;> first | rfl | (simp only [lightOp, ha])
  case build t ps =>
    have ha : evParts e ps.toList = evParts e' ps.toList := evParts_congr fun p hp => hx p.2 (by simp [Op.operands]; exact ⟨p.1, by simpa using hp⟩)
    simp only [lightOp, ha]
  case buildSlice t n ps =>
    have ha : evParts e ps.toList = evParts e' ps.toList := evParts_congr fun p hp => hx p.2 (by simp [Op.operands]; exact ⟨p.1, by simpa using hp⟩)
    simp only [lightOp, ha]
  case makeFunc f a c =>
    have ha : evs e a.toList = evs e' a.toList := evs_congr fun x hm => hx x (by simp [Op.operands]; exact .inl (by simpa using hm))
    have hc : evs e c.toList = evs e' c.toList := evs_congr fun x hm => hx x (by simp [Op.operands]; exact .inr (by simpa using hm))
    simp only [lightOp, ha, hc]
  case slice t x l m k =>
    have h1 := hx x (by simp [Op.operands])
    have h2 : evo e l = evo e' l := evo_congr fun y hy => hx y (by simp [Op.operands, hy])
    have h3 : evo e m = evo e' m := evo_congr fun y hy => hx y (by simp [Op.operands, hy])
    have h4 : evo e k = evo e' k := evo_congr fun y hy => hx y (by simp [Op.operands, hy])
    simp only [lightOp, h1, h2, h3, h4]
  case pick c a b =>
    have h1 := hx c (by simp [Op.operands])
    have h2 := hx a (by simp [Op.operands])
    have h3 := hx b (by simp [Op.operands])
    simp only [lightOp, h1, h2, h3]
  all_goals first
    | rfl
    | (rename_i x; have h1 := hx x (by simp [Op.operands]); simp only [lightOp, h1]; done)
    | (rename_i t x; have h1 := hx x (by simp [Op.operands]); simp only [lightOp, h1]; done)
    | (rename_i x i; have h1 := hx x (by simp [Op.operands]); simp only [lightOp, h1]; done)
    | (rename_i t x i; have h1 := hx x (by simp [Op.operands]); simp only [lightOp, h1]; done)
    | (rename_i x y; have h1 := hx x (by simp [Op.operands]); have h2 := hx y (by simp [Op.operands]); simp only [lightOp, h1, h2]; done)
    | (rename_i x y k; have h1 := hx x (by simp [Op.operands]); have h2 := hx y (by simp [Op.operands]); simp only [lightOp, h1, h2]; done)
theorem aop_congr {call : CallFn} {lo : Nat} {e e' : Env} {o : Op} (hx : ∀ x ∈ o.operands.toList, ev e x = ev e' x) : aop P call lo e h o = aop P call lo e' h o := by
  cases o
  case store t a x =>
    have h1 := hx a (by simp [Op.operands])
    have h2 := hx x (by simp [Op.operands])
    simp only [aop, h1, h2]
  case convert s d x =>
    have h1 := hx x (by simp [Op.operands])
    have h2 := lightOp_congr (P := P) (rd := h.read) (e := e) (e' := e') (o := .convert s d x) hx
    simp only [aop, h1, h2]
  case call c =>
    have h2 := lightOp_congr (P := P) (rd := h.read) (e := e) (e' := e') (o := .call c) hx
    obtain ⟨cal, args, ats⟩ := c
    have ha : evs e args.toList = evs e' args.toList := evs_congr fun x hm => hx x (by simp [Op.operands, Call.operands]; exact .inr (by simpa using hm))
    cases cal with
    | value f =>
      have hf := hx f (by simp [Op.operands, Call.operands])
      simp only [aop, ha, hf]
    | invoke x m => simp only [aop, h2]
    | builtin b => cases b <;> first | (simp only [aop, ha]; done) | (simp only [aop, h2]; done)
  all_goals (simp only [aop]; rw [lightOp_congr hx])
theorem atEnd_congr {e e' : Env} {o : Op} (hx : ∀ x ∈ o.operands.toList, ev e x = ev e' x) : atEnd e h o = atEnd e' h o := by
  cases o
  case call c =>
    obtain ⟨cal, args, ats⟩ := c
    cases cal with
    | value f => rfl
    | invoke x m => rfl
    | builtin b =>
      cases b
      case append =>
        unfold atEnd
        simp only
        split
        · rename_i x r hr
          have h1 := hx x (by simp [Op.operands, Call.operands]; have : x ∈ args.toList := by rw [hr]; simp
                              simpa using this)
          rw [h1]
        · rfl
      all_goals rfl
  all_goals rfl
theorem wantedV_congr {ops : Array Oper} {e e' : Env} {o : Oper} (hx : ∀ j w, o.guard = some (j, w) → ∀ t, (ops[j]?).bind (·.dst) = some t → e.at t = e'.at t) : wantedV ops e o = wantedV ops e' o := by
  unfold wantedV
  split
  · rfl
  · rename_i j want hg
    unfold yieldedV
    split
    · rename_i t ht; rw [hx j want hg t ht]
    · rfl
/-- the slots that an operation names -/
theorem ev_of_names {ops : Array Oper} {e e' : Env} {o : Oper} (hx : ∀ t ∈ names ops o, e.at t = e'.at t) : (∀ x ∈ o.op.operands.toList, ev e x = ev e' x) ∧ wantedV ops e o = wantedV ops e' o := by
  refine ⟨fun x hm => ?_, wantedV_congr fun j want hg t ht => hx t ?_⟩
  · cases x with
    | tmp t =>
      have := hx t (by unfold names; simp only [List.mem_append, List.mem_filterMap]; exact .inl (.inr ⟨.tmp t, hm, rfl⟩))
      simp only [ev, this]
    | _ => rfl
  · unfold names
    simp only [List.mem_append]
    right
    simp [hg, ht]
end Go.Den
