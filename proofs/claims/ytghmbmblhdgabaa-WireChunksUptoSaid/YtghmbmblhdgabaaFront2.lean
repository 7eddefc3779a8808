/- A region whose order is open, continued: the steps of a front, one by one. -/
import Derived.Test.YtghmbmblhdgabaaFront
set_option linter.all false
namespace Go.Den
open Go
variable {P : Program} {h h' : H}

inductive FStep (P : Program) (call : CallFn) (lo old nt : Nat) (st : Bool) (ops : Array Oper) (o : Oper) (e : Env) (h : H) (e' : Env) (h' : H) : Prop
  | skip (hw : wantedV ops e o = false) (hp : put nt o.dst undef e = some e') (hh : h' = h)
  | light (v : V) (r : LR) (hw : wantedV ops e o = true) (hv : heavy o.op = false) (hl : lightOp P (rdOf st old h) e o.op = some r) (hk : keep h (some r) = some (v, h')) (hp : put nt o.dst v e = some e')
  | heavy (v : V) (hw : wantedV ops e o = true) (hv : heavy o.op = true) (he : atEnd e h o.op = true) (ha : aop P call (barrier lo old h o.op) e h o.op = some (v, h')) (hp : put nt o.dst v e = some e')

theorem front_trace {call : CallFn} {lo old nt : Nat} {st : Bool} {ops : Array Oper} : ∀ {k i : Nat} {e e' : Env} {h h' : H}, runFront P call lo old nt st ops k (ops.toList.drop i) e h = some (e', h') → i + k ≤ ops.size →
    ∃ (E : Nat → Env) (Hh : Nat → H), E 0 = e ∧ Hh 0 = h ∧ E k = e' ∧ Hh k = h' ∧ ∀ j, j < k → ∃ o, ops[i + j]? = some o ∧ FStep P call lo old nt st ops o (E j) (Hh j) (E (j + 1)) (Hh (j + 1))
  | 0, i, e, e', h, h', hr, _ => by cases hr; exact ⟨fun _ => e, fun _ => h, rfl, rfl, rfl, rfl, fun j hj => by omega⟩
  | k + 1, i, e, e', h, h', hr, hle => by
    have hlt : i < ops.size := by omega
    have hdrop : ops.toList.drop i = ops[i] :: ops.toList.drop (i + 1) := by
      rw [List.drop_eq_getElem_cons (by simpa using hlt)]
      simp
    rw [hdrop] at hr
    have hoi : ops[i]? = some ops[i] := by simp [hlt]
    have step : ∀ e1 h1, FStep P call lo old nt st ops ops[i] e h e1 h1 → runFront P call lo old nt st ops k (ops.toList.drop (i + 1)) e1 h1 = some (e', h') →
        ∃ (E : Nat → Env) (Hh : Nat → H), E 0 = e ∧ Hh 0 = h ∧ E (k + 1) = e' ∧ Hh (k + 1) = h' ∧ ∀ j, j < k + 1 → ∃ o, ops[i + j]? = some o ∧ FStep P call lo old nt st ops o (E j) (Hh j) (E (j + 1)) (Hh (j + 1)) := by
      intro e1 h1 hs hr1
      obtain ⟨E, Hh, e0, hh0, ek, hhk, hst⟩ := front_trace hr1 (by omega)
      refine ⟨fun j => match j with | 0 => e | j + 1 => E j, fun j => match j with | 0 => h | j + 1 => Hh j, rfl, rfl, ek, hhk, fun j hj => ?_⟩
      cases j with
      | zero => exact ⟨ops[i], by simp, by simp only [e0, hh0]; exact hs⟩
      | succ j =>
        obtain ⟨o, ho, hf⟩ := hst j (by omega)
        exact ⟨o, by rw [← ho]; congr 1; omega, hf⟩
    unfold runFront at hr
    split at hr
    · rename_i hw
      split at hr
      · rename_i v h1 ha
        split at hr
        · rename_i e1 hp
          refine step e1 h1 ?_ hr
          unfold frontOp at ha
          split at ha
          · rename_i hv
            split at ha
            · rename_i he
              exact .heavy v hw hv he ha hp
            · cases ha
          · rename_i hv
            cases hl : lightOp P (rdOf st old h) e ops[i].op with
            | none => rw [hl] at ha; cases ha
            | some r => rw [hl] at ha; exact .light v r hw (by simpa using hv) hl ha hp
        · cases hr
      · cases hr
    · rename_i hw
      split at hr
      · rename_i e1 hp
        exact step e1 h (.skip (by simpa using hw) hp rfl) hr
      · cases hr

theorem appendV_cases {lo : Nat} {ts : List TypeId} {s x v : V} (ha : appendV P lo ts s x h = some (v, h')) :
    h' = h ∨ (∃ l, h' = h.alloc l) ∨ ∃ b o n c es cs f low l, s = .sl b o n c es ∧ c ≠ some 0 ∧ h.owned lo b = some (cs, f, low) ∧ h' = h.more f (if o + n * es = cs.length then low else h.next) l := by
  have hfo : ∀ {c : Option Nat} {k m : Nat}, ¬ m = 0 → ¬ forced c (k + m) = true → c ≠ some 0 := by
    intro c k m hm hf e
    subst e
    exact hf (by simp [forced]; omega)
  unfold appendV at ha
  repeat' (split at ha)
  all_goals first
    | (cases ha; done)
    | (cases ha; first
        | exact .inl rfl
        | exact .inr (.inl ⟨_, rfl⟩)
        | exact .inr (.inr ⟨_, _, _, _, _, _, _, _, _, rfl, hfo ‹_› ‹_›, ‹_›, rfl⟩)
        | exact .inr (.inr ⟨_, _, _, _, _, _, _, _, _, rfl, hfo ‹_› ‹_›, ‹_›, congrArg (fun z => H.more _ _ z _) (if_pos ‹_›).symm⟩)
        | exact .inr (.inr ⟨_, _, _, _, _, _, _, _, _, rfl, hfo ‹_› ‹_›, ‹_›, congrArg (fun z => H.more _ _ z _) (if_neg ‹_›).symm⟩))

theorem read_eq_of {b : Nat} (wf : HWF h) (hg : h'.get b = h.get b) (hf : ∀ f, f ≤ b → h'.fam f = h.fam f) : h'.read b = h.read b := by
  unfold H.read
  rw [hg]
  split
  · rfl
  · rename_i l f hgb
    rw [hf f (wf.fam _ _ _ hgb).1]
  · rfl
theorem read_put_eq {b f low c : Nat} {l l' : List V} (hg : h.get b = some (.cells l (some f))) (hne : c ≠ b) (hfc : h.famOf c ≠ some f) : (h.put b f l').read c = h.read c := by
  unfold H.read
  rw [get_put, if_neg hne]
  split
  · rfl
  · rename_i l2 f2 hg2
    rw [famOf_of hg2] at hfc
    rw [fam_put, if_neg (by simpa using hfc)]
  · rfl
theorem read_more_eq {b f low c : Nat} {l' : List V} (hf : h.fam f = some (b, low)) (hne : c ≠ h.next) : (h.more f low l').read c = h.read c := by
  unfold H.read
  rw [get_more, if_neg hne]
  split
  · rfl
  · rename_i l2 f2 hg2
    by_cases e : f2 = f
    · subst e; rw [fam_more, if_pos rfl, hf]
    · rw [fam_more, if_neg e]
  · rfl

/-- what is read of what was there stands as it stood -/
theorem fstep_rd {call : CallFn} (hcg : CallGood call) {lo old nt : Nat} {st : Bool} {ops : Array Oper} {o : Oper} {e e' : Env} (hs : FStep P call lo old nt st ops o e h e' h') (wf : HWF h) (hlo : lo ≤ old) (hold : old ≤ h.next)
    (hst : isStore o.op = true → st = true) (b : Nat) (hb : b < h.next) : rdOf st old h' b = rdOf st old h b := by
  have halloc : ∀ l, rdOf st old (h.alloc l) b = rdOf st old h b := by
    intro l
    unfold rdOf
    simp only [read_alloc wf, if_neg (show ¬ b = h.next from by omega)]
  have hkeep : ∀ {r : Option LR} {v : V}, keep h r = some (v, h') → rdOf st old h' b = rdOf st old h b := by
    intro r v hk
    unfold keep at hk
    split at hk
    · cases hk; rfl
    · cases hk; exact halloc _
    · cases hk
  cases hs with
  | skip hw hp hh => rw [hh]
  | light v r hw hv hl hk hp => exact hkeep hk
  | heavy v hw hv he ha hp =>
    generalize hop : o.op = op at *
    cases op
    case store t x y =>
      have hst' := hst rfl
      subst hst'
      simp only [aop, barrier] at ha
      split at ha
      · split at ha
        · rename_i h1 hsto
          cases ha
          unfold storeV at hsto
          split at hsto
          · split at hsto
            · rename_i cs f low hown
              split at hsto
              · split at hsto
                · cases hsto
                  obtain ⟨hg, hf, hlob⟩ := owned_some hown
                  have hlof := owned_fam hown
                  unfold rdOf
                  by_cases hbo : old ≤ b
                  · simp [hbo]
                  · simp only [hbo, decide_false, Bool.and_false, Bool.false_eq_true, if_false]
                    refine read_put_eq (low := low) hg (by omega) fun hfb => ?_
                    unfold H.famOf at hfb
                    split at hfb
                    · rename_i l2 f2 hg2
                      subst hfb
                      have := (wf.fam _ _ _ hg2).1
                      omega
                    · cases hfb
                · cases hsto
              · cases hsto
            · cases hsto
          · cases hsto
        · cases ha
      · cases ha
    case convert s d x =>
      simp only [aop] at ha
      split at ha
      · split at ha
        · unfold markV at ha
          repeat' (split at ha)
          all_goals first | (cases ha; done) | (cases ha; rfl)
        · cases ha
      · exact hkeep ha
    case call c =>
      obtain ⟨cal, args, ats⟩ := c
      cases cal with
      | invoke x m => cases hv
      | value f =>
        simp only [aop, barrier] at ha
        split at ha
        · have g := hcg _ _ _ _ _ _ ha (Nat.le_refl _)
          unfold rdOf
          rw [read_eq_of wf (g.get b hb) fun f hf => g.fam f (by omega)]
        · cases ha
      | builtin bi =>
        cases bi
        case append =>
          simp only [aop, barrier] at ha
          split at ha
          · rename_i sv x hev
            rcases appendV_cases ha with rfl | ⟨l, rfl⟩ | ⟨b0, o0, n0, c0, es0, cs, f, low, l, rfl, hc00, hown, rfl⟩
            · rfl
            · exact halloc l
            · obtain ⟨hg, hf, _⟩ := owned_some hown
              have hrd := owned_read wf hown
              -- the append stands at the block's own end
              have hend : o0 + n0 * es0 = cs.length := by
                unfold atEnd at he
                simp only at he
                split at he
                · rename_i x0 r0 hargs
                  have hx0 : ev e x0 = some (.sl b0 o0 n0 c0 es0) := by
                    unfold evs at hev
                    rw [hargs] at hev
                    unfold omap at hev
                    split at hev
                    · rename_i y hy
                      split at hev
                      · cases hev; exact hy
                      · cases hev
                    · cases hev
                  rw [hx0] at he
                  simp only [hrd, decide_eq_true_eq] at he
                  exact he
                · rename_i hargs
                  unfold evs at hev
                  rw [hargs] at hev
                  cases hev
              rw [if_pos hend]
              unfold rdOf
              rw [read_more_eq hf (by omega)]
          · cases ha
        all_goals (cases hv)
    all_goals (cases hv)

/-- what nobody can name yet stays untouched -/
theorem fstep_far {call : CallFn} (hcg : CallGood call) {φ : Phi} {lo old nt : Nat} {st : Bool} {ops : Array Oper} {o : Oper} {e e' es : Env} (hs : FStep P call lo old nt st ops o e h e' h') (hag : ∀ x ∈ o.op.operands.toList, ev es x = ev e x)
    {a : Act} (her : ER φ es a.tmps) {b : Nat} (hb : b < h.next) (hφ : φ b = none) (hfb : h.fam b = some (b, b)) : h'.get b = h.get b ∧ h'.fam b = h.fam b := by
  have hne : ∀ {x : Operand} {v : V}, x ∈ o.op.operands.toList → ev e x = some v → VR φ v (a.eval x) := fun hm hv => ev_rel her ((hag _ hm).trans hv)
  have halloc : ∀ l, (h.alloc l).get b = h.get b ∧ (h.alloc l).fam b = h.fam b := fun l => ⟨by rw [get_alloc, if_neg (by omega)], by rw [fam_alloc, if_neg (by omega)]⟩
  have hkeep : ∀ {r : Option LR} {v : V}, keep h r = some (v, h') → h'.get b = h.get b ∧ h'.fam b = h.fam b := by
    intro r v hk
    unfold keep at hk
    split at hk
    · cases hk; exact ⟨rfl, rfl⟩
    · cases hk; exact halloc _
    · cases hk
  cases hs with
  | skip hw hp hh => rw [hh]; exact ⟨rfl, rfl⟩
  | light v r hw hv hl hk hp => exact hkeep hk
  | heavy v hw hv he ha hp =>
    generalize hop : o.op = op at *
    cases op
    case store t x y =>
      simp only [aop] at ha
      split at ha
      · rename_i vx vy hx hy
        split at ha
        · rename_i h1 hsto
          cases ha
          have hvx := hne (x := x) (by simp [Op.operands]) hx
          unfold storeV at hsto
          split at hsto
          · rename_i b0 o0
            generalize a.eval x = x' at hvx
            cases hvx with
            | ptr hb0 =>
            split at hsto
            · rename_i cs f low hown
              split at hsto
              · split at hsto
                · cases hsto
                  obtain ⟨hg, hf, _⟩ := owned_some hown
                  have hbb : b ≠ b0 := fun e => by subst e; rw [hφ] at hb0; cases hb0
                  refine ⟨by rw [get_put, if_neg hbb], ?_⟩
                  rw [fam_put, if_neg]
                  intro e
                  subst e
                  rw [hf] at hfb
                  cases hfb
                  exact hbb rfl
                · cases hsto
              · cases hsto
            · cases hsto
          · cases hsto
        · cases ha
      · cases ha
    case convert s d x =>
      simp only [aop] at ha
      split at ha
      · split at ha
        · unfold markV at ha
          repeat' (split at ha)
          all_goals first | (cases ha; done) | (cases ha; exact ⟨rfl, rfl⟩)
        · cases ha
      · exact hkeep ha
    case call c =>
      obtain ⟨cal, args, ats⟩ := c
      cases cal with
      | invoke x m => cases hv
      | value f =>
        simp only [aop, barrier] at ha
        split at ha
        · have g := hcg _ _ _ _ _ _ ha (Nat.le_refl _)
          exact ⟨g.get b hb, g.fam b hb⟩
        · cases ha
      | builtin bi =>
        cases bi
        case append =>
          simp only [aop] at ha
          split at ha
          · rename_i sv x hev
            rcases appendV_cases ha with rfl | ⟨l, rfl⟩ | ⟨b0, o0, n0, c0, es0, cs, f, low, l, rfl, hc00, hown, rfl⟩
            · exact ⟨rfl, rfl⟩
            · exact halloc l
            · obtain ⟨hg, hf, _⟩ := owned_some hown
              obtain ⟨x0, hm0, hx0⟩ : ∃ x0, x0 ∈ args.toList ∧ ev e x0 = some (.sl b0 o0 n0 c0 es0) := by
                unfold evs at hev
                cases hargs : args.toList with
                | nil => rw [hargs] at hev; cases hev
                | cons x0 r0 =>
                  rw [hargs] at hev
                  unfold omap at hev
                  split at hev
                  · rename_i y hy
                    split at hev
                    · cases hev; exact ⟨x0, by simp, hy⟩
                    · cases hev
                  · cases hev
              have hvx := hne (x := x0) (by simp [Op.operands, Call.operands]; simpa using hm0) hx0
              generalize a.eval x0 = x' at hvx
              cases hvx with
              | sl hb0 _ _ _ _ =>
              have hb0 := hb0.resolve_right (fun e => hc00 e.2)
              have hbb : b ≠ b0 := fun e => by subst e; rw [hφ] at hb0; cases hb0
              refine ⟨by rw [get_more, if_neg (by omega)], ?_⟩
              rw [fam_more, if_neg]
              intro e
              subst e
              rw [hf] at hfb
              cases hfb
              exact hbb rfl
          · cases ha
        all_goals (cases hv)
    all_goals (cases hv)
end Go.Den
