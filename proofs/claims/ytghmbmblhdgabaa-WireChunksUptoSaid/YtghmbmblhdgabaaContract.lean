/- From the machine to a row: what is handed in, what comes back, what stays. -/
import Derived.Test.YtghmbmblhdgabaaArg
import Derived.Below
import Derived.Carry
import Derived.ChangeBook
set_option linter.all false
namespace Go.Den
open Go Go.RowKit
variable {P : Program} {w : World}

/-- a value of a type, as an argument -/
def OkA (P : Program) (rd : Rd) (M N : Nat) (t : TypeId) (v : V) : Prop :=
  match P.underlying t with
  | some (.struct _) => ∃ vs, v = .agg vs ∧ OkV P rd M N t vs
  | some (.array _ _) => ∃ vs, v = .agg vs ∧ OkV P rd M N t vs
  | _ => OkV P rd M N t [v]
theorem OkA.mono {rd rd' : Rd} {M N : Nat} (hr : ∀ b l, rd b = some l → rd' b = some l) {t : TypeId} {v : V} (h : OkA P rd M N t v) : OkA P rd' M N t v := by
  unfold OkA at h ⊢
  split at h
  · obtain ⟨vs, h1, h2⟩ := h; exact ⟨vs, h1, h2.mono hr⟩
  · obtain ⟨vs, h1, h2⟩ := h; exact ⟨vs, h1, h2.mono hr⟩
  · exact h.mono hr
theorem one_cell {v : Value} (h : ∀ cs, v ≠ .agg cs) : v.cells.toList = [v] := by
  cases v <;> first | rfl | exact absurd rfl (h _)
theorem arg_lay {M N : Nat} {A : Type} {enc : TypeId × Value → A} (hl : laidOutB P = true) {t : TypeId} (hr : P.readableRec t = true) (hrow : t < P.types.size) (hp : plainT P N t = true)
    {v : Value} {d : DataW A} {ps : List MemPlace} (ht : DataW.Trod enc P w 0 (fun _ => true) true t v d ps) (hs : small M d) {base : Nat} (hok : Value.okWide P w .any base t v) :
    ∀ h φ, Sim φ h w → FreeFrom φ h → AllRo h → ∃ φ' h' x, Grow h h' ∧ AllRo h' ∧ φ.le φ' ∧ Sim φ' h' w ∧ FreeFrom φ' h' ∧ VR φ' x v ∧ OkA P h'.read M N t x := by
  intro h φ s ff a
  obtain ⟨n, hn⟩ := ht
  obtain ⟨φ1, h1, vs, g1, a1, le1, s1, ff1, r1, o1⟩ := lays (kids_book hl hr) N n t _ _ _ hn hp hs ⟨hrow, book_self t⟩ h φ s ff a
  by_cases hag : ∃ cs, v = .agg cs
  · obtain ⟨cs, rfl⟩ := hag
    refine ⟨φ1, h1, .agg vs, g1, a1, le1, s1, ff1, ?_, ?_⟩
    · obtain ⟨cs⟩ := cs
      exact .agg (by simpa [Value.cells] using r1)
    · unfold OkA
      unfold Value.okWide at hok
      split at hok
      · rename_i hu; rw [hu]; exact ⟨vs, rfl, o1⟩
      · rename_i hu; rw [hu]; exact ⟨vs, rfl, o1⟩
      · exfalso
        unfold Cell.okWide at hok
        split at hok <;> first | (rename_i e; cases e; done) | skip
        unfold Cell.ok at hok
        split at hok <;> first | (rename_i e; cases e; done) | exact hok
  · rw [one_cell (fun cs e => hag ⟨cs, e⟩)] at r1
    cases r1 with
    | cons hv hnil =>
    cases hnil
    refine ⟨φ1, h1, _, g1, a1, le1, s1, ff1, hv, ?_⟩
    unfold OkA
    unfold Value.okWide at hok
    split at hok
    · obtain ⟨cs, e, _⟩ := hok; exact absurd ⟨cs, e⟩ hag
    · obtain ⟨cs, e, _⟩ := hok; exact absurd ⟨cs, e⟩ hag
    · rename_i h1 h2
      split
      · rename_i e; exact absurd e (h1 _)
      · rename_i e; exact absurd e (h2 _ _)
      · exact o1
theorem args_lay {M N : Nat} {A : Type} {enc : TypeId × Value → A} (hl : laidOutB P = true) {base : Nat} : ∀ (ts : List TypeId) (vs' : List Value) (ds : List (DataW A)) (ps : List MemPlace),
    (∀ t ∈ ts, P.readableRec t = true ∧ t < P.types.size ∧ plainT P N t = true) → DataW.TrodAll enc P w 0 (fun _ => true) true ts vs' ds ps → smalls M ds →
    (∀ (j : Nat) t v, ts[j]? = some t → vs'[j]? = some v → Value.okWide P w .any base t v) → ∀ h φ, Sim φ h w → FreeFrom φ h → AllRo h →
    ∃ (φ' : Phi) (h' : H) (vs : List V), Grow h h' ∧ AllRo h' ∧ φ.le φ' ∧ Sim φ' h' w ∧ FreeFrom φ' h' ∧ VRs φ' vs vs' ∧ vs.length = ts.length ∧ ∀ (j : Nat) t v, ts[j]? = some t → vs[j]? = some v → OkA P h'.read M N t v
  | [], [], [], ps, _, _, _, _, h, φ, s, ff, a => ⟨φ, h, [], Grow.refl h, a, Phi.le.refl φ, s, ff, .nil, rfl, fun j t v hj => by simp at hj⟩
  | t :: ts, v :: vs', d :: ds, ps, hts, ⟨p, q, h1, h2, _⟩, hsm, hok, h, φ, s, ff, a => by
    obtain ⟨k1, k2, k3⟩ := hts t (by simp)
    obtain ⟨φ1, m1, x, g1, a1, le1, s1, ff1, r1, o1⟩ := arg_lay hl k1 k2 k3 h1 hsm.1 (hok 0 t v (by simp) (by simp)) h φ s ff a
    obtain ⟨φ2, m2, xs, g2, a2, le2, s2, ff2, r2, l2, o2⟩ := args_lay hl ts vs' ds q (fun t ht => hts t (by simp [ht])) h2 hsm.2 (fun j t v hj hv => hok (j + 1) t v (by simpa using hj) (by simpa using hv)) m1 φ1 s1 ff1 a1
    refine ⟨φ2, m2, x :: xs, g1.trans g2, a2, le1.trans le2, s2, ff2, .cons (r1.mono le2) r2, by simp [l2], fun j t' v' hj hv => ?_⟩
    cases j with
    | zero =>
      simp at hj hv
      subst hj hv
      exact o1.mono fun b l hr => g2.read s1.wf hr
    | succ j => exact o2 j t' v' (by simpa using hj) (by simpa using hv)
  | [], _ :: _, _, _, _, h, _, _, _, _, _, _, _ => by simp [DataW.TrodAll] at h
  | _ :: _, [], _, _, _, h, _, _, _, _, _, _, _ => by simp [DataW.TrodAll] at h
  | [], [], _ :: _, _, _, h, _, _, _, _, _, _, _ => by simp [DataW.TrodAll] at h
  | _ :: _, _ :: _, [], _, _, h, _, _, _, _, _, _, _ => by simp [DataW.TrodAll] at h

theorem sim_none (w : World) : Sim (fun _ => none) H0 w := by
  have hg : ∀ b, H0.get b = none := fun b => by unfold H.get H0; exact T.get_nil b
  refine ⟨fun b x l h => ?_, fun b1 b2 x1 x2 l1 l2 _ h => ?_, ⟨fun b o h => ?_, fun b l f h => ?_⟩, fun b x h => ?_, fun b x l f h => ?_⟩
  · cases h
  · cases h
  · rw [hg] at h; cases h
  · rw [hg] at h; cases h
  · cases h
  · cases h
theorem allRo_none : AllRo H0 := fun b l f h => by
  have hg : H0.get b = none := by unfold H.get H0; exact T.get_nil b
  rw [hg] at h; cases h

/-- what a program must bring along for the machine to speak of it -/
structure ProgOk (C : Cfg) : Prop where
  mix : C.P.follows .mixedOrders = true
  names : NameOk C.P
  sim : ShortSim C
  next : ShortNext C
  good : ShortGood C
theorem nameOk_of {P : Program} (h : (P.funcs.all fun fn => !(fn.name == "runtime.NumGoroutine")) = true) : NameOk P := by
  intro f fn hf
  obtain ⟨hlt, he⟩ := Array.getElem?_eq_some_iff.1 hf
  have := Array.all_eq_true.1 h f hlt
  rw [he] at this
  simpa using this
theorem ProgOk.plain {P : Program} (hmix : P.follows .mixedOrders = true) (h : (P.funcs.all fun fn => !(fn.name == "runtime.NumGoroutine")) = true) : ProgOk { P := P, S := fun _ => none } :=
  { mix := hmix, names := nameOk_of h, sim := fun f g h => by (cases h), next := fun f g h => by (cases h), good := fun f g h => by (cases h) }
theorem ProgOk.call {C : Cfg} (ok : ProgOk C) (n : Nat) : CallSim C.P (call C n) := by
  obtain ⟨h1, h2⟩ := exec_sim ok.names (front_sim ok.mix ok.names) ok.sim ok.next ok.good n
  exact callStep_sim ok.sim h1

theorem trod_lts {A : Type} {enc : TypeId × Value → A} {ts : List TypeId} {vars : List String} {apart : Bool} {vs : List Value} {ds gs : List (DataW A)} {ps : List MemPlace} (hW : DataW.Whole enc P ts vars apart w vs ds gs ps) : ∀ p ∈ ps, p.block < w.heap.size := hW.lt

theorem trods_stay {A : Type} {enc : TypeId × Value → A} (hl : laidOutB P = true) {W W' : World} (hb : Below W.heap.size W W') : ∀ {ts : List TypeId} {vs : List Value} {ds : List (DataW A)} {ps : List MemPlace},
    (∀ t ∈ ts, P.readableRec t = true ∧ t < P.types.size) → DataW.TrodAll enc P W 0 (fun _ => true) true ts vs ds ps → (∀ p ∈ ps, p.block < W.heap.size) → DataW.TrodAll enc P W' 0 (fun b => decide (b < W.heap.size)) true ts vs ds ps
  | [], [], [], _, _, h, _ => h
  | t :: ts, v :: vs, d :: ds, ps, hts, ⟨p, q, h1, h2, e⟩, hlt => by
    subst e
    exact ⟨p, q, Below.trod hl (hts t (by simp)).1 (hts t (by simp)).2 h1 hb (fun x hx => hlt x (by simp [hx])), trods_stay hl hb (fun t ht => hts t (by simp [ht])) h2 (fun x hx => hlt x (by simp [hx])), rfl⟩
  | [], _ :: _, _, _, _, h, _ => by simp [DataW.TrodAll] at h
  | _ :: _, [], _, _, _, h, _ => by simp [DataW.TrodAll] at h
  | [], [], _ :: _, _, _, h, _ => by simp [DataW.TrodAll] at h
  | _ :: _, _ :: _, [], _, _, h, _ => by simp [DataW.TrodAll] at h
theorem trodAll_len {A : Type} {enc : TypeId × Value → A} {base : Nat} {sp : Nat → Bool} {held : Bool} : ∀ {ts : List TypeId} {vs : List Value} {ds : List (DataW A)} {ps : List MemPlace},
    DataW.TrodAll enc P w base sp held ts vs ds ps → ds.length = ts.length
  | [], [], [], _, _ => rfl
  | t :: ts, v :: vs, d :: ds, ps, ⟨p, q, h1, h2, e⟩ => by simp [trodAll_len h2]
  | [], _ :: _, _, _, h => by simp [DataW.TrodAll] at h
  | _ :: _, [], _, _, h => by simp [DataW.TrodAll] at h
  | [], [], _ :: _, _, h => by simp [DataW.TrodAll] at h
  | _ :: _, _ :: _, [], _, h => by simp [DataW.TrodAll] at h

/-- the row's contract, out of a run of the machine -/
theorem contract0 {C : Cfg} (ok : ProgOk C) (hl : laidOutB C.P = true) {A : Type} {enc : TypeId × Value → A} {s : ChangeSpec} {fn : Func} {f : FuncId} {tb : TypeId} (hres : fn.resultTypes = #[tb]) (hub : C.P.underlying tb = some .bool)
    (hvars : s.vars = []) {N M : Nat} (hts : ∀ t ∈ fn.params.toList, C.P.readableRec t = true ∧ t < C.P.types.size ∧ plainT C.P N t = true)
    (hspec : ∀ ds : List (DataW A), ds.length = fn.params.toList.length → (s.fn A ds).results = [.lit (.bool true)] ∧ (s.fn A ds).args = ds ∧ (s.fn A ds).vars = [])
    {W : World} {args : Array Value}
    (run : ∀ (φ : Phi) (h : H) (vs : List V), Sim φ h W → FreeFrom φ h → AllRo h → VRs φ vs args.toList → vs.length = fn.params.toList.length → (∀ (j : Nat) t v, fn.params.toList[j]? = some t → vs[j]? = some v → OkA C.P h.read M N t v) →
      ∃ (φ' : Phi) (h1 : H) (vs' : List V) (n : Nat) (h' : H), Sim φ' h1 W ∧ FreeFrom φ' h1 ∧ AllRo h1 ∧ VRs φ' vs' args.toList ∧ call C n f vs' h1.next h1 = some (.bool true, h'))
    {base : Nat} {ds gs : List (DataW A)} {before : List MemPlace} {apart fresh handsOn : Bool}
    (hval : ∀ (j : Nat) t v, fn.params[j]? = some t → args[j]? = some v → Value.okWide C.P W .any base t v)
    (hW : DataW.Whole enc C.P fn.params.toList s.vars apart W args.toList ds gs before) (hsm : smalls M (ds ++ gs)) :
    Calls C.P f args W fun e W' => ∃ v, e = .returned v ∧ s.post enc C.P fn apart fresh handsOn false W args v W' := by
  have hlt := hW.lt
  have hW' := hW
  obtain ⟨p, q, hA, hV, rfl, hfz, hnd⟩ := hW
  rw [hvars] at hV
  obtain ⟨rfl, rfl⟩ := ChangeShapes.trodVars_none hV
  rw [List.append_nil] at hsm hlt
  obtain ⟨φ, h, vs, g, al, le, s1, ff, r, len, o⟩ := args_lay hl fn.params.toList args.toList ds p hts hA hsm (fun j t v hj hv => hval j t v (by simpa using hj) (by simpa using hv)) H0 (fun _ => none) (sim_none W) (fun _ _ => rfl) allRo_none
  obtain ⟨φ, h, vs, n, h', s1, ff, al, r, hc⟩ := run φ h vs s1 ff al r len o
  have hcall := ((ok.call n) f vs h.next h _ h' hc).2 (Nat.le_refl _) φ W args.toList s1 (fun k h1 _ => ff k h1) r
  rw [show args.toList.toArray = args from by simp] at hcall
  refine hcall.mono fun e W' hpost => ?_
  obtain ⟨v', φ', he, x, _, hv⟩ := hpost
  cases hv
  have hb : Below W.heap.size W W' := ⟨x.os, x.tape, x.out, x.size, fun k hk => x.keep k hk fun b y hb' ho _ => by
    obtain ⟨l, f', low, hg, _⟩ := ho
    have := s1.wf.lt _ _ hg
    omega⟩
  obtain ⟨q1, q2, q3⟩ := hspec ds (trodAll_len hA)
  refine ⟨_, he, ds, [], p ++ [], [], p, [], hW', ?_, ?_, ?_, hb.frame _, fun hc => by cases hc⟩
  · rw [List.append_nil, q1, hres]
    refine ⟨[], [], ⟨1, ?_⟩, ?_, rfl⟩
    · simp [DataW.trod, Value.cells, hub]
    · simp [DataW.TrodAll]
  · rw [List.append_nil, q2]
    exact trods_stay hl hb (fun t ht => ⟨(hts t ht).1, (hts t ht).2.1⟩) hA hlt
  · rw [List.append_nil, q3, hvars]
    rfl
theorem contract {C : Cfg} (ok : ProgOk C) (hl : laidOutB C.P = true) {A : Type} {enc : TypeId × Value → A} {s : ChangeSpec} {fn : Func} {f : FuncId} {tb : TypeId} (hres : fn.resultTypes = #[tb]) (hub : C.P.underlying tb = some .bool)
    (hvars : s.vars = []) {N M : Nat} (hts : ∀ t ∈ fn.params.toList, C.P.readableRec t = true ∧ t < C.P.types.size ∧ plainT C.P N t = true)
    (hspec : ∀ ds : List (DataW A), ds.length = fn.params.toList.length → (s.fn A ds).results = [.lit (.bool true)] ∧ (s.fn A ds).args = ds ∧ (s.fn A ds).vars = [])
    (run : ∀ (h : H) (vs : List V), HWF h → AllRo h → vs.length = fn.params.toList.length → (∀ (j : Nat) t v, fn.params.toList[j]? = some t → vs[j]? = some v → OkA C.P h.read M N t v) → ∃ n h', call C n f vs h.next h = some (.bool true, h'))
    {W : World} {base : Nat} {args : Array Value} {ds gs : List (DataW A)} {before : List MemPlace} {apart fresh handsOn : Bool}
    (hval : ∀ (j : Nat) t v, fn.params[j]? = some t → args[j]? = some v → Value.okWide C.P W .any base t v)
    (hW : DataW.Whole enc C.P fn.params.toList s.vars apart W args.toList ds gs before) (hsm : smalls M (ds ++ gs)) :
    Calls C.P f args W fun e W' => ∃ v, e = .returned v ∧ s.post enc C.P fn apart fresh handsOn false W args v W' :=
  contract0 ok hl hres hub hvars hts hspec (fun φ h vs s1 ff al r len o => by
    obtain ⟨n, h', hc⟩ := run h vs s1.wf al len o
    exact ⟨φ, h, vs, n, h', s1, ff, al, r, hc⟩) hval hW hsm
end Go.Den
