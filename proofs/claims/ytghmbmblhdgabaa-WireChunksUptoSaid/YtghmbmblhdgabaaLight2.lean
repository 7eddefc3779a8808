/- Light operations, continued: tests of equality, values that are built, addresses, cuts. -/
import Derived.Test.YtghmbmblhdgabaaLight
set_option linter.all false
namespace Go.Den
open Go
variable {P : Program} {φ : Phi} {w : World}

theorem eqOp_rel {t : TypeId} {x y : V} {b : Bool} (h : eqOp P t x y = some b) {x' y' : Value} (hx : VR φ x x') (hy : VR φ y y') (w : World) :
    (Op.equal t x' y').run P w = .ok b w ∧ ∀ op xo yo, (eqGuard op t xo yo x' y').run P w = .ok () w := by
  have hm : Op.maxDepth = 9998 + 1 + 1 := rfl
  unfold eqOp at h
  split at h
  · rename_i fs hu
    split at h
    · rename_i xs ys
      split at h
      · cases h
      · rename_i hg
        rw [Bool.or_eq_true, not_or] at hg
        simp only [Bool.not_eq_true] at hg
        cases hx with
        | agg hx =>
        cases hy with
        | agg hy =>
        have hfs : P.fieldsOf t = fs := by unfold Program.fieldsOf; rw [hu]
        refine ⟨?_, fun op xo yo => run_eqGuard_agg w op t xo yo _ _ hg.2⟩
        unfold Op.equal
        rw [hm, run_equalIn_struct w _ t _ _ (by rw [hfs]; exact hu) hg.1, hfs]
        exact eqFields_rel h hx hy _ w
    · cases h
  · rename_i n e hu
    split at h
    · rename_i xs ys
      split at h
      · rename_i d he hsz
        split at h
        · cases h
        · rename_i hg
          simp only [Bool.not_eq_true] at hg
          cases hx with
          | agg hx =>
          cases hy with
          | agg hy =>
          refine ⟨?_, fun op xo yo => run_eqGuard_agg w op t xo yo _ _ hg⟩
          unfold size? at hsz
          rw [Option.map_eq_some_iff] at hsz
          obtain ⟨i, hi, h1⟩ := hsz
          have hc : P.cellsOf e = 1 := by unfold Program.cellsOf; rw [hi]; exact h1
          unfold Op.equal
          rw [hm, run_equalIn_array w _ _ _ hu hi, hc, List.range_eq_range']
          exact eqElems_rel he h hx hy _ w
      · cases h
    · cases h
  · rename_i d h1 h2 hu
    refine ⟨?_, fun op xo yo => ?_⟩
    · unfold Op.equal
      rw [hm]
      exact eqScalar_rel h hx hy hu _ w
    · unfold eqScalar at h
      split at h
      all_goals first | (cases h; done) | skip
      all_goals (cases hx; cases hy; simp only [eqGuard_at_bool, eqGuard_at_int, eqGuard_at_string, eqGuard_at_pointer, eqGuard_at_slice, eqGuard_at_map, eqGuard_at_func, eqGuard_at_nilFunc, Sem.run_pure])
  · cases h

theorem binOp_eql_other {t : TypeId} {x y : V} {x' y' : Value} (hx : VR φ x x') (hy : VR φ y y') (h1 : ∀ k a k' b, x = .int k a → y = .int k' b → False) (h2 : ∀ a b, x = .str a → y = .str b → False) :
    binOp .eql t x' y' = (do pure (.bool (← Op.equal t x' y'))) ∧ binOp .neq t x' y' = (do pure (.bool (!(← Op.equal t x' y')))) := by
  cases hx <;> cases hy <;> first
    | exact ⟨rfl, rfl⟩
    | exact (h1 _ _ _ _ rfl rfl).elim
    | exact (h2 _ _ rfl rfl).elim

theorem binV_rel {op : BinOp} {t : TypeId} {x y v : V} (h : binV P op t x y = some v) {x' y' : Value} (hx : VR φ x x') (hy : VR φ y y') (xo yo : Operand) (w : World) :
    ∃ v', (do eqGuard op t xo yo x' y'; binOp op t x' y').run P w = .ok v' w ∧ VR φ v v' := by
  unfold binV at h
  split at h
  · rename_i k a k' b
    cases hx; cases hy
    simp only [Sem.run_bind, eqGuard_at_int, Sem.run_pure, Result.andThen_ok]
    split at h
    · rw [binOp_shl]; exact shiftOp_rel h w
    · rw [binOp_shr]; exact shiftOp_rel h w
    · rename_i hs hr
      split at h
      · rename_i hk
        subst hk
        exact intOp_rel h hs hr t w
      · cases h
  · rename_i a b
    cases hx; cases hy
    simp only [Sem.run_bind, eqGuard_at_string, Sem.run_pure, Result.andThen_ok]
    have e : binOp op t (.string ⟨⟨a⟩⟩) (.string ⟨⟨b⟩⟩) = Op.stringOp op ⟨⟨a⟩⟩ ⟨⟨b⟩⟩ := by cases op <;> rfl
    rw [e]
    exact strOp_rel h w
  · rename_i h1 h2
    have hb := binOp_eql_other (t := t) hx hy (fun k a k' b e1 e2 => h1 k a k' b e1 e2) (fun a b e1 e2 => h2 a b e1 e2)
    split at h
    · rw [Option.map_eq_some_iff] at h
      obtain ⟨b, he, rfl⟩ := h
      obtain ⟨r1, r2⟩ := eqOp_rel he hx hy w
      exact ⟨_, by rw [hb.1]; simp [r1, r2], .bool _⟩
    · rw [Option.map_eq_some_iff] at h
      obtain ⟨b, he, rfl⟩ := h
      obtain ⟨r1, r2⟩ := eqOp_rel he hx hy w
      exact ⟨_, by rw [hb.2]; simp [r1, r2], .bool _⟩
    · cases h

theorem unV_rel {op : UnOp} {x v : V} (h : unV op x = some v) {x' : Value} (hx : VR φ x x') (w : World) :
    ∃ v', (Op.unary op x').run P w = .ok v' w ∧ VR φ v v' := by
  unfold unV at h
  split at h
  · cases hx; cases h; exact ⟨_, by simp [Op.unary, Op.intArith], .int _ _⟩
  · cases hx
    simp only [intOp, Option.some.injEq] at h
    subst h
    exact ⟨_, by simp [Op.unary, Op.intBits], .int _ _⟩
  · cases hx; cases h; exact ⟨_, by simp [Op.unary], .bool _⟩
  · cases h

/-! ### values that are built -/
theorem foldl_set (cs : List Value) : ∀ (off : Nat) (c : Array Value), off + cs.length ≤ c.size →
    ((cs.toArray.zipIdx.foldl (fun (a : Array Value) (p : Value × Nat) => a.setIfInBounds (off + p.2) p.1) c)).toList = c.toList.take off ++ cs ++ c.toList.drop (off + cs.length) := by
  have key : ∀ (cs : List Value) (i off : Nat) (c : Array Value), off + i + cs.length ≤ c.size →
      ((cs.zipIdx i).foldl (fun (a : Array Value) (p : Value × Nat) => a.setIfInBounds (off + p.2) p.1) c).toList = c.toList.take (off + i) ++ cs ++ c.toList.drop (off + i + cs.length) := by
    intro cs
    induction cs with
    | nil => intro i off c h; simp
    | cons v r ih =>
      intro i off c h
      simp only [List.length_cons] at h
      rw [List.zipIdx_cons, List.foldl_cons, ih (i + 1) off _ (by simp; omega)]
      simp only [Array.toList_setIfInBounds, List.length_cons]
      have hi : off + i < c.toList.length := by simp; omega
      rw [show off + (i + 1) = off + i + 1 from by omega, show off + i + 1 + r.length = off + i + (r.length + 1) from by omega]
      rw [List.take_set, List.drop_set_of_lt (by omega)]
      rw [List.take_succ_eq_append_getElem (by simpa using hi)]
      have hm : min (off + i) c.size = off + i := Nat.min_eq_left (by simpa using Nat.le_of_lt hi)
      rw [List.set_append_right _ _ (by simp [hm])]
      simp [hm]
  intro off c h
  rw [← Array.foldl_toList]
  simpa using key cs 0 off c (by simpa using h)
theorem fill1_rel {cells cs r : List V} {off : Nat} (h : fill1 cells off cs = some r) {cells' cs' : List Value} (hc : VRs φ cells cells') (hs : VRs φ cs cs') :
    off + cs.length ≤ cells.length ∧ VRs φ r (cells'.take off ++ cs' ++ cells'.drop (off + cs'.length)) := by
  unfold fill1 at h
  split at h
  · rename_i hle
    cases h
    refine ⟨hle, ((hc.take off).append hs).append ?_⟩
    rw [← hs.length]
    exact hc.drop _
  · cases h
inductive PR (φ : Phi) : List (Nat × V) → List (Nat × Value) → Prop
  | nil : PR φ [] []
  | cons {i : Nat} {v : V} {v' : Value} {r : List (Nat × V)} {r' : List (Nat × Value)} (h : VR φ v v') (hr : PR φ r r') : PR φ ((i, v) :: r) ((i, v') :: r')
theorem fillV_rel {place place' : Nat → Option (Nat × Nat)} (hp : ∀ i p, place i = some p → place' i = some p) :
    ∀ {parts : List (Nat × V)} {cells r : List V}, fillV place cells parts = some r → ∀ {parts' : List (Nat × Value)} {cells' : List Value}, PR φ parts parts' → VRs φ cells cells' →
      ∃ r', Instr.fill place' ⟨cells'⟩ parts' = some ⟨r'⟩ ∧ VRs φ r r'
  | [], cells, r, h, parts', cells', hps, hc => by
    cases hps
    cases h
    exact ⟨cells', rfl, hc⟩
  | (i, v) :: parts, cells, r, h, parts', cells', hps, hc => by
    cases hps with
    | cons hv hr =>
    rename_i v' r''
    unfold fillV at h
    split at h
    · rename_i off size hpl
      split at h
      · rename_i hsz
        split at h
        · rename_i cs hf
          have hvc := hv.cells
          have hlen := hvc.length
          obtain ⟨hle, hcs⟩ := fill1_rel hf hc hvc
          have hcl := hc.length
          obtain ⟨r', h1, h2⟩ := fillV_rel hp h hr hcs
          refine ⟨r', ?_, h2⟩
          have e1 : v'.cells.size = v'.cells.toList.length := by simp
          unfold Instr.fill
          rw [hp _ _ hpl]
          simp only []
          rw [if_neg (by
            simp only [Bool.or_eq_true, decide_eq_true_eq, not_or, ne_eq, Decidable.not_not]
            refine ⟨by rw [e1, ← hlen, hsz], ?_⟩
            rw [e1, ← hlen]
            simp
            omega)]
          rw [← h1]
          congr 1
          apply Array.ext'
          have := foldl_set v'.cells.toList off ⟨cells'⟩ (by rw [← hlen]; simp; omega)
          simpa using this
        · cases h
      · cases h
    · cases h
theorem run_mapM_sem {α β : Type} (f : α → Sem β) (g : α → β) (w : World) : ∀ (l : List α), (∀ a ∈ l, (f a).run P w = .ok (g a) w) → (l.mapM f).run P w = .ok (l.map g) w
  | [], _ => by simp
  | a :: r, h => by
    rw [List.mapM_cons]
    simp [h a (by simp), run_mapM_sem f g w r (fun b hb => h b (by simp [hb]))]
theorem buildV_rel {t : TypeId} {parts : List (Nat × V)} {v : V} (h : buildV P t parts = some v) {parts' : List (Nat × Value)} (hps : PR φ parts parts') (w : World) :
    ∃ v', (Instr.build t ⟨parts'⟩).run P w = .ok v' w ∧ VR φ v v' := by
  unfold buildV at h
  split at h
  · rename_i z fs hz hu
    obtain ⟨z', hz1, hz2⟩ := run_zeroValue (φ := φ) hz w
    split at h
    · rename_i hall
      rw [Option.map_eq_some_iff] at h
      obtain ⟨r, hf, rfl⟩ := h
      have hsz : ∀ f ∈ fs.toList, ∃ n, size? P f.type = some n := by
        intro f hf
        rw [List.all_eq_true] at hall
        have := hall f hf
        rw [Option.isSome_iff_exists] at this
        exact this
      let g : Field → Nat × Nat := fun f => (f.offset, (size? P f.type).getD 0)
      have hmap : (fs.mapM fun f => do pure (f.offset, ← sizeOf f.type) : Sem (Array (Nat × Nat))).run P w = .ok (fs.map g) w := by
        rw [Array.mapM_eq_mapM_toList]
        simp only [Sem.run_map]
        rw [run_mapM_sem _ g w fs.toList (fun f hf => by
          obtain ⟨n, hn⟩ := hsz f hf
          simp [run_sizeOf hn, g, hn])]
        simp only [Result.andThen_ok]
        congr 1
        apply Array.ext'
        simp
      obtain ⟨r', h1, h2⟩ := fillV_rel (place := structPlace P fs) (place' := ((fs.map g)[·]?)) (by
        intro i p hp
        unfold structPlace at hp
        split at hp
        · rename_i f hf
          rw [Option.map_eq_some_iff] at hp
          obtain ⟨s, hs, rfl⟩ := hp
          simp [hf, g, hs]
        · cases hp) hf hps hz2.cells
      refine ⟨.agg ⟨r'⟩, ?_, .agg h2⟩
      have e : (⟨z'.cells.toList⟩ : Array Value) = z'.cells := by simp
      rw [e] at h1
      simp only [Instr.build, Sem.run_bind, hz1, Result.andThen_ok, run_underlying hu, hmap, h1, Sem.run_pure]
    · cases h
  · rename_i z n e hz hu
    obtain ⟨z', hz1, hz2⟩ := run_zeroValue (φ := φ) hz w
    split at h
    · rename_i s hs
      rw [Option.map_eq_some_iff] at h
      obtain ⟨r, hf, rfl⟩ := h
      obtain ⟨r', h1, h2⟩ := fillV_rel (place' := fun i => some (i * s, s)) (fun _ _ h => h) hf hps hz2.cells
      refine ⟨.agg ⟨r'⟩, ?_, .agg h2⟩
      have e : (⟨z'.cells.toList⟩ : Array Value) = z'.cells := by simp
      rw [e] at h1
      simp only [Instr.build, Sem.run_bind, hz1, Result.andThen_ok, run_underlying hu, run_sizeOf hs, h1, Sem.run_pure]
    · cases h
  · cases h
end Go.Den
