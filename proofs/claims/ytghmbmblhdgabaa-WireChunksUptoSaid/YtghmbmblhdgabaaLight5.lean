/- Light operations: new blocks, conversions, and the law for all of them. -/
import Derived.Test.YtghmbmblhdgabaaLight4
set_option linter.all false
namespace Go.Den
open Go
variable {P : Program} {φ : Phi} {w : World}

inductive NKRel (b sz : Nat) : NK → Value → Prop
  | ptr : NKRel b sz .ptr (.pointer (some ⟨b, 0, none⟩))
  | sl {n c' es : Nat} {c : Option Nat} (hn : n ≤ c') (hc : ∀ k, c = some k → c' = k) (hr : c' * es ≤ sz) : NKRel b sz (.sl n c es) (.slice (some ⟨b, 0, none⟩) n c')
inductive LightRes (φ : Phi) (w : World) : LR → Value → World → Prop
  | val {v : V} {v' : Value} (h : VR φ v v') : LightRes φ w (.val v) v' w
  | new {l : List V} {k : NK} {v' : Value} {w' : World} (arr : Array Value) (t : TypeId) (lo hi : Nat) (hh : w'.heap = w.heap.push (.cells arr t (lo, hi)))
      (ht : w'.tape = w.tape) (ho : w'.os = w.os) (hu : w'.output = w.output) (hl : l.length ≤ arr.size) (hf : lo = hi ∨ arr.size ≤ lo)
      (hr : VRs φ l (arr.toList.take l.length)) (hk : NKRel w.heap.size arr.size k v') : LightRes φ w (.new l k) v' w'

theorem lightRes_alloc {l : List V} {l' : List Value} {k : NK} {v' : Value} (t : TypeId) (hr : VRs φ l l') (hk : NKRel w.heap.size l'.length k v') :
    LightRes φ w (.new l k) v' (w.alloc (.cells l'.toArray t)) := by
  have := hr.length
  exact .new l'.toArray t 0 0 rfl rfl rfl rfl (by simp [this]) (.inl rfl) (by rw [this]; simpa using hr) (by simpa using hk)

theorem reps_length (n : Nat) (z : List V) : (reps n z).length = n * z.length := by
  induction n with
  | zero => simp [reps]
  | succ n ih => simp [reps, ih, Nat.add_mul]; omega
theorem madeCells_reps (z : Array Value) (n : Nat) : (madeCells z (n * z.size)).toList = (List.replicate n z.toList).flatten := by
  have hlen : ((List.replicate n z.toList).flatten).length = n * z.size := by simp
  apply List.ext_getElem?
  intro i
  by_cases hi : i < n * z.size
  · have hz : 0 < z.size := by
      rcases Nat.eq_zero_or_pos z.size with h | h
      · rw [h, Nat.mul_zero] at hi; omega
      · exact h
    have hm : i % z.size < z.size := Nat.mod_lt _ hz
    have e : (madeCells z (n * z.size)).toList[i]? = some z[i % z.size] := by
      simp [madeCells, hi, getElem!_pos, hm]
    rw [e]
    have key : ∀ (n i : Nat), i < n * z.size → ((List.replicate n z.toList).flatten)[i]? = some (z[i % z.size]'(Nat.mod_lt _ hz)) := by
      intro n
      induction n with
      | zero => intro i hi; omega
      | succ n ih =>
        intro i hi
        rw [List.replicate_succ, List.flatten_cons]
        by_cases hlt : i < z.size
        · rw [List.getElem?_append_left (by simpa using hlt)]
          simp [Nat.mod_eq_of_lt hlt, hlt]
        · rw [List.getElem?_append_right (by simpa using hlt)]
          have hs : (n + 1) * z.size = n * z.size + z.size := by rw [Nat.add_mul, Nat.one_mul]
          have := ih (i - z.size) (by omega)
          simp only [Array.length_toList]
          rw [this]
          congr 2
          rw [Nat.mod_eq_sub_mod (by omega : i ≥ z.size)]
    exact (key n i hi).symm
  · rw [List.getElem?_eq_none (by simp [madeCells]; omega), List.getElem?_eq_none (by rw [hlen]; omega)]
theorem reps_rel {z : List V} {z' : List Value} (h : VRs φ z z') : ∀ n, VRs φ (reps n z) ((List.replicate n z').flatten)
  | 0 => .nil
  | n + 1 => by rw [List.replicate_succ, List.flatten_cons]; exact h.append (reps_rel h n)

theorem makeSliceV_rel {t : TypeId} {x y : V} {r : LR} (h : makeSliceV P t x y = some r) {x' y' : Value} (hx : VR φ x x') (hy : VR φ y y') (w : World) :
    ∃ v' w', (Instr.makeSlice t x' y').run P w = .ok v' w' ∧ LightRes φ w r v' w' := by
  unfold makeSliceV at h
  split at h
  · rename_i e k n k' m hu
    cases hx; cases hy
    split at h
    · rename_i i hi
      split at h
      · rename_i z hz
        rw [Option.bind_eq_some_iff] at hz
        obtain ⟨z', hz1, hz2⟩ := hz
        split at h
        · rename_i hc
          obtain ⟨h1, h2, h3, h4, h5⟩ := hc
          cases h
          have hzr := (ofValue_rel (φ := φ) hz2).cells
          have hzl := hzr.length
          have ez : i.size = z'.cells.size := by rw [← h1, hzl]; simp
          have hrun := run_make (P := P) w t e i z' hu hi hz1 k k' n m h2 h3 h5 h4
          refine ⟨_, _, hrun, ?_⟩
          have hcells : madeCells z'.cells (m.toNat * i.size) = ((List.replicate m.toNat z'.cells.toList).flatten).toArray := by
            apply Array.ext'
            rw [ez, madeCells_reps]
          rw [hcells]
          refine lightRes_alloc e (reps_rel hzr _) (.sl (by omega) (fun k hk => by cases hk; rfl) ?_)
          rw [← (reps_rel hzr _).length, reps_length, h1]
          exact Nat.le_refl _
        · cases h
      · cases h
    · cases h
  · cases h

theorem buildSliceV_rel {t : TypeId} {n : Nat} {parts : List (Nat × V)} {r : LR} (h : buildSliceV P t n parts = some r) {parts' : List (Nat × Value)} (hps : PR φ parts parts') (w : World) :
    ∃ v' w', (Instr.buildSlice t n ⟨parts'⟩).run P w = .ok v' w' ∧ LightRes φ w r v' w' := by
  unfold buildSliceV at h
  split at h
  · rename_i e hu
    split at h
    · rename_i i hi
      split at h
      · rename_i z hz
        rw [Option.bind_eq_some_iff] at hz
        obtain ⟨z', hz1, hz2⟩ := hz
        split at h
        · rename_i hc
          obtain ⟨h1, h2, h3⟩ := hc
          split at h
          · rename_i cs hf
            cases h
            have hzr := (ofValue_rel (φ := φ) hz2).cells
            have hzl := hzr.length
            have ez : i.size = z'.cells.size := by rw [← h1, hzl]; simp
            obtain ⟨r', f1, f2⟩ := fillV_rel (place' := fun j => some (j * i.size, i.size)) (fun _ _ h => h) hf hps (reps_rel hzr n)
            have hcells : madeCells z'.cells (n * i.size) = ((List.replicate n z'.cells.toList).flatten).toArray := by
              apply Array.ext'
              rw [ez, madeCells_reps]
            have hrl : r'.length = n * i.size := by
              have key : ∀ {parts : List (Nat × V)} {cells cs : List V}, fillV (fun j => some (j * i.size, i.size)) cells parts = some cs → cs.length = cells.length := by
                intro parts
                induction parts with
                | nil => intro cells cs h; cases h; rfl
                | cons p parts ih =>
                  intro cells cs h
                  obtain ⟨j, v⟩ := p
                  unfold fillV at h
                  simp only at h
                  split at h
                  · split at h
                    · rename_i cs1 hf1
                      rw [ih h]
                      unfold fill1 at hf1
                      split at hf1
                      · cases hf1; simp; omega
                      · cases hf1
                    · cases h
                  · cases h
              rw [← f2.length, key hf, reps_length, h1]
            refine ⟨.slice (some ⟨w.heap.size, 0, none⟩) n n, w.alloc (.cells r'.toArray e), ?_, lightRes_alloc e f2 (.sl (Nat.le_refl _) (fun k hk => by cases hk; rfl) (by rw [hrl]; exact Nat.le_refl _))⟩
            have hno : ¬ (n * i.size > 2 ^ 24) := by omega
            unfold madeCells at hcells
            by_cases h0 : n * i.size = 0
            · have hem : ((List.replicate n z'.cells.toList).flatten) = [] := by
                apply List.eq_nil_of_length_eq_zero
                simp [ez] at h0 ⊢
                omega
              rw [hem] at f1
              simp [Instr.buildSlice, run_underlying hu, sizeOf, typeInfo, hi, h0, Array.range_zero', f1, newRow]
            · simp only [Instr.buildSlice, run_underlying hu, sizeOf, typeInfo, hi, Sem.run_bind, Sem.run_pure, Result.andThen_ok, run_program, zeroValue, hz1, if_neg hno, if_neg h0, hcells]
              simp [f1, newRow]
          · cases h
        · cases h
      · cases h
    · cases h
  · cases h

theorem omap_toByte : ∀ {xs : List V} {s : List UInt8}, omap toByte xs = some s → ∀ {xs' : List Value}, VRs φ xs xs' → ∃ ns : List Int, xs' = ns.map (Value.int .u8) ∧ s = ns.map fun n => UInt8.ofNat n.toNat
  | [], s, h, xs', hx => by cases h; cases hx; exact ⟨[], rfl, rfl⟩
  | x :: r, s, h, xs', hx => by
    cases hx with
    | cons hv hr =>
    unfold omap at h
    split at h
    · rename_i y hy
      split at h
      · rename_i ys hys
        cases h
        obtain ⟨ns, h1, h2⟩ := omap_toByte hys hr
        unfold toByte at hy
        split at hy
        · rename_i n
          cases hy
          cases hv
          exact ⟨n :: ns, by rw [h1]; rfl, by rw [h2]; rfl⟩
        · cases hy
      · cases h
    · cases h
theorem convV_rel {rd : Rd} {src dst : TypeId} {x : V} {r : LR} (h : convV P rd src dst x = some r) (hrd : RdSim φ w rd) {x' : Value} (hx : VR φ x x') :
    ∃ v' w', (convert src dst x').run P w = .ok v' w' ∧ LightRes φ w r v' w' := by
  unfold convV at h
  split at h
  · rename_i k1 k k0 n hs hd
    cases h; cases hx
    exact ⟨_, w, by simp [convert, run_underlying hs, run_underlying hd, Conv.intToInt], .val (.int _ _)⟩
  · rename_i s hs hd
    cases h; cases hx
    exact ⟨_, w, by simp [convert, run_underlying hs, run_underlying hd], .val (.str _)⟩
  · rename_i e s hs hd
    split at h
    · rename_i he
      split at h
      · rename_i hlen
        cases h; cases hx
        refine ⟨_, _, Lib.run_convert_string_bytes w src dst e ⟨⟨s⟩⟩ hs hd he, ?_⟩
        have hsz : (⟨⟨s⟩⟩ : ByteArray).size = s.length := rfl
        have hge := grownCap_ge w s.length 0 e
        have hcs : (Lib.bytesCells w e ⟨⟨s⟩⟩).size = grownCap w s.length 0 e := by
          simp [Lib.bytesCells, hsz]; omega
        refine .new (Lib.bytesCells w e ⟨⟨s⟩⟩) e ((Lib.bytesCells w e ⟨⟨s⟩⟩).size) ((Lib.bytesCells w e ⟨⟨s⟩⟩).size + 1) ?_ rfl rfl rfl (by rw [hcs]; simpa using hge) (.inr (Nat.le_refl _)) ?_ ?_
        · apply Array.ext'
          apply List.ext_getElem?
          intro i
          rw [Array.getElem?_toList, Array.getElem?_toList, Array.getElem?_push]
          split
          · rename_i hi; rw [hi, Lib.bytesWorld_at_new]
          · rename_i hi
            rcases Nat.lt_or_ge i w.heap.size with h1 | h1
            · rw [Lib.bytesWorld_at_old _ _ _ _ h1]
            · rw [Array.getElem?_eq_none (by rw [Lib.bytesWorld_size]; omega), Array.getElem?_eq_none h1]
        · refine VRs.of_get (by simp [hcs]; omega) fun i v v' hv hv' => ?_
          have hi : i < s.length := by
            rcases Nat.lt_or_ge i s.length with h1 | h1
            · exact h1
            · rw [List.getElem?_eq_none (by simpa using h1)] at hv; cases hv
          simp [Lib.bytesCells, List.getElem?_take, hi, List.getElem?_append] at hv hv'
          subst hv; subst hv'
          exact .int _ _
        · rw [hcs]
          exact .sl (by rw [hsz]; exact hge) (fun k hk => by cases hk) (by rw [hsz]; omega)
      · cases h
    · cases h
  · rename_i e hs hd
    split at h
    · rename_i he
      split at h
      · cases h; cases hx
        refine ⟨_, w, run_convert_bytes_nil w src e hs he 0 0 dst hd, .val ?_⟩
        exact .str []
      · split at h
        · rename_i b o n c es x9 m xs hel
          split at h
          · rename_i s hto
            cases h
            have hm : m = n := by
              unfold elems at hel
              simp only at hel
              split at hel
              · split at hel
                · split at hel
                  · cases hel; rfl
                  · cases hel
                · cases hel
              · cases hel
            subst hm
            obtain ⟨xs', h1, h2, h3, h4⟩ := elems_rel (P := P) hel hrd hx
            obtain ⟨ns, hn1, hn2⟩ := omap_toByte hto h1
            cases hx with
            | sl hb ha hn hc hroom =>
            rename_i c' g base sz a
            have hload := h4 m (Nat.le_refl _)
            have hl : xs'.take (m * 1) = xs' := List.take_of_length_le (by rw [← h1.length]; omega)
            simp only [Builtin.firstCells, hl, Nat.mul_one] at hload
            rw [List.take_of_length_le (by rw [← h1.length]; omega), hn1] at hload
            refine ⟨_, w, (run_convert_bytes_string w src dst e _ m c' hs he hd).trans (run_bytesToString w a m c' ns hload), .val ?_⟩
            rw [foldl_push_bytes, hn2]
            have e : (⟨ByteArray.empty.data ++ (ns.map fun n => UInt8.ofNat n.toNat).toArray⟩ : ByteArray) = ⟨⟨ns.map fun n => UInt8.ofNat n.toNat⟩⟩ := by
              apply ByteArray.ext
              simp [ByteArray.empty, ByteArray.emptyWithCapacity]
              rfl
            rw [e]
            exact .str _
          · cases h
        · cases h
      · cases h
    · cases h
  · cases h
theorem lenV_rel {ts : List TypeId} {x v : V} (h : lenV P ts x = some v) {x' : Value} (hx : VR φ x x') (ty : TypeId) (w : World) :
    ∃ v', (Builtin.len_ ts.toArray ty #[x']).run P w = .ok v' w ∧ VR φ v v' := by
  unfold lenV at h
  split at h
  · rename_i t
    split at h
    all_goals first | (cases h; done) | skip
    · rename_i s hu; cases h; cases hx
      exact ⟨_, run_len_string w t ty _ hu, .int _ _⟩
    · rename_i hu; cases h; cases hx
      exact ⟨_, by unfold Builtin.len_; simp [run_underlying hu, goInt], .int _ _⟩
    · rename_i hu; cases h; cases hx
      exact ⟨_, by unfold Builtin.len_; simp [run_underlying hu, goInt], .int _ _⟩
    · rename_i n e hu; cases h
      exact ⟨_, by unfold Builtin.len_; simp [run_underlying hu, goInt], .int _ _⟩
    · rename_i hu; cases h; cases hx
      exact ⟨_, by unfold Builtin.len_; simp [run_underlying hu, goInt], .int _ _⟩
  · cases h
theorem evo_rel {e : Env} {a : Act} (he : ER φ e a.tmps) {x : Option Operand} {v : Option V} (h : evo e x = some v) : VRo φ v (x.map a.eval) := by
  unfold evo at h
  split at h
  · cases h; exact .none
  · split at h
    · rename_i hv; cases h; exact .some (ev_rel he hv)
    · cases h
theorem evParts_rel {e : Env} {a : Act} (he : ER φ e a.tmps) : ∀ {l : List (Nat × Operand)} {vs : List (Nat × V)}, evParts e l = some vs → PR φ vs (l.map fun p => (p.1, a.eval p.2))
  | [], vs, h => by cases h; exact .nil
  | (i, x) :: r, vs, h => by
    unfold evParts omap at h
    split at h
    · rename_i y hy
      split at h
      · rename_i ys hys
        cases h
        unfold evPart at hy
        split at hy
        · rename_i hv
          cases hy
          exact .cons (ev_rel he hv) (evParts_rel he hys)
        · cases hy
      · cases h
    · cases h
theorem evs_map {a : Act} {l : Array Operand} {vs' : List Value} (e1 : l.toList.map a.eval = vs') : l.map a.eval = vs'.toArray := by
  apply Array.ext'
  rw [Array.toList_map, e1]
theorem evs_two {e : Env} {a : Act} (he : ER φ e a.tmps) {l : Array Operand} {x y : V} (h : evs e l.toList = some [x, y]) : ∃ x' y', l.map a.eval = #[x', y'] ∧ VR φ x x' ∧ VR φ y y' := by
  have hr := evs_rel he h
  generalize hl : l.toList.map a.eval = vs' at hr
  cases hr with | cons h1 hr => cases hr with | cons h2 hr => cases hr with
  | nil => exact ⟨_, _, evs_map hl, h1, h2⟩
theorem evs_one {e : Env} {a : Act} (he : ER φ e a.tmps) {l : Array Operand} {x : V} (h : evs e l.toList = some [x]) : ∃ x', l.map a.eval = #[x'] ∧ VR φ x x' := by
  have hr := evs_rel he h
  generalize hl : l.toList.map a.eval = vs' at hr
  cases hr with | cons h1 hr => cases hr with
  | nil => exact ⟨_, evs_map hl, h1⟩

theorem val_some {o : Option V} {r : LR} (h : val o = some r) : ∃ v, o = some v ∧ r = .val v := by
  unfold val at h
  split at h
  · cases h; exact ⟨_, rfl, rfl⟩
  · cases h
theorem lightOp_rel {rd : Rd} {e : Env} {a : Act} {o : Oper} {r : LR} (h : lightOp P rd e o.op = some r) (he : ER φ e a.tmps) (hrd : RdSim φ w rd) :
    ∃ v' w', (execOp a.eval o).run P w = .ok (.value v') w' ∧ LightRes φ w r v' w' := by
  generalize hop : o.op = op at h
  have pureV : ∀ {s : Sem Value} {v' : Value} {v : V}, s.run P w = .ok v' w → VR φ v v' → (do pure (Next.value (← s)) : Sem Next).run P w = .ok (.value v') w ∧ LightRes φ w (.val v) v' w :=
    fun hs hv => ⟨by simp [hs], .val hv⟩
  have anyV : ∀ {s : Sem Value} {r : LR}, (∃ v' w', s.run P w = .ok v' w' ∧ LightRes φ w r v' w') → ∃ v' w', (do pure (Next.value (← s)) : Sem Next).run P w = .ok (.value v') w' ∧ LightRes φ w r v' w' :=
    fun ⟨v', w', h1, h2⟩ => ⟨v', w', by simp [h1], h2⟩
  unfold execOp
  rw [hop]
  cases op <;> simp only [lightOp] at h ⊢
  case move x =>
    obtain ⟨v, hv, rfl⟩ := val_some h
    exact ⟨_, w, rfl, .val (ev_rel he hv)⟩
  case assign x =>
    obtain ⟨v, hv, rfl⟩ := val_some h
    exact ⟨_, w, rfl, .val (ev_rel he hv)⟩
  case pick c x y =>
    split at h
    · rename_i t vx vy hc hx hy
      cases h
      have hc' := ev_rel he hc
      generalize hcv : a.eval c = cv at hc'
      cases hc'
      refine ⟨_, w, by simp [asBool, hcv]; rfl, .val ?_⟩
      cases t
      · exact ev_rel he hy
      · exact ev_rel he hx
    · cases h
  case alloc t =>
    split at h
    · rename_i z hz
      cases h
      obtain ⟨z', h1, h2⟩ := run_zeroValue (φ := φ) hz w
      refine ⟨.pointer (some ⟨w.heap.size, 0, none⟩), w.alloc (.cells z'.cells.toList.toArray t), by simp [Instr.alloc, h1, newVar, newRow], ?_⟩
      exact lightRes_alloc t h2.cells .ptr
    · cases h
  case box t x =>
    split at h
    · rename_i v hv
      cases h
      refine ⟨.pointer (some ⟨w.heap.size, 0, none⟩), w.alloc (.cells (a.eval x).cells.toList.toArray t), by simp [Instr.box, newVar, newRow], ?_⟩
      exact lightRes_alloc t (ev_rel he hv).cells .ptr
    · cases h
  case build t ps =>
    split at h
    · rename_i vs hps
      obtain ⟨v, hv, rfl⟩ := val_some h
      obtain ⟨v', h1, h2⟩ := buildV_rel hv (evParts_rel he hps) w
      have e1 : (⟨ps.toList.map fun p => (p.1, a.eval p.2)⟩ : Array (Nat × Value)) = ps.map fun (i, x) => (i, a.eval x) := by apply Array.ext'; simp
      rw [e1] at h1
      exact ⟨v', w, pureV h1 h2⟩
    · cases h
  case buildSlice t n ps =>
    split at h
    · rename_i vs hps
      have e1 : (⟨ps.toList.map fun p => (p.1, a.eval p.2)⟩ : Array (Nat × Value)) = ps.map fun (i, x) => (i, a.eval x) := by apply Array.ext'; simp
      have := buildSliceV_rel h (evParts_rel he hps) w
      rw [e1] at this
      exact anyV this
    · cases h
  case load t x =>
    split at h
    · rename_i v hv
      obtain ⟨v, hv', rfl⟩ := val_some h
      obtain ⟨v', h1, h2⟩ := loadV_rel hv' hrd (ev_rel he hv)
      exact ⟨v', w, pureV h1 h2⟩
    · cases h
  case nilCheck x =>
    split at h
    · rename_i b o' hv
      cases h
      have hx := ev_rel he hv
      generalize a.eval x = x' at hx
      cases hx with
      | ptr hb => exact ⟨_, w, rfl, .val (.ptr hb)⟩
    · rename_i f l1 l2 hv
      cases h
      have hx := ev_rel he hv
      generalize a.eval x = x' at hx
      cases hx with
      | fn h1 h2 => exact ⟨_, w, rfl, .val (.fn h1 h2)⟩
    · cases h
  case binOp op t x y yt =>
    split at h
    · rename_i vx vy hx hy
      obtain ⟨v, hv, rfl⟩ := val_some h
      obtain ⟨v', h1, h2⟩ := binV_rel hv (ev_rel he hx) (ev_rel he hy) x y w
      exact ⟨v', w, pureV h1 h2⟩
    · cases h
  case unOp op t x =>
    split at h
    · rename_i vx hx
      obtain ⟨v, hv, rfl⟩ := val_some h
      obtain ⟨v', h1, h2⟩ := unV_rel hv (ev_rel he hx) w
      exact ⟨v', w, pureV h1 h2⟩
    · cases h
  case convert s d x =>
    split at h
    · rename_i vx hx
      exact anyV (convV_rel h hrd (ev_rel he hx))
    · cases h
  case makeFunc f l1 l2 =>
    split at h
    · rename_i v1 v2 h1 h2
      cases h
      have r1 := evs_rel he h1
      have r2 := evs_rel he h2
      have e1 : l1.map a.eval = ⟨l1.toList.map a.eval⟩ := by apply Array.ext'; simp
      have e2 : l2.map a.eval = ⟨l2.toList.map a.eval⟩ := by apply Array.ext'; simp
      refine ⟨_, w, pureV (s := Instr.makeFunc f (l1.map a.eval) (l2.map a.eval)) rfl ?_⟩
      rw [e1, e2]
      exact .fn r1 r2
    · cases h
  case makeSlice t x y =>
    split at h
    · rename_i vx vy hx hy
      exact anyV (makeSliceV_rel h (ev_rel he hx) (ev_rel he hy) w)
    · cases h
  case slice t x l m k =>
    split at h
    · rename_i vx vl vm vk hx hl hm hk
      obtain ⟨v, hv, rfl⟩ := val_some h
      obtain ⟨v', h1, h2⟩ := sliceV_rel hv hrd (ev_rel he hx) (evo_rel he hl) (evo_rel he hm) (evo_rel he hk)
      exact ⟨v', w, pureV h1 h2⟩
    · cases h
  case fieldAddr t x f =>
    split at h
    · rename_i vx hx
      obtain ⟨v, hv, rfl⟩ := val_some h
      obtain ⟨v', h1, h2⟩ := fieldAddrV_rel hv (ev_rel he hx) w
      exact ⟨v', w, pureV h1 h2⟩
    · cases h
  case field t x f =>
    split at h
    · rename_i vx hx
      obtain ⟨v, hv, rfl⟩ := val_some h
      obtain ⟨v', h1, h2⟩ := fieldV_rel hv (ev_rel he hx) w
      exact ⟨v', w, pureV h1 h2⟩
    · cases h
  case indexAddr t x i =>
    split at h
    · rename_i vx vi hx hi
      obtain ⟨v, hv, rfl⟩ := val_some h
      obtain ⟨v', h1, h2⟩ := addrV_rel hv (ev_rel he hx) (ev_rel he hi) w
      exact ⟨v', w, pureV h1 h2⟩
    · cases h
  case index t x i =>
    split at h
    · rename_i vx vi hx hi
      obtain ⟨v, hv, rfl⟩ := val_some h
      obtain ⟨v', h1, h2⟩ := indexV_rel hv (ev_rel he hx) (ev_rel he hi) w
      exact ⟨v', w, pureV h1 h2⟩
    · cases h
  case extract x i =>
    split at h
    · rename_i vs hx
      obtain ⟨v, hv, rfl⟩ := val_some h
      have hx' := ev_rel he hx
      generalize a.eval x = x' at hx'
      cases hx' with
      | tup hr =>
        obtain ⟨v', h1, h2⟩ := hr.get _ _ hv
        exact ⟨v', w, pureV (s := Instr.extract (.tuple ⟨_⟩) i) (by simp [Instr.extract, h1]) h2⟩
    · cases h
  case call c =>
    obtain ⟨cal, args, ats⟩ := c
    cases cal with
    | value f => cases h
    | invoke x m => cases h
    | builtin b =>
      cases b
      case len =>
        simp only at h
        split at h
        · rename_i x hx
          obtain ⟨v, hv, rfl⟩ := val_some h
          obtain ⟨x', e1, hx'⟩ := evs_one he hx
          obtain ⟨v', h1, h2⟩ := lenV_rel hv hx' o.type w
          have e2 : ats.toList.toArray = ats := by simp
          rw [e2] at h1
          exact ⟨v', w, by simp [resolve, invoke, builtin, e1, h1], .val h2⟩
        · cases h
      case max =>
        simp only at h
        split at h
        · rename_i k x k' y hx
          cases h
          obtain ⟨x', y', e1, hx', hy'⟩ := evs_two he hx
          cases hx'; cases hy'
          exact ⟨_, w, by simp [resolve, invoke, builtin, e1, Builtin.max_, Builtin.max2], .val (.int _ _)⟩
        · cases h
      case min =>
        simp only at h
        split at h
        · rename_i k x k' y hx
          cases h
          obtain ⟨x', y', e1, hx', hy'⟩ := evs_two he hx
          cases hx'; cases hy'
          exact ⟨_, w, by simp [resolve, invoke, builtin, e1, Builtin.min_, Builtin.min2], .val (.int _ _)⟩
        · cases h
      all_goals (cases h)
  all_goals (cases h)
end Go.Den
