/- append and copy. -/
import Derived.Test.YtghmbmblhdgabaaHeavy
set_option linter.all false
namespace Go.Den
open Go
variable {P : Program} {φ φ' : Phi} {w w' : World} {h h' : H}

theorem run_append_in (w : World) {t u ty e : TypeId} {d : TypeDesc} {i : TypeInfo} (ht : P.underlying t = some (.slice e)) (hu : P.underlying u = some d) (hd : (∃ e', d = .slice e') ∨ d = .string) (hi : P.info? e = some i)
    {a : Addr} {n m c : Nat} {x : Value} {news : List Value} (hlen : (Builtin.lenOf x).run P w = .ok m w) (hx : (Builtin.firstCells i.size m x).run P w = .ok news.toArray w) (hroom : n + m ≤ c)
    {w' : World} (hst : (storeCells (a.add (n * i.size)) news 0).run P w = .ok () w') :
    (Builtin.append_ #[t, u] ty #[.slice (some a) n c, x]).run P w = .ok (.slice (some a) (n + m) c) w' := by
  rcases hd with ⟨e', rfl⟩ | rfl <;>
    simp [Builtin.append_, run_underlying ht, run_underlying hu, sizeOf, typeInfo, hi, hlen, hroom, hx, hst]
theorem run_append_out (w : World) {t u ty e : TypeId} {d : TypeDesc} {i : TypeInfo} {z : Value} (ht : P.underlying t = some (.slice e)) (hu : P.underlying u = some d) (hd : (∃ e', d = .slice e') ∨ d = .string) (hi : P.info? e = some i)
    (hz : i.zero = some z) {base : Option Addr} {n m c : Nat} {x : Value} {olds news : List Value} (hlen : (Builtin.lenOf x).run P w = .ok m w) (hx : (Builtin.firstCells i.size m x).run P w.drew = .ok news.toArray w.drew)
    (hs : (Builtin.firstCells i.size n (.slice base n c)).run P w.drew = .ok olds.toArray w.drew) (hg : c < n + m) (h63 : n + m ≤ 9223372036854775807) (hby : (n + m) * i.bytes ≤ 140737488355328) :
    (Builtin.append_ #[t, u] ty #[.slice base n c, x]).run P w =
      .ok (.slice (some ⟨w.heap.size, 0, none⟩) (n + m) (grownCap w (n + m) c e)) (w.drew.alloc (.cells (olds ++ news ++ (Builtin.zeroCells z.cells (grownCap w (n + m) c e - (n + m))).toList).toArray e)) := by
  have hn : ¬ (n + m ≤ c) := by omega
  have h63' : ¬ (9223372036854775807 < ((n : Int) + (m : Int))) := by omega
  have h48 := growslice_fits (old := c) hg hby
  have h48' : ¬ (281474976710656 < Builtin.nextslicecap (n + m) c * i.bytes) := by omega
  have e1 : (olds ++ news ++ (Builtin.zeroCells z.cells (grownCap w (n + m) c e - (n + m))).toList).toArray = olds.toArray ++ news.toArray ++ Builtin.zeroCells z.cells (grownCap w (n + m) c e - (n + m)) := by
    apply Array.ext'
    simp
  rw [e1]
  rcases hd with ⟨e', rfl⟩ | rfl <;>
    (simp [Builtin.append_, run_underlying ht, run_underlying hu, sizeOf, typeInfo, zeroValue, hi, hz, hlen, hn, h63', h48', Question.forced, hx, hs, newRow, grownCap]
     congr 2
     apply Array.ext'
     simp)

theorem take_drop_take (l : List Value) (b o n L : Nat) (hle : o + n ≤ L) : (((l.drop b).take L).drop o).take n = (l.drop (b + o)).take n := by
  rw [List.drop_take, List.drop_drop, List.take_take, Nat.min_eq_left (by omega)]
/-- the cells ahead of what is laid over stand as they stood -/
theorem over_ahead (arr : Array Value) (k : Nat) (vs : List Value) (b n : Nat) (hle : b + n ≤ k) (hk : k + vs.length ≤ arr.size) : ((over arr k vs).toList.drop b).take n = (arr.toList.drop b).take n := by
  apply List.ext_getElem?
  intro i
  by_cases hi : i < n
  · rw [List.getElem?_take, if_pos hi, List.getElem?_take, if_pos hi, List.getElem?_drop, List.getElem?_drop]
    simp only [over]
    rw [List.append_assoc, List.getElem?_append_left (by simp; omega), List.getElem?_take, if_pos (by omega)]
  · rw [List.getElem?_eq_none (by simp; omega), List.getElem?_eq_none (by simp; omega)]
theorem over_both (arr : Array Value) (b n : Nat) (vs : List Value) (hk : b + n + vs.length ≤ arr.size) : ((over arr (b + n) vs).toList.drop b).take (n + vs.length) = (arr.toList.drop b).take n ++ vs := by
  have hl : arr.toList.length = arr.size := by simp
  apply List.ext_getElem?
  intro i
  by_cases hi : i < n + vs.length
  · rw [List.getElem?_take, if_pos hi, List.getElem?_drop]
    simp only [over]
    by_cases h1 : i < n
    · rw [List.append_assoc, List.getElem?_append_left (by simp; omega), List.getElem?_take, if_pos (by omega)]
      rw [List.getElem?_append_left (by simp; omega), List.getElem?_take, if_pos h1, List.getElem?_drop]
    · rw [List.getElem?_append_left (by simp; omega), List.getElem?_append_right (by simp; omega), List.getElem?_append_right (by simp; omega)]
      congr 1
      simp
      omega
  · rw [List.getElem?_eq_none (by simp; omega), List.getElem?_eq_none (by simp; omega)]

theorem elems_sl {rd : Rd} {b o n es es' m : Nat} {c : Option Nat} {cs : List V} (hr : rd b = some cs) (hle : o + n * es ≤ cs.length) : elems rd es (.sl b o n c es) = some (n, (cs.drop o).take (n * es)) := by
  unfold elems
  simp [hr, hle]

theorem appendV_sim {lo : Nat} {ts : List TypeId} {sv x v : V} (ha : appendV P lo ts sv x h = some (v, h')) (s : Sim φ h w) (hfr : FreeIn φ h.next h'.next) (hlo : lo ≤ h.next) {s' x' : Value} (hsv : VR φ sv s') (hx : VR φ x x') (ty : TypeId) :
    ∃ φ' v' w', (Builtin.append_ ts.toArray ty #[s', x']).run P w = .ok v' w' ∧ Ext lo φ h w φ' h' w' ∧ Sim φ' h' w' ∧ VR φ' v v' := by
  unfold appendV at ha
  split at ha
  · rename_i t u
    split at ha
    · rename_i e d ht hu
      split at ha
      · rename_i i hi hdd
        have hd : (∃ e', d = .slice e') ∨ d = .string := by
          cases d <;> first | exact .inl ⟨_, rfl⟩ | exact .inr rfl | (simp at hdd)
        split at ha
        · rename_i m xs z hel hz
          split at ha
          · cases ha
          · rename_i hcond
            simp only [not_or, ne_eq, Decidable.not_not, Bool.not_eq_false] at hcond
            obtain ⟨hzs, hscal⟩ := hcond
            have hrd : RdSim φ w h.read := fun b x l hb hr => s.at_ b x l hb hr
            have hrd' : RdSim φ w.drew h.read := fun b x l hb hr => s.at_ b x l hb hr
            obtain ⟨xs1, f1, f2, f3, f4⟩ := elems_rel (P := P) hel hrd hx
            obtain ⟨xs2, g1, _, _, g4⟩ := elems_rel (P := P) hel hrd' hx
            have hx1 : xs1.take (m * i.size) = xs1 := List.take_of_length_le (by rw [← f1.length, f2]; exact Nat.le_refl _)
            have hx2 : xs2.take (m * i.size) = xs2 := List.take_of_length_le (by rw [← g1.length, f2]; exact Nat.le_refl _)
            have k1 := f4 m (Nat.le_refl _)
            have k2 := g4 m (Nat.le_refl _)
            rw [hx1] at k1
            rw [hx2] at k2
            -- what a growing append leaves
            have grown : ∀ (base : Option Addr) (n c : Nat) (olds : List Value) (lx : List V), (Builtin.firstCells i.size n (.slice base n c)).run P w.drew = .ok olds.toArray w.drew → VRs φ lx olds → lx.length = n * i.size →
                c < n + m → n + m ≤ 9223372036854775807 → (n + m) * i.bytes ≤ 140737488355328 →
                ∃ arr : Array Value, (Builtin.append_ #[t, u] ty #[.slice base n c, x']).run P w = .ok (.slice (some ⟨w.heap.size, 0, none⟩) (n + m) (grownCap w (n + m) c e)) (w.drew.alloc (.cells arr e)) ∧
                  arr.size = grownCap w (n + m) c e * i.size ∧ n + m ≤ grownCap w (n + m) c e ∧ (lx ++ xs).length ≤ arr.size ∧ VRs φ (lx ++ xs) (arr.toList.take (lx ++ xs).length) := by
              intro base n c olds lx hs hlx hll hg h63 hby
              have hge := grownCap_ge w (n + m) c e
              have hrun := run_append_out (ty := ty) w ht hu hd hi hz f3 k2 hs hg h63 hby
              have hol := hlx.length
              have hxl := g1.length
              have hasz : (olds ++ xs2 ++ (Builtin.zeroCells z.cells (grownCap w (n + m) c e - (n + m))).toList).toArray.size = grownCap w (n + m) c e * i.size := by
                simp only [List.size_toArray, List.length_append, Array.length_toList, size_zeroCells, hzs, ← hol, hll, ← hxl, f2, ← Nat.add_mul]
                congr 1
                omega
              have hlen : (lx ++ xs).length = (n + m) * i.size := by simp [hll, f2, Nat.add_mul]
              refine ⟨_, hrun, hasz, hge, ?_, ?_⟩
              · rw [hasz, hlen]; exact Nat.mul_le_mul_right _ hge
              · have e2 : (olds ++ xs2 ++ (Builtin.zeroCells z.cells (grownCap w (n + m) c e - (n + m))).toList).take (lx ++ xs).length = olds ++ xs2 := by
                  rw [List.take_append_of_le_length (by simp [hol, hxl]), List.take_of_length_le (by simp [hol, hxl])]
                simp only [e2]
                exact hlx.append g1
            split at ha
            · -- append onto nil
              cases hsv
              split at ha
              · rename_i hm
                cases ha
                subst hm
                have hne : xs1 = [] := List.eq_nil_of_length_eq_zero (by rw [← f1.length, f2]; simp)
                subst hne
                refine ⟨φ, .slice none 0 0, w, ?_, Ext.refl _ _ _ _, s, .nils⟩
                rcases hd with ⟨e', rfl⟩ | rfl <;> simp [Builtin.append_, run_underlying ht, run_underlying hu, sizeOf, typeInfo, hi, f3, k1]
              · split at ha
                · rename_i hm hb
                  cases ha
                  obtain ⟨arr, r1, r2, r3, r4, r5⟩ := grown none 0 0 [] [] (by simp [Builtin.firstCells]) .nil (by simp) (by omega) (by omega) (by simpa using hb.1)
                  simp only [Nat.zero_add, List.nil_append] at r1 r2 r3 r4 r5
                  have hn' : φ h.next = none := hfr _ (Nat.le_refl _) (Nat.lt_succ_self _)
                  obtain ⟨q1, q2⟩ := sim_alloc (w' := w.drew.alloc (.cells arr e)) s hn' rfl rfl rfl rfl r4 (.inl rfl) r5 hlo
                  exact ⟨_, _, _, r1, q2, q1, .sl (.inl (Phi.with_at _ _ _)) (.inl rfl) r3 (fun k hk => by cases hk) (.inl (by simp [r2]))⟩
                · cases ha
            · rename_i b o n c es
              split at ha
              · cases ha
              · rename_i hes
                have hes' : es = i.size := by simpa using hes
                subst hes'
                split at ha
                · rename_i hm
                  cases ha
                  subst hm
                  have hne : xs1 = [] := List.eq_nil_of_length_eq_zero (by rw [← f1.length, f2]; simp)
                  subst hne
                  have hsv0 := hsv
                  cases hsv with
                  | sl hb ha' hn hc hroom =>
                  rename_i c' g base sz a
                  refine ⟨φ, .slice (some a) n c', w, ?_, Ext.refl _ _ _ _, s, hsv0⟩
                  exact run_append_in (m := 0) w ht hu hd hi f3 k1 (by omega) (w' := w) rfl
                · rename_i hm0
                  split at ha
                  · rename_i hbd
                    cases hsv with
                    | sl hb ha' hn hc hroom =>
                    rename_i c' g base sz a
                    have hb0 := hb
                    -- the old cells
                    have holds : ∀ cs, h.read b = some cs → o + n * i.size ≤ cs.length → ∃ olds : List Value, (Builtin.firstCells i.size n (.slice (some a) n c')).run P w.drew = .ok olds.toArray w.drew ∧ VRs φ ((cs.drop o).take (n * i.size)) olds := by
                      intro cs hr hle
                      obtain ⟨o1, p1, p2, p3, p4⟩ := elems_rel (P := P) (elems_sl (c := c) (es' := 0) (m := 0) hr hle) hrd' (.sl (c := c) hb ha' hn hc hroom)
                      refine ⟨o1, ?_, p1⟩
                      have := p4 n (Nat.le_refl _)
                      rwa [List.take_of_length_le (by rw [← p1.length, p2]; exact Nat.le_refl _)] at this
                    split at ha
                    · -- the capacity is known, and too small
                      rename_i hforce
                      split at ha
                      · rename_i cs hr
                        split at ha
                        · rename_i hle
                          cases ha
                          have hgc : c' < n + m := by
                            cases c with
                            | none => simp [forced] at hforce
                            | some k => have := hc k rfl; simp [forced] at hforce; omega
                          obtain ⟨olds, q1, q2⟩ := holds cs hr hle
                          obtain ⟨arr, r1, r2, r3, r4, r5⟩ := grown (some a) n c' olds _ q1 q2 (by simp; omega) hgc hbd.2 hbd.1
                          have hn' : φ h.next = none := hfr _ (Nat.le_refl _) (Nat.lt_succ_self _)
                          obtain ⟨t1, t2⟩ := sim_alloc (w' := w.drew.alloc (.cells arr e)) s hn' rfl rfl rfl rfl r4 (.inl rfl) r5 hlo
                          exact ⟨_, _, _, r1, t2, t1, .sl (.inl (Phi.with_at _ _ _)) (.inl rfl) r3 (fun k hk => by cases hk) (.inl (by simp [r2]))⟩
                        · cases ha
                      · cases ha
                    · rename_i hforce
                      split at ha
                      · rename_i cs f low hown
                        split at ha
                        · rename_i hle
                          cases ha
                          have hb := hb.resolve_right (fun e => hforce (by rw [e.2]; simp [forced]; omega))
                          have hr := owned_read s.wf hown
                          have hn' : φ h.next = none := hfr _ (Nat.le_refl _) (Nat.lt_succ_self _)
                          have hlowlt : low < h.next := by
                            obtain ⟨hg2, hf2, _⟩ := owned_some hown
                            obtain ⟨_, o2, lw, e1, e2, e3, e4⟩ := s.wf.fam _ _ _ hg2
                            rw [hf2] at e1; cases e1; omega
                          have hlow : (if o + n * i.size = cs.length then low else h.next) = low ∨ (if o + n * i.size = cs.length then low else h.next) = h.next := by split <;> simp
                          by_cases hroom' : n + m ≤ c'
                          · -- in place
                            have ha2 : a = ⟨g, base + o, none⟩ := ha'.resolve_right (by omega)
                            subst ha2
                            have hrm := hroom.resolve_right (by omega)
                            have hc0 := s.at_ _ _ _ hb hr
                            obtain ⟨arr, t0, lo0, hi0, h1, h2, h3, h4, h5⟩ := hc0
                            simp only at h1 h2 h3 h4
                            have hclr0 := s.frz _ _ _ _ hb (owned_some hown).1 _ _ _ _ h1
                            have hxl := f1.length
                            have hmul : (n + m) * i.size = n * i.size + m * i.size := Nat.add_mul _ _ _
                            have hmc : (n + m) * i.size ≤ c' * i.size := Nat.mul_le_mul_right _ hroom'
                            obtain ⟨w', e1, e2, e3, e4, e5, e6, e7⟩ := run_storeCells P g t0 lo0 hi0 xs1 arr (base + o + n * i.size) 0 w h1 hclr0 (by omega) (scals_one f1 hscal)
                            rw [Nat.add_zero] at e2
                            have hcells : Cells φ w' (g, base + o, sz) ((cs.drop o).take (n * i.size) ++ xs) := by
                              refine ⟨_, _, _, _, e2, by rw [over_size (by omega)]; exact h2, trivial, by simp; omega, ?_⟩
                              have hlen : ((cs.drop o).take (n * i.size) ++ xs).length = n * i.size + xs1.length := by simp; omega
                              rw [hlen, over_both arr (base + o) (n * i.size) xs1 (by omega)]
                              refine VRs.append ?_ f1
                              have := (h5.drop o).take (n * i.size)
                              rwa [take_drop_take _ _ _ _ _ hle] at this
                            have hpl := sim_more (w' := w') s hown hn' (x0 := (g, base + o, sz)) (x := (g, base, sz)) hb hlow hcells (Clear.of e2 (by rw [over_size (by omega)]; exact hclr0)) (.inr ⟨rfl, fun k hk => e3 k hk, fun hll => by
                              have hend : o + n * i.size = cs.length := by
                                by_cases hh : o + n * i.size = cs.length
                                · exact hh
                                · rw [if_neg hh] at hll; omega
                              refine ⟨by simp; omega, fun y l2 hy1 hy2 hcy => ?_⟩
                              obtain ⟨arr', t', lo', hi', y1, y2, y3, y4, y5⟩ := hcy
                              rw [hy1] at y1
                              simp only at y1 hy2
                              rw [h1] at y1
                              cases y1
                              refine ⟨_, _, _, _, by rw [hy1]; exact e2, by rw [over_size (by omega)]; exact y2, y3, y4, ?_⟩
                              rw [over_ahead arr _ _ _ _ (by omega) (by omega)]
                              exact y5⟩) (by omega) e5 e6 e7 hlo
                            refine ⟨_, .slice (some ⟨g, base + o, none⟩) (n + m) c', w', ?_, hpl.2, hpl.1, ?_⟩
                            · exact run_append_in w ht hu hd hi f3 k1 hroom' (by rw [add_addr]; exact e1)
                            · exact .sl (.inl (Phi.with_at _ _ _)) (.inl rfl) hroom' hc (.inl (by omega))
                          · -- elsewhere
                            have hcn : c = none := by
                              cases c with
                              | none => rfl
                              | some k => have := hc k rfl; simp [forced] at hforce; omega
                            subst hcn
                            obtain ⟨olds, q1, q2⟩ := holds cs hr hle
                            obtain ⟨arr, r1, r2, r3, r4, r5⟩ := grown (some a) n c' olds _ q1 q2 (by simp; omega) (by omega) hbd.2 hbd.1
                            have hcells : Cells φ (w.drew.alloc (.cells arr e)) (w.heap.size, 0, arr.size) ((cs.drop o).take (n * i.size) ++ xs) :=
                              ⟨arr, e, 0, 0, heap_alloc_new w.drew _, rfl, trivial, by simpa using r4, by simpa using r5⟩
                            have hpl := sim_more (w' := w.drew.alloc (.cells arr e)) s hown hn' (x0 := (w.heap.size, 0, arr.size)) (hb.resolve_right fun e => by cases e.2) hlow hcells (Clear.of (heap_alloc_new w.drew _) (.inl rfl))
                              (.inl ⟨rfl, fun k hk => heap_alloc_old w.drew _ hk⟩) (by simp) rfl rfl rfl hlo
                            exact ⟨_, _, _, r1, hpl.2, hpl.1, .sl (.inl (Phi.with_at _ _ _)) (.inl rfl) r3 (fun k hk => by cases hk) (.inl (by simp [r2]))⟩
                        · cases ha
                      · cases ha
                  · cases ha
            · cases ha
        · cases ha
      · cases ha
    · cases ha
  · cases ha

theorem copyV_sim {lo : Nat} {ts : List TypeId} {d x v : V} (hcp : copyV P lo ts d x h = some (v, h')) (s : Sim φ h w) {d' x' : Value} (hd : VR φ d d') (hx : VR φ x x') (ty : TypeId) :
    ∃ v' w', (Builtin.copy_ ts.toArray ty #[d', x']).run P w = .ok v' w' ∧ Ext lo φ h w φ h' w' ∧ Sim φ h' w' ∧ VR φ v v' := by
  unfold copyV at hcp
  split at hcp
  · rename_i t u
    split at hcp
    · rename_i e ht
      split at hcp
      · rename_i es hes
        have hrd : RdSim φ w h.read := fun b x l hb hr => s.at_ b x l hb hr
        split at hcp
        · rename_i mxs hel
          cases hcp
          cases hd
          obtain ⟨m, xs⟩ := mxs
          obtain ⟨xs1, f1, f2, f3, f4⟩ := elems_rel (P := P) hel hrd hx
          have k0 := f4 0 (Nat.zero_le _)
          refine ⟨.int .i64 0, w, ?_, Ext.refl _ _ _ _, s, .int _ _⟩
          simp [Builtin.copy_, run_underlying ht, run_sizeOf hes, f3, k0, goInt]
        · rename_i m xs b o n c es' hel
          split at hcp
          · cases hcp
          · rename_i hcond
            simp only [not_or, ne_eq, Decidable.not_not, Bool.not_eq_false] at hcond
            obtain ⟨he, hscal⟩ := hcond
            subst he
            obtain ⟨xs1, f1, f2, f3, f4⟩ := elems_rel (P := P) hel hrd hx
            have hk := f4 (min m n) (Nat.min_le_left _ _)
            cases hd with
            | sl hb ha hn hc hroom =>
            rename_i c' g base sz a
            have hb00 := hb
            have hlen : (xs1.take (min m n * es)).length = min m n * es := by
              rw [List.length_take, ← f1.length, f2]
              exact Nat.min_eq_left (Nat.mul_le_mul_right _ (Nat.min_le_left _ _))
            have hrun : ∀ w', (storeCells a (xs1.take (min m n * es)) 0).run P w = .ok () w' → (Builtin.copy_ #[t, u] ty #[.slice (some a) n c', x']).run P w = .ok (.int .i64 ((min m n : Nat) : Int)) w' := by
              intro w' hst
              have e1 : Nat.min m n = min m n := rfl
              simp only [Builtin.copy_, List.getElem?_toArray, List.getElem?_cons_zero, List.getElem?_cons_succ, Sem.run_bind, run_underlying ht, Result.andThen_ok, f3, run_sizeOf hes, e1, hk]
              simp [hst, goInt]
            simp only at hcp
            split at hcp
            · rename_i h0
              cases hcp
              have hnil : xs1.take (min m n * es) = [] := List.eq_nil_of_length_eq_zero (by omega)
              exact ⟨_, w, hrun w (by rw [hnil]; rfl), Ext.refl _ _ _ _, s, .int _ _⟩
            · rename_i h0
              split at hcp
              · rename_i cs f low hown
                split at hcp
                · rename_i cs' hf
                  cases hcp
                  have hc' : c' ≠ 0 := by
                    intro hc0
                    have : n = 0 := by omega
                    subst this
                    simp at h0
                  have ha2 : a = ⟨g, base + o, none⟩ := ha.resolve_right (fun e => hc' e.1)
                  subst ha2
                  have hsc : (xs.take (min m n * es)).all scal = true := by
                    rw [List.all_eq_true] at hscal ⊢
                    exact fun v hv => hscal v (List.mem_of_mem_take hv)
                  obtain ⟨w', e1, e2, e3⟩ := store_sim P s hown (hb.resolve_right fun e => hc' e.1) hf (f1.take _) hsc
                  exact ⟨_, w', hrun w' e1, e3, e2, .int _ _⟩
                · cases hcp
              · cases hcp
        · cases hcp
      · cases hcp
    · cases hcp
  · cases hcp

theorem markV_sim {lo : Nat} {t : TypeId} {x v : V} (hm : markV P lo t x h = some (v, h')) (s : Sim φ h w) {x' : Value} (hx : VR φ x x') :
    ∃ v' w', (convert t t x').run P w = .ok v' w' ∧ Ext lo φ h w φ h' w' ∧ Sim φ h' w' ∧ VR φ v v' := by
  unfold markV at hm
  split at hm
  · rename_i e b o n c es hu
    split at hm
    · rename_i k he hown
      split at hm
      · cases hm
      rename_i hn0
      cases hm
      obtain ⟨cs, f, low⟩ := k
      have hx0 := hx
      cases hx with
      | sl hb ha hn hc hroom =>
      rename_i c' g base sz a
      have hb := hb.resolve_right (fun e => by omega)
      have hab : a.block = g := by
        rcases ha with rfl | ha
        · rfl
        · exact ha.2
      obtain ⟨arr, t0, lo0, hi0, h1, h2, h3, h4, h5⟩ := s.at_ _ _ _ hb (owned_read s.wf hown)
      simp only at h1 h2
      have hclr := s.frz _ _ _ _ hb (owned_some hown).1 _ _ _ _ h1
      have hsh : w.shape? a.block = some (t0, arr.size) := by unfold World.shape?; rw [hab, h1]
      obtain ⟨lo1, hi1, hfz, hok⟩ : ∃ lo1 hi1, (w.freeze ⟨a.block, arr.size, none⟩ 1).heap[g]? = some (.cells arr t0 (lo1, hi1)) ∧ (lo1 = hi1 ∨ arr.size ≤ lo1) := by
        by_cases he2 : lo0 = hi0
        · refine ⟨arr.size, arr.size + 1, ?_, .inr (by omega)⟩
          simp [World.freeze, hab, Array.getElem?_modify, h1, he2]
        · refine ⟨min lo0 arr.size, max hi0 (arr.size + 1), ?_, .inr (by omega)⟩
          simp [World.freeze, hab, Array.getElem?_modify, h1, he2]
      have hoth : ∀ k, k ≠ g → (w.freeze ⟨a.block, arr.size, none⟩ 1).heap[k]? = w.heap[k]? := by
        intro k hk
        simp [World.freeze, hab, Array.getElem?_modify, Ne.symm hk]
      have hsize : (w.freeze ⟨a.block, arr.size, none⟩ 1).heap.size = w.heap.size := by simp [World.freeze]
      have hcells : ∀ y l, Cells φ w y l → Cells φ (w.freeze ⟨a.block, arr.size, none⟩ 1) y l := by
        intro y l hc'
        by_cases hy : y.1 = g
        · obtain ⟨arr', t', lo', hi', y1, y2, y3, y4, y5⟩ := hc'
          rw [hy, h1] at y1
          cases y1
          exact ⟨arr, t0, lo1, hi1, by rw [hy]; exact hfz, y2, trivial, y4, y5⟩
        · exact hc'.mono (Phi.le.refl φ) (hoth _ hy)
      refine ⟨.slice (some a) n c', w.freeze ⟨a.block, arr.size, none⟩ 1, ?_, ⟨Phi.le.refl φ, fun _ h1 h2 => absurd h1 h2, Nat.le_refl _, rfl, rfl, rfl, by omega, ?_, fun c y hc1 hc2 hc3 => .inr ⟨c, y, hc1, hc2, hc3, rfl⟩, fun _ _ h => h, fun _ _ h1 h2 => by rw [h1] at h2; cases h2⟩,
        ⟨fun c y l hy hr => hcells _ _ (s.at_ _ _ _ hy hr), s.sep, s.wf, fun c y hy => by rw [hsize]; exact s.bnd c y hy, fun c y l f2 hy hg2 => by
          by_cases e : y.1 = g
          · rw [e]; exact Clear.of hfz hok
          · exact (s.frz c y l f2 hy hg2).mono (hoth _ e)⟩, hx0⟩
      · simp [convert, run_underlying hu, run_underlying he, markStringish, hsh]
      · intro k hk hno
        exact hoth k fun e => hno b _ (owned_some hown).2.2 (own_of_owned hown) hb e.symm
    · cases hm
  · cases hm
end Go.Den
