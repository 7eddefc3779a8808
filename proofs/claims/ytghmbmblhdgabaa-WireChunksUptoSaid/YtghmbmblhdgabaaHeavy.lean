/- Heavy operations: a store, a copy, an append, a mark, a call. -/
import Derived.Test.YtghmbmblhdgabaaMem2
set_option linter.all false
namespace Go.Den
open Go
variable {P : Program} {φ φ' : Phi} {w w' : World} {h h' : H}

/-- cells that are laid over a part of a block's cells -/
def over (arr : Array Value) (at_ : Nat) (vs : List Value) : Array Value := (arr.toList.take at_ ++ vs ++ arr.toList.drop (at_ + vs.length)).toArray
theorem over_size {arr : Array Value} {at_ : Nat} {vs : List Value} (hl : at_ + vs.length ≤ arr.size) : (over arr at_ vs).size = arr.size := by
  simp [over]; omega
theorem over_cons (arr : Array Value) (i : Nat) (v : Value) (r : List Value) (hi : i < arr.size) : over (arr.setIfInBounds i v) (i + 1) r = over arr i (v :: r) := by
  apply Array.ext'
  have hil : i < arr.toList.length := by simpa using hi
  simp only [over, Array.toList_setIfInBounds, List.length_cons]
  rw [List.take_set, List.drop_set_of_lt (by omega), List.take_succ_eq_append_getElem hil]
  have hm : min i arr.size = i := Nat.min_eq_left (Nat.le_of_lt hi)
  rw [List.set_append_right _ _ (by simp [hm])]
  simp [hm, show i + 1 + r.length = i + (r.length + 1) from by omega]
theorem heap_setCell (w : World) (g i : Nat) (v : Value) {arr : Array Value} {t : TypeId} {fr : Nat × Nat} (hg : w.heap[g]? = some (.cells arr t fr)) :
    (w.setCell ⟨g, i, none⟩ v).heap[g]? = some (.cells (arr.setIfInBounds i v) t fr) := by
  obtain ⟨lo, hi⟩ := fr
  simp [World.setCell, Array.getElem?_modify, hg]

/-- a row of stores into one block: the world behind it -/
theorem run_storeCells (P : Program) (g : Nat) (t : TypeId) (lo hi : Nat) : ∀ (vs : List Value) (arr : Array Value) (at_ i : Nat) (w : World), w.heap[g]? = some (.cells arr t (lo, hi)) → (lo = hi ∨ arr.size ≤ lo) →
    at_ + i + vs.length ≤ arr.size → (∀ v ∈ vs, v.oneCell' = true) →
    ∃ w', (storeCells ⟨g, at_, none⟩ vs i).run P w = .ok () w' ∧ w'.heap[g]? = some (.cells (over arr (at_ + i) vs) t (lo, hi)) ∧ (∀ k, k ≠ g → w'.heap[k]? = w.heap[k]?) ∧
      w'.heap.size = w.heap.size ∧ w'.tape = w.tape ∧ w'.os = w.os ∧ w'.output = w.output := by
  intro vs
  induction vs with
  | nil =>
    intro arr at_ i w hg _ hl _
    refine ⟨w, rfl, ?_, fun _ _ => rfl, rfl, rfl, rfl, rfl⟩
    rw [hg]
    congr 2
    apply Array.ext'
    simp [over]
  | cons v r ih =>
    intro arr at_ i w hg hf hl h1
    simp only [List.length_cons] at hl
    have hcell : w.cell? ⟨g, at_ + i, none⟩ = some (arr[at_ + i]'(by omega)) := by
      rw [cell_of_row w _ _ _ _ _ hg]
      simp
    have hfr : w.frozen? ⟨g, at_ + i, none⟩ = false := by
      unfold World.frozen?
      simp only [hg]
      rw [Bool.eq_false_iff]
      intro hc
      simp only [Bool.and_eq_true, decide_eq_true_eq] at hc
      omega
    have hrun : (store ((⟨g, at_, none⟩ : Addr).add i) v).run P w = .ok () (w.setCell ⟨g, at_ + i, none⟩ v) := by
      rw [add_addr, run_store P w _ _ _ (h1 v (by simp)), hcell]
      simp [hfr]
    obtain ⟨w', e1, e2, e3, e4, e5, e6, e7⟩ := ih (arr.setIfInBounds (at_ + i) v) at_ (i + 1) (w.setCell ⟨g, at_ + i, none⟩ v) (heap_setCell w g _ v hg) (by simpa using hf) (by simp; omega) (fun u hu => h1 u (by simp [hu]))
    refine ⟨w', by simp only [storeCells, Sem.run_bind, hrun, Result.andThen_ok]; exact e1, ?_, ?_, by simpa using e4, by simpa using e5, ?_, ?_⟩
    · rw [e2]
      congr 2
      exact over_cons arr (at_ + i) v r (by omega)
    · intro k hk
      rw [e3 k hk, heap_setCell_other w _ _ _ hk]
    · rw [e6]; rfl
    · rw [e7]; rfl

theorem scal_one {v : V} {v' : Value} (hv : VR φ v v') (hs : scal v = true) : v'.oneCell' = true := by
  cases hv <;> first | rfl | (simp [scal] at hs)
theorem scals_one {vs : List V} {vs' : List Value} (hv : VRs φ vs vs') (hs : vs.all scal = true) : ∀ v ∈ vs', v.oneCell' = true := by
  intro v hm
  obtain ⟨i, hi⟩ := List.getElem?_of_mem hm
  obtain ⟨u, hu, hr⟩ := hv.get' i v hi
  rw [List.all_eq_true] at hs
  exact scal_one hr (hs u (List.mem_of_getElem? hu))

/-- cells laid over a part of what stands there -/
theorem Cells.over {x : Nat × Nat × Nat} {l vs : List V} {vs' : List Value} (hc : Cells φ w x l) {o : Nat} (hle : o + vs.length ≤ l.length) (hv : VRs φ vs vs')
    {arr : Array Value} {t : TypeId} {lo hi : Nat} (hg : w.heap[x.1]? = some (.cells arr t (lo, hi))) (hw : w'.heap[x.1]? = some (.cells (over arr (x.2.1 + o) vs') t (lo, hi))) :
    Cells φ w' x (l.take o ++ vs ++ l.drop (o + vs.length)) := by
  obtain ⟨arr', t', lo', hi', h1, h2, h3, h4, h5⟩ := hc
  rw [hg] at h1
  cases h1
  have hvl := hv.length
  have hsz : (Den.over arr (x.2.1 + o) vs').size = arr.size := over_size (by omega)
  refine ⟨_, _, _, _, hw, by rw [hsz]; exact h2, trivial, by simp; omega, ?_⟩
  have hlen : (l.take o ++ vs ++ l.drop (o + vs.length)).length = l.length := by simp; omega
  rw [hlen]
  have e : ((Den.over arr (x.2.1 + o) vs').toList.drop x.2.1).take l.length = (((arr.toList.drop x.2.1).take l.length).take o ++ vs' ++ ((arr.toList.drop x.2.1).take l.length).drop (o + vs'.length)) := by
    simp only [Den.over]
    apply List.ext_getElem?
    intro i
    have hal : arr.toList.length = arr.size := by simp
    by_cases hi : i < l.length
    · rw [List.getElem?_take, if_pos hi, List.getElem?_drop]
      by_cases h1 : i < o
      · rw [List.append_assoc, List.getElem?_append_left (by simp; omega), List.getElem?_take, if_pos (by omega)]
        rw [List.append_assoc, List.getElem?_append_left (by simp; omega), List.getElem?_take, if_pos h1, List.getElem?_take, if_pos hi, List.getElem?_drop]
      · by_cases h2 : i < o + vs'.length
        · rw [List.getElem?_append_left (by simp; omega), List.getElem?_append_right (by simp; omega)]
          rw [List.getElem?_append_left (by simp; omega), List.getElem?_append_right (by simp; omega)]
          congr 1
          simp
          omega
        · rw [List.getElem?_append_right (by simp; omega), List.getElem?_append_right (by simp; omega), List.getElem?_drop, List.getElem?_drop, List.getElem?_take, if_pos (by simp; omega), List.getElem?_drop]
          congr 1
          simp
          omega
    · rw [List.getElem?_eq_none (by simp; omega), List.getElem?_eq_none (by simp; omega)]
  rw [e, ← hvl]
  exact ((h5.take o).append hv).append (h5.drop _)
theorem fill1_eq {cells cs r : List V} {off : Nat} (h : fill1 cells off cs = some r) : off + cs.length ≤ cells.length ∧ r = cells.take off ++ cs ++ cells.drop (off + cs.length) := by
  unfold fill1 at h
  split at h
  · cases h; exact ⟨‹_›, rfl⟩
  · cases h
/-- a row of stores into a block of its own -/
theorem store_sim (P : Program) {lo b f low o : Nat} {l vs r : List V} {vs' : List Value} (s : Sim φ h w) (ho : h.owned lo b = some (l, f, low)) {g base sz : Nat} (hx : φ b = some (g, base, sz))
    (hfill : fill1 l o vs = some r) (hv : VRs φ vs vs') (hs : vs.all scal = true) :
    ∃ w', (storeCells ⟨g, base + o, none⟩ vs' 0).run P w = .ok () w' ∧ Sim φ (h.put b f r) w' ∧ Ext lo φ h w φ (h.put b f r) w' := by
  obtain ⟨hle, rfl⟩ := fill1_eq hfill
  have hc := s.at_ _ _ _ hx (owned_read s.wf ho)
  have hc0 := hc
  obtain ⟨arr, t, lo0, hi0, h1, h2, h3, h4, h5⟩ := hc
  simp only at h1 h2 h4
  have hvl := hv.length
  obtain ⟨w', e1, e2, e3, e4, e5, e6, e7⟩ := run_storeCells P g t lo0 hi0 vs' arr (base + o) 0 w h1 (s.frz _ _ _ _ hx (owned_some ho).1 _ _ _ _ h1) (by omega) (scals_one hv hs)
  rw [Nat.add_zero] at e2
  have hc' := hc0.over hle hv h1 e2
  obtain ⟨k1, k2⟩ := sim_put s ho hx (by simp; omega) hc' (Clear.of e2 (by rw [over_size (by omega)]; exact s.frz _ _ _ _ hx (owned_some ho).1 _ _ _ _ h1)) e3 e4 e5 e6 e7
  exact ⟨w', e1, k1, k2⟩
theorem storeV_sim {lo : Nat} {t : TypeId} {x v : V} (hst : storeV P lo t x v h = some h') (s : Sim φ h w) {x' v' : Value} (hx : VR φ x x') (hv : VR φ v v') :
    ∃ w', (Instr.storeAt t x' v').run P w = .ok () w' ∧ Sim φ h' w' ∧ Ext lo φ h w φ h' w' := by
  unfold storeV at hst
  split at hst
  · rename_i b o
    cases hx with
    | ptr hb =>
    split at hst
    · rename_i cs f low ho
      split at hst
      · rename_i hsz
        split at hst
        · rename_i cs' hf
          cases hst
          obtain ⟨w', e1, e2, e3⟩ := store_sim P s ho hb hf hv.cells hsz.2
          have hl := hv.cells.length
          have hn : ¬ (v'.cells.size ≠ v.cells.length) := by simp [hl]
          refine ⟨w', ?_, e2, e3⟩
          simp only [Instr.storeAt, Instr.sureAddr, storeVar, Sem.run_bind, Sem.run_pure, Result.andThen_ok, run_sizeOf hsz.1]
          rw [if_neg hn]
          simpa using e1
        · cases hst
      · cases hst
    · cases hst
  · cases hst
end Go.Den
