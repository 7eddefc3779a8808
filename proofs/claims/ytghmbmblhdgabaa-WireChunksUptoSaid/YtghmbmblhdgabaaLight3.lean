/- Light operations, continued: memory that is read, addresses, cuts, new blocks. -/
import Derived.Test.YtghmbmblhdgabaaLight2
import Derived.Laws.MakeOwn
import Derived.Lib.Strings
set_option linter.all false
namespace Go.Den
open Go
variable {P : Program} {φ : Phi} {w : World}

/-- the cells l stand in the model's memory, at x -/
def Cells (φ : Phi) (w : World) (x : Nat × Nat × Nat) (l : List V) : Prop :=
  ∃ (arr : Array Value) (t : TypeId) (lo hi : Nat), w.heap[x.1]? = some (.cells arr t (lo, hi)) ∧ arr.size = x.2.2 ∧ True ∧
    x.2.1 + l.length ≤ x.2.2 ∧ VRs φ l ((arr.toList.drop x.2.1).take l.length)
theorem Cells.cell {x : Nat × Nat × Nat} {l : List V} (h : Cells φ w x l) {i : Nat} {v : V} (hv : l[i]? = some v) :
    ∃ v', w.cell? ⟨x.1, x.2.1 + i, none⟩ = some v' ∧ VR φ v v' := by
  obtain ⟨arr, t, lo, hi, hh, hs, _, hle, hr⟩ := h
  have hi' : i < l.length := by
    rcases Nat.lt_or_ge i l.length with h1 | h1
    · exact h1
    · rw [List.getElem?_eq_none h1] at hv; cases hv
  obtain ⟨v', h1, h2⟩ := hr.get i v hv
  refine ⟨v', ?_, h2⟩
  rw [cell_of_row w _ _ _ _ _ hh]
  rw [List.getElem?_take, if_pos hi', List.getElem?_drop] at h1
  simpa using h1
/-- no cell of the block is frozen, but for such as stand behind its end -/
def Clear (w : World) (g : Nat) : Prop := ∀ arr t lo hi, w.heap[g]? = some (.cells arr t (lo, hi)) → lo = hi ∨ arr.size ≤ lo
theorem Clear.mono {w w' : World} {g : Nat} (h : Clear w g) (he : w'.heap[g]? = w.heap[g]?) : Clear w' g := fun arr t lo hi hh => h arr t lo hi (he ▸ hh)
theorem Clear.of {w : World} {g : Nat} {arr : Array Value} {t : TypeId} {lo hi : Nat} (he : w.heap[g]? = some (.cells arr t (lo, hi))) (h : lo = hi ∨ arr.size ≤ lo) : Clear w g := fun _ _ _ _ hh => by
  rw [he] at hh; cases hh; exact h
/-- the model's values of a part of the cells -/
theorem Cells.part {x : Nat × Nat × Nat} {l : List V} (h : Cells φ w x l) (o n : Nat) (hle : o + n ≤ l.length) :
    ∃ cs' : List Value, VRs φ ((l.drop o).take n) cs' ∧ cs'.length = n ∧ ∀ j v, cs'[j]? = some v → w.cell? ⟨x.1, x.2.1 + o + j, none⟩ = some v := by
  obtain ⟨arr, t, lo, hi, hh, hs, _, hx, hr⟩ := h
  refine ⟨_, (hr.drop o).take n, ?_, ?_⟩
  · simp; omega
  · intro j v hj
    rw [cell_of_row w _ _ _ _ _ hh]
    have hjn : j < n := by
      rcases Nat.lt_or_ge j n with h1 | h1
      · exact h1
      · rw [List.getElem?_eq_none (by simp; omega)] at hj; cases hj
    rw [List.getElem?_take, if_pos hjn, List.getElem?_drop, List.getElem?_take, if_pos (by omega), List.getElem?_drop] at hj
    rw [← hj, ← Nat.add_assoc]
    simp
theorem add_addr (g x n : Nat) : (⟨g, x, none⟩ : Addr).add n = ⟨g, x + n, none⟩ := by
  unfold Addr.add
  split
  · rename_i h; subst h; rfl
  · rfl

def RdSim (φ : Phi) (w : World) (rd : Rd) : Prop := ∀ b x l, φ b = some x → rd b = some l → Cells φ w x l

theorem loadV_rel {t : TypeId} {x v : V} {rd : Rd} (h : loadV P t x rd = some v) (hrd : RdSim φ w rd) {x' : Value} (hx : VR φ x x') :
    ∃ v', (Instr.loadAt t x').run P w = .ok v' w ∧ VR φ v v' := by
  unfold loadV at h
  split at h
  · rename_i b o
    cases hx with
    | ptr hb =>
    rename_i g base sz
    split at h
    · rename_i cs hr
      have hc := hrd _ _ _ hb hr
      unfold partV at h
      split at h
      · rename_i n ha hs
        split at h
        · rename_i hle
          cases h
          obtain ⟨cs', h1, h2, h3⟩ := hc.part o n hle
          refine ⟨.agg ⟨cs'⟩, ?_, .agg h1⟩
          have := run_loadCells_list (P := P) w ⟨g, base + o, none⟩ cs' (fun j v hj => by rw [add_addr]; exact h3 j v hj)
          rw [h2] at this
          simp [Instr.loadAt, Instr.sureAddr, loadVar, run_isAgg ha, run_sizeOf hs, this]
        · cases h
      · rename_i n ha hs
        obtain ⟨v', h1, h2⟩ := hc.cell h
        exact ⟨v', by simp [Instr.loadAt, Instr.sureAddr, loadVar, run_isAgg ha, h1], h2⟩
      · cases h
    · cases h
  · cases h

theorem elems_rel {rd : Rd} {es m : Nat} {x : V} {xs : List V} (h : elems rd es x = some (m, xs)) (hrd : RdSim φ w rd) {x' : Value} (hx : VR φ x x') :
    ∃ xs' : List Value, VRs φ xs xs' ∧ xs.length = m * es ∧ (Builtin.lenOf x').run P w = .ok m w ∧ ∀ k, k ≤ m → (Builtin.firstCells es k x').run P w = .ok (xs'.take (k * es)).toArray w := by
  unfold elems at h
  split at h
  · cases h; cases hx
    exact ⟨[], .nil, by simp, by simp [Builtin.lenOf], fun k hk => by simp [Builtin.firstCells]⟩
  · rename_i b o n c es'
    split at h
    · rename_i he
      subst he
      split at h
      · rename_i cs hr
        split at h
        · rename_i hle
          cases h
          cases hx with
          | sl hb ha hn hc hroom =>
          rename_i c' g base sz a
          rcases hb with hb | ⟨hz, _⟩
          case inr =>
            have hm0 : m = 0 := by omega
            subst hm0
            refine ⟨[], by simpa using VRs.nil, by simp, by simp [Builtin.lenOf], fun k hk => ?_⟩
            have hk0 : k = 0 := by omega
            subst hk0
            have := run_loadCells_list (P := P) w a [] (fun j v hj => by simp at hj)
            simpa [Builtin.firstCells] using this
          obtain ⟨cs', h1, h2, h3⟩ := (hrd _ _ _ hb hr).part o (m * es) hle
          refine ⟨cs', h1, by simp; omega, by simp [Builtin.lenOf], fun k hk => ?_⟩
          have hke : k * es ≤ m * es := Nat.mul_le_mul_right es hk
          have hl : (cs'.take (k * es)).length = k * es := by simp; omega
          have := run_loadCells_list (P := P) w a (cs'.take (k * es)) (fun j v hj => by
            have hjl : j < k * es := by
              rcases Nat.lt_or_ge j (k * es) with h1 | h1
              · exact h1
              · rw [List.getElem?_eq_none (by rw [hl]; exact h1)] at hj; cases hj
            rcases ha with ha | ha
            · subst ha
              rw [add_addr]
              rw [List.getElem?_take, if_pos hjl] at hj
              exact h3 j v hj
            · exfalso
              have : m = 0 := by omega
              subst this
              have : k = 0 := by omega
              subst this
              simp at hjl)
          rw [hl] at this
          simpa [Builtin.firstCells] using this
        · cases h
      · cases h
    · cases h
  · rename_i s
    split at h
    · rename_i he
      subst he
      cases h
      cases hx
      refine ⟨s.map fun b => Value.int .u8 (b.toNat : Int), ?_, by simp, by simp [Builtin.lenOf, ByteArray.size], fun k hk => ?_⟩
      · refine VRs.of_get (by simp) fun i v v' hv hv' => ?_
        simp only [List.getElem?_map, Option.map_eq_some_iff] at hv hv'
        obtain ⟨b, hb, rfl⟩ := hv
        obtain ⟨b', hb', rfl⟩ := hv'
        rw [hb] at hb'
        cases hb'
        exact .int _ _
      · simp only [Builtin.firstCells, Nat.mul_one, Sem.run_pure]
        congr 1
        apply Array.ext'
        have e := Lib.extract_data ⟨⟨s⟩⟩ 0 k
        simp only [Array.toList_map, e]
        simp [List.map_take]
    · cases h
  · cases h

theorem addrV_rel {t : TypeId} {x ix v : V} (h : addrV P t x ix = some v) {x' ix' : Value} (hx : VR φ x x') (hi : VR φ ix ix') (w : World) :
    ∃ v', (Instr.indexAt t x' ix').run P w = .ok v' w ∧ VR φ v v' := by
  unfold addrV at h
  split at h
  · rename_i n e b o k i hu
    cases hi
    cases hx with
    | ptr hb =>
    rename_i g base sz
    split at h
    · rename_i hbd
      rw [Option.map_eq_some_iff] at h
      obtain ⟨s, hs, rfl⟩ := h
      refine ⟨.pointer (some ⟨g, base + (o + i.toNat * s), none⟩), ?_, .ptr hb⟩
      simp [Instr.indexAt, asIntOf, run_underlying hu, Instr.sureAddr, hbd, run_sizeOf hs, add_addr, Nat.add_assoc]
    · cases h
  · rename_i e b o n c es k i hu
    cases hi
    cases hx with
    | sl hb ha hn hc hroom =>
    rename_i c' g base sz a
    split at h
    · rename_i hbd
      have hb := hb.resolve_right (fun e => by omega)
      split at h
      · rename_i hs
        cases h
        have ha' : a = ⟨g, base + o, none⟩ := ha.resolve_right (by omega)
        subst ha'
        refine ⟨.pointer (some ⟨g, base + (o + i.toNat * es), none⟩), ?_, .ptr hb⟩
        simp [Instr.indexAt, asIntOf, run_underlying hu, hbd, run_sizeOf hs, add_addr, Nat.add_assoc]
      · cases h
    · cases h
  · cases h
theorem fieldAddrV_rel {t : TypeId} {x v : V} {f : Nat} (h : fieldAddrV P t x f = some v) {x' : Value} (hx : VR φ x x') (w : World) :
    ∃ v', (Instr.fieldAt t x' f).run P w = .ok v' w ∧ VR φ v v' := by
  unfold fieldAddrV at h
  split at h
  · rename_i fs b o hu
    cases hx with
    | ptr hb =>
    rename_i g base sz
    split at h
    · rename_i f hf
      split at h
      · rename_i m hs
        cases h
        refine ⟨.pointer (some ⟨g, base + (o + f.offset), none⟩), ?_, .ptr hb⟩
        simp [Instr.fieldAt, run_underlying hu, hf, Instr.sureAddr, fieldPlace, run_sizeOf hs, add_addr, Nat.add_assoc]
      · cases h
    · cases h
  · cases h

/-! ### cuts -/
inductive VRo (φ : Phi) : Option V → Option Value → Prop
  | none : VRo φ none none
  | some {v : V} {v' : Value} (h : VR φ v v') : VRo φ (some v) (some v')
theorem bound_rel {x : V} {d top l : Nat} (h : bound (some x) d top = some l) {x' : Value} (hx : VR φ x x') (top' : Nat) (ht : top ≤ top') (code : BoundsCode) (w : World) :
    l ≤ top ∧ (Instr.sliceBound x' top' code).run P w = .ok l w := by
  unfold bound at h
  split at h
  · rename_i hx0; cases hx0
  · rename_i k i hx0
    cases hx0
    cases hx
    split at h
    · rename_i hb
      cases h
      refine ⟨by omega, ?_⟩
      simp only [Instr.sliceBound, asIntOf, Sem.run_bind, Sem.run_pure, Result.andThen_ok]
      rw [if_pos (by omega)]
      rfl
    · cases h
  · cases h
/-- the model's bounds, out of the machine's -/
theorem sliceBounds_rel {lo hi mx : Option V} {lo' hi' mx' : Option Value} (hlo : VRo φ lo lo') (hhi : VRo φ hi hi') (hmx : VRo φ mx mx') {n m h l cap : Nat} (isS : Bool)
    (hm : bound mx n n = some m) (hh : bound hi n (if mx.isSome then m else n) = some h) (hno : (mx.isSome && hi.isNone) = false) (hl : bound lo 0 h = some l) (hcap : n ≤ cap) (w : World) :
    l ≤ h ∧ h ≤ n ∧ (mx.isSome = true → h ≤ m ∧ m ≤ n) ∧ (Instr.sliceBounds isS n cap lo' hi' mx').run P w = .ok (l, h, if mx.isSome then m else cap) w := by
  cases hmx with
  | none =>
    simp only [Option.isSome_none, Bool.false_eq_true, if_false] at hh
    cases hhi with
    | none =>
      have hhn : h = n := by simpa [bound] using hh.symm
      subst hhn
      cases hlo with
      | none =>
        have : l = 0 := by simpa [bound] using hl.symm
        subst this
        exact ⟨by omega, by omega, by simp, by simp [Instr.sliceBounds]⟩
      | some hv =>
        obtain ⟨h1, h2⟩ := bound_rel (P := P) hl hv h (Nat.le_refl _) .sliceB w
        exact ⟨h1, by omega, by simp, by simp [Instr.sliceBounds, h2]⟩
    | some hv =>
      obtain ⟨a1, a2⟩ := bound_rel (P := P) hh hv cap hcap (if isS then .sliceAcap else .sliceAlen) w
      cases hlo with
      | none =>
        have : l = 0 := by simpa [bound] using hl.symm
        subst this
        exact ⟨by omega, by omega, by simp, by simp [Instr.sliceBounds, a2]⟩
      | some hv' =>
        obtain ⟨h1, h2⟩ := bound_rel (P := P) hl hv' h (Nat.le_refl _) .sliceB w
        exact ⟨h1, by omega, by simp, by simp [Instr.sliceBounds, a2, h2]⟩
  | some hmv =>
    simp only [Option.isSome_some, if_true] at hh
    obtain ⟨b1, b2⟩ := bound_rel (P := P) hm hmv cap hcap (if isS then .slice3Acap else .slice3Alen) w
    cases hhi with
    | none => simp at hno
    | some hv =>
      obtain ⟨a1, a2⟩ := bound_rel (P := P) hh hv m (Nat.le_refl _) .slice3B w
      cases hlo with
      | none =>
        have : l = 0 := by simpa [bound] using hl.symm
        subst this
        exact ⟨by omega, by omega, fun _ => ⟨a1, b1⟩, by simp [Instr.sliceBounds, a2, b2]⟩
      | some hv' =>
        obtain ⟨h1, h2⟩ := bound_rel (P := P) hl hv' h (Nat.le_refl _) .slice3C w
        exact ⟨h1, by omega, fun _ => ⟨a1, b1⟩, by simp [Instr.sliceBounds, a2, b2, h2]⟩
end Go.Den
