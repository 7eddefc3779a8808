/- Arguments as lists. -/
import Derived.Test.YtghmbmblhdgabaaView3
import Derived.Test.YtghmbmblhdgabaaContract
set_option linter.all false
namespace Go.Den
open Go
variable {P : Program} {M : Nat}

theorem sl_ok {α : Type} {Er : Rd → List V → α → Prop} {rd : Rd} {t e es n : Nat} {v : V} (hu : P.underlying t = some (.slice e)) (hes : P.cellsOf e = es) (hel : ∀ cs, OkV P rd M n e cs → cs.length = es → ∃ x, Er rd cs x) (ho : OkV P rd M (n + 1) t [v]) :
    ∃ xs, SlOf Er es rd v xs ∧ xs.length ≤ M := by
  unfold OkV at ho
  simp only [hu, hes] at ho
  rcases ho with h | ⟨b, m, c, l, h1, h2, h3, h4, h5, h6⟩
  · cases h
    exact ⟨[], ⟨[], fun c hc => (by cases hc), .inl ⟨rfl, rfl, rfl⟩, Each.nil _⟩, Nat.zero_le _⟩
  · cases h1
    have hle : ∀ i, i < m → i * es + es ≤ l.length := fun i hi => by
      have h7 := Nat.mul_le_mul_right es (show i + 1 ≤ c by omega)
      rw [Nat.add_mul, Nat.one_mul] at h7
      omega
    have hw : ∀ i, i < m → ((l.drop (i * es)).take es).length = es := fun i hi => by
      have := hle i hi
      simp; omega
    have hx : ∀ i : Fin m, ∃ x, Er rd ((l.drop (i.1 * es)).take es) x := fun i => hel _ (h6 i.1 (by have := i.2; omega)) (hw i.1 i.2)
    refine ⟨List.ofFn fun i : Fin m => Classical.choose (hx i), ⟨(List.range m).map fun i => (l.drop (i * es)).take es, ?_, ?_, ?_⟩, by simp; omega⟩
    · intro c hc
      obtain ⟨i, hi, rfl⟩ := List.mem_map.1 hc
      exact hw i (List.mem_range.1 hi)
    · rw [flatten_pieces]
      have h7 := Nat.mul_le_mul_right es h2
      exact .inr ⟨b, 0, some c, l, by simp, h4, by simp; omega, by simp⟩
    · refine ⟨by simp, fun i c x q1 q2 => ?_⟩
      rw [List.getElem?_ofFn] at q2
      split at q2
      · rename_i hi
        cases q2
        rw [List.getElem?_map, List.getElem?_range hi] at q1
        cases q1
        exact Classical.choose_spec (hx ⟨i, hi⟩)
      · cases q2
def byteE (_ : Rd) (c : List V) (x : UInt8) : Prop := c = [byteV x]
theorem each_bytes {rd : Rd} : ∀ {cs : List (List V)} {xs : List UInt8}, Each (byteE rd) cs xs → cs.flatten = xs.map byteV
  | [], [], _ => rfl
  | [], _ :: _, h => by have := h.1; simp at this
  | _ :: _, [], h => by have := h.1; simp at this
  | c :: cs, x :: xs, h => by
    have h1 : c = [byteV x] := h.2 0 c x rfl rfl
    have h2 := each_bytes (rd := rd) (cs := cs) (xs := xs) ⟨by have := h.1; simpa using this, fun i c x q1 q2 => h.2 (i + 1) c x (by simpa using q1) (by simpa using q2)⟩
    simp [h1, h2]
theorem SlOf.bytes {rd : Rd} {v : V} {xs : List UInt8} (hs : SlOf byteE 1 rd v xs) : Bytes rd v xs := by
  obtain ⟨cs, h1, h2, h3⟩ := hs
  rw [each_bytes h3] at h2
  exact h2
theorem byte_ok {rd : Rd} {e n : Nat} {cs : List V} (hu : P.underlying e = some (.int .u8)) (ho : OkV P rd M n e cs) : ∃ x, byteE rd cs x := by
  cases n with
  | zero => exact ho.elim
  | succ n =>
    unfold OkV at ho
    simp only [hu] at ho
    obtain ⟨x, rfl, hw⟩ := ho
    have hr : 0 ≤ x ∧ x ≤ 255 := by
      simp [Lit.wf, IntKind.min, IntKind.max, IntKind.signed, IntKind.bits] at hw
      omega
    refine ⟨UInt8.ofNat x.toNat, ?_⟩
    unfold byteE byteV
    have : ((UInt8.ofNat x.toNat).toNat : Int) = x := by
      rw [UInt8.toNat_ofNat']
      omega
    rw [this]
theorem int_ok {rd : Rd} {e n : Nat} {k : IntKind} {cs : List V} (hu : P.underlying e = some (.int k)) (ho : OkV P rd M n e cs) : ∃ x, cs = [.int k x] ∧ (Lit.int k x).wf = true := by
  cases n with
  | zero => exact ho.elim
  | succ n =>
    unfold OkV at ho
    simp only [hu] at ho
    exact ho
theorem str_ok {rd : Rd} {e n : Nat} {cs : List V} (hu : P.underlying e = some .string) (ho : OkV P rd M n e cs) : ∃ x : List UInt8, cs = [.str x] ∧ x.length ≤ M := by
  cases n with
  | zero => exact ho.elim
  | succ n =>
    unfold OkV at ho
    simp only [hu] at ho
    exact ho
theorem bytes_ok {rd : Rd} {t e n : Nat} {v : V} (hu : P.underlying t = some (.slice e)) (he : P.underlying e = some (.int .u8)) (hes : P.cellsOf e = 1) (ho : OkV P rd M n t [v]) : ∃ bs, Bytes rd v bs ∧ bs.length ≤ M := by
  cases n with
  | zero => exact ho.elim
  | succ n =>
    obtain ⟨xs, h1, h2⟩ := sl_ok (Er := byteE) hu hes (fun cs hc _ => byte_ok he hc) ho
    exact ⟨xs, h1.bytes, h2⟩
theorem okA_slice {rd : Rd} {N t e : Nat} {v : V} (hu : P.underlying t = some (.slice e)) (ho : OkA P rd M N t v) : OkV P rd M N t [v] := by
  unfold OkA at ho
  simp only [hu] at ho
  exact ho
end Go.Den
