/- Light operations: what the machine's light operation tells the model's operation tells, too. -/
import Derived.Test.YtghmbmblhdgabaaRel
import Derived.Laws.StructEq
import Derived.Laws.BytesString
import Derived.Laws.BytesArg
import Derived.Lib.ConvBytes
import Derived.Laws.Entries
import Derived.Laws.Cells
import Derived.ChangeKeysEq
import Derived.WideLaws
set_option linter.all false
namespace Go.Den
open Go
variable {P : Program} {φ : Phi} {w : World}

/-! ### types -/
theorem run_typeInfo {t : TypeId} {i : TypeInfo} (h : P.info? t = some i) (w : World) : (typeInfo t).run P w = .ok i w := by
  simp [typeInfo, h]
theorem run_sizeOf {t : TypeId} {n : Nat} (h : size? P t = some n) (w : World) : (sizeOf t).run P w = .ok n w := by
  unfold size? at h
  rw [Option.map_eq_some_iff] at h
  obtain ⟨i, hi, rfl⟩ := h
  simp [sizeOf, run_typeInfo hi]
theorem run_isAgg {t : TypeId} {b : Bool} (h : agg? P t = some b) (w : World) : (isAgg t).run P w = .ok b w := by
  unfold agg? at h
  split at h
  all_goals first | (cases h; done) | skip
  · rename_i fs hu; cases h; simp [isAgg, run_underlying hu]
  · rename_i n e hu; cases h; simp [isAgg, run_underlying hu]
  · rename_i d h1 h2 hu
    cases h
    simp only [isAgg, Sem.run_bind, run_underlying hu, Result.andThen_ok]
    rfl
theorem run_zeroValue {t : TypeId} {z : V} (h : zero? P t = some z) (w : World) : ∃ z', (zeroValue t).run P w = .ok z' w ∧ VR φ z z' := by
  unfold zero? at h
  rw [Option.bind_eq_some_iff] at h
  obtain ⟨z', hz, ho⟩ := h
  rw [Option.bind_eq_some_iff] at hz
  obtain ⟨i, hi, hz⟩ := hz
  exact ⟨z', by simp [zeroValue, run_typeInfo hi, hz], ofValue_rel ho⟩

/-! ### parts -/
theorem partV_rel {t : TypeId} {cs : List V} {off : Nat} {v : V} (h : partV P t cs off = some v) {cs' : List Value} (hc : VRs φ cs cs') (w : World) :
    ∃ v', (part t ⟨cs'⟩ off).run P w = .ok v' w ∧ VR φ v v' := by
  unfold partV at h
  split at h
  · rename_i n ha hs
    split at h
    · rename_i hle
      cases h
      refine ⟨.agg ⟨(cs'.drop off).take n⟩, ?_, .agg ((hc.drop off).take n)⟩
      simp only [part, Sem.run_bind, run_isAgg ha, run_sizeOf hs, Result.andThen_ok, if_true, Sem.run_pure]
      congr 2
      apply Array.ext'
      simp [List.extract_eq_take_drop]
    · cases h
  · rename_i n ha hs
    obtain ⟨v', hv, hr⟩ := hc.get off v h
    refine ⟨v', ?_, hr⟩
    simp [part, run_isAgg ha, hv]
  · cases h
theorem fieldV_rel {t : TypeId} {x v : V} {f : Nat} (h : fieldV P t x f = some v) {x' : Value} (hx : VR φ x x') (w : World) :
    ∃ v', (Instr.field t x' f).run P w = .ok v' w ∧ VR φ v v' := by
  unfold fieldV at h
  split at h
  · rename_i fs cs hu
    cases hx with
    | agg hc =>
      split at h
      · rename_i f hf
        obtain ⟨v', h1, h2⟩ := partV_rel h hc w
        exact ⟨v', by simp [Instr.field, run_underlying hu, hf, asAgg, h1], h2⟩
      · cases h
  · cases h
theorem bytes_get (s : List UInt8) (i : Nat) : (⟨⟨s⟩⟩ : ByteArray)[i]? = s[i]? := by
  by_cases h : i < s.length
  · rw [ByteArray.getElem?_lt' _ _ (by simpa [ByteArray.size] using h), List.getElem?_eq_getElem h]; rfl
  · rw [ByteArray.getElem?_ge' _ _ (by simpa [ByteArray.size] using h), List.getElem?_eq_none (by omega)]
theorem indexV_rel {t : TypeId} {x ix v : V} (h : indexV P t x ix = some v) {x' ix' : Value} (hx : VR φ x x') (hi : VR φ ix ix') (w : World) :
    ∃ v', (Instr.index t x' ix').run P w = .ok v' w ∧ VR φ v v' := by
  unfold indexV at h
  split at h
  · rename_i n e cs k i hu
    cases hi
    cases hx with
    | agg hc =>
      split at h
      · rename_i hb
        split at h
        · rename_i s hs
          obtain ⟨v', h1, h2⟩ := partV_rel h hc w
          exact ⟨v', by simp [Instr.index, asIntOf, run_underlying hu, hb, run_sizeOf hs, h1], h2⟩
        · cases h
      · cases h
  · rename_i s k i hu
    cases hi
    cases hx
    split at h
    · rename_i hb
      split at h
      · rename_i b hb'
        cases h
        exact ⟨_, by simp [Instr.index, asIntOf, run_underlying hu, hb, bytes_get, hb'], .int _ _⟩
      · cases h
    · cases h
  · cases h

/-! ### numbers and texts -/
theorem intOp_rel {op : BinOp} {k : IntKind} {a b : Int} {v : V} (h : intOp op k a b = some v) (hs : op ≠ .shl) (hr : op ≠ .shr) (t : TypeId) (w : World) :
    ∃ v', (binOp op t (.int k a) (.int k b)).run P w = .ok v' w ∧ VR φ v v' := by
  cases op <;> simp only [intOp] at h <;> try contradiction
  all_goals first
    | (cases h; refine ⟨_, ?_, .int _ _⟩; simp [binOp, Op.intArith, Op.intBits]; done)
    | (cases h; refine ⟨_, ?_, .bool _⟩; simp [binOp, Op.intCmp]; done)
    | (split at h
       · cases h
       · rename_i hb
         cases h
         refine ⟨_, ?_, .int _ _⟩
         simp [binOp, Op.intDiv, hb])
theorem shiftOp_rel {op : BinOp} {k yk : IntKind} {a b : Int} {v : V} (h : shiftOp op k a b = some v) (w : World) :
    ∃ v', (Op.shift op k a yk b).run P w = .ok v' w ∧ VR φ v v' := by
  unfold shiftOp at h
  split at h
  · cases h
  · rename_i hb
    split at h
    · cases h; exact ⟨_, by simp [Op.shift, hb], .int _ _⟩
    · cases h; exact ⟨_, by simp [Op.shift, hb], .int _ _⟩
    · cases h
theorem bytesLess_eq : ∀ (x y : List UInt8), Op.bytesLess x y = bytesLess x y
  | _, [] => by simp [Op.bytesLess, bytesLess]
  | [], _ :: _ => by simp [Op.bytesLess, bytesLess]
  | a :: x, b :: y => by
    simp only [Op.bytesLess, bytesLess, bytesLess_eq x y]
    congr 2
theorem strOp_rel {op : BinOp} {x y : List UInt8} {v : V} (h : strOp op x y = some v) (w : World) :
    ∃ v', (Op.stringOp op ⟨⟨x⟩⟩ ⟨⟨y⟩⟩).run P w = .ok v' w ∧ VR φ v v' := by
  have e : ∀ l : List UInt8, (⟨⟨l⟩⟩ : ByteArray).toList = l := fun l => by simp [ByteArray.toList_eq]
  have beq : (x == y) = decide (x = y) := by rw [Bool.eq_iff_iff]; simp
  cases op <;> simp only [strOp] at h <;> try contradiction
  · split at h
    · rename_i hl
      cases h
      have hl' : ¬ (((x.length + y.length : Nat) : Int) > 9223372036854775807) := by omega
      refine ⟨.string ⟨⟨x ++ y⟩⟩, ?_, .str _⟩
      have e1 : ((⟨⟨x⟩⟩ : ByteArray).size + (⟨⟨y⟩⟩ : ByteArray).size : Nat) = x.length + y.length := rfl
      have e2 : (⟨⟨x⟩⟩ : ByteArray) ++ (⟨⟨y⟩⟩ : ByteArray) = ⟨⟨x ++ y⟩⟩ := by
        apply ByteArray.ext
        simp [ByteArray.data_append]
      simp only [Op.stringOp, e1, IntKind.max_i64, if_neg hl', Sem.run_pure, e2]
    · cases h
  all_goals (cases h; exact ⟨_, by simp only [Op.stringOp, e, beq, bytesLess_eq, Sem.run_pure], .bool _⟩)

/-! ### equality -/
theorem eqScalar_rel {d : TypeDesc} {x y : V} {b : Bool} (h : eqScalar d x y = some b) {x' y' : Value} (hx : VR φ x x') (hy : VR φ y y') {t : TypeId} (hu : P.underlying t = some d)
    (n : Nat) (w : World) : (Op.equalIn (n + 1) t x' y').run P w = .ok b w := by
  have e : ∀ l : List UInt8, (⟨⟨l⟩⟩ : ByteArray).toList = l := fun l => by simp [ByteArray.toList_eq]
  unfold eqScalar at h
  split at h
  all_goals first | (cases h; done) | skip
  all_goals (split at h)
  all_goals first | (cases h; done) | skip
  all_goals (cases hx; cases hy)
  · cases h; simp [Op.equalIn, run_underlying hu]
  · split at h
    · rename_i hk; cases h; simp [Op.equalIn, run_underlying hu, hk]
    · cases h
  · cases h
    rename_i a b
    rw [run_equalIn_string w n t _ _ hu, e, e]
    congr 1
    rw [Bool.eq_iff_iff]; simp
  all_goals (cases h; simp [Op.equalIn, run_underlying hu])
def plainD (d : TypeDesc) : Bool := match d with
  | .struct _ => false
  | .array _ _ => false
  | _ => true
theorem partScalar {t : TypeId} {d : TypeDesc} (hu : P.underlying t = some d) (hd : plainD d = true) {cs' : List Value} {off : Nat} {v' : Value}
    (hv : cs'[off]? = some v') (w : World) : (part t ⟨cs'⟩ off).run P w = .ok v' w := by
  have ha : agg? P t = some false := by
    unfold agg?
    rw [hu]
    cases d <;> first | rfl | (simp [plainD] at hd)
  simp [part, run_isAgg ha, hv]
theorem eqScalar_plain {d : TypeDesc} {x y : V} {b : Bool} (h : eqScalar d x y = some b) : plainD d = true := by
  cases d <;> first
    | rfl
    | (exfalso; unfold eqScalar at h; split at h <;> simp at h)
theorem eqFields_rel : ∀ {fs : List Field} {xs ys : List V} {b : Bool}, eqFields P fs xs ys = some b → ∀ {xs' ys' : List Value}, VRs φ xs xs' → VRs φ ys ys' → ∀ (n : Nat) (w : World),
    (Op.eqFields (n + 1) ⟨xs'⟩ ⟨ys'⟩ fs).run P w = .ok b w
  | [], xs, ys, b, h, xs', ys', hx, hy, n, w => by cases h; simp [Op.eqFields]
  | f :: fs, xs, ys, b, h, xs', ys', hx, hy, n, w => by
    unfold eqFields at h
    split at h
    · cases h
    · rename_i hname
      split at h
      · rename_i d x y hu hgx hgy
        obtain ⟨x', hx1, hx2⟩ := hx.get _ _ hgx
        obtain ⟨y', hy1, hy2⟩ := hy.get _ _ hgy
        split at h
        · rename_i hs
          have hd := eqScalar_plain hs
          simp only [Op.eqFields, ne_eq, hname, not_false_eq_true, if_true, Sem.run_bind, partScalar hu hd hx1, partScalar hu hd hy1, Result.andThen_ok, eqScalar_rel hs hx2 hy2 hu]
          simpa using eqFields_rel h hx hy n w
        · rename_i hs
          have hd := eqScalar_plain hs
          cases h
          simp [Op.eqFields, hname, partScalar hu hd hx1, partScalar hu hd hy1, eqScalar_rel hs hx2 hy2 hu]
        · cases h
      · cases h
theorem eqElems_rel {d : TypeDesc} {e : TypeId} (hu : P.underlying e = some d) : ∀ {k i : Nat} {xs ys : List V} {b : Bool}, eqElems d k i xs ys = some b → ∀ {xs' ys' : List Value}, VRs φ xs xs' → VRs φ ys ys' → ∀ (n : Nat) (w : World),
    (Op.eqItems (n + 1) e 1 ⟨xs'⟩ ⟨ys'⟩ (List.range' i k)).run P w = .ok b w
  | 0, i, xs, ys, b, h, xs', ys', hx, hy, n, w => by cases h; simp [Op.eqItems]
  | k + 1, i, xs, ys, b, h, xs', ys', hx, hy, n, w => by
    unfold eqElems at h
    split at h
    · rename_i x y hgx hgy
      obtain ⟨x', hx1, hx2⟩ := hx.get _ _ hgx
      obtain ⟨y', hy1, hy2⟩ := hy.get _ _ hgy
      split at h
      · rename_i hs
        have hd := eqScalar_plain hs
        simp only [List.range'_succ, Op.eqItems, Nat.mul_one, Sem.run_bind, partScalar hu hd hx1, partScalar hu hd hy1, Result.andThen_ok, eqScalar_rel hs hx2 hy2 hu]
        simpa using eqElems_rel hu h hx hy n w
      · rename_i hs
        have hd := eqScalar_plain hs
        cases h
        simp [List.range'_succ, Op.eqItems, partScalar hu hd hx1, partScalar hu hd hy1, eqScalar_rel hs hx2 hy2 hu]
      · cases h
    · cases h
end Go.Den
