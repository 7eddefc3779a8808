/- Light operations: what the machine's light operation tells the model's operation tells, too. -/
import Derived.Test.YtghmbmblhdgabaaDoorDenA
import Derived.Laws.StructEq
import Derived.Laws.BytesString
import Derived.Laws.BytesArg
import Derived.Lib.ConvBytes
import Derived.Laws.Entries
import Derived.Laws.Cells
import Derived.ChangeKeysEq
import Derived.WideLaws
import Derived.Laws.MakeOwn
import Derived.Lib.Strings
set_option linter.all false
namespace Go.Den
open Go
variable {P : Program} {φ : Phi} {w : World}

/-! ### types -/
theorem run_typeInfo {t : TypeId} {i : TypeInfo} (h : P.info? t = some i) (w : World) : (typeInfo t).run P w = .ok i w := by
  simp [typeInfo, h]
theorem run_sizeOf {t : TypeId} {n : Nat} (h : size? P t = some n) (w : World) : (sizeOf t).run P w = .ok n w := by
  unfold size? at h
  rw [Option.map_eq_some_iff] at h
  obtain ⟨i, hi, rfl⟩ := h
  simp [sizeOf, run_typeInfo hi]
theorem run_isAgg {t : TypeId} {b : Bool} (h : agg? P t = some b) (w : World) : (isAgg t).run P w = .ok b w := by
  unfold agg? at h
  split at h
  all_goals first | (cases h; done) | skip
  · rename_i fs hu; cases h; simp [isAgg, run_underlying hu]
  · rename_i n e hu; cases h; simp [isAgg, run_underlying hu]
  · rename_i d h1 h2 hu
    cases h
    simp only [isAgg, Sem.run_bind, run_underlying hu, Result.andThen_ok]
    rfl
theorem run_zeroValue {t : TypeId} {z : V} (h : zero? P t = some z) (w : World) : ∃ z', (zeroValue t).run P w = .ok z' w ∧ VR φ z z' := by
  unfold zero? at h
  rw [Option.bind_eq_some_iff] at h
  obtain ⟨z', hz, ho⟩ := h
  rw [Option.bind_eq_some_iff] at hz
  obtain ⟨i, hi, hz⟩ := hz
  exact ⟨z', by simp [zeroValue, run_typeInfo hi, hz], ofValue_rel ho⟩

/-! ### parts -/
theorem partV_rel {t : TypeId} {cs : List V} {off : Nat} {v : V} (h : partV P t cs off = some v) {cs' : List Value} (hc : VRs φ cs cs') (w : World) :
    ∃ v', (part t ⟨cs'⟩ off).run P w = .ok v' w ∧ VR φ v v' := by
  unfold partV at h
  split at h
  · rename_i n ha hs
    split at h
    · rename_i hle
      cases h
      refine ⟨.agg ⟨(cs'.drop off).take n⟩, ?_, .agg ((hc.drop off).take n)⟩
      simp only [part, Sem.run_bind, run_isAgg ha, run_sizeOf hs, Result.andThen_ok, if_true, Sem.run_pure]
      congr 2
      apply Array.ext'
      simp [List.extract_eq_take_drop]
    · cases h
  · rename_i n ha hs
    obtain ⟨v', hv, hr⟩ := hc.get off v h
    refine ⟨v', ?_, hr⟩
    simp [part, run_isAgg ha, hv]
  · cases h
theorem fieldV_rel {t : TypeId} {x v : V} {f : Nat} (h : fieldV P t x f = some v) {x' : Value} (hx : VR φ x x') (w : World) :
    ∃ v', (Instr.field t x' f).run P w = .ok v' w ∧ VR φ v v' := by
  unfold fieldV at h
  split at h
  · rename_i fs cs hu
    cases hx with
    | agg hc =>
      split at h
      · rename_i f hf
        obtain ⟨v', h1, h2⟩ := partV_rel h hc w
        exact ⟨v', by simp [Instr.field, run_underlying hu, hf, asAgg, h1], h2⟩
      · cases h
  · cases h
theorem bytes_get (s : List UInt8) (i : Nat) : (⟨⟨s⟩⟩ : ByteArray)[i]? = s[i]? := by
  by_cases h : i < s.length
  · rw [ByteArray.getElem?_lt' _ _ (by simpa [ByteArray.size] using h), List.getElem?_eq_getElem h]; rfl
  · rw [ByteArray.getElem?_ge' _ _ (by simpa [ByteArray.size] using h), List.getElem?_eq_none (by omega)]
theorem indexV_rel {t : TypeId} {x ix v : V} (h : indexV P t x ix = some v) {x' ix' : Value} (hx : VR φ x x') (hi : VR φ ix ix') (w : World) :
    ∃ v', (Instr.index t x' ix').run P w = .ok v' w ∧ VR φ v v' := by
  unfold indexV at h
  split at h
  · rename_i n e cs k i hu
    cases hi
    cases hx with
    | agg hc =>
      split at h
      · rename_i hb
        split at h
        · rename_i s hs
          obtain ⟨v', h1, h2⟩ := partV_rel h hc w
          exact ⟨v', by simp [Instr.index, asIntOf, run_underlying hu, hb, run_sizeOf hs, h1], h2⟩
        · cases h
      · cases h
  · rename_i s k i hu
    cases hi
    cases hx
    split at h
    · rename_i hb
      split at h
      · rename_i b hb'
        cases h
        exact ⟨_, by simp [Instr.index, asIntOf, run_underlying hu, hb, bytes_get, hb'], .int _ _⟩
      · cases h
    · cases h
  · cases h

/-! ### numbers and texts -/
theorem intOp_rel {op : BinOp} {k : IntKind} {a b : Int} {v : V} (h : intOp op k a b = some v) (hs : op ≠ .shl) (hr : op ≠ .shr) (t : TypeId) (w : World) :
    ∃ v', (binOp op t (.int k a) (.int k b)).run P w = .ok v' w ∧ VR φ v v' := by
  cases op <;> simp only [intOp] at h <;> try contradiction
  all_goals first
    | (cases h; refine ⟨_, ?_, .int _ _⟩; simp [binOp, Op.intArith, Op.intBits]; done)
    | (cases h; refine ⟨_, ?_, .bool _⟩; simp [binOp, Op.intCmp]; done)
    | (split at h
       · cases h
       · rename_i hb
         cases h
         refine ⟨_, ?_, .int _ _⟩
         simp [binOp, Op.intDiv, hb])
theorem shiftOp_rel {op : BinOp} {k yk : IntKind} {a b : Int} {v : V} (h : shiftOp op k a b = some v) (w : World) :
    ∃ v', (Op.shift op k a yk b).run P w = .ok v' w ∧ VR φ v v' := by
  unfold shiftOp at h
  split at h
  · cases h
  · rename_i hb
    split at h
    · cases h; exact ⟨_, by simp [Op.shift, hb], .int _ _⟩
    · cases h; exact ⟨_, by simp [Op.shift, hb], .int _ _⟩
    · cases h
theorem bytesLess_eq : ∀ (x y : List UInt8), Op.bytesLess x y = bytesLess x y
  | _, [] => by simp [Op.bytesLess, bytesLess]
  | [], _ :: _ => by simp [Op.bytesLess, bytesLess]
  | a :: x, b :: y => by
    simp only [Op.bytesLess, bytesLess, bytesLess_eq x y]
    congr 2
theorem strOp_rel {op : BinOp} {x y : List UInt8} {v : V} (h : strOp op x y = some v) (w : World) :
    ∃ v', (Op.stringOp op ⟨⟨x⟩⟩ ⟨⟨y⟩⟩).run P w = .ok v' w ∧ VR φ v v' := by
  have e : ∀ l : List UInt8, (⟨⟨l⟩⟩ : ByteArray).toList = l := fun l => by simp [ByteArray.toList_eq]
  have beq : (x == y) = decide (x = y) := by rw [Bool.eq_iff_iff]; simp
  cases op <;> simp only [strOp] at h <;> try contradiction
  · split at h
    · rename_i hl
      cases h
      have hl' : ¬ (((x.length + y.length : Nat) : Int) > 9223372036854775807) := by omega
      refine ⟨.string ⟨⟨x ++ y⟩⟩, ?_, .str _⟩
      have e1 : ((⟨⟨x⟩⟩ : ByteArray).size + (⟨⟨y⟩⟩ : ByteArray).size : Nat) = x.length + y.length := rfl
      have e2 : (⟨⟨x⟩⟩ : ByteArray) ++ (⟨⟨y⟩⟩ : ByteArray) = ⟨⟨x ++ y⟩⟩ := by
        apply ByteArray.ext
        simp [ByteArray.data_append]
      simp only [Op.stringOp, e1, IntKind.max_i64, if_neg hl', Sem.run_pure, e2]
    · cases h
  all_goals (cases h; exact ⟨_, by simp only [Op.stringOp, e, beq, bytesLess_eq, Sem.run_pure], .bool _⟩)

/-! ### equality -/
theorem eqScalar_rel {d : TypeDesc} {x y : V} {b : Bool} (h : eqScalar d x y = some b) {x' y' : Value} (hx : VR φ x x') (hy : VR φ y y') {t : TypeId} (hu : P.underlying t = some d)
    (n : Nat) (w : World) : (Op.equalIn (n + 1) t x' y').run P w = .ok b w := by
  have e : ∀ l : List UInt8, (⟨⟨l⟩⟩ : ByteArray).toList = l := fun l => by simp [ByteArray.toList_eq]
  unfold eqScalar at h
  split at h
  all_goals first | (cases h; done) | skip
  all_goals (split at h)
  all_goals first | (cases h; done) | skip
  all_goals (cases hx; cases hy)
  · cases h; simp [Op.equalIn, run_underlying hu]
  · split at h
    · rename_i hk; cases h; simp [Op.equalIn, run_underlying hu, hk]
    · cases h
  · cases h
    rename_i a b
    rw [run_equalIn_string w n t _ _ hu, e, e]
    congr 1
    rw [Bool.eq_iff_iff]; simp
  all_goals (cases h; simp [Op.equalIn, run_underlying hu])
def plainD (d : TypeDesc) : Bool := match d with
  | .struct _ => false
  | .array _ _ => false
  | _ => true
theorem partScalar {t : TypeId} {d : TypeDesc} (hu : P.underlying t = some d) (hd : plainD d = true) {cs' : List Value} {off : Nat} {v' : Value}
    (hv : cs'[off]? = some v') (w : World) : (part t ⟨cs'⟩ off).run P w = .ok v' w := by
  have ha : agg? P t = some false := by
    unfold agg?
    rw [hu]
    cases d <;> first | rfl | (simp [plainD] at hd)
  simp [part, run_isAgg ha, hv]
theorem eqScalar_plain {d : TypeDesc} {x y : V} {b : Bool} (h : eqScalar d x y = some b) : plainD d = true := by
  cases d <;> first
    | rfl
    | (exfalso; unfold eqScalar at h; split at h <;> simp at h)
theorem eqFields_rel : ∀ {fs : List Field} {xs ys : List V} {b : Bool}, eqFields P fs xs ys = some b → ∀ {xs' ys' : List Value}, VRs φ xs xs' → VRs φ ys ys' → ∀ (n : Nat) (w : World),
    (Op.eqFields (n + 1) ⟨xs'⟩ ⟨ys'⟩ fs).run P w = .ok b w
  | [], xs, ys, b, h, xs', ys', hx, hy, n, w => by cases h; simp [Op.eqFields]
  | f :: fs, xs, ys, b, h, xs', ys', hx, hy, n, w => by
    unfold eqFields at h
    split at h
    · cases h
    · rename_i hname
      split at h
      · rename_i d x y hu hgx hgy
        obtain ⟨x', hx1, hx2⟩ := hx.get _ _ hgx
        obtain ⟨y', hy1, hy2⟩ := hy.get _ _ hgy
        split at h
        · rename_i hs
          have hd := eqScalar_plain hs
          simp only [Op.eqFields, ne_eq, hname, not_false_eq_true, if_true, Sem.run_bind, partScalar hu hd hx1, partScalar hu hd hy1, Result.andThen_ok, eqScalar_rel hs hx2 hy2 hu]
          simpa using eqFields_rel h hx hy n w
        · rename_i hs
          have hd := eqScalar_plain hs
          cases h
          simp [Op.eqFields, hname, partScalar hu hd hx1, partScalar hu hd hy1, eqScalar_rel hs hx2 hy2 hu]
        · cases h
      · cases h
theorem eqElems_rel {d : TypeDesc} {e : TypeId} (hu : P.underlying e = some d) : ∀ {k i : Nat} {xs ys : List V} {b : Bool}, eqElems d k i xs ys = some b → ∀ {xs' ys' : List Value}, VRs φ xs xs' → VRs φ ys ys' → ∀ (n : Nat) (w : World),
    (Op.eqItems (n + 1) e 1 ⟨xs'⟩ ⟨ys'⟩ (List.range' i k)).run P w = .ok b w
  | 0, i, xs, ys, b, h, xs', ys', hx, hy, n, w => by cases h; simp [Op.eqItems]
  | k + 1, i, xs, ys, b, h, xs', ys', hx, hy, n, w => by
    unfold eqElems at h
    split at h
    · rename_i x y hgx hgy
      obtain ⟨x', hx1, hx2⟩ := hx.get _ _ hgx
      obtain ⟨y', hy1, hy2⟩ := hy.get _ _ hgy
      split at h
      · rename_i hs
        have hd := eqScalar_plain hs
        simp only [List.range'_succ, Op.eqItems, Nat.mul_one, Sem.run_bind, partScalar hu hd hx1, partScalar hu hd hy1, Result.andThen_ok, eqScalar_rel hs hx2 hy2 hu]
        simpa using eqElems_rel hu h hx hy n w
      · rename_i hs
        have hd := eqScalar_plain hs
        cases h
        simp [List.range'_succ, Op.eqItems, partScalar hu hd hx1, partScalar hu hd hy1, eqScalar_rel hs hx2 hy2 hu]
      · cases h
    · cases h
end Go.Den
/- Light operations, continued: tests of equality, values that are built, addresses, cuts. -/
namespace Go.Den
open Go
variable {P : Program} {φ : Phi} {w : World}

theorem eqOp_rel {t : TypeId} {x y : V} {b : Bool} (h : eqOp P t x y = some b) {x' y' : Value} (hx : VR φ x x') (hy : VR φ y y') (w : World) :
    (Op.equal t x' y').run P w = .ok b w ∧ ∀ op xo yo, (eqGuard op t xo yo x' y').run P w = .ok () w := by
  have hm : Op.maxDepth = 9998 + 1 + 1 := rfl
  unfold eqOp at h
  split at h
  · rename_i fs hu
    split at h
    · rename_i xs ys
      split at h
      · cases h
      · rename_i hg
        rw [Bool.or_eq_true, not_or] at hg
        simp only [Bool.not_eq_true] at hg
        cases hx with
        | agg hx =>
        cases hy with
        | agg hy =>
        have hfs : P.fieldsOf t = fs := by unfold Program.fieldsOf; rw [hu]
        refine ⟨?_, fun op xo yo => run_eqGuard_agg w op t xo yo _ _ hg.2⟩
        unfold Op.equal
        rw [hm, run_equalIn_struct w _ t _ _ (by rw [hfs]; exact hu) hg.1, hfs]
        exact eqFields_rel h hx hy _ w
    · cases h
  · rename_i n e hu
    split at h
    · rename_i xs ys
      split at h
      · rename_i d he hsz
        split at h
        · cases h
        · rename_i hg
          simp only [Bool.not_eq_true] at hg
          cases hx with
          | agg hx =>
          cases hy with
          | agg hy =>
          refine ⟨?_, fun op xo yo => run_eqGuard_agg w op t xo yo _ _ hg⟩
          unfold size? at hsz
          rw [Option.map_eq_some_iff] at hsz
          obtain ⟨i, hi, h1⟩ := hsz
          have hc : P.cellsOf e = 1 := by unfold Program.cellsOf; rw [hi]; exact h1
          unfold Op.equal
          rw [hm, run_equalIn_array w _ _ _ hu hi, hc, List.range_eq_range']
          exact eqElems_rel he h hx hy _ w
      · cases h
    · cases h
  · rename_i d h1 h2 hu
    refine ⟨?_, fun op xo yo => ?_⟩
    · unfold Op.equal
      rw [hm]
      exact eqScalar_rel h hx hy hu _ w
    · unfold eqScalar at h
      split at h
      all_goals first | (cases h; done) | skip
      all_goals (cases hx; cases hy; simp only [eqGuard_at_bool, eqGuard_at_int, eqGuard_at_string, eqGuard_at_pointer, eqGuard_at_slice, eqGuard_at_map, eqGuard_at_func, eqGuard_at_nilFunc, Sem.run_pure])
  · cases h

theorem binOp_eql_other {t : TypeId} {x y : V} {x' y' : Value} (hx : VR φ x x') (hy : VR φ y y') (h1 : ∀ k a k' b, x = .int k a → y = .int k' b → False) (h2 : ∀ a b, x = .str a → y = .str b → False) :
    binOp .eql t x' y' = (do pure (.bool (← Op.equal t x' y'))) ∧ binOp .neq t x' y' = (do pure (.bool (!(← Op.equal t x' y')))) := by
  cases hx <;> cases hy <;> first
    | exact ⟨rfl, rfl⟩
    | exact (h1 _ _ _ _ rfl rfl).elim
    | exact (h2 _ _ rfl rfl).elim

theorem binV_rel {op : BinOp} {t : TypeId} {x y v : V} (h : binV P op t x y = some v) {x' y' : Value} (hx : VR φ x x') (hy : VR φ y y') (xo yo : Operand) (w : World) :
    ∃ v', (do eqGuard op t xo yo x' y'; binOp op t x' y').run P w = .ok v' w ∧ VR φ v v' := by
  unfold binV at h
  split at h
  · rename_i k a k' b
    cases hx; cases hy
    simp only [Sem.run_bind, eqGuard_at_int, Sem.run_pure, Result.andThen_ok]
    split at h
    · rw [binOp_shl]; exact shiftOp_rel h w
    · rw [binOp_shr]; exact shiftOp_rel h w
    · rename_i hs hr
      split at h
      · rename_i hk
        subst hk
        exact intOp_rel h hs hr t w
      · cases h
  · rename_i a b
    cases hx; cases hy
    simp only [Sem.run_bind, eqGuard_at_string, Sem.run_pure, Result.andThen_ok]
    have e : binOp op t (.string ⟨⟨a⟩⟩) (.string ⟨⟨b⟩⟩) = Op.stringOp op ⟨⟨a⟩⟩ ⟨⟨b⟩⟩ := by cases op <;> rfl
    rw [e]
    exact strOp_rel h w
  · rename_i h1 h2
    have hb := binOp_eql_other (t := t) hx hy (fun k a k' b e1 e2 => h1 k a k' b e1 e2) (fun a b e1 e2 => h2 a b e1 e2)
    split at h
    · rw [Option.map_eq_some_iff] at h
      obtain ⟨b, he, rfl⟩ := h
      obtain ⟨r1, r2⟩ := eqOp_rel he hx hy w
      exact ⟨_, by rw [hb.1]; simp [r1, r2], .bool _⟩
    · rw [Option.map_eq_some_iff] at h
      obtain ⟨b, he, rfl⟩ := h
      obtain ⟨r1, r2⟩ := eqOp_rel he hx hy w
      exact ⟨_, by rw [hb.2]; simp [r1, r2], .bool _⟩
    · cases h

theorem unV_rel {op : UnOp} {x v : V} (h : unV op x = some v) {x' : Value} (hx : VR φ x x') (w : World) :
    ∃ v', (Op.unary op x').run P w = .ok v' w ∧ VR φ v v' := by
  unfold unV at h
  split at h
  · cases hx; cases h; exact ⟨_, by simp [Op.unary, Op.intArith], .int _ _⟩
  · cases hx
    simp only [intOp, Option.some.injEq] at h
    subst h
    exact ⟨_, by simp [Op.unary, Op.intBits], .int _ _⟩
  · cases hx; cases h; exact ⟨_, by simp [Op.unary], .bool _⟩
  · cases h

/-! ### values that are built -/
theorem foldl_set (cs : List Value) : ∀ (off : Nat) (c : Array Value), off + cs.length ≤ c.size →
    ((cs.toArray.zipIdx.foldl (fun (a : Array Value) (p : Value × Nat) => a.setIfInBounds (off + p.2) p.1) c)).toList = c.toList.take off ++ cs ++ c.toList.drop (off + cs.length) := by
  have key : ∀ (cs : List Value) (i off : Nat) (c : Array Value), off + i + cs.length ≤ c.size →
      ((cs.zipIdx i).foldl (fun (a : Array Value) (p : Value × Nat) => a.setIfInBounds (off + p.2) p.1) c).toList = c.toList.take (off + i) ++ cs ++ c.toList.drop (off + i + cs.length) := by
    intro cs
    induction cs with
    | nil => intro i off c h; simp
    | cons v r ih =>
      intro i off c h
      simp only [List.length_cons] at h
      rw [List.zipIdx_cons, List.foldl_cons, ih (i + 1) off _ (by simp; omega)]
      simp only [Array.toList_setIfInBounds, List.length_cons]
      have hi : off + i < c.toList.length := by simp; omega
      rw [show off + (i + 1) = off + i + 1 from by omega, show off + i + 1 + r.length = off + i + (r.length + 1) from by omega]
      rw [List.take_set, List.drop_set_of_lt (by omega)]
      rw [List.take_succ_eq_append_getElem (by simpa using hi)]
      have hm : min (off + i) c.size = off + i := Nat.min_eq_left (by simpa using Nat.le_of_lt hi)
      rw [List.set_append_right _ _ (by simp [hm])]
      simp [hm]
  intro off c h
  rw [← Array.foldl_toList]
  simpa using key cs 0 off c (by simpa using h)
theorem fill1_rel {cells cs r : List V} {off : Nat} (h : fill1 cells off cs = some r) {cells' cs' : List Value} (hc : VRs φ cells cells') (hs : VRs φ cs cs') :
    off + cs.length ≤ cells.length ∧ VRs φ r (cells'.take off ++ cs' ++ cells'.drop (off + cs'.length)) := by
  unfold fill1 at h
  split at h
  · rename_i hle
    cases h
    refine ⟨hle, ((hc.take off).append hs).append ?_⟩
    rw [← hs.length]
    exact hc.drop _
  · cases h
inductive PR (φ : Phi) : List (Nat × V) → List (Nat × Value) → Prop
  | nil : PR φ [] []
  | cons {i : Nat} {v : V} {v' : Value} {r : List (Nat × V)} {r' : List (Nat × Value)} (h : VR φ v v') (hr : PR φ r r') : PR φ ((i, v) :: r) ((i, v') :: r')
theorem fillV_rel {place place' : Nat → Option (Nat × Nat)} (hp : ∀ i p, place i = some p → place' i = some p) :
    ∀ {parts : List (Nat × V)} {cells r : List V}, fillV place cells parts = some r → ∀ {parts' : List (Nat × Value)} {cells' : List Value}, PR φ parts parts' → VRs φ cells cells' →
      ∃ r', Instr.fill place' ⟨cells'⟩ parts' = some ⟨r'⟩ ∧ VRs φ r r'
  | [], cells, r, h, parts', cells', hps, hc => by
    cases hps
    cases h
    exact ⟨cells', rfl, hc⟩
  | (i, v) :: parts, cells, r, h, parts', cells', hps, hc => by
    cases hps with
    | cons hv hr =>
    rename_i v' r''
    unfold fillV at h
    split at h
    · rename_i off size hpl
      split at h
      · rename_i hsz
        split at h
        · rename_i cs hf
          have hvc := hv.cells
          have hlen := hvc.length
          obtain ⟨hle, hcs⟩ := fill1_rel hf hc hvc
          have hcl := hc.length
          obtain ⟨r', h1, h2⟩ := fillV_rel hp h hr hcs
          refine ⟨r', ?_, h2⟩
          have e1 : v'.cells.size = v'.cells.toList.length := by simp
          unfold Instr.fill
          rw [hp _ _ hpl]
          simp only []
          rw [if_neg (by
            simp only [Bool.or_eq_true, decide_eq_true_eq, not_or, ne_eq, Decidable.not_not]
            refine ⟨by rw [e1, ← hlen, hsz], ?_⟩
            rw [e1, ← hlen]
            simp
            omega)]
          rw [← h1]
          congr 1
          apply Array.ext'
          have := foldl_set v'.cells.toList off ⟨cells'⟩ (by rw [← hlen]; simp; omega)
          simpa using this
        · cases h
      · cases h
    · cases h
theorem run_mapM_sem {α β : Type} (f : α → Sem β) (g : α → β) (w : World) : ∀ (l : List α), (∀ a ∈ l, (f a).run P w = .ok (g a) w) → (l.mapM f).run P w = .ok (l.map g) w
  | [], _ => by simp
  | a :: r, h => by
    rw [List.mapM_cons]
    simp [h a (by simp), run_mapM_sem f g w r (fun b hb => h b (by simp [hb]))]
theorem buildV_rel {t : TypeId} {parts : List (Nat × V)} {v : V} (h : buildV P t parts = some v) {parts' : List (Nat × Value)} (hps : PR φ parts parts') (w : World) :
    ∃ v', (Instr.build t ⟨parts'⟩).run P w = .ok v' w ∧ VR φ v v' := by
  unfold buildV at h
  split at h
  · rename_i z fs hz hu
    obtain ⟨z', hz1, hz2⟩ := run_zeroValue (φ := φ) hz w
    split at h
    · rename_i hall
      rw [Option.map_eq_some_iff] at h
      obtain ⟨r, hf, rfl⟩ := h
      have hsz : ∀ f ∈ fs.toList, ∃ n, size? P f.type = some n := by
        intro f hf
        rw [List.all_eq_true] at hall
        have := hall f hf
        rw [Option.isSome_iff_exists] at this
        exact this
      let g : Field → Nat × Nat := fun f => (f.offset, (size? P f.type).getD 0)
      have hmap : (fs.mapM fun f => do pure (f.offset, ← sizeOf f.type) : Sem (Array (Nat × Nat))).run P w = .ok (fs.map g) w := by
        rw [Array.mapM_eq_mapM_toList]
        simp only [Sem.run_map]
        rw [run_mapM_sem _ g w fs.toList (fun f hf => by
          obtain ⟨n, hn⟩ := hsz f hf
          simp [run_sizeOf hn, g, hn])]
        simp only [Result.andThen_ok]
        congr 1
        apply Array.ext'
        simp
      obtain ⟨r', h1, h2⟩ := fillV_rel (place := structPlace P fs) (place' := ((fs.map g)[·]?)) (by
        intro i p hp
        unfold structPlace at hp
        split at hp
        · rename_i f hf
          rw [Option.map_eq_some_iff] at hp
          obtain ⟨s, hs, rfl⟩ := hp
          simp [hf, g, hs]
        · cases hp) hf hps hz2.cells
      refine ⟨.agg ⟨r'⟩, ?_, .agg h2⟩
      have e : (⟨z'.cells.toList⟩ : Array Value) = z'.cells := by simp
      rw [e] at h1
      simp only [Instr.build, Sem.run_bind, hz1, Result.andThen_ok, run_underlying hu, hmap, h1, Sem.run_pure]
    · cases h
  · rename_i z n e hz hu
    obtain ⟨z', hz1, hz2⟩ := run_zeroValue (φ := φ) hz w
    split at h
    · rename_i s hs
      rw [Option.map_eq_some_iff] at h
      obtain ⟨r, hf, rfl⟩ := h
      obtain ⟨r', h1, h2⟩ := fillV_rel (place' := fun i => some (i * s, s)) (fun _ _ h => h) hf hps hz2.cells
      refine ⟨.agg ⟨r'⟩, ?_, .agg h2⟩
      have e : (⟨z'.cells.toList⟩ : Array Value) = z'.cells := by simp
      rw [e] at h1
      simp only [Instr.build, Sem.run_bind, hz1, Result.andThen_ok, run_underlying hu, run_sizeOf hs, h1, Sem.run_pure]
    · cases h
  · cases h
end Go.Den
/- Light operations, continued: memory that is read, addresses, cuts, new blocks. -/
namespace Go.Den
open Go
variable {P : Program} {φ : Phi} {w : World}

/-- the cells l stand in the model's memory, at x -/
def Cells (φ : Phi) (w : World) (x : Nat × Nat × Nat) (l : List V) : Prop :=
  ∃ (arr : Array Value) (t : TypeId) (lo hi : Nat), w.heap[x.1]? = some (.cells arr t (lo, hi)) ∧ arr.size = x.2.2 ∧ True ∧
    x.2.1 + l.length ≤ x.2.2 ∧ VRs φ l ((arr.toList.drop x.2.1).take l.length)
theorem Cells.cell {x : Nat × Nat × Nat} {l : List V} (h : Cells φ w x l) {i : Nat} {v : V} (hv : l[i]? = some v) :
    ∃ v', w.cell? ⟨x.1, x.2.1 + i, none⟩ = some v' ∧ VR φ v v' := by
  obtain ⟨arr, t, lo, hi, hh, hs, _, hle, hr⟩ := h
  have hi' : i < l.length := by
    rcases Nat.lt_or_ge i l.length with h1 | h1
    · exact h1
    · rw [List.getElem?_eq_none h1] at hv; cases hv
  obtain ⟨v', h1, h2⟩ := hr.get i v hv
  refine ⟨v', ?_, h2⟩
  rw [cell_of_row w _ _ _ _ _ hh]
  rw [List.getElem?_take, if_pos hi', List.getElem?_drop] at h1
  simpa using h1
/-- no cell of the block is frozen, but for such as stand behind its end -/
def Clear (w : World) (g : Nat) : Prop := ∀ arr t lo hi, w.heap[g]? = some (.cells arr t (lo, hi)) → lo = hi ∨ arr.size ≤ lo
theorem Clear.mono {w w' : World} {g : Nat} (h : Clear w g) (he : w'.heap[g]? = w.heap[g]?) : Clear w' g := fun arr t lo hi hh => h arr t lo hi (he ▸ hh)
theorem Clear.of {w : World} {g : Nat} {arr : Array Value} {t : TypeId} {lo hi : Nat} (he : w.heap[g]? = some (.cells arr t (lo, hi))) (h : lo = hi ∨ arr.size ≤ lo) : Clear w g := fun _ _ _ _ hh => by
  rw [he] at hh; cases hh; exact h
/-- the model's values of a part of the cells -/
theorem Cells.part {x : Nat × Nat × Nat} {l : List V} (h : Cells φ w x l) (o n : Nat) (hle : o + n ≤ l.length) :
    ∃ cs' : List Value, VRs φ ((l.drop o).take n) cs' ∧ cs'.length = n ∧ ∀ j v, cs'[j]? = some v → w.cell? ⟨x.1, x.2.1 + o + j, none⟩ = some v := by
  obtain ⟨arr, t, lo, hi, hh, hs, _, hx, hr⟩ := h
  refine ⟨_, (hr.drop o).take n, ?_, ?_⟩
  · simp; omega
  · intro j v hj
    rw [cell_of_row w _ _ _ _ _ hh]
    have hjn : j < n := by
      rcases Nat.lt_or_ge j n with h1 | h1
      · exact h1
      · rw [List.getElem?_eq_none (by simp; omega)] at hj; cases hj
    rw [List.getElem?_take, if_pos hjn, List.getElem?_drop, List.getElem?_take, if_pos (by omega), List.getElem?_drop] at hj
    rw [← hj, ← Nat.add_assoc]
    simp
theorem add_addr (g x n : Nat) : (⟨g, x, none⟩ : Addr).add n = ⟨g, x + n, none⟩ := by
  unfold Addr.add
  split
  · rename_i h; subst h; rfl
  · rfl

def RdSim (φ : Phi) (w : World) (rd : Rd) : Prop := ∀ b x l, φ b = some x → rd b = some l → Cells φ w x l

theorem loadV_rel {t : TypeId} {x v : V} {rd : Rd} (h : loadV P t x rd = some v) (hrd : RdSim φ w rd) {x' : Value} (hx : VR φ x x') :
    ∃ v', (Instr.loadAt t x').run P w = .ok v' w ∧ VR φ v v' := by
  unfold loadV at h
  split at h
  · rename_i b o
    cases hx with
    | ptr hb =>
    rename_i g base sz
    split at h
    · rename_i cs hr
      have hc := hrd _ _ _ hb hr
      unfold partV at h
      split at h
      · rename_i n ha hs
        split at h
        · rename_i hle
          cases h
          obtain ⟨cs', h1, h2, h3⟩ := hc.part o n hle
          refine ⟨.agg ⟨cs'⟩, ?_, .agg h1⟩
          have := run_loadCells_list (P := P) w ⟨g, base + o, none⟩ cs' (fun j v hj => by rw [add_addr]; exact h3 j v hj)
          rw [h2] at this
          simp [Instr.loadAt, Instr.sureAddr, loadVar, run_isAgg ha, run_sizeOf hs, this]
        · cases h
      · rename_i n ha hs
        obtain ⟨v', h1, h2⟩ := hc.cell h
        exact ⟨v', by simp [Instr.loadAt, Instr.sureAddr, loadVar, run_isAgg ha, h1], h2⟩
      · cases h
    · cases h
  · cases h

theorem elems_rel {rd : Rd} {es m : Nat} {x : V} {xs : List V} (h : elems rd es x = some (m, xs)) (hrd : RdSim φ w rd) {x' : Value} (hx : VR φ x x') :
    ∃ xs' : List Value, VRs φ xs xs' ∧ xs.length = m * es ∧ (Builtin.lenOf x').run P w = .ok m w ∧ ∀ k, k ≤ m → (Builtin.firstCells es k x').run P w = .ok (xs'.take (k * es)).toArray w := by
  unfold elems at h
  split at h
  · cases h; cases hx
    exact ⟨[], .nil, by simp, by simp [Builtin.lenOf], fun k hk => by simp [Builtin.firstCells]⟩
  · rename_i b o n c es'
    split at h
    · rename_i he
      subst he
      split at h
      · rename_i cs hr
        split at h
        · rename_i hle
          cases h
          cases hx with
          | sl hb ha hn hc hroom =>
          rename_i c' g base sz a
          rcases hb with hb | ⟨hz, _⟩
          case inr =>
            have hm0 : m = 0 := by omega
            subst hm0
            refine ⟨[], by simpa using VRs.nil, by simp, by simp [Builtin.lenOf], fun k hk => ?_⟩
            have hk0 : k = 0 := by omega
            subst hk0
            have := run_loadCells_list (P := P) w a [] (fun j v hj => by simp at hj)
            simpa [Builtin.firstCells] using this
          obtain ⟨cs', h1, h2, h3⟩ := (hrd _ _ _ hb hr).part o (m * es) hle
          refine ⟨cs', h1, by simp; omega, by simp [Builtin.lenOf], fun k hk => ?_⟩
          have hke : k * es ≤ m * es := Nat.mul_le_mul_right es hk
          have hl : (cs'.take (k * es)).length = k * es := by simp; omega
          have := run_loadCells_list (P := P) w a (cs'.take (k * es)) (fun j v hj => by
            have hjl : j < k * es := by
              rcases Nat.lt_or_ge j (k * es) with h1 | h1
              · exact h1
              · rw [List.getElem?_eq_none (by rw [hl]; exact h1)] at hj; cases hj
            rcases ha with ha | ha
            · subst ha
              rw [add_addr]
              rw [List.getElem?_take, if_pos hjl] at hj
              exact h3 j v hj
            · exfalso
              have : m = 0 := by omega
              subst this
              have : k = 0 := by omega
              subst this
              simp at hjl)
          rw [hl] at this
          simpa [Builtin.firstCells] using this
        · cases h
      · cases h
    · cases h
  · rename_i s
    split at h
    · rename_i he
      subst he
      cases h
      cases hx
      refine ⟨s.map fun b => Value.int .u8 (b.toNat : Int), ?_, by simp, by simp [Builtin.lenOf, ByteArray.size], fun k hk => ?_⟩
      · refine VRs.of_get (by simp) fun i v v' hv hv' => ?_
        simp only [List.getElem?_map, Option.map_eq_some_iff] at hv hv'
        obtain ⟨b, hb, rfl⟩ := hv
        obtain ⟨b', hb', rfl⟩ := hv'
        rw [hb] at hb'
        cases hb'
        exact .int _ _
      · simp only [Builtin.firstCells, Nat.mul_one, Sem.run_pure]
        congr 1
        apply Array.ext'
        have e := Lib.extract_data ⟨⟨s⟩⟩ 0 k
        simp only [Array.toList_map, e]
        simp [List.map_take]
    · cases h
  · cases h

theorem addrV_rel {t : TypeId} {x ix v : V} (h : addrV P t x ix = some v) {x' ix' : Value} (hx : VR φ x x') (hi : VR φ ix ix') (w : World) :
    ∃ v', (Instr.indexAt t x' ix').run P w = .ok v' w ∧ VR φ v v' := by
  unfold addrV at h
  split at h
  · rename_i n e b o k i hu
    cases hi
    cases hx with
    | ptr hb =>
    rename_i g base sz
    split at h
    · rename_i hbd
      rw [Option.map_eq_some_iff] at h
      obtain ⟨s, hs, rfl⟩ := h
      refine ⟨.pointer (some ⟨g, base + (o + i.toNat * s), none⟩), ?_, .ptr hb⟩
      simp [Instr.indexAt, asIntOf, run_underlying hu, Instr.sureAddr, hbd, run_sizeOf hs, add_addr, Nat.add_assoc]
    · cases h
  · rename_i e b o n c es k i hu
    cases hi
    cases hx with
    | sl hb ha hn hc hroom =>
    rename_i c' g base sz a
    split at h
    · rename_i hbd
      have hb := hb.resolve_right (fun e => by omega)
      split at h
      · rename_i hs
        cases h
        have ha' : a = ⟨g, base + o, none⟩ := ha.resolve_right (by omega)
        subst ha'
        refine ⟨.pointer (some ⟨g, base + (o + i.toNat * es), none⟩), ?_, .ptr hb⟩
        simp [Instr.indexAt, asIntOf, run_underlying hu, hbd, run_sizeOf hs, add_addr, Nat.add_assoc]
      · cases h
    · cases h
  · cases h
theorem fieldAddrV_rel {t : TypeId} {x v : V} {f : Nat} (h : fieldAddrV P t x f = some v) {x' : Value} (hx : VR φ x x') (w : World) :
    ∃ v', (Instr.fieldAt t x' f).run P w = .ok v' w ∧ VR φ v v' := by
  unfold fieldAddrV at h
  split at h
  · rename_i fs b o hu
    cases hx with
    | ptr hb =>
    rename_i g base sz
    split at h
    · rename_i f hf
      split at h
      · rename_i m hs
        cases h
        refine ⟨.pointer (some ⟨g, base + (o + f.offset), none⟩), ?_, .ptr hb⟩
        simp [Instr.fieldAt, run_underlying hu, hf, Instr.sureAddr, fieldPlace, run_sizeOf hs, add_addr, Nat.add_assoc]
      · cases h
    · cases h
  · cases h

/-! ### cuts -/
inductive VRo (φ : Phi) : Option V → Option Value → Prop
  | none : VRo φ none none
  | some {v : V} {v' : Value} (h : VR φ v v') : VRo φ (some v) (some v')
theorem bound_rel {x : V} {d top l : Nat} (h : bound (some x) d top = some l) {x' : Value} (hx : VR φ x x') (top' : Nat) (ht : top ≤ top') (code : BoundsCode) (w : World) :
    l ≤ top ∧ (Instr.sliceBound x' top' code).run P w = .ok l w := by
  unfold bound at h
  split at h
  · rename_i hx0; cases hx0
  · rename_i k i hx0
    cases hx0
    cases hx
    split at h
    · rename_i hb
      cases h
      refine ⟨by omega, ?_⟩
      simp only [Instr.sliceBound, asIntOf, Sem.run_bind, Sem.run_pure, Result.andThen_ok]
      rw [if_pos (by omega)]
      rfl
    · cases h
  · cases h
/-- the model's bounds, out of the machine's -/
theorem sliceBounds_rel {lo hi mx : Option V} {lo' hi' mx' : Option Value} (hlo : VRo φ lo lo') (hhi : VRo φ hi hi') (hmx : VRo φ mx mx') {n p m h l cap : Nat} (isS : Bool)
    (hm : bound mx n p = some m) (hh : bound hi n (if mx.isSome then m else p) = some h) (hno : (mx.isSome && hi.isNone) = false) (hl : bound lo 0 h = some l) (hnp : n ≤ p) (hcap : p ≤ cap) (w : World) :
    l ≤ h ∧ h ≤ p ∧ (mx.isSome = true → h ≤ m ∧ m ≤ p) ∧ (Instr.sliceBounds isS n cap lo' hi' mx').run P w = .ok (l, h, if mx.isSome then m else cap) w := by
  cases hmx with
  | none =>
    simp only [Option.isSome_none, Bool.false_eq_true, if_false] at hh
    cases hhi with
    | none =>
      have hhn : h = n := by simpa [bound] using hh.symm
      subst hhn
      cases hlo with
      | none =>
        have : l = 0 := by simpa [bound] using hl.symm
        subst this
        exact ⟨by omega, by omega, by simp, by simp [Instr.sliceBounds]⟩
      | some hv =>
        obtain ⟨h1, h2⟩ := bound_rel (P := P) hl hv h (Nat.le_refl _) .sliceB w
        exact ⟨h1, by omega, by simp, by simp [Instr.sliceBounds, h2]⟩
    | some hv =>
      obtain ⟨a1, a2⟩ := bound_rel (P := P) hh hv cap hcap (if isS then .sliceAcap else .sliceAlen) w
      cases hlo with
      | none =>
        have : l = 0 := by simpa [bound] using hl.symm
        subst this
        exact ⟨by omega, by omega, by simp, by simp [Instr.sliceBounds, a2]⟩
      | some hv' =>
        obtain ⟨h1, h2⟩ := bound_rel (P := P) hl hv' h (Nat.le_refl _) .sliceB w
        exact ⟨h1, by omega, by simp, by simp [Instr.sliceBounds, a2, h2]⟩
  | some hmv =>
    simp only [Option.isSome_some, if_true] at hh
    obtain ⟨b1, b2⟩ := bound_rel (P := P) hm hmv cap hcap (if isS then .slice3Acap else .slice3Alen) w
    cases hhi with
    | none => simp at hno
    | some hv =>
      obtain ⟨a1, a2⟩ := bound_rel (P := P) hh hv m (Nat.le_refl _) .slice3B w
      cases hlo with
      | none =>
        have : l = 0 := by simpa [bound] using hl.symm
        subst this
        exact ⟨by omega, by omega, fun _ => ⟨a1, b1⟩, by simp [Instr.sliceBounds, a2, b2]⟩
      | some hv' =>
        obtain ⟨h1, h2⟩ := bound_rel (P := P) hl hv' h (Nat.le_refl _) .slice3C w
        exact ⟨h1, by omega, fun _ => ⟨a1, b1⟩, by simp [Instr.sliceBounds, a2, b2, h2]⟩
end Go.Den
/- Light operations, the end: one law for all of them. -/
namespace Go.Den
open Go
variable {P : Program} {φ : Phi} {w : World}

theorem extract_str (s : List UInt8) (l h : Nat) : (⟨⟨s⟩⟩ : ByteArray).extract l h = ⟨⟨(s.drop l).take (h - l)⟩⟩ := by
  rw [Lib.extract_eq]
theorem sliceV_rel {rd : Rd} {t : TypeId} {x v : V} {lo hi mx : Option V} (h : sliceV P rd t x lo hi mx = some v) (hrd : RdSim φ w rd) {x' : Value} (hx : VR φ x x')
    {lo' hi' mx' : Option Value} (hlo : VRo φ lo lo') (hhi : VRo φ hi hi') (hmx : VRo φ mx mx') :
    ∃ v', (Instr.sliceAt t x' lo' hi' mx').run P w = .ok v' w ∧ VR φ v v' := by
  unfold sliceV at h
  split at h
  · rename_i s hu
    cases hx
    split at h
    · cases h
    · rename_i hm0
      have hmn : mx = none := by simpa using hm0
      subst hmn
      cases hmx
      split at h
      · rename_i hh hbh
        split at h
        · rename_i l hbl
          cases h
          obtain ⟨h1, h2, _, h4⟩ := sliceBounds_rel (P := P) (mx := none) (n := s.length) (m := s.length) (p := s.length) (cap := s.length) hlo hhi .none false rfl (by simpa using hbh) rfl hbl (Nat.le_refl _) (Nat.le_refl _) w
          refine ⟨.string ⟨⟨(s.drop l).take (hh - l)⟩⟩, ?_, .str _⟩
          simp only [Option.isSome_none, Bool.false_eq_true, if_false] at h4
          have e : (⟨⟨s⟩⟩ : ByteArray).size = s.length := rfl
          simp [Instr.sliceAt, Instr.slice, run_underlying hu, e, h4, extract_str]
        · cases h
      · cases h
  · rename_i e b o n c es hu
    cases hx with
    | sl hb ha hn hc hroom =>
    rename_i c' g base sz a
    split at h
    · rename_i hs
      split at h
      · rename_i m hh hbm hbh
        split at h
        · cases h
        · rename_i hno
          simp only [Bool.and_eq_true, Bool.or_eq_true, decide_eq_true_eq, not_and, not_or] at hno
          split at h
          · rename_i l hbl
            cases h
            have hp := hc.of hn
            have hno1 : (mx.isSome && hi.isNone) = false := by
              cases hms : mx.isSome
              · rfl
              · have := (hno hms).1
                rw [Bool.true_and]
                exact Bool.eq_false_iff.2 this
            have hbh' : bound hi n (if mx.isSome then m else capOf c n) = some hh := by
              cases hms : mx.isSome
              · simpa using hbh
              · simp only [if_true]
                have h2 := (hno hms).2
                cases hi with
                | none => rw [hms] at hno1; cases hno1
                | some hv =>
                  unfold bound at hbh ⊢
                  split at hbh
                  · rename_i e0; cases e0
                  · rename_i k i e0
                    cases e0
                    split at hbh
                    · rename_i hb2
                      cases hbh
                      rw [if_pos (by omega)]
                    · cases hbh
                  · cases hbh
            obtain ⟨h1, h2, h3, h4⟩ := sliceBounds_rel (P := P) (cap := c') hlo hhi hmx true hbm hbh' hno1 hbl hp.1 hp.2 w
            generalize hM : (if mx.isSome then m else c') = M at h4
            have hMc : M ≤ c' := by
              subst hM
              split
              · rename_i hms; have := (h3 hms).2; omega
              · exact Nat.le_refl _
            have hhM : hh ≤ M := by
              subst hM
              split
              · rename_i hms; exact (h3 hms).1
              · omega
            refine ⟨.slice ((if M = l then some a else (some a).map (·.add (l * es)))) (hh - l) (M - l), ?_, ?_⟩
            · simp [Instr.sliceAt, Instr.slice, run_underlying hu, h4, run_sizeOf hs]
            · have hcap : CapIs (if mx.isSome = true then some (m - l) else capSub c l) (M - l) := by
                subst hM
                split
                · exact CapIs.is _
                · exact hc.sub l
              have hb : φ b = some (g, base, sz) ∨ (M - l = 0 ∧ (if mx.isSome = true then some (m - l) else capSub c l) = some 0) := by
                refine hb.imp id fun ⟨hz, hc0⟩ => ⟨by omega, ?_⟩
                subst hM
                split
                · rename_i hms; rw [if_pos hms] at hMc; congr 1; omega
                · rw [hc0]; simp [capSub]
              by_cases hMl : M = l
              · rw [if_pos hMl]
                exact .sl hb (.inr ⟨by omega, by rcases ha with rfl | ha <;> first | rfl | exact ha.2⟩) (by omega) hcap (.inr (by omega))
              · rw [if_neg hMl]
                have ha' : a = ⟨g, base + o, none⟩ := ha.resolve_right (by omega)
                subst ha'
                simp only [Option.map_some, add_addr]
                refine .sl hb (.inl (by simp [Nat.add_assoc])) (by omega) hcap (.inl ?_)
                have hr := hroom.resolve_right (by omega)
                have e1 : l * es + (M - l) * es = M * es := by rw [← Nat.add_mul]; congr 1; omega
                have e2 : M * es ≤ c' * es := Nat.mul_le_mul_right es hMc
                omega
          · cases h
      · cases h
    · cases h
  · rename_i e hu
    cases hx
    split at h
    · rename_i s0 m hh l hsz hbm hbh hbl
      split at h
      · cases h
      · rename_i hno
        cases h
        have z : ∀ {y : Option V} {r : Nat}, bound y 0 0 = some r → r = 0 := by
          intro y r hy
          unfold bound at hy
          split at hy
          · cases hy; rfl
          · split at hy
            · cases hy; omega
            · cases hy
          · cases hy
        have hm0 := z hbm
        have hh0 := z hbh
        have hl0 := z hbl
        subst hm0; subst hh0; subst hl0
        obtain ⟨h1, h2, h3, h4⟩ := sliceBounds_rel (P := P) (n := 0) (cap := 0) hlo hhi hmx true hbm (by split <;> exact hbh) (Bool.eq_false_iff.2 hno) hbl (Nat.le_refl _) (Nat.le_refl _) w
        refine ⟨.slice none 0 0, ?_, .nils⟩
        have e0 : (if mx.isSome = true then 0 else 0) = 0 := by split <;> rfl
        rw [e0] at h4
        simp [Instr.sliceAt, Instr.slice, run_underlying hu, h4, run_sizeOf hsz]
    · cases h
  · rename_i n e b o hu
    cases hx with
    | ptr hb =>
    rename_i g base sz
    split at h
    · rename_i s cs hs hr
      split at h
      · rename_i hroom
        split at h
        · rename_i m hbm
          split at h
          · rename_i hh hbh
            split at h
            · cases h
            · rename_i hno
              split at h
              · rename_i l hbl
                cases h
                have hbh' : bound hi n (if mx.isSome then m else n) = some hh := by
                  cases hmx with
                  | none =>
                    have : m = n := by simpa [bound] using hbm.symm
                    subst this
                    simpa using hbh
                  | some _ => simpa using hbh
                obtain ⟨h1, h2, h3, h4⟩ := sliceBounds_rel (P := P) (cap := n) hlo hhi hmx false hbm hbh' (Bool.eq_false_iff.2 hno) hbl (Nat.le_refl _) (Nat.le_refl _) w
                have hM : (if mx.isSome then m else n) = m := by
                  cases hmx with
                  | none => have : m = n := by simpa [bound] using hbm.symm
                            simp [this]
                  | some _ => simp
                rw [hM] at h4
                have hmn : m ≤ n ∧ hh ≤ m := by
                  cases hmx with
                  | none => have : m = n := by simpa [bound] using hbm.symm
                            omega
                  | some _ => have := h3 rfl; omega
                obtain ⟨arr, t', lo0, hi0, hh1, hh2, _, hh3, _⟩ := hrd _ _ _ hb hr
                simp only at hh3
                refine ⟨.slice (some (if m = l then ⟨g, base + o, none⟩ else (⟨g, base + o, none⟩ : Addr).add (l * s))) (hh - l) (m - l), ?_, ?_⟩
                · simp [Instr.sliceAt, run_underlying hu, Instr.sureAddr, h4, run_sizeOf hs]
                · by_cases hml : m = l
                  · rw [if_pos hml]
                    exact .sl (.inl hb) (.inr ⟨by omega, rfl⟩) (by omega) (CapIs.is _) (.inr (by omega))
                  · rw [if_neg hml, add_addr]
                    refine .sl (.inl hb) (.inl (by simp [Nat.add_assoc])) (by omega) (CapIs.is _) (.inl ?_)
                    have e1 : l * s + (m - l) * s = m * s := by rw [← Nat.add_mul]; congr 1; omega
                    have e2 : m * s ≤ n * s := Nat.mul_le_mul_right s hmn.1
                    omega
              · cases h
          · cases h
        · cases h
      · cases h
    · cases h
  · cases h
end Go.Den
/- Light operations: new blocks, conversions, and the law for all of them. -/
namespace Go.Den
open Go
variable {P : Program} {φ : Phi} {w : World}

inductive NKRel (b sz : Nat) : NK → Value → Prop
  | ptr : NKRel b sz .ptr (.pointer (some ⟨b, 0, none⟩))
  | sl {n c' es : Nat} {c : Option Nat} (hn : n ≤ c') (hc : CapIs c c') (hr : c' * es ≤ sz) : NKRel b sz (.sl n c es) (.slice (some ⟨b, 0, none⟩) n c')
inductive LightRes (φ : Phi) (w : World) : LR → Value → World → Prop
  | val {v : V} {v' : Value} (h : VR φ v v') : LightRes φ w (.val v) v' w
  | new {l : List V} {k : NK} {v' : Value} {w' : World} (arr : Array Value) (t : TypeId) (lo hi : Nat) (hh : w'.heap = w.heap.push (.cells arr t (lo, hi)))
      (ht : w'.tape = w.tape) (ho : w'.os = w.os) (hu : w'.output = w.output) (hl : l.length ≤ arr.size) (hf : lo = hi ∨ arr.size ≤ lo)
      (hr : VRs φ l (arr.toList.take l.length)) (hk : NKRel w.heap.size arr.size k v') : LightRes φ w (.new l k) v' w'

theorem lightRes_alloc {l : List V} {l' : List Value} {k : NK} {v' : Value} (t : TypeId) (hr : VRs φ l l') (hk : NKRel w.heap.size l'.length k v') :
    LightRes φ w (.new l k) v' (w.alloc (.cells l'.toArray t)) := by
  have := hr.length
  exact .new l'.toArray t 0 0 rfl rfl rfl rfl (by simp [this]) (.inl rfl) (by rw [this]; simpa using hr) (by simpa using hk)

theorem reps_length (n : Nat) (z : List V) : (reps n z).length = n * z.length := by
  induction n with
  | zero => simp [reps]
  | succ n ih => simp [reps, ih, Nat.add_mul]; omega
theorem madeCells_reps (z : Array Value) (n : Nat) : (madeCells z (n * z.size)).toList = (List.replicate n z.toList).flatten := by
  have hlen : ((List.replicate n z.toList).flatten).length = n * z.size := by simp
  apply List.ext_getElem?
  intro i
  by_cases hi : i < n * z.size
  · have hz : 0 < z.size := by
      rcases Nat.eq_zero_or_pos z.size with h | h
      · rw [h, Nat.mul_zero] at hi; omega
      · exact h
    have hm : i % z.size < z.size := Nat.mod_lt _ hz
    have e : (madeCells z (n * z.size)).toList[i]? = some z[i % z.size] := by
      simp [madeCells, hi, getElem!_pos, hm]
    rw [e]
    have key : ∀ (n i : Nat), i < n * z.size → ((List.replicate n z.toList).flatten)[i]? = some (z[i % z.size]'(Nat.mod_lt _ hz)) := by
      intro n
      induction n with
      | zero => intro i hi; omega
      | succ n ih =>
        intro i hi
        rw [List.replicate_succ, List.flatten_cons]
        by_cases hlt : i < z.size
        · rw [List.getElem?_append_left (by simpa using hlt)]
          simp [Nat.mod_eq_of_lt hlt, hlt]
        · rw [List.getElem?_append_right (by simpa using hlt)]
          have hs : (n + 1) * z.size = n * z.size + z.size := by rw [Nat.add_mul, Nat.one_mul]
          have := ih (i - z.size) (by omega)
          simp only [Array.length_toList]
          rw [this]
          congr 2
          rw [Nat.mod_eq_sub_mod (by omega : i ≥ z.size)]
    exact (key n i hi).symm
  · rw [List.getElem?_eq_none (by simp [madeCells]; omega), List.getElem?_eq_none (by rw [hlen]; omega)]
theorem reps_rel {z : List V} {z' : List Value} (h : VRs φ z z') : ∀ n, VRs φ (reps n z) ((List.replicate n z').flatten)
  | 0 => .nil
  | n + 1 => by rw [List.replicate_succ, List.flatten_cons]; exact h.append (reps_rel h n)

theorem makeSliceV_rel {t : TypeId} {x y : V} {r : LR} (h : makeSliceV P t x y = some r) {x' y' : Value} (hx : VR φ x x') (hy : VR φ y y') (w : World) :
    ∃ v' w', (Instr.makeSlice t x' y').run P w = .ok v' w' ∧ LightRes φ w r v' w' := by
  unfold makeSliceV at h
  split at h
  · rename_i e k n k' m hu
    cases hx; cases hy
    split at h
    · rename_i i hi
      split at h
      · rename_i z hz
        rw [Option.bind_eq_some_iff] at hz
        obtain ⟨z', hz1, hz2⟩ := hz
        split at h
        · rename_i hc
          obtain ⟨h1, h2, h3, h4, h5⟩ := hc
          cases h
          have hzr := (ofValue_rel (φ := φ) hz2).cells
          have hzl := hzr.length
          have ez : i.size = z'.cells.size := by rw [← h1, hzl]; simp
          have hrun := run_make (P := P) w t e i z' hu hi hz1 k k' n m h2 h3 h5 h4
          refine ⟨_, _, hrun, ?_⟩
          have hcells : madeCells z'.cells (m.toNat * i.size) = ((List.replicate m.toNat z'.cells.toList).flatten).toArray := by
            apply Array.ext'
            rw [ez, madeCells_reps]
          rw [hcells]
          refine lightRes_alloc e (reps_rel hzr _) (.sl (by omega) (CapIs.is _) ?_)
          rw [← (reps_rel hzr _).length, reps_length, h1]
          exact Nat.le_refl _
        · cases h
      · cases h
    · cases h
  · cases h

theorem buildSliceV_rel {t : TypeId} {n : Nat} {parts : List (Nat × V)} {r : LR} (h : buildSliceV P t n parts = some r) {parts' : List (Nat × Value)} (hps : PR φ parts parts') (w : World) :
    ∃ v' w', (Instr.buildSlice t n ⟨parts'⟩).run P w = .ok v' w' ∧ LightRes φ w r v' w' := by
  unfold buildSliceV at h
  split at h
  · rename_i e hu
    split at h
    · rename_i i hi
      split at h
      · rename_i z hz
        rw [Option.bind_eq_some_iff] at hz
        obtain ⟨z', hz1, hz2⟩ := hz
        split at h
        · rename_i hc
          obtain ⟨h1, h2, h3⟩ := hc
          split at h
          · rename_i cs hf
            cases h
            have hzr := (ofValue_rel (φ := φ) hz2).cells
            have hzl := hzr.length
            have ez : i.size = z'.cells.size := by rw [← h1, hzl]; simp
            obtain ⟨r', f1, f2⟩ := fillV_rel (place' := fun j => some (j * i.size, i.size)) (fun _ _ h => h) hf hps (reps_rel hzr n)
            have hcells : madeCells z'.cells (n * i.size) = ((List.replicate n z'.cells.toList).flatten).toArray := by
              apply Array.ext'
              rw [ez, madeCells_reps]
            have hrl : r'.length = n * i.size := by
              have key : ∀ {parts : List (Nat × V)} {cells cs : List V}, fillV (fun j => some (j * i.size, i.size)) cells parts = some cs → cs.length = cells.length := by
                intro parts
                induction parts with
                | nil => intro cells cs h; cases h; rfl
                | cons p parts ih =>
                  intro cells cs h
                  obtain ⟨j, v⟩ := p
                  unfold fillV at h
                  simp only at h
                  split at h
                  · split at h
                    · rename_i cs1 hf1
                      rw [ih h]
                      unfold fill1 at hf1
                      split at hf1
                      · cases hf1; simp; omega
                      · cases hf1
                    · cases h
                  · cases h
              rw [← f2.length, key hf, reps_length, h1]
            refine ⟨.slice (some ⟨w.heap.size, 0, none⟩) n n, w.alloc (.cells r'.toArray e), ?_, lightRes_alloc e f2 (.sl (Nat.le_refl _) (CapIs.is _) (by rw [hrl]; exact Nat.le_refl _))⟩
            have hno : ¬ (n * i.size > 2 ^ 24) := by omega
            unfold madeCells at hcells
            by_cases h0 : n * i.size = 0
            · have hem : ((List.replicate n z'.cells.toList).flatten) = [] := by
                apply List.eq_nil_of_length_eq_zero
                simp [ez] at h0 ⊢
                omega
              rw [hem] at f1
              simp [Instr.buildSlice, run_underlying hu, sizeOf, typeInfo, hi, h0, Array.range_zero', f1, newRow]
            · simp only [Instr.buildSlice, run_underlying hu, sizeOf, typeInfo, hi, Sem.run_bind, Sem.run_pure, Result.andThen_ok, run_program, zeroValue, hz1, if_neg hno, if_neg h0, hcells]
              simp [f1, newRow]
          · cases h
        · cases h
      · cases h
    · cases h
  · cases h

theorem omap_toByte : ∀ {xs : List V} {s : List UInt8}, omap toByte xs = some s → ∀ {xs' : List Value}, VRs φ xs xs' → ∃ ns : List Int, xs' = ns.map (Value.int .u8) ∧ s = ns.map fun n => UInt8.ofNat n.toNat
  | [], s, h, xs', hx => by cases h; cases hx; exact ⟨[], rfl, rfl⟩
  | x :: r, s, h, xs', hx => by
    cases hx with
    | cons hv hr =>
    unfold omap at h
    split at h
    · rename_i y hy
      split at h
      · rename_i ys hys
        cases h
        obtain ⟨ns, h1, h2⟩ := omap_toByte hys hr
        unfold toByte at hy
        split at hy
        · rename_i n
          cases hy
          cases hv
          exact ⟨n :: ns, by rw [h1]; rfl, by rw [h2]; rfl⟩
        · cases hy
      · cases h
    · cases h
theorem convV_rel {rd : Rd} {src dst : TypeId} {x : V} {r : LR} (h : convV P rd src dst x = some r) (hrd : RdSim φ w rd) {x' : Value} (hx : VR φ x x') :
    ∃ v' w', (convert src dst x').run P w = .ok v' w' ∧ LightRes φ w r v' w' := by
  unfold convV at h
  split at h
  · rename_i k1 k k0 n hs hd
    cases h; cases hx
    exact ⟨_, w, by simp [convert, run_underlying hs, run_underlying hd, Conv.intToInt], .val (.int _ _)⟩
  · rename_i s hs hd
    cases h; cases hx
    exact ⟨_, w, by simp [convert, run_underlying hs, run_underlying hd], .val (.str _)⟩
  · rename_i e s hs hd
    split at h
    · rename_i he
      split at h
      · rename_i hlen
        cases h; cases hx
        refine ⟨_, _, Lib.run_convert_string_bytes w src dst e ⟨⟨s⟩⟩ hs hd he, ?_⟩
        have hsz : (⟨⟨s⟩⟩ : ByteArray).size = s.length := rfl
        have hge := grownCap_ge w s.length 0 e
        have hcs : (Lib.bytesCells w e ⟨⟨s⟩⟩).size = grownCap w s.length 0 e := by
          simp [Lib.bytesCells, hsz]; omega
        refine .new (Lib.bytesCells w e ⟨⟨s⟩⟩) e ((Lib.bytesCells w e ⟨⟨s⟩⟩).size) ((Lib.bytesCells w e ⟨⟨s⟩⟩).size + 1) ?_ rfl rfl rfl (by rw [hcs]; simpa using hge) (.inr (Nat.le_refl _)) ?_ ?_
        · apply Array.ext'
          apply List.ext_getElem?
          intro i
          rw [Array.getElem?_toList, Array.getElem?_toList, Array.getElem?_push]
          split
          · rename_i hi; rw [hi, Lib.bytesWorld_at_new]
          · rename_i hi
            rcases Nat.lt_or_ge i w.heap.size with h1 | h1
            · rw [Lib.bytesWorld_at_old _ _ _ _ h1]
            · rw [Array.getElem?_eq_none (by rw [Lib.bytesWorld_size]; omega), Array.getElem?_eq_none h1]
        · refine VRs.of_get (by simp [hcs]; omega) fun i v v' hv hv' => ?_
          have hi : i < s.length := by
            rcases Nat.lt_or_ge i s.length with h1 | h1
            · exact h1
            · rw [List.getElem?_eq_none (by simpa using h1)] at hv; cases hv
          simp [Lib.bytesCells, List.getElem?_take, hi, List.getElem?_append] at hv hv'
          subst hv; subst hv'
          exact .int _ _
        · rw [hcs]
          exact .sl (by rw [hsz]; exact hge) (CapIs.none _) (by rw [hsz]; omega)
      · cases h
    · cases h
  · rename_i e hs hd
    split at h
    · rename_i he
      split at h
      · cases h; cases hx
        refine ⟨_, w, run_convert_bytes_nil w src e hs he 0 0 dst hd, .val ?_⟩
        exact .str []
      · split at h
        · rename_i b o n c es x9 m xs hel
          split at h
          · rename_i s hto
            cases h
            have hm : m = n := by
              unfold elems at hel
              simp only at hel
              split at hel
              · split at hel
                · split at hel
                  · cases hel; rfl
                  · cases hel
                · cases hel
              · cases hel
            subst hm
            obtain ⟨xs', h1, h2, h3, h4⟩ := elems_rel (P := P) hel hrd hx
            obtain ⟨ns, hn1, hn2⟩ := omap_toByte hto h1
            cases hx with
            | sl hb ha hn hc hroom =>
            rename_i c' g base sz a
            have hload := h4 m (Nat.le_refl _)
            have hl : xs'.take (m * 1) = xs' := List.take_of_length_le (by rw [← h1.length]; omega)
            simp only [Builtin.firstCells, hl, Nat.mul_one] at hload
            rw [List.take_of_length_le (by rw [← h1.length]; omega), hn1] at hload
            refine ⟨_, w, (run_convert_bytes_string w src dst e _ m c' hs he hd).trans (run_bytesToString w a m c' ns hload), .val ?_⟩
            rw [foldl_push_bytes, hn2]
            have e : (⟨ByteArray.empty.data ++ (ns.map fun n => UInt8.ofNat n.toNat).toArray⟩ : ByteArray) = ⟨⟨ns.map fun n => UInt8.ofNat n.toNat⟩⟩ := by
              apply ByteArray.ext
              simp [ByteArray.empty, ByteArray.emptyWithCapacity]
              rfl
            rw [e]
            exact .str _
          · cases h
        · cases h
      · cases h
    · cases h
  · cases h
theorem lenV_rel {ts : List TypeId} {x v : V} (h : lenV P ts x = some v) {x' : Value} (hx : VR φ x x') (ty : TypeId) (w : World) :
    ∃ v', (Builtin.len_ ts.toArray ty #[x']).run P w = .ok v' w ∧ VR φ v v' := by
  unfold lenV at h
  split at h
  · rename_i t
    split at h
    all_goals first | (cases h; done) | skip
    · rename_i s hu; cases h; cases hx
      exact ⟨_, run_len_string w t ty _ hu, .int _ _⟩
    · rename_i hu; cases h; cases hx
      exact ⟨_, by unfold Builtin.len_; simp [run_underlying hu, goInt], .int _ _⟩
    · rename_i hu; cases h; cases hx
      exact ⟨_, by unfold Builtin.len_; simp [run_underlying hu, goInt], .int _ _⟩
    · rename_i n e hu; cases h
      exact ⟨_, by unfold Builtin.len_; simp [run_underlying hu, goInt], .int _ _⟩
    · rename_i hu; cases h; cases hx
      exact ⟨_, by unfold Builtin.len_; simp [run_underlying hu, goInt], .int _ _⟩
  · cases h
theorem evo_rel {e : Env} {a : Act} (he : ER φ e a.tmps) {x : Option Operand} {v : Option V} (h : evo e x = some v) : VRo φ v (x.map a.eval) := by
  unfold evo at h
  split at h
  · cases h; exact .none
  · split at h
    · rename_i hv; cases h; exact .some (ev_rel he hv)
    · cases h
theorem evParts_rel {e : Env} {a : Act} (he : ER φ e a.tmps) : ∀ {l : List (Nat × Operand)} {vs : List (Nat × V)}, evParts e l = some vs → PR φ vs (l.map fun p => (p.1, a.eval p.2))
  | [], vs, h => by cases h; exact .nil
  | (i, x) :: r, vs, h => by
    unfold evParts omap at h
    split at h
    · rename_i y hy
      split at h
      · rename_i ys hys
        cases h
        unfold evPart at hy
        split at hy
        · rename_i hv
          cases hy
          exact .cons (ev_rel he hv) (evParts_rel he hys)
        · cases hy
      · cases h
    · cases h
theorem evs_map {a : Act} {l : Array Operand} {vs' : List Value} (e1 : l.toList.map a.eval = vs') : l.map a.eval = vs'.toArray := by
  apply Array.ext'
  rw [Array.toList_map, e1]
theorem evs_two {e : Env} {a : Act} (he : ER φ e a.tmps) {l : Array Operand} {x y : V} (h : evs e l.toList = some [x, y]) : ∃ x' y', l.map a.eval = #[x', y'] ∧ VR φ x x' ∧ VR φ y y' := by
  have hr := evs_rel he h
  generalize hl : l.toList.map a.eval = vs' at hr
  cases hr with | cons h1 hr => cases hr with | cons h2 hr => cases hr with
  | nil => exact ⟨_, _, evs_map hl, h1, h2⟩
theorem evs_one {e : Env} {a : Act} (he : ER φ e a.tmps) {l : Array Operand} {x : V} (h : evs e l.toList = some [x]) : ∃ x', l.map a.eval = #[x'] ∧ VR φ x x' := by
  have hr := evs_rel he h
  generalize hl : l.toList.map a.eval = vs' at hr
  cases hr with | cons h1 hr => cases hr with
  | nil => exact ⟨_, evs_map hl, h1⟩

theorem val_some {o : Option V} {r : LR} (h : val o = some r) : ∃ v, o = some v ∧ r = .val v := by
  unfold val at h
  split at h
  · cases h; exact ⟨_, rfl, rfl⟩
  · cases h
theorem lightOp_rel {rd : Rd} {e : Env} {a : Act} {o : Oper} {r : LR} (h : lightOp P rd e o.op = some r) (he : ER φ e a.tmps) (hrd : RdSim φ w rd) :
    ∃ v' w', (execOp a.eval o).run P w = .ok (.value v') w' ∧ LightRes φ w r v' w' := by
  generalize hop : o.op = op at h
  have pureV : ∀ {s : Sem Value} {v' : Value} {v : V}, s.run P w = .ok v' w → VR φ v v' → (do pure (Next.value (← s)) : Sem Next).run P w = .ok (.value v') w ∧ LightRes φ w (.val v) v' w :=
    fun hs hv => ⟨by simp [hs], .val hv⟩
  have anyV : ∀ {s : Sem Value} {r : LR}, (∃ v' w', s.run P w = .ok v' w' ∧ LightRes φ w r v' w') → ∃ v' w', (do pure (Next.value (← s)) : Sem Next).run P w = .ok (.value v') w' ∧ LightRes φ w r v' w' :=
    fun ⟨v', w', h1, h2⟩ => ⟨v', w', by simp [h1], h2⟩
  unfold execOp
  rw [hop]
  cases op <;> simp only [lightOp] at h ⊢
  case move x =>
    obtain ⟨v, hv, rfl⟩ := val_some h
    exact ⟨_, w, rfl, .val (ev_rel he hv)⟩
  case assign x =>
    obtain ⟨v, hv, rfl⟩ := val_some h
    exact ⟨_, w, rfl, .val (ev_rel he hv)⟩
  case pick c x y =>
    split at h
    · rename_i t vx vy hc hx hy
      cases h
      have hc' := ev_rel he hc
      generalize hcv : a.eval c = cv at hc'
      cases hc'
      refine ⟨_, w, by simp [asBool, hcv]; rfl, .val ?_⟩
      cases t
      · exact ev_rel he hy
      · exact ev_rel he hx
    · cases h
  case alloc t =>
    split at h
    · rename_i z hz
      cases h
      obtain ⟨z', h1, h2⟩ := run_zeroValue (φ := φ) hz w
      refine ⟨.pointer (some ⟨w.heap.size, 0, none⟩), w.alloc (.cells z'.cells.toList.toArray t), by simp [Instr.alloc, h1, newVar, newRow], ?_⟩
      exact lightRes_alloc t h2.cells .ptr
    · cases h
  case box t x =>
    split at h
    · rename_i v hv
      cases h
      refine ⟨.pointer (some ⟨w.heap.size, 0, none⟩), w.alloc (.cells (a.eval x).cells.toList.toArray t), by simp [Instr.box, newVar, newRow], ?_⟩
      exact lightRes_alloc t (ev_rel he hv).cells .ptr
    · cases h
  case build t ps =>
    split at h
    · rename_i vs hps
      obtain ⟨v, hv, rfl⟩ := val_some h
      obtain ⟨v', h1, h2⟩ := buildV_rel hv (evParts_rel he hps) w
      have e1 : (⟨ps.toList.map fun p => (p.1, a.eval p.2)⟩ : Array (Nat × Value)) = ps.map fun (i, x) => (i, a.eval x) := by apply Array.ext'; simp
      rw [e1] at h1
      exact ⟨v', w, pureV h1 h2⟩
    · cases h
  case buildSlice t n ps =>
    split at h
    · rename_i vs hps
      have e1 : (⟨ps.toList.map fun p => (p.1, a.eval p.2)⟩ : Array (Nat × Value)) = ps.map fun (i, x) => (i, a.eval x) := by apply Array.ext'; simp
      have := buildSliceV_rel h (evParts_rel he hps) w
      rw [e1] at this
      exact anyV this
    · cases h
  case load t x =>
    split at h
    · rename_i v hv
      obtain ⟨v, hv', rfl⟩ := val_some h
      obtain ⟨v', h1, h2⟩ := loadV_rel hv' hrd (ev_rel he hv)
      exact ⟨v', w, pureV h1 h2⟩
    · cases h
  case nilCheck x =>
    split at h
    · rename_i b o' hv
      cases h
      have hx := ev_rel he hv
      generalize a.eval x = x' at hx
      cases hx with
      | ptr hb => exact ⟨_, w, rfl, .val (.ptr hb)⟩
    · rename_i f l1 l2 hv
      cases h
      have hx := ev_rel he hv
      generalize a.eval x = x' at hx
      cases hx with
      | fn h1 h2 => exact ⟨_, w, rfl, .val (.fn h1 h2)⟩
    · cases h
  case binOp op t x y yt =>
    split at h
    · rename_i vx vy hx hy
      obtain ⟨v, hv, rfl⟩ := val_some h
      obtain ⟨v', h1, h2⟩ := binV_rel hv (ev_rel he hx) (ev_rel he hy) x y w
      exact ⟨v', w, pureV h1 h2⟩
    · cases h
  case unOp op t x =>
    split at h
    · rename_i vx hx
      obtain ⟨v, hv, rfl⟩ := val_some h
      obtain ⟨v', h1, h2⟩ := unV_rel hv (ev_rel he hx) w
      exact ⟨v', w, pureV h1 h2⟩
    · cases h
  case convert s d x =>
    split at h
    · rename_i vx hx
      exact anyV (convV_rel h hrd (ev_rel he hx))
    · cases h
  case makeFunc f l1 l2 =>
    split at h
    · rename_i v1 v2 h1 h2
      cases h
      have r1 := evs_rel he h1
      have r2 := evs_rel he h2
      have e1 : l1.map a.eval = ⟨l1.toList.map a.eval⟩ := by apply Array.ext'; simp
      have e2 : l2.map a.eval = ⟨l2.toList.map a.eval⟩ := by apply Array.ext'; simp
      refine ⟨_, w, pureV (s := Instr.makeFunc f (l1.map a.eval) (l2.map a.eval)) rfl ?_⟩
      rw [e1, e2]
      exact .fn r1 r2
    · cases h
  case makeSlice t x y =>
    split at h
    · rename_i vx vy hx hy
      exact anyV (makeSliceV_rel h (ev_rel he hx) (ev_rel he hy) w)
    · cases h
  case slice t x l m k =>
    split at h
    · rename_i vx vl vm vk hx hl hm hk
      obtain ⟨v, hv, rfl⟩ := val_some h
      obtain ⟨v', h1, h2⟩ := sliceV_rel hv hrd (ev_rel he hx) (evo_rel he hl) (evo_rel he hm) (evo_rel he hk)
      exact ⟨v', w, pureV h1 h2⟩
    · cases h
  case fieldAddr t x f =>
    split at h
    · rename_i vx hx
      obtain ⟨v, hv, rfl⟩ := val_some h
      obtain ⟨v', h1, h2⟩ := fieldAddrV_rel hv (ev_rel he hx) w
      exact ⟨v', w, pureV h1 h2⟩
    · cases h
  case field t x f =>
    split at h
    · rename_i vx hx
      obtain ⟨v, hv, rfl⟩ := val_some h
      obtain ⟨v', h1, h2⟩ := fieldV_rel hv (ev_rel he hx) w
      exact ⟨v', w, pureV h1 h2⟩
    · cases h
  case indexAddr t x i =>
    split at h
    · rename_i vx vi hx hi
      obtain ⟨v, hv, rfl⟩ := val_some h
      obtain ⟨v', h1, h2⟩ := addrV_rel hv (ev_rel he hx) (ev_rel he hi) w
      exact ⟨v', w, pureV h1 h2⟩
    · cases h
  case index t x i =>
    split at h
    · rename_i vx vi hx hi
      obtain ⟨v, hv, rfl⟩ := val_some h
      obtain ⟨v', h1, h2⟩ := indexV_rel hv (ev_rel he hx) (ev_rel he hi) w
      exact ⟨v', w, pureV h1 h2⟩
    · cases h
  case extract x i =>
    split at h
    · rename_i vs hx
      obtain ⟨v, hv, rfl⟩ := val_some h
      have hx' := ev_rel he hx
      generalize a.eval x = x' at hx'
      cases hx' with
      | tup hr =>
        obtain ⟨v', h1, h2⟩ := hr.get _ _ hv
        exact ⟨v', w, pureV (s := Instr.extract (.tuple ⟨_⟩) i) (by simp [Instr.extract, h1]) h2⟩
    · cases h
  case call c =>
    obtain ⟨cal, args, ats⟩ := c
    cases cal with
    | value f => cases h
    | invoke x m => cases h
    | builtin b =>
      cases b
      case len =>
        simp only at h
        split at h
        · rename_i x hx
          obtain ⟨v, hv, rfl⟩ := val_some h
          obtain ⟨x', e1, hx'⟩ := evs_one he hx
          obtain ⟨v', h1, h2⟩ := lenV_rel hv hx' o.type w
          have e2 : ats.toList.toArray = ats := by simp
          rw [e2] at h1
          exact ⟨v', w, by simp [resolve, invoke, builtin, e1, h1], .val h2⟩
        · cases h
      case max =>
        simp only at h
        split at h
        · rename_i k x k' y hx
          cases h
          obtain ⟨x', y', e1, hx', hy'⟩ := evs_two he hx
          cases hx'; cases hy'
          exact ⟨_, w, by simp [resolve, invoke, builtin, e1, Builtin.max_, Builtin.max2], .val (.int _ _)⟩
        · cases h
      case min =>
        simp only at h
        split at h
        · rename_i k x k' y hx
          cases h
          obtain ⟨x', y', e1, hx', hy'⟩ := evs_two he hx
          cases hx'; cases hy'
          exact ⟨_, w, by simp [resolve, invoke, builtin, e1, Builtin.min_, Builtin.min2], .val (.int _ _)⟩
        · cases h
      all_goals (cases h)
  all_goals (cases h)
end Go.Den
