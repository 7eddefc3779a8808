/- The start: the laid variable as the first block. -/
import Derived.Test.YtghmbmblhdgabaaDoorP11
import Derived.Test.YtghmbmblhdgabaaDoorDenE
import Derived.ChangeVars
import Derived.LaidLaws
import Derived.LaidMore
import Derived.MakeChecks
import Derived.OpenShut
set_option linter.all false
namespace Go.Proofs.YtghmbmblhdgabaaDoor
open Go Go.Den Code
set_option maxRecDepth 100000
theorem own : ownKnob Tryd.prog.godebug = none := by kernel_rfl
theorem gK : Tryd.prog.globalNamed "chancery/proof.k" = some 0 := by kernel_rfl
theorem tK : (Tryd.prog.globals[0]?).map (·.type) = some 44 := by kernel_rfl
theorem okP : ProgOk C := progOk_short (ProgOk.plain (by kernel_rfl) (by kernel_rfl)) (.inl rfl) (fun f v hm => by cases hm) (fun f hm => by cases hm)
def kList : List (DataW Unit) := match (Rows.laid_chancery_proof_k : DataW Unit) with
  | .agg l => l
  | _ => []
theorem kAgg : (Rows.laid_chancery_proof_k : DataW Unit) = .agg kList := rfl
theorem kLen : kList.length = 64 := by kernel_rfl
theorem kMap : kList = ksC.map fun x => .lit (.int .u32 (x.toNat : Int)) := by kernel_rfl
/-- the listed variable's cells -/
theorem cells_of_laid {W : World} (h : laidMetH Tryd.prog [("chancery/proof.k", Rows.laid_chancery_proof_k)] W) : ∃ cs t fr, W.heap[0]? = some (.cells cs t fr) ∧ cs.toList = ksC.map fun x => Value.int .u32 (x.toNat : Int) := by
  rw [MakeChecks.laidMetH_plain _ _ _ (by kernel_rfl)] at h
  obtain ⟨ps, ⟨g, t, cs, fu, p, q, hg, ht, hv, hd, _, _⟩, _, _⟩ := h
  obtain rfl := Option.some.inj (gK.symm.trans hg)
  obtain rfl := Option.some.inj (tK.symm.trans ht)
  obtain ⟨xs, m, rfl, hx, hlen, hn, hel⟩ := DataW.trod_array Tryd.underlying44 hd
  have c38' : Tryd.prog.cellsOf 38 = 1 := by kernel_rfl
  have c44' : Tryd.prog.cellsOf 44 = 64 := by kernel_rfl
  have hcl : cs.toList.length = 64 := hlen.trans c44'
  simp only [Prod.mk.injEq] at hx
  have hx1 : kList = xs.map (·.1) := by
    have := hx.1
    rw [kAgg] at this
    exact DataW.agg.inj this
  have key : cs.toList = ksC.map fun x => Value.int .u32 (x.toNat : Int) := by
    apply List.ext_getElem?
    intro i
    by_cases hi : i < 64
    · have h0 := hel i hi
      rw [c38', Nat.mul_one] at h0
      have h1 : (cs.toList.drop i).take 1 = [cs.toList[i]] := by
        rw [List.drop_eq_getElem_cons (by omega)]
        rfl
      rw [h1, List.getElem?_eq_getElem (by omega)] at h0
      obtain ⟨n, e1, e2, _⟩ := DataW.trod_int Tryd.underlying38 h0
      have e3 : kList[i]? = some (.lit (.int .u32 n)) := by
        rw [hx1, List.getElem?_map, List.getElem?_eq_getElem (by omega), e2]
        rfl
      have e4 : cs.toList[i]? = some (.int .u32 n) := by
        rw [List.getElem?_eq_getElem (by omega)]
        exact congrArg some (List.cons.inj e1).1
      rw [e4]
      rw [kMap, List.getElem?_map] at e3
      rw [List.getElem?_map]
      cases hk : ksC[i]? with
      | none => rw [hk] at e3; cases e3
      | some x =>
        rw [hk] at e3
        simp only [Option.map_some, Option.some.injEq, DataW.lit.injEq, Lit.int.injEq, true_and] at e3
        simp only [Option.map_some, e3]
    · rw [List.getElem?_eq_none (by omega), List.getElem?_eq_none (by rw [List.length_map, ksC_len]; omega)]
  simp only [World.var?, hg, Option.bind_some] at hv
  split at hv
  · rename_i arr t' fr hh
    cases hv
    exact ⟨_, _, _, hh, key⟩
  · cases hv
noncomputable def hK : H := H0.ro (ksC.map w32)
def φK : Phi := fun b => if b = 0 then some (0, 0, 64) else none
theorem get0 (b : Nat) : H0.get b = none := by unfold H.get H0; exact T.get_nil b
theorem hwf0 : HWF H0 where
  lt := fun b o h => by rw [get0] at h; cases h
  fam := fun b l f h => by rw [get0] at h; cases h
theorem allRoK : AllRo hK := AllRo.ro allRo_none _
theorem freeK : FreeFrom φK hK := fun k hk => by
  unfold φK
  have h1 : (0 : Nat) + 1 ≤ k := hk
  rw [if_neg (by omega)]
theorem readK : hK.read 0 = some (ksC.map w32) := read_ro_new H0 _
theorem simK {W : World} (h : laidMetH Tryd.prog [("chancery/proof.k", Rows.laid_chancery_proof_k)] W) : Sim φK hK W := by
  obtain ⟨cs, t, fr, hh, hc⟩ := cells_of_laid h
  have h0 : ∀ b x, φK b = some x → b = 0 ∧ x = (0, 0, 64) := fun b x hb => by
    unfold φK at hb
    split at hb
    · rename_i e; cases hb; exact ⟨e, rfl⟩
    · cases hb
  have hsz : cs.size = 64 := by
    have := congrArg List.length hc
    rw [List.length_map, ksC_len] at this
    simpa using this
  have hvr : VRs φK (ksC.map w32) cs.toList := by
    rw [hc]
    refine VRs.of_get (by simp) fun i v v' h1 h2 => ?_
    rw [List.getElem?_map] at h1 h2
    cases hk : ksC[i]? with
    | none => rw [hk] at h1; cases h1
    | some x =>
      rw [hk] at h1 h2
      cases h1
      cases h2
      exact .int _ _
  have hcell : Cells φK W (0, 0, 64) (ksC.map w32) := by
    obtain ⟨lo, hi⟩ := fr
    refine ⟨cs, t, lo, hi, hh, hsz, trivial, by rw [List.length_map, ksC_len]; exact Nat.le_refl _, ?_⟩
    rw [List.drop_zero, List.take_of_length_le (by rw [List.length_map, ksC_len, hc, List.length_map, ksC_len]; exact Nat.le_refl _)]
    exact hvr
  refine ⟨fun b x l hb hr => ?_, fun b1 b2 x1 x2 l1 l2 hlt hb1 hb2 _ _ _ => ?_, hwf0.ro allRo_none _, fun b x hb => ?_, fun b x l f hb hg => absurd hg (allRoK b l f), fun g b hg => ?_⟩
  · obtain ⟨rfl, rfl⟩ := h0 b x hb
    rw [readK] at hr
    cases hr
    exact hcell
  · have := (h0 b1 x1 hb1).1
    have := (h0 b2 x2 hb2).1
    omega
  · obtain ⟨rfl, rfl⟩ := h0 b x hb
    exact hcell.lt
  · unfold gAt at hg
    split at hg
    · cases hg
      have : g = 0 := by omega
      subst this
      exact ⟨64, rfl⟩
    · cases hg
end Go.Proofs.YtghmbmblhdgabaaDoor
