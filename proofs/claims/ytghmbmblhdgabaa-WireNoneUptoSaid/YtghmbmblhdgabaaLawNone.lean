/- The law 'WireNone' of the program's chapter 29 returns true for every argument, and the argument reads as it did. -/
import Derived.Test.YtghmbmblhdgabaaBulk
import Derived.WalkKit
import Derived.ProofKit
import Derived.OpenShut
import Derived.JoinedCond
namespace Go.Proofs.Ytghmbmblhdgabaa.wireNone
open Go Go.Den
noncomputable abbrev C : Cfg := { P := Try.prog, S := fun _ => none }
theorem ok : ProgOk C := ProgOk.plain (by kernel_rfl) (by kernel_rfl)
def h1 : H := { m := .nil, f := .nil, next := 1 }
theorem runs (n : Nat) (c : Option Nat) (es : Nat) : (call C 1000 5 [.sl 0 0 n c es] 1 h1).map (·.1) = some (.bool true) := by kernel_rfl
theorem runs_nil : (call C 1000 5 [.nils] 1 h1).map (·.1) = some (.bool true) := by kernel_rfl

set_option maxRecDepth 100000 in
/-- What the law does, for every argument. -/
theorem contract (A : Type) (enc : TypeId × Value → A) (W : World) (base : Nat) (args : Array Value) (ds gs : List (DataW A)) (before : List MemPlace)
    (hval : ∀ (j : Nat) t v, Try.f5.params[j]? = some t → args[j]? = some v → Value.okWide Try.prog W .any base t v)
    (hW : DataW.Whole enc Try.prog Try.f5.params.toList Rows.wireNoneSpec.vars false W args.toList ds gs before) (hsm : smalls 1048576 (ds ++ gs)) :
    Calls Try.prog 5 args W fun e W' => ∃ v, e = .returned v ∧ Rows.wireNoneSpec.post enc Try.prog Try.f5 false true false false W args v W' := by
  refine contract0 (C := C) ok (by kernel_rfl) (fn := Try.f5) (tb := 4) (N := 4) (M := 1048576) (by kernel_rfl) Try.underlying4 rfl ?_ ?_ ?_ hval hW hsm
  · rw [Try.params5]
    intro t ht
    have : t = 22 := by simpa using ht
    subst this
    exact ⟨by kernel_rfl, of_decide_eq_true (by kernel_rfl), by kernel_rfl⟩
  · intro ds hd
    rw [Try.params5] at hd
    match ds, hd with
    | [d], _ => exact ⟨rfl, rfl, rfl⟩
  · intro φ h vs s ff al r len o
    rw [Try.params5] at len o
    generalize args.toList = al at r ⊢
    match vs, len, r, o with
    | [v], _, r, o =>
      have hv := o 0 22 v rfl rfl
      obtain ⟨v', rfl, rv⟩ : ∃ v', al = [v'] ∧ VR φ v v' := by
        cases r with
        | cons h hr => cases hr; exact ⟨_, rfl, h⟩
      have hg : ∀ b, h1.get b = none := fun b => by unfold H.get h1; exact T.get_nil b
      have hro : AllRo h1 := fun b l f h => by rw [hg] at h; cases h
      have sim1 : ∀ φ' : Phi, (∀ b x, φ' b = some x → x.1 < W.heap.size) → Sim φ' h1 W := by
        intro φ' hb
        have hr : ∀ b, h1.read b = none := fun b => by unfold H.read; rw [hg]
        refine ⟨fun b x l _ h => ?_, fun b1 b2 x1 x2 l1 l2 _ _ _ h => ?_, ⟨fun b o h => ?_, fun b l f h => ?_⟩, hb, fun b x l f _ h => ?_⟩
        · rw [hr] at h; cases h
        · rw [hr] at h; cases h
        · rw [hg] at h; cases h
        · rw [hg] at h; cases h
        · rw [hg] at h; cases h
      have out : ∀ (φ' : Phi) (x : V), Sim φ' h1 W → FreeFrom φ' h1 → VR φ' x v' → (call C 1000 5 [x] 1 h1).map (·.1) = some (.bool true) →
          ∃ (φ' : Phi) (h1 : H) (vs' : List V) (n : Nat) (h' : H), Sim φ' h1 W ∧ FreeFrom φ' h1 ∧ AllRo h1 ∧ VRs φ' vs' [v'] ∧ call C n 5 vs' h1.next h1 = some (.bool true, h') := by
        intro φ' x s1 f1 r1 hc
        rw [Option.map_eq_some_iff] at hc
        obtain ⟨⟨y, h'⟩, hc, rfl⟩ := hc
        exact ⟨φ', h1, [x], 1000, h', s1, f1, hro, .cons r1 .nil, hc⟩
      have hu : Try.prog.underlying 22 = some (.slice 5) := Try.underlying22
      unfold OkA at hv
      simp only [hu] at hv
      unfold OkV at hv
      simp only [hu] at hv
      rcases hv with hv | ⟨b, m, c, l, hv, _⟩
      · cases hv
        have hn : v' = .slice none 0 0 := by cases rv; rfl
        rw [hn] at out ⊢
        exact out (fun _ => none) .nils (sim1 _ (fun b x h => by cases h)) (fun _ _ => rfl) .nils runs_nil
      · cases hv
        cases rv with
        | sl hb ha hn hc hr =>
        rename_i g base' sz a c'
        rcases hb with hb | hz
        · refine out (fun k => if k = 0 then some (g, base', sz) else none) (.sl 0 0 m (some c) _) (sim1 _ fun k x hk => ?_) (fun k hk => ?_) (.sl (.inl (by simp)) ha hn hc hr) (runs _ _ _)
          · split at hk
            · cases hk; exact s.bnd _ _ hb
            · cases hk
          · have : 1 ≤ k := hk
            simp
            omega
        · exact out (fun _ => none) (.sl 0 0 m (some c) _) (sim1 _ (fun b x h => by cases h)) (fun _ _ => rfl) (.sl (.inr hz) ha hn hc hr) (runs _ _ _)

set_option maxRecDepth 100000 in
theorem lifted (os : Os) (started : os.Started) (A : Type) (enc : TypeId × Value → A) (F : Stop.Interp) :
    ReturnsInHanded {} Try.checked os 5 .any ((Rows.OpenSpec.upto Rows.wireNoneSpec).pre6 enc Try.prog Try.f5 Rows.wireNoneUptoRow.domain false) (((Rows.OpenSpec.upto Rows.wireNoneSpec).at F).post enc Try.prog Try.f5 false true false false) := by
  refine returnsInHanded_of_cond (C := Try.checked) (s := Rows.OpenSpec.upto Rows.wireNoneSpec) (k := Rows.uptoSmall) rfl own started (by kernel_rfl) Try.func5
    (OpenSpec.witness (enc := enc) (C := Try.checked) (s := Rows.OpenSpec.upto Rows.wireNoneSpec) (k := Rows.uptoSmall) rfl false ⟨#[], #[.slice none 0 0], []⟩ 8 (by kernel_rfl) (by kernel_rfl) (by kernel_rfl)
      (x := ([.nil], [], [])) (by kernel_rfl) rfl (by kernel_rfl)) ?_
  intro W base args ds gs before hval hW _ hk _
  exact contract A enc W base args ds gs before hval hW (smalls_of hk)

theorem over : Rows.wireNoneUptoRow.holds Try.pinned (Rows.OpenSpec.upto Rows.wireNoneSpec) :=
  OpenClaim.holds_of_cond 5 Try.f5 rfl rfl rfl rfl rfl rfl rfl ⟨rfl, rfl, rfl, rfl, rfl⟩ rfl rfl rfl rfl rfl (by kernel_rfl) Try.func5 (by kernel_rfl)
    (of_decide_eq_true (by kernel_rfl)) (by unfold Func.isWrapper; first | (rw [if_pos (by decide +kernel)]; kernel_rfl) | (rw [if_neg (by decide +kernel)]; exact ⟨rfl, rfl⟩))
    (fun os started H enc _ F => lifted os started H enc F)

theorem proved : Rows.WireNoneUptoSaid :=
  over
end Go.Proofs.Ytghmbmblhdgabaa.wireNone
