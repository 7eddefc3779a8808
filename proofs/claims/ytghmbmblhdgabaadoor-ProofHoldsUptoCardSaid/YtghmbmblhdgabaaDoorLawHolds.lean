/- The law 'ProofHolds' of the program's chapter 28 returns true for every claim, every bytes and every number, where they hold together at most 1048576 values and letters; they read as they did. The table of constants reads as the program's text lays it. -/
import Derived.Test.YtghmbmblhdgabaaDoorPL
import Derived.Test.YtghmbmblhdgabaaDoorTie
import Derived.Test.YtghmbmblhdgabaaDoorCards
import Derived.WalkKit
import Derived.ProofKit
import Derived.OpenShut
import Derived.JoinedCond
import Derived.SevenTiedAt
set_option linter.all false
namespace Go.Proofs.YtghmbmblhdgabaaDoor.proofHolds
open Go Go.Den Code

set_option maxRecDepth 100000 in
/-- What the law does, for every argument. -/
theorem contract (A : Type) (enc : TypeId × Value → A) (W : World) (base : Nat) (args : Array Value) (ds gs : List (DataW A)) (before : List MemPlace)
    (hval : ∀ (j : Nat) t v, Tryd.f5.params[j]? = some t → args[j]? = some v → Value.okWide Tryd.prog W .any base t v)
    (hW : DataW.Whole enc Tryd.prog Tryd.f5.params.toList Rows.proofHoldsSpec.vars false W args.toList ds gs before) (hsm : smalls 1048576 (ds ++ gs)) (hL : laidMetH Tryd.prog [("chancery/proof.k", Rows.laid_chancery_proof_k)] W) :
    Calls Tryd.prog 5 args W fun e W' => ∃ v, e = .returned v ∧ Rows.proofHoldsSpec.post enc Tryd.prog Tryd.f5 false true false false W args v W' := by
  refine Den.contract0 (C := C) okP (by kernel_rfl) (fn := Tryd.f5) (tb := 4) (N := 8) (M := 1048576) (by kernel_rfl) Tryd.underlying4 rfl ?_ ?_ (simK hL) freeK allRoK ?_ hval hW hsm
  · rw [Tryd.params5]
    intro t ht
    have ht : t = 31 ∨ t = 22 ∨ t = 3 := by simpa using ht
    rcases ht with rfl | rfl | rfl
    · exact ⟨by kernel_rfl, of_decide_eq_true (by kernel_rfl), by kernel_rfl⟩
    · exact ⟨by kernel_rfl, of_decide_eq_true (by kernel_rfl), by kernel_rfl⟩
    · exact ⟨by kernel_rfl, of_decide_eq_true (by kernel_rfl), by kernel_rfl⟩
  · intro ds hd
    rw [Tryd.params5] at hd
    match ds, hd with
    | [d0, d1, d2], _ => exact ⟨rfl, rfl, rfl⟩
  · intro φ h vs s1 ff al g r len o
    have hk : h.read 0 = some (ksC.map w32) := g.read (simK hL).wf readK
    rw [Tryd.params5] at len o
    have run : ∃ n h', call C n 5 vs h.next h = some (.bool true, h') := by
      match vs, len, o with
      | [v0, v1, v2], _, o =>
        obtain ⟨key, t, role, draw, rfl⟩ := claim_ok (o 0 31 v0 rfl rfl)
        obtain ⟨bs, b1, b2⟩ := bytes_arg (o 1 22 v1 rfl rfl)
        have o2 := o 2 3 v2 rfl rfl
        have o2 : OkV Tryd.prog h.read 1048576 8 3 [v2] := by
          unfold OkA at o2
          simp only [Tryd.underlying3] at o2
          exact o2
        obtain ⟨bit, e2, _⟩ := int_ok Tryd.underlying3 o2
        obtain rfl := (List.cons.inj e2).1
        exact CW_call (proofHolds0 s1.wf hk b1 (by omega) fun _ => rfl)
    obtain ⟨n, h', hc⟩ := run
    exact ⟨φ, h, vs, n, h', s1, ff, al, r, hc⟩

set_option maxRecDepth 100000 in
theorem lifted (os : Os) (started : os.Started) (A : Type) (enc : TypeId × Value → A) (F : Stop.Interp) :
    ReturnsInHanded {} Tryd.checked os 5 .any (Rows.proofHoldsUptoRow.pre enc Tryd.prog Tryd.f5 (Rows.OpenSpec.upto Rows.proofHoldsSpec)) (((Rows.OpenSpec.upto Rows.proofHoldsSpec).at F).post enc Tryd.prog Tryd.f5 false true false false) := by
  refine returnsInHanded_of_calls own started (by kernel_rfl) ?_ ?_
  · have hok : Input.okWideB Tryd.prog ((World.doorLaid Tryd.prog 400 os).forCall (fun _ _ => 0) ⟨#[], #[.agg #[.string ⟨⟨[]⟩⟩, .int .i64 0, .string ⟨⟨[]⟩⟩, .int .u64 0], .slice none 0 0, .int .i64 0], []⟩) 5 ⟨#[], #[.agg #[.string ⟨⟨[]⟩⟩, .int .i64 0, .string ⟨⟨[]⟩⟩, .int .u64 0], .slice none 0 0, .int .i64 0], []⟩ = true := by kernel_rfl
    have hx : DataW.whole enc Tryd.prog ((World.doorLaid Tryd.prog 400 os).forCall (fun _ _ => 0) ⟨#[], #[.agg #[.string ⟨⟨[]⟩⟩, .int .i64 0, .string ⟨⟨[]⟩⟩, .int .u64 0], .slice none 0 0, .int .i64 0], []⟩).memory Tryd.f5.params.toList [] false [.agg #[.string ⟨⟨[]⟩⟩, .int .i64 0, .string ⟨⟨[]⟩⟩, .int .u64 0], .slice none 0 0, .int .i64 0] 8 =
        some ([.agg [.lit (.string []), .lit (.int .i64 0), .lit (.string []), .lit (.int .u64 0)], .nil, .lit (.int .i64 0)], [], []) := by kernel_rfl
    refine ⟨World.doorLaid Tryd.prog 400 os, fun _ _ => 0, ⟨#[], #[.agg #[.string ⟨⟨[]⟩⟩, .int .i64 0, .string ⟨⟨[]⟩⟩, .int .u64 0], .slice none 0 0, .int .i64 0], []⟩, rfl, World.shaped_of_RefB (by kernel_rfl) (by kernel_rfl), (Input.okWide_of_okWideB (base := 0) hok).1, (Input.okWide_of_okWideB hok).2,
      ⟨⟨(OpenSpec.pre_some (k := Rows.uptoSmall) rfl _ _ _ _).2 ⟨_, _, _, DataW.Whole_of_whole hx, rfl, by kernel_rfl⟩, door_met os _⟩, sizedMet_of_sizedB (fuel := 8) (by kernel_rfl)⟩, ?_⟩
    simp only [Assume.holds]
    exact ⟨by simp, by simp, fun _ => Modest.zero, by simp, by simp⟩
  · intro w tape i _ _ _ hok hpre _
    obtain ⟨_, _, _, fn', hfn', _, _, _, _, hval⟩ := hok
    have e : fn' = Tryd.f5 := Option.some.inj (hfn'.symm.trans Tryd.func5)
    subst e
    obtain ⟨⟨hp, hl⟩, _⟩ := hpre
    obtain ⟨ds, gs, before, hw, _, hkk⟩ := (OpenSpec.pre_some (k := Rows.uptoSmall) rfl _ _ _ _).1 hp
    have hw' := DataW.Whole.of_heap (w' := w.forCall tape i) (by rfl) hw
    refine (contract A enc (w.forCall tape i) w.heap.size i.args ds gs before hval hw' (smalls_of hkk) (hl.of_heap (by rfl))).mono fun e W' ⟨v, he, hp⟩ => ?_
    subst he
    exact ChangeSpec.post_blind hp

theorem over : Rows.proofHoldsUptoRow.holds Tryd.pinned (Rows.OpenSpec.upto Rows.proofHoldsSpec) :=
  OpenClaim.holds_of_cond 5 Tryd.f5 rfl rfl rfl rfl rfl rfl rfl ⟨rfl, rfl, rfl, rfl, rfl⟩ rfl rfl rfl rfl rfl (by kernel_rfl) Tryd.func5 (by kernel_rfl)
    (of_decide_eq_true (by kernel_rfl)) (by unfold Func.isWrapper; first | (rw [if_pos (by decide +kernel)]; kernel_rfl) | (rw [if_neg (by decide +kernel)]; exact ⟨rfl, rfl⟩))
    (fun os started H enc _ F => lifted os started H enc F)

set_option maxRecDepth 100000 in
theorem proved : Rows.ProofHoldsUptoCardSaid :=
  Claim7.holds_tied_plain_at .later [] [.data] true (true, "e25fa93c8ae83af63d98bcae5718c077ff717ae9246da7b94ea7375681788880") false
    over (fun _ h => by cases h) (by kernel_rfl) (fun _ h => by cases h) proofHoldsUpto_row_tie rfl ⟨rfl, rfl⟩ (by kernel_rfl) rfl
    (fun f fn hf hfn => by
      obtain rfl : f = 5 := Option.some.inj ((show Tryd.prog.funcNamed "chancery/chancerylaw28.ProofHolds" = some 5 by kernel_rfl).symm.trans hf) |>.symm
      obtain rfl : fn = Tryd.f5 := (Option.some.inj (Tryd.func5.symm.trans hfn)).symm
      exact ⟨by kernel_rfl, fun j t ht => by
        rw [Tryd.params5] at ht
        have hm : t ∈ [31, 22, 3] := by simpa using Array.mem_of_getElem? ht
        have hall : ([31, 22, 3].all fun u => !Tryd.prog.wantsStandIn u) = true := by kernel_rfl
        exact (show Tryd.prog.wantsStandIn t = false by simpa using List.all_eq_true.1 hall t hm)⟩)
    (by kernel_rfl)
end Go.Proofs.YtghmbmblhdgabaaDoor.proofHolds
