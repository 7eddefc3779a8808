/- The law 'ProofHolds' as the machine runs it, whole. -/
import Derived.Test.YtghmbmblhdgabaaDoorP10
set_option linter.all false
namespace Go.Proofs.YtghmbmblhdgabaaDoor
open Go Go.Den Code
set_option maxRecDepth 100000
/-- what Proof tells -/
def ProofP (key : List UInt8) (t : Int) (role : List UInt8) (draw : Nat) (P : List UInt8) : Prop :=
  ∀ {h : H} {lo : Nat}, HWF h → lo ≤ h.next → h.read 0 = some (ksC.map w32) → ∀ {K : V → H → Prop}, (∀ v h' F, BufB h' lo v P F → (∀ g, F = some g → h.next ≤ g) → Ch None_ None_ h h' → K v h') → CW C 14 [.str key, .int .i64 t, .str role, .int .u64 (draw : Int)] lo h K
theorem holds_any {h0 h : H} {key role P ab : List UInt8} {t bit : Int} {draw : Nat} {pv av : V} {F : Option Nat} (hh : HoldsP key t role draw P) (pl : P.length = 32) (wf0 : HWF h0) (hk0 : h0.read 0 = some (ksC.map w32)) (ha : Bytes h0.read av ab) (hal : ab.length < 1000000000) (S : PS h0 h key t role draw) (hp : BufB h h0.next pv P F) (hF : ∀ g, F = some g → h0.next < g) {K : V → H → Prop} {e : E}
    (g1 : E.get e 1 = av) (g2 : E.get e 2 = .int .i64 bit) (g3 : E.get e 3 = .ptr h0.next 0) (g7 : E.get e 7 = pv) (hK : ∀ h', K (.bool true) h') : XW C h0.next x5_6 (kF5 K) e h := by
  have rk : ∀ {h' : H}, PS h0 h' key t role draw → h'.read 0 = some (ksC.map w32) := fun S => S.rd wf0 _ _ hk0
  simp only [q5_6, sx, reduceIte, Nat.reduceEqDiff, Nat.reduceAdd, g1, g3, g7, fa0, fa1, fa2, fa3, S.l0, S.l1, S.l2, S.l3]
  refine hh S.ch.wf (Nat.le_of_lt S.nx) (rk S) (ha.mono (S.rd wf0)) fun h2 c2 => ?_
  have S2 := S.go (Y := None_) c2 (fun _ h => False.elim h)
  have hp2 := Buf.ch hp c2 fun _ _ h => h
  refine (sameBytes (ha.mono (S2.rd wf0)) ((Buf.bytes (X := None_) S2.ch.wf hp2 fun _ _ h => h).mono (rb_le _ _)) (by omega)).mono ?_
  rintro _ h3 ⟨rfl, rfl⟩
  simp only [sx, reduceIte, Nat.reduceEqDiff, Nat.reduceAdd, neq4]
  refine byT_mk (fun hne => ?_) (fun _ => ?_)
  · exfalso
    have : decide (P = ab) = decide (ab = P) := by
      by_cases h : P = ab
      · subst h; rfl
      · rw [decide_eq_false h, decide_eq_false fun e => h e.symm]
    rw [this] at hne
    simp at hne
  · exact wrongs (bit := bit) hh pl wf0 hk0 S2 hp2 hF (by simp only [sx, reduceIte, Nat.reduceEqDiff, Nat.reduceAdd, g2]) (by simp only [sx, reduceIte, Nat.reduceEqDiff, Nat.reduceAdd, g3]) (by simp only [sx, reduceIte, Nat.reduceEqDiff, Nat.reduceAdd, g7]) hK
theorem holds_own {h0 h : H} {key role P ab : List UInt8} {t bit : Int} {draw : Nat} {av : V} (hh : HoldsP key t role draw P) (hpp : ProofP key t role draw P) (pl : P.length = 32) (wf0 : HWF h0) (hk0 : h0.read 0 = some (ksC.map w32)) (ha : Bytes h0.read av ab) (hal : ab.length < 1000000000) (S : PS h0 h key t role draw) {K : V → H → Prop} {e : E}
    (g1 : E.get e 1 = av) (g2 : E.get e 2 = .int .i64 bit) (g3 : E.get e 3 = .ptr h0.next 0) (hK : ∀ h', K (.bool true) h') : XW C h0.next x5_3 (kF5 K) e h := by
  have rk : ∀ {h' : H}, PS h0 h' key t role draw → h'.read 0 = some (ksC.map w32) := fun S => S.rd wf0 _ _ hk0
  simp only [q5_3, sx, reduceIte, Nat.reduceEqDiff, Nat.reduceAdd, g3, fa0, fa1, fa2, fa3, S.l0, S.l1, S.l2, S.l3]
  refine hpp S.ch.wf (Nat.le_of_lt S.nx) (rk S) fun v h2 F b2 f2 c2 => ?_
  have S2 := S.go (Y := None_) c2 (fun _ h => False.elim h)
  have hl : lenV Tryd.prog [22] v = some (.int .i64 32) := by
    have := ((Buf.bytes (X := None_) S2.ch.wf b2 fun _ _ h => h)).len t22
    rwa [pl] at this
  simp only [sx, reduceIte, Nat.reduceEqDiff, Nat.reduceAdd, hl]
  refine byT_mk (fun hne => absurd hne (by decide)) (fun _ => ?_)
  simp only [sx, reduceIte, Nat.reduceEqDiff, Nat.reduceAdd, fa0, fa1, fa2, fa3, S2.l0, S2.l1, S2.l2, S2.l3]
  refine hh S2.ch.wf (Nat.le_of_lt S2.nx) (rk S2) ((Buf.bytes (X := None_) S2.ch.wf b2 fun _ _ h => h).mono (rb_le _ _)) fun h4 c4 => ?_
  have S4 := S2.go (Y := None_) c4 (fun _ h => False.elim h)
  rw [decide_eq_true (rfl : P = P)]
  simp only [sx, reduceIte, Nat.reduceEqDiff, Nat.reduceAdd, Bool.not_true]
  exact holds_any (bit := bit) hh pl wf0 hk0 ha hal S4 (Buf.ch b2 c4 fun _ _ h => h) (fun g hg => Nat.lt_of_lt_of_le S.nx (f2 g hg)) (by simp only [sx, reduceIte, Nat.reduceEqDiff, Nat.reduceAdd, g1]) (by simp only [sx, reduceIte, Nat.reduceEqDiff, Nat.reduceAdd, g2]) (by simp only [sx, reduceIte, Nat.reduceEqDiff, Nat.reduceAdd, g3]) (by simp only [sx, reduceIte, Nat.reduceEqDiff, Nat.reduceAdd]) hK
theorem proofHolds0 {h0 : H} {key role ab : List UInt8} {t bit : Int} {draw : Nat} {av : V} (wf0 : HWF h0) (hk0 : h0.read 0 = some (ksC.map w32)) (ha : Bytes h0.read av ab) (hal : ab.length < 1000000000) {K : V → H → Prop} (hK : ∀ h', K (.bool true) h') :
    CW C 5 [.agg (clC key t role draw), av, .int .i64 bit] h0.next h0 K := by
  refine enter5 rfl ?_
  have c1 := ch_alloc wf0 (clC key t role draw)
  have S : PS h0 (h0.alloc (clC key t role draw)) key t role draw := ⟨c1.mono (None_sub _) (None_sub _), Nat.lt_succ_self _, Own.new (Nat.le_refl _)⟩
  have rk : (h0.alloc (clC key t role draw)).read 0 = some (ksC.map w32) := S.rd wf0 _ _ hk0
  have fin : ∀ e, XW C h0.next x5_2 (kF5 K) e (h0.alloc (clC key t role draw)) := fun e => by
    simp only [q5_2]
    refine awake S.ch.wf (Nat.le_of_lt S.nx) rk fun h2 c2 => ?_
    simp only [sx, reduceIte, Nat.reduceEqDiff, Nat.reduceAdd, e5_rt]
    exact hK _
  have l0 := S.l0
  have l2 := S.l2
  simp only [q5_0, sx, reduceIte, Nat.reduceEqDiff, Nat.reduceAdd, fa0, fa2, l0, l2, len9]
  have ce : ∀ e Q, Q = kF5 K → XW C h0.next x5_2 (kX (XW C h0.next x5_3 Q) Q) e (h0.alloc (clC key t role draw)) := fun e Q hQ => by
    subst hQ
    simp only [q5_2]
    refine awake S.ch.wf (Nat.le_of_lt S.nx) rk fun h2 c2 => ?_
    simp only [sx, reduceIte, Nat.reduceEqDiff, Nat.reduceAdd, e5_rt]
    exact hK _
  refine byT_dec (fun hlt => ce _ _ rfl) (fun hge => ?_)
  refine byT_dec (fun hlt2 => ce _ _ rfl) (fun hge2 => ?_)
  have h1 : ¬ (300 : Int) < (key.length : Int) := hge
  have h2 : ¬ (300 : Int) < (role.length : Int) := hge2
  refine holds_own (bit := bit) (fun wf hlo hk hp _ hK => holdsF wf hlo hk ksC_len (by omega) (by omega) hp hK) (fun wf hlo hk _ hK => proofF wf hlo hk ksC_len (by omega) (by omega) hK) (mac_len _ _ _) wf0 hk0 ha hal S ?_ ?_ ?_ hK <;> simp only [sx, reduceIte, Nat.reduceEqDiff, Nat.reduceAdd]
end Go.Proofs.YtghmbmblhdgabaaDoor
