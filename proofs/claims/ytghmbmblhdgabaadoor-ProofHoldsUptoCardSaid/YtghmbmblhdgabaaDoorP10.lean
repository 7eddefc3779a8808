/- The law 'ProofHolds' as the machine runs it. -/
import Derived.Test.YtghmbmblhdgabaaDoorP9
set_option linter.all false
namespace Go.Proofs.YtghmbmblhdgabaaDoor
open Go Go.Den Code
set_option maxRecDepth 100000
theorem c9 : Sc Tryd.prog 9 := ⟨by kernel_rfl, by kernel_rfl⟩
theorem c3 : Sc Tryd.prog 3 := ⟨by kernel_rfl, by kernel_rfl⟩
theorem c29 : Sc Tryd.prog 29 := ⟨by kernel_rfl, by kernel_rfl⟩
theorem fa0 (b : Nat) : fieldAddrV Tryd.prog 31 (.ptr b 0) 0 = some (.ptr b 0) := by kernel_rfl
theorem fa1 (b : Nat) : fieldAddrV Tryd.prog 31 (.ptr b 0) 1 = some (.ptr b 1) := by kernel_rfl
theorem fa2 (b : Nat) : fieldAddrV Tryd.prog 31 (.ptr b 0) 2 = some (.ptr b 2) := by kernel_rfl
theorem fa3 (b : Nat) : fieldAddrV Tryd.prog 31 (.ptr b 0) 3 = some (.ptr b 3) := by kernel_rfl
theorem len9 (s : List UInt8) : lenV Tryd.prog [9] (.str s) = some (.int .i64 (s.length : Int)) := by
  have h9 : Tryd.prog.underlying 9 = some .string := Tryd.underlying9
  simp only [lenV, h9]
/-- a claim's cells -/
def clC (key : List UInt8) (t : Int) (role : List UInt8) (draw : Nat) : List V := [.str key, .int .i64 t, .str role, .int .u64 (draw : Int)]
structure PS (h0 h : H) (key : List UInt8) (t : Int) (role : List UInt8) (draw : Nat) : Prop where
  ch : Ch (Zr h0) (Zr h0) h0 h
  nx : h0.next < h.next
  o3 : Own h h0.next h0.next h0.next (clC key t role draw)
theorem PS.go {h0 h h' : H} {key : List UInt8} {t : Int} {role : List UInt8} {draw : Nat} {Y : Nat → Prop} (S : PS h0 h key t role draw) (c : Ch Y Y h h') (h2 : ∀ g, Y g → h0.next < g) : PS h0 h' key t role draw :=
  ⟨S.ch.trans (c.mono (fun g hg => by have := h2 g hg; show h0.next ≤ g; omega) fun g hg => by have := h2 g hg; show h0.next ≤ g; omega), Nat.lt_of_lt_of_le S.nx c.next, S.o3.ch c fun h => by have := h2 _ h; omega⟩
theorem PS.l0 {h0 h : H} {key : List UInt8} {t : Int} {role : List UInt8} {draw : Nat} (S : PS h0 h key t role draw) : loadV Tryd.prog 9 (.ptr h0.next 0) h.read = some (.str key) := loadV_one c9 (S.o3.read S.ch.wf) rfl
theorem PS.l1 {h0 h : H} {key : List UInt8} {t : Int} {role : List UInt8} {draw : Nat} (S : PS h0 h key t role draw) : loadV Tryd.prog 3 (.ptr h0.next 1) h.read = some (.int .i64 t) := loadV_one c3 (S.o3.read S.ch.wf) rfl
theorem PS.l2 {h0 h : H} {key : List UInt8} {t : Int} {role : List UInt8} {draw : Nat} (S : PS h0 h key t role draw) : loadV Tryd.prog 9 (.ptr h0.next 2) h.read = some (.str role) := loadV_one c9 (S.o3.read S.ch.wf) rfl
theorem PS.l3 {h0 h : H} {key : List UInt8} {t : Int} {role : List UInt8} {draw : Nat} (S : PS h0 h key t role draw) : loadV Tryd.prog 29 (.ptr h0.next 3) h.read = some (.int .u64 (draw : Int)) := loadV_one c29 (S.o3.read S.ch.wf) rfl
theorem PS.rd {h0 h : H} {key : List UInt8} {t : Int} {role : List UInt8} {draw : Nat} (S : PS h0 h key t role draw) (wf0 : HWF h0) : Le h0.read h.read := (rb_old wf0).trans ((S.ch.rb fun _ h => h).trans (rb_le _ _))
/-- what Holds answers -/
def HoldsP (key : List UInt8) (t : Int) (role : List UInt8) (draw : Nat) (P : List UInt8) : Prop :=
  ∀ {h : H} {lo : Nat} {pv : V} {pb : List UInt8}, HWF h → lo ≤ h.next → h.read 0 = some (ksC.map w32) → Bytes h.read pv pb → ∀ {K : V → H → Prop}, (∀ h', Ch None_ None_ h h' → K (.bool (decide (P = pb))) h') → CW C 19 [.str key, .int .i64 t, .str role, .int .u64 (draw : Int), pv] lo h K
set_option maxHeartbeats 1000000 in
/-- a bit is turned, a byte is cut off, a byte is put behind -/
theorem wrongs {h0 h : H} {key role P : List UInt8} {t bit : Int} {draw : Nat} {pv : V} {F : Option Nat} (hh : HoldsP key t role draw P) (pl : P.length = 32) (wf0 : HWF h0) (hk0 : h0.read 0 = some (ksC.map w32)) (S : PS h0 h key t role draw) (hp : BufB h h0.next pv P F) (hF : ∀ g, F = some g → h0.next < g) {K : V → H → Prop} {e : E}
    (g2 : E.get e 2 = .int .i64 bit) (g3 : E.get e 3 = .ptr h0.next 0) (g7 : E.get e 7 = pv) (hK : ∀ h', K (.bool true) h') : XW C h0.next x5_8 (kF5 K) e h := by
  have rk : ∀ {h' : H}, PS h0 h' key t role draw → h'.read 0 = some (ksC.map w32) := fun S => S.rd wf0 _ _ hk0
  have hpb : ∀ {h' : H}, BufB h' h0.next pv P F → HWF h' → Bytes h'.read pv P := fun hb wf => (Buf.bytes (X := None_) wf hb fun _ _ h => h).mono (rb_le _ _)
  simp only [q5_8, sx, reduceIte, Nat.reduceEqDiff, Nat.reduceAdd, g2, g3, g7]
  refine copyBytes S.ch.wf (Nat.le_of_lt S.nx) (hpb hp S.ch.wf) (by omega) fun v2 h2 F2 b2 f2 c2 => ?_
  have S2 := S.go (Y := None_) c2 (fun _ h => False.elim h)
  refine pick fun r hr => ?_
  have q8 : binV Tryd.prog .quo 3 (.int .i64 (r : Int)) (.int .i64 8) = some (.int .i64 ((r / 8 : Nat) : Int)) := by
    simp only [binV, intOp, if_true]
    rw [if_neg (by decide)]
    have : (r : Int).tdiv 8 = ((r / 8 : Nat) : Int) := rfl
    rw [this, wrap64 (by omega) (by omega)]
  have r8 : binV Tryd.prog .rem 3 (.int .i64 (r : Int)) (.int .i64 8) = some (.int .i64 ((r % 8 : Nat) : Int)) := by
    simp only [binV, intOp, if_true]
    rw [if_neg (by decide)]
    congr 2
  obtain ⟨c, hc, hs⟩ := one8 (Nat.mod_lt r (by decide : 0 < 8))
  have hi : r / 8 < P.length := by omega
  -- the turned byte
  have nil : P ≠ [] := fun e => by rw [e] at pl; cases pl
  rcases b2 with ⟨_, h0', _, _⟩ | ⟨b, cp, f, low, rfl, ho, hl, rfl⟩
  · rw [h0'] at pl; cases pl
  have o2 : Own h2 h.next b f (P.map byteV) := ⟨low, ho⟩
  have hf := f2 f rfl
  have ad : addrV Tryd.prog 22 (.sl b 0 P.length cp 1) (.int .i64 ((r / 8 : Nat) : Int)) = some (.ptr b (r / 8)) := by
    have hu : Tryd.prog.underlying 22 = some (.slice 5) := Tryd.underlying22
    have hs5 : size? Tryd.prog 5 = some 1 := by kernel_rfl
    simp only [addrV, hu]
    rw [if_pos (by omega), if_pos hs5]
    simp
    omega
  have l5 := load8 (o2.read c2.wf) hi
  obtain ⟨h3, s3, o3, c3, n3⟩ := Own.put8 c2.wf o2 (i := r / 8) (P.getD (r / 8) 0 ^^^ c) hi
  have s3' := storeV_lower (lo' := h0.next) (Nat.le_of_lt S.nx) s3
  have hbad : P ≠ P.set (r / 8) (P.getD (r / 8) 0 ^^^ c) := fun e => by
    have h1 := congrArg (fun l : List UInt8 => l.getD (r / 8) 0) e
    simp only [List.getD, List.getElem?_set_self hi, Option.getD_some] at h1
    exact xor_ne hc h1.symm
  have S3 := S2.go c3 fun g (hg : g = f) => by have := S.nx; omega
  have hp3 : BufB h3 h0.next pv P F := (Buf.ch hp c2 fun _ _ h => h).ch c3 fun g hg (e : g = f) => by
    have := Buf.lt S.ch.wf hp hg
    omega
  simp only [sx, reduceIte, Nat.reduceEqDiff, Nat.reduceAdd, q8, r8, hs, ad, l5, xor8, s3', fa0, fa1, fa2, fa3, S3.l0, S3.l1, S3.l2, S3.l3]
  refine hh S3.ch.wf (Nat.le_refl _) (rk S3) (ownBytes (n := P.length) (c := cp) c3.wf o3 (by simp)) fun h4 c4 => ?_
  have S4 := S3.go (Y := None_) c4 (fun _ h => False.elim h)
  have hp4 := Buf.ch hp3 c4 fun _ _ h => h
  obtain ⟨w, w1, w2⟩ := (hpb hp4 S4.ch.wf).to t22 (rd' := h4.read) (hi := 31) (k := .i64) (by omega)
  have w1 : sliceV Tryd.prog h4.read 22 pv none (some (.int .i64 31)) none = some w := w1
  have hcut : P ≠ P.take 31 := fun e => by
    have h1 := congrArg List.length e
    rw [List.length_take] at h1
    omega
  rw [decide_eq_false hbad]
  simp only [sx, reduceIte, Nat.reduceEqDiff, Nat.reduceAdd, Bool.not_false, fa0, fa1, fa2, fa3, S4.l0, S4.l1, S4.l2, S4.l3, w1]
  refine hh S4.ch.wf (Nat.le_refl _) (rk S4) w2 fun h5 c5 => ?_
  have S5 := S4.go (Y := None_) c5 (fun _ h => False.elim h)
  have hp5 := Buf.ch hp4 c5 fun _ _ h => h
  rw [decide_eq_false hcut]
  obtain ⟨v6, h6, F6, e6, b6, G6⟩ := append_byte (t := 22) a22 S5.ch.wf (Nat.le_of_lt S5.nx) hp5 0 (by omega)
  have cB := ch_alloc S5.ch.wf [byteV 0]
  have hpB := Buf.ch hp5 cB fun _ _ h => h
  have hlong : P ≠ P ++ [0] := fun e => by
    have h1 := congrArg List.length e
    rw [List.length_append] at h1
    simp at h1
  have S6 := S5.go (G6.ch.mono (None_sub (fun g => F = some g ∨ h5.next ≤ g)) fun _ h => h) fun g hg => by
    rcases hg with hg | hg
    · exact hF g hg
    · have := S5.nx; omega
  simp only [sx, reduceIte, Nat.reduceEqDiff, Nat.reduceAdd, Bool.not_false, fa0, fa1, fa2, fa3, S5.l0, S5.l1, S5.l2, S5.l3, b0]
  refine endX_buf cB.wf hpB ?_
  simp only [sx, reduceIte, Nat.reduceEqDiff, Nat.reduceAdd, e6]
  refine hh S6.ch.wf (Nat.le_of_lt S6.nx) (rk S6) ((Buf.bytes (X := None_) S6.ch.wf b6 fun _ _ h => h).mono (rb_le _ _)) fun h7 c7 => ?_
  have S7 := S6.go (Y := None_) c7 (fun _ h => False.elim h)
  rw [decide_eq_false hlong]
  simp only [sx, reduceIte, Nat.reduceEqDiff, Nat.reduceAdd, Bool.not_false]
  refine awake S7.ch.wf (Nat.le_of_lt S7.nx) (rk S7) fun h8 c8 => ?_
  simp only [sx, reduceIte, Nat.reduceEqDiff, Nat.reduceAdd, e5_rt]
  exact hK _
end Go.Proofs.YtghmbmblhdgabaaDoor
