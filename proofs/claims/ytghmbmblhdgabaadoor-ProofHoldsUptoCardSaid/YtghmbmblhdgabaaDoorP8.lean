/- The program's message, its proof, and whether it holds. -/
import Derived.Test.YtghmbmblhdgabaaDoorP7
set_option linter.all false
namespace Go.Proofs.YtghmbmblhdgabaaDoor
open Go Go.Den Code
set_option maxRecDepth 100000
theorem a22s : ApT Tryd.prog 22 9 5 1 1 := ⟨Tryd.underlying22, .inr Tryd.underlying9, (Tryd.prog.info? 5).get (by kernel_rfl), .int .u8 0, by kernel_rfl, by kernel_rfl, by kernel_rfl, by kernel_rfl, by kernel_rfl⟩
def chB : List UInt8 := [99, 104, 97, 110, 99, 101, 114, 121]
def msgB (tenant : Int) (role : List UInt8) (draw : Nat) : List UInt8 := chB ++ [0, lowB tenant] ++ role ++ [0] ++ longS draw 8
theorem chV : buildSliceV Tryd.prog 22 8 [(0, .int .u8 99), (1, .int .u8 104), (2, .int .u8 97), (3, .int .u8 110), (4, .int .u8 99), (5, .int .u8 101), (6, .int .u8 114), (7, .int .u8 121)] = some (.new (chB.map byteV) (.sl 8 (some 8) 1)) := by kernel_rfl
theorem twoV (y : UInt8) : buildSliceV Tryd.prog 22 2 [(0, .int .u8 0), (1, byteV y)] = some (.new ([0, y].map byteV) (.sl 2 (some 2) 1)) := by
  show buildSliceV Tryd.prog 22 2 [(0, byteV 0), (1, byteV y)] = some (.new [byteV 0, byteV y] (.sl 2 (some 2) 1))
  unfold byteV
  kernel_rfl
theorem mark22 {h : H} {lo b f n : Nat} {c : Option Nat} {l : List V} (o : Own h lo b f l) (hn : n ≠ 0) : markV Tryd.prog lo 22 (.sl b 0 n c 1) h = some (.sl b 0 n c 1, h) := by
  have hu : Tryd.prog.underlying 22 = some (.slice 5) := Tryd.underlying22
  have h5 : Tryd.prog.underlying 5 = some (.int .u8) := Tryd.underlying5
  obtain ⟨low, ho⟩ := o
  unfold markV
  simp only [hu, h5, ho]
  rw [if_neg hn]
theorem conv3_5 (rd : Rd) (n : Int) : convV Tryd.prog rd 3 5 (.int .i64 n) = some (.val (byteV (lowB n))) := by
  have h5 : Tryd.prog.underlying 3 = some (.int .i64) := Tryd.underlying3
  have h3 : Tryd.prog.underlying 5 = some (.int .u8) := Tryd.underlying5
  simp only [convV, h5, h3]
  rw [byteV_low]
theorem conv9_22 (rd : Rd) (s : List UInt8) (hs : s.length < 1000000000) : convV Tryd.prog rd 9 22 (.str s) = some (.new (s.map byteV) (.sl s.length none 1)) := by
  have h9 : Tryd.prog.underlying 9 = some .string := Tryd.underlying9
  have h22 : Tryd.prog.underlying 22 = some (.slice 5) := Tryd.underlying22
  have h5 : Tryd.prog.underlying 5 = some (.int .u8) := Tryd.underlying5
  simp only [convV, h9, h22, h5]
  rw [if_pos (by omega)]
  rfl
theorem elems_str (rd : Rd) (s : List UInt8) : elems rd 1 (.str s) = some (s.length, s.map byteV) := rfl
theorem Gr.end_ {h h' : H} {F' : Option Nat} (wf : HWF h) (c : Gr h (some h.next) h' F') : Ch None_ None_ h h' ∧ ∀ g, F' = some g → h.next ≤ g :=
  ⟨c.ch.old wf (fun _ h _ => h) fun g h1 h2 => by
    rcases h1 with h1 | h1
    · have := Option.some.inj h1; omega
    · omega, fun g hg => by
    rcases c.F g hg with h1 | h1
    · have := Option.some.inj h1; omega
    · omega⟩
theorem message {h : H} {lo : Nat} {t : Int} {role : List UInt8} {draw : Nat} (wf : HWF h) (hlo : lo ≤ h.next) (hr : role.length < 1000000) {K : V → H → Prop}
    (hK : ∀ v h' F, BufB h' lo v (msgB t role draw) F → (∀ g, F = some g → h.next ≤ g) → Ch None_ None_ h h' → K v h') : CW C 17 [.int .i64 t, .str role, .int .u64 (draw : Int)] lo h K := by
  refine enter17 rfl ?_
  have c1 := ch_alloc wf (chB.map byteV)
  have o1 : Own (h.alloc (chB.map byteV)) lo h.next h.next (chB.map byteV) := Own.new hlo
  have lo1 : lo ≤ (h.alloc (chB.map byteV)).next := Nat.le_trans hlo c1.next
  have c2 := ch_alloc c1.wf ([0, lowB t].map byteV)
  have G2 : Gr h (some h.next) ((h.alloc (chB.map byteV)).alloc ([0, lowB t].map byteV)) (some h.next) := (Gr.of c1).trans (Gr.of c2)
  obtain ⟨v3, h3, F3, e3, b3, g3⟩ := append_bytes (t := 22) (u := 22) (ys := [0, lowB t]) a22 c2.wf (Nat.le_trans lo1 c2.next) (ownBuf (n := 8) (c := some 8) (o1.ch c2 id) rfl) (elems_new (c := some 2) c1.wf (n := 2) (es := 1) rfl) (by simp [chB])
  obtain ⟨v4, h4, F4, e4, b4, g4⟩ := append_bytes (t := 22) (u := 9) (x := .str role) (ys := role) a22s g3.ch.wf (Nat.le_trans hlo (G2.trans g3).ch.next) b3 (elems_str _ _) (by simp [chB]; omega)
  obtain ⟨v5, h5, F5, e5, b5, g5⟩ := append_byte (t := 22) a22 g4.ch.wf (Nat.le_trans hlo ((G2.trans g3).trans g4).ch.next) b4 0 (by simp [chB]; omega)
  simp only [q17_0, sx, reduceIte, Nat.reduceEqDiff, Nat.reduceAdd, chV, mark22 o1 (by decide : 8 ≠ 0), conv3_5, twoV, e3, e4, b0, e5]
  refine long g5.ch.wf (Nat.le_trans hlo (((G2.trans g3).trans g4).trans g5).ch.next) b5 (by simp [chB]; omega) fun v6 h6 F6 b6 g6 => ?_
  simp only [sx, reduceIte, Nat.reduceEqDiff, Nat.reduceAdd, e17_rt]
  obtain ⟨k1, k2⟩ := Gr.end_ wf ((((G2.trans g3).trans g4).trans g5).trans g6)
  exact hK v6 h6 F6 b6 k2 k1
/-- what proves a key -/
def proofB (ks : List UInt32) (key : List UInt8) (t : Int) (role : List UInt8) (draw : Nat) : List UInt8 := mac ks key (msgB t role draw)
theorem msgB_len {t : Int} {role : List UInt8} {draw : Nat} : (msgB t role draw).length = role.length + 19 := by
  simp [msgB, chB, longS_len]
theorem proofF {h : H} {ks : List UInt32} {lo : Nat} {key : List UInt8} {t : Int} {role : List UInt8} {draw : Nat} (wf : HWF h) (hlo : lo ≤ h.next) (hk : h.read 0 = some (ks.map w32)) (hkl : ks.length = 64) (hkey : key.length < 1000000) (hr : role.length < 1000000) {K : V → H → Prop}
    (hK : ∀ v h' F, BufB h' lo v (proofB ks key t role draw) F → (∀ g, F = some g → h.next ≤ g) → Ch None_ None_ h h' → K v h') : CW C 14 [.str key, .int .i64 t, .str role, .int .u64 (draw : Int)] lo h K := by
  refine enter14 rfl ?_
  have c1 := ch_alloc wf (key.map byteV)
  have o1 : Own (h.alloc (key.map byteV)) lo h.next h.next (key.map byteV) := Own.new hlo
  simp only [q14_0, sx, reduceIte, Nat.reduceEqDiff, Nat.reduceAdd, conv9_22 _ key (by omega)]
  refine message c1.wf (Nat.le_trans hlo c1.next) hr fun v2 h2 F2 b2 f2 c2 => ?_
  have hk2 : h2.read 0 = some (ks.map w32) := (rb_le _ _) _ _ ((c1.trans c2).rb (fun _ h => h) _ _ (rb_none _ _ _ hk))
  refine macF c2.wf (Nat.le_trans hlo (Nat.le_trans c1.next c2.next)) hk2 hkl (ownBytes (n := key.length) (c := none) c2.wf (o1.ch c2 id) rfl) (by omega) ((Buf.bytes (X := None_) c2.wf b2 fun _ _ h => h).mono (rb_le _ _)) (by rw [msgB_len]; omega) fun h3 c3 => ?_
  have n2 := Nat.le_trans c1.next (Nat.le_trans c2.next c3.next)
  obtain ⟨h4, s4, o4, c4, n4⟩ := box24 (lo := lo) c3.wf (Nat.le_trans hlo n2) (mac_len ks key (msgB t role draw))
  simp only [sx, reduceIte, Nat.reduceEqDiff, Nat.reduceAdd, z24, s4, slice24 (o4.read c4.wf) (by simp [mac_len])]
  refine clone c4.wf (Nat.le_trans hlo (Nat.le_trans n2 c4.next)) (ownBytes c4.wf o4 (mac_len _ _ _)) (by rw [mac_len]; omega) fun v5 h5 F5 b5 f5 c5 => ?_
  simp only [sx, reduceIte, Nat.reduceEqDiff, Nat.reduceAdd, e14_rt]
  exact hK v5 h5 F5 b5 (fun g hg => Nat.le_trans (Nat.le_trans n2 c4.next) (f5 g hg)) ((((c1.trans c2).trans c3).trans c4).trans c5)
theorem equal {a b : V} {h : H} {xs ys : List UInt8} {lo : Nat} (ha : Bytes h.read a xs) (hb : Bytes h.read b ys) (hx : xs.length < 1000000000000000) : CW C 31 [a, b] lo h fun v h' => v = .bool (decide (xs = ys)) ∧ h' = h := by
  refine enter31 rfl ?_
  simp only [q31_0, sx, reduceIte, Nat.reduceEqDiff, Nat.reduceAdd, ha.len t22, hb.len t22]
  refine byT_mk (fun hl => ?_) (fun hl => ?_)
  · simp only [q31_1, sx, reduceIte, Nat.reduceEqDiff, Nat.reduceAdd, e31_rt]
    have : xs ≠ ys := fun e => by subst e; simp at hl
    simp [this]
  · have hlen : xs.length = ys.length := by simp at hl; omega
    simp only [q31_2, q31_3, sx, reduceIte, Nat.reduceEqDiff, Nat.reduceAdd, ha.len t22]
    refine rounds (fun m e' h' => h' = h ∧ ∃ i : Nat, e' = [(0, a), (1, b), (12, .int .i64 (xs.length : Int)), (13, .int .i64 (i : Int))] ∧ i ≤ xs.length ∧ m = xs.length - i ∧ xs.take i = ys.take i) ?_ xs.length ⟨rfl, 0, by simp only [sx, reduceIte, Nat.reduceEqDiff, Nat.reduceAdd]; rfl, Nat.zero_le _, rfl, by simp⟩
    rintro m e' h' ⟨rfl, i, rfl, hi, hm, heq⟩
    simp only [q31_4, sx, reduceIte, Nat.reduceEqDiff, Nat.reduceAdd]
    refine byT_dec (fun hlt => ?_) (fun hge => ?_)
    · have hlt : i < xs.length := by omega
      obtain ⟨p, p1, p2⟩ := ha.at t22 c5 hlt (k := .i64)
      obtain ⟨q, q1, q2⟩ := hb.at t22 c5 (i := i) (by omega) (k := .i64)
      simp only [q31_5, q31_6, sx, reduceIte, Nat.reduceEqDiff, Nat.reduceAdd, p1, p2, q1, q2]
      refine byT_mk (fun hne => ?_) (fun he => ?_)
      · simp only [q31_7, sx, reduceIte, Nat.reduceEqDiff, Nat.reduceAdd, e31_rt]
        have : xs ≠ ys := fun e => by subst e; simp at hne
        simp [this]
      · simp only [q31_8, sx, reduceIte, Nat.reduceEqDiff, Nat.reduceAdd, inc64 (by omega : i < 9000000000000000000)]
        have e1 : xs[i] = ys[i] := by simpa using he
        refine ⟨xs.length - (i + 1), by omega, trivial, i + 1, rfl, by omega, rfl, ?_⟩
        rw [List.take_add_one, List.take_add_one, heq, List.getElem?_eq_getElem hlt, List.getElem?_eq_getElem (by omega : i < ys.length), e1]
    · have hge : xs.length ≤ i := by omega
      simp only [q31_9, sx, reduceIte, Nat.reduceEqDiff, Nat.reduceAdd, e31_rt]
      have : xs = ys := by
        have h2 := heq
        rwa [List.take_of_length_le hge, List.take_of_length_le (by omega)] at h2
      simp [this]
theorem sameBytes {a b : V} {h : H} {xs ys : List UInt8} {lo : Nat} (ha : Bytes h.read a xs) (hb : Bytes h.read b ys) (hx : xs.length < 1000000000000000) : CW C 16 [a, b] lo h fun v h' => v = .bool (decide (xs = ys)) ∧ h' = h := by
  refine enter16 rfl ?_
  simp only [q16_0, sx, reduceIte, Nat.reduceEqDiff, Nat.reduceAdd, ha.len t22, hb.len t22]
  refine byT_mk (fun hl => ?_) (fun hl => ?_)
  · simp only [q16_1, sx, reduceIte, Nat.reduceEqDiff, Nat.reduceAdd, e16_rt]
    have : xs ≠ ys := fun e => by subst e; simp at hl
    simp [this]
  · have hlen : xs.length = ys.length := by simp at hl; omega
    simp only [q16_2, q16_3, sx, reduceIte, Nat.reduceEqDiff, Nat.reduceAdd]
    refine rounds (fun m e' h' => h' = h ∧ ∃ i : Nat, e' = [(0, a), (1, b), (5, .int .i64 (i : Int))] ∧ i ≤ xs.length ∧ m = xs.length - i ∧ xs.take i = ys.take i) ?_ xs.length ⟨rfl, 0, by simp only [sx, reduceIte, Nat.reduceEqDiff, Nat.reduceAdd]; rfl, Nat.zero_le _, rfl, by simp⟩
    rintro m e' h' ⟨rfl, i, rfl, hi, hm, heq⟩
    simp only [q16_4, sx, reduceIte, Nat.reduceEqDiff, Nat.reduceAdd, ha.len t22]
    refine byT_dec (fun hlt => ?_) (fun hge => ?_)
    · have hlt : i < xs.length := by omega
      obtain ⟨p, p1, p2⟩ := ha.at t22 c5 hlt (k := .i64)
      obtain ⟨q, q1, q2⟩ := hb.at t22 c5 (i := i) (by omega) (k := .i64)
      simp only [q16_5, q16_6, sx, reduceIte, Nat.reduceEqDiff, Nat.reduceAdd, p1, p2, q1, q2]
      refine byT_mk (fun hne => ?_) (fun he => ?_)
      · simp only [q16_7, sx, reduceIte, Nat.reduceEqDiff, Nat.reduceAdd, e16_rt]
        have : xs ≠ ys := fun e => by subst e; simp at hne
        simp [this]
      · simp only [q16_8, sx, reduceIte, Nat.reduceEqDiff, Nat.reduceAdd, inc64 (by omega : i < 9000000000000000000)]
        have e1 : xs[i] = ys[i] := by simpa using he
        refine ⟨xs.length - (i + 1), by omega, trivial, i + 1, rfl, by omega, rfl, ?_⟩
        rw [List.take_add_one, List.take_add_one, heq, List.getElem?_eq_getElem hlt, List.getElem?_eq_getElem (by omega : i < ys.length), e1]
    · have hge : xs.length ≤ i := by omega
      simp only [q16_9, sx, reduceIte, Nat.reduceEqDiff, Nat.reduceAdd, e16_rt]
      have : xs = ys := by
        have h2 := heq
        rwa [List.take_of_length_le hge, List.take_of_length_le (by omega)] at h2
      simp [this]
theorem holdsF {h : H} {ks : List UInt32} {lo : Nat} {key : List UInt8} {t : Int} {role : List UInt8} {draw : Nat} {pv : V} {pb : List UInt8} (wf : HWF h) (hlo : lo ≤ h.next) (hk : h.read 0 = some (ks.map w32)) (hkl : ks.length = 64) (hkey : key.length < 1000000) (hr : role.length < 1000000) (hp : Bytes h.read pv pb) {K : V → H → Prop}
    (hK : ∀ h', Ch None_ None_ h h' → K (.bool (decide (proofB ks key t role draw = pb))) h') : CW C 19 [.str key, .int .i64 t, .str role, .int .u64 (draw : Int), pv] lo h K := by
  refine enter19 rfl ?_
  simp only [q19_0, sx, reduceIte, Nat.reduceEqDiff, Nat.reduceAdd]
  refine proofF wf hlo hk hkl hkey hr fun v h2 F b2 f2 c2 => ?_
  have hp2 : Bytes h2.read pv pb := ((hp.mono (rb_none _)).mono (c2.rb fun _ h => h)).mono (rb_le _ _)
  refine (equal ((Buf.bytes (X := None_) c2.wf b2 fun _ _ h => h).mono (rb_le _ _)) hp2 (by rw [proofB, mac_len]; omega)).mono ?_
  rintro _ h3 ⟨rfl, rfl⟩
  simp only [sx, reduceIte, Nat.reduceEqDiff, Nat.reduceAdd, e19_rt]
  exact hK _ c2
end Go.Proofs.YtghmbmblhdgabaaDoor
