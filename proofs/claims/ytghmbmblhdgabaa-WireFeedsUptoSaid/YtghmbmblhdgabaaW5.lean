/- An answer out of frames: the walk. -/
import Derived.Test.YtghmbmblhdgabaaW4
set_option linter.all false
namespace Go.Proofs.Ytghmbmblhdgabaa
open Go Go.Den Code
set_option maxRecDepth 100000
theorem flatten_take {es : Nat} : ∀ {cs : List (List V)} (k : Nat), Wide es cs → (cs.take k).flatten = cs.flatten.take (k * es)
  | _, 0, _ => by simp
  | [], k + 1, _ => by simp
  | c :: r, k + 1, w => by
    have ih := flatten_take (cs := r) k fun d hd => w d (List.mem_cons_of_mem _ hd)
    have hc := w c List.mem_cons_self
    have e : (k + 1) * es = c.length + k * es := by rw [hc, Nat.add_mul, Nat.one_mul, Nat.add_comm]
    rw [List.take_succ_cons, List.flatten_cons, List.flatten_cons, ih, e, List.take_append, List.take_of_length_le (l := c) (by omega), Nat.add_sub_cancel_left]
/-- the front of a slice of anything -/
theorem SlOf.to {α : Type} {Er : Rd → List V → α → Prop} {P : Program} {t e es : Nat} (T : SlT P t e es) {rd rd' : Rd} {v : V} {xs : List α} (hs : SlOf Er es rd v xs) {hi : Nat} {k : IntKind} (h1 : hi ≤ xs.length) :
    ∃ w, sliceV P rd' t v none (some (.int k (hi : Int))) none = some w ∧ SlOf Er es rd w (xs.take hi) := by
  obtain ⟨cs, w, hsl, he⟩ := hs
  have hlen := he.1
  have each : Each (Er rd) (cs.take hi) (xs.take hi) := by
    refine ⟨by simp [hlen], fun i c x q1 q2 => ?_⟩
    rw [List.getElem?_take] at q1 q2
    split at q1
    · rename_i hi'
      rw [if_pos hi'] at q2
      exact he.2 i c x q1 q2
    · cases q1
  have wide : Wide es (cs.take hi) := fun c hc => w c (List.mem_of_mem_take hc)
  have hl : (xs.take hi).length = hi := by simp; omega
  have hsl' := hsl
  rcases hsl with ⟨rfl, h3, h4⟩ | ⟨b, o, c, l, rfl, h4, h5, h6⟩
  · have hhi : hi = 0 := by omega
    subst hhi
    refine ⟨.nils, ?_, cs.take 0, wide, ?_, each⟩
    · unfold sliceV
      simp only [T.u, T.s]
      simp [bound]
    · exact .inl ⟨rfl, by simp, by simp⟩
  · refine ⟨_, slice_to T h1, cs.take hi, wide, ?_, each⟩
    have := Sl.part hsl' c (Nat.zero_le hi) h1
    rw [flatten_take _ w, hl]
    simpa using this
theorem siz42 : size? Try.prog 42 = some 2 := by kernel_rfl
theorem agg42 : agg? Try.prog 42 = some true := by kernel_rfl
theorem z42 : zero? Try.prog 42 = some (.agg [.int .u8 0, .nils]) := by kernel_rfl
theorem siz75 : size? Try.prog 75 = some 3 := by kernel_rfl
theorem agg75 : agg? Try.prog 75 = some true := by kernel_rfl
theorem z75 : zero? Try.prog 75 = some (.agg [.nils, .nils, .int .i64 0]) := by kernel_rfl
theorem b75 : buildV Try.prog 75 [] = some (.agg [.nils, .nils, .int .i64 0]) := by kernel_rfl
theorem b75n (n : Int) : buildV Try.prog 75 [(2, .int .i64 n)] = some (.agg [.nils, .nils, .int .i64 n]) := by kernel_rfl
theorem a73 : ApT Try.prog 73 73 48 1 24 := ⟨Try.underlying73, .inl ⟨48, Try.underlying73⟩, (Try.prog.info? 48).get (by kernel_rfl), .slice none 0 0, by kernel_rfl, by kernel_rfl, by kernel_rfl, by kernel_rfl, by kernel_rfl⟩
theorem bs73 : BsT Try.prog 73 48 1 := ⟨Try.underlying73, ⟨(Try.prog.info? 48).get (by kernel_rfl), .nils, by kernel_rfl, by kernel_rfl, by kernel_rfl, by kernel_rfl⟩, by decide⟩
/-- a frame of a slice, whole -/
theorem Frames.at2 {rd : Rd} {v : V} {fs : List Fm} (hs : Frames rd v fs) {i : Nat} {f : Fm} (hi : fs[i]? = some f) : ∃ b o w, addrV Try.prog 26 v (.int .i64 (i : Int)) = some (.ptr b o) ∧ At rd b o [byteV f.1, w] ∧ Bytes rd w f.2 := by
  obtain ⟨b, o, c, h1, h2, h3, w, rfl, h4⟩ := SlOf.at s26 hs hi .i64
  exact ⟨b, o, w, h1, h2, h4⟩
theorem res37 {e : E} {h : H} {K : V → H → Prop} {t : V} (hl : loadV Try.prog 75 (E.get e 2) h.read = some t) : resX C.P Try.f37.results.toList e h K = K (.tup [t, E.get e 3]) h := by
  have h1 : Try.f37.results.toList = [.cell 2 75, .tmp 3] := by kernel_rfl
  have hl' : loadV C.P 75 (E.get e 2) h.read = some t := hl
  unfold resX
  rw [h1]
  simp only [resXs, resX1, hl']
  rfl
def nilAn : An := ⟨[], [], 0⟩
def RdPost (h0 : H) (l : List Fm) (v : V) (h' : H) : Prop :=
  ∃ c, v = .tup [.agg c, .int .i64 (match rdAns l with | some _ => 0 | none => 390)] ∧ AnC h'.read c ((rdAns l).getD nilAn) ∧ Ch None_ None_ h0 h'
theorem AnC.nil {rd : Rd} : AnC rd [.nils, .nils, .int .i64 0] nilAn := ⟨.nils, .nils, rfl, ⟨[], fun _ h => (by cases h), .inl ⟨rfl, rfl, rfl⟩, Each.nil _⟩, ⟨[], fun _ h => (by cases h), .inl ⟨rfl, rfl, rfl⟩, Each.nil _⟩⟩
section
variable {h0 h : H} {c : Int} {sv nv rv : V} {l init : List Fm} {ns : List (List UInt8)} {xs : List (List Vl)} {F : Option Nat}
/-- what holds while frames are read -/
structure RS (h0 h : H) (c : Int) (sv nv rv : V) (init : List Fm) (ns : List (List UInt8)) (xs : List (List Vl)) (F : Option Nat) : Prop where
  ch : Ch (Zr h0) (Zr h0) h0 h
  o2 : Own h h0.next h0.next h0.next [.nils, .nils, .int .i64 0]
  o5 : Own h h0.next (h0.next + 1) (h0.next + 1) [nv, rv, .int .i64 c]
  fr : Frames (h.rb (Tk h0)) sv init
  nm : Texts (h.rb (Tk h0)) nv ns
  rw_ : BufOf rowE 1 h0.next h (h.rb (Tk h0)) rv xs F
  hF : ∀ g, F = some g → h0.next + 2 ≤ g
  nx : h0.next + 2 ≤ h.next
theorem RS.step {h' : H} {Y : Nat → Prop} (S : RS h0 h c sv nv rv init ns xs F) (a : Ch None_ Y h h') (hY : ∀ g, Y g → h0.next + 2 ≤ g ∧ F ≠ some g) : RS h0 h' c sv nv rv init ns xs F where
  ch := S.ch.trans (a.mono (None_sub _) fun g hg => by have := (hY g hg).1; show h0.next ≤ g; omega)
  o2 := S.o2.ch a fun h => by have := (hY _ h).1; omega
  o5 := S.o5.ch a fun h => by have := (hY _ h).1; omega
  fr := S.fr.mono frE_mono (a.rb (None_sub _))
  nm := S.nm.mono txE_mono (a.rb (None_sub _))
  rw_ := S.rw_.ch rowE_mono a (a.rb (None_sub _)) fun g hg h => (hY g h).2 hg
  hF := S.hF
  nx := Nat.le_trans S.nx a.next
theorem RS.end_ (wf : HWF h0) (S : RS h0 h c sv nv rv init ns xs F) : Ch None_ None_ h0 h := S.ch.old wf (fun g h1 h2 => by have : h0.next ≤ g := h1; omega) fun g h1 h2 => by have : h0.next ≤ g := h1; omega
/-- an error's end -/
theorem rd_err {lo : Nat} {l : List Fm} (wf : HWF h0) (ch : Ch (Zr h0) (Zr h0) h0 h) (o2 : Own h lo h0.next h0.next [.nils, .nils, .int .i64 0]) (hn : rdAns l = none) {K : V → H → Prop} (hK : ∀ v h', RdPost h0 l v h' → K v h') :
    ∃ h2, storeV Try.prog lo 75 (.ptr h0.next 0) (.agg [.nils, .nils, .int .i64 0]) h = some h2 ∧ ∀ e, E.get e 2 = .ptr h0.next 0 → E.get e 3 = .int .i64 390 → resX C.P Try.f37.results.toList e h2 K := by
  obtain ⟨h2, s1, o3, c2, n2⟩ := o2.fill (P := Try.prog) (t := 75) (c := [.nils, .nils, .int .i64 0]) ch.wf siz75 rfl rfl rfl
  refine ⟨h2, s1, fun e g2 g3 => ?_⟩
  have l2 : loadV Try.prog 75 (E.get e 2) h2.read = some (.agg [.nils, .nils, .int .i64 0]) := by rw [g2]; exact (o3.at c2.wf).agg agg75 siz75 rfl (by decide)
  rw [res37 l2, g3]
  refine hK _ _ ⟨[.nils, .nils, .int .i64 0], by rw [hn], by rw [hn]; exact AnC.nil, ?_⟩
  exact (ch.trans (c2.mono (fun g h => by show h0.next ≤ g; omega) fun g h => by show h0.next ≤ g; omega)).old wf (fun g h1 h2 => by have : h0.next ≤ g := h1; omega) fun g h1 h2 => by have : h0.next ≤ g := h1; omega
/-- what the rest of the frames comes to -/
def restA (c : Int) (i : Nat) (ns : List (List UInt8)) (xs : List (List Vl)) (init : List Fm) : Option An :=
  if i = 0 then rdInit c init else match rdRows ns.length (init.drop i) with
    | none => none
    | some ys => some ⟨ns, xs ++ ys, c⟩
theorem rdRows_snoc {n : Nat} {f : Fm} {r : List Fm} : rdRows n (f :: r) = if f.1 ≠ 6 then none else match readP f.2 with
    | none => none
    | some x => if x.length ≠ n then none else match rdRows n r with
      | none => none
      | some xs => some (x :: xs) := rfl
theorem rdInit_cons {c : Int} {f : Fm} {r : List Fm} : rdInit c (f :: r) = if f.1 ≠ 6 ∨ namesOk f.2 = false then none else match rdRows (namesOf f.2).length r with
    | none => none
    | some xs => some ⟨namesOf f.2, xs, c⟩ := rfl
def AnI (h0 : H) (l : List Fm) (c : Int) (sv : V) (init : List Fm) (m : Nat) (e : E) (h : H) : Prop :=
  ∃ (i : Nat) (nv rv : V) (ns : List (List UInt8)) (xs : List (List Vl)) (F : Option Nat), e = [(2, .ptr h0.next 0), (5, .ptr (h0.next + 1) 0), (52, sv), (53, .int .i64 (init.length : Int)), (54, .int .i64 (i : Int))] ∧ i ≤ init.length ∧ m = init.length - i ∧
    RS h0 h c sv nv rv init ns xs F ∧ rdAns l = restA c i ns xs init ∧ (i = 0 → ns = [] ∧ xs = []) ∧ xs.length ≤ i
theorem RS.names (S : RS h0 h c sv nv rv init ns xs F) {nv' : V} {ns' : List (List UInt8)} (hT : Texts (h.rb (Tk h0)) nv' ns') : ∃ h', storeV Try.prog h0.next 72 (.ptr (h0.next + 1) 0) nv' h = some h' ∧ RS h0 h' c sv nv' rv init ns' xs F := by
  have i := hT.isSl
  obtain ⟨h3, s1, o6, c3, n3⟩ := S.o5.set (P := Try.prog) (t := 72) (o := 0) (w := nv') S.ch.wf c72.s i.cells i.scal (by simp)
  have sub : ∀ g, g = h0.next + 1 → Tk h0 g := fun g h => .inr h
  exact ⟨h3, s1, {
    ch := S.ch.trans (c3.mono (fun g h => tk_zr g (sub g h)) fun g h => tk_zr g (sub g h))
    o2 := S.o2.ch c3 (by omega)
    o5 := o6
    fr := S.fr.mono frE_mono (c3.rb sub)
    nm := hT.mono txE_mono (c3.rb sub)
    rw_ := S.rw_.ch rowE_mono c3 (c3.rb sub) fun g hg h => by have := S.hF g hg; omega
    hF := S.hF
    nx := Nat.le_trans S.nx c3.next }⟩
theorem RS.app (S : RS h0 h c sv nv rv init ns xs F) {xv : V} {x : List Vl} (hv : Vals (h.rb (Tk h0)) xv x) (hxs : xs.length ≤ 1048580) : ∃ v' h1 h2 F', appendV Try.prog h0.next [73, 73] rv (.sl h.next 0 1 (some 1) 1) (h.alloc [xv]) = some (v', h1) ∧
    storeV Try.prog h0.next 73 (.ptr (h0.next + 1) (0 + 1)) v' h1 = some h2 ∧ RS h0 h2 c sv nv v' init ns (xs ++ [x]) F' := by
  have c1 := ch_alloc S.ch.wf [xv]
  have hb1 := S.rw_.ch rowE_mono c1 (c1.rb (None_sub _)) fun _ _ h => h
  obtain ⟨v2, h2, F2, e1, e2, e3, e4⟩ := append_one (Er := rowE) (y := x) a73 c1.wf (Nat.le_trans S.ch.next c1.next) hb1 (elems_new (c := some 1) S.ch.wf (n := 1) (es := 1) rfl) rfl ⟨xv, rfl, hv.mono vlE_mono (c1.rb (None_sub _))⟩
    (by show (scal xv && true) = true; rw [hv.isSl.scal]; rfl) (by omega) (by omega)
  have o5 := (S.o5.ch c1 fun h => h).ch e3 fun h => by have := S.hF _ h; omega
  have i : IsSl v2 := by
    obtain ⟨cs, _, hbuf, _⟩ := e2
    rcases hbuf with ⟨h, _⟩ | ⟨b, c, f, low, h, _⟩
    · exact .inl h
    · exact .inr ⟨_, _, _, _, _, h⟩
  obtain ⟨h3, s1, o6, c3, n3⟩ := o5.set (P := Try.prog) (t := 73) (o := 0 + 1) (w := v2) e3.wf c73.s i.cells i.scal (by simp)
  have sub : ∀ g, g = h0.next + 1 → Tk h0 g := fun g h => .inr h
  have le : Le (h.rb (Tk h0)) (h3.rb (Tk h0)) := ((c1.rb (None_sub _)).trans (e3.rb (None_sub _))).trans (c3.rb sub)
  have hn := S.nx
  have hn1 := c1.next
  refine ⟨v2, h2, h3, F2, e1, s1, {
    ch := ((S.ch.trans (c1.mono (None_sub _) (None_sub _))).trans (e3.mono (None_sub _) fun g hg => ?_)).trans (c3.mono (fun g h => tk_zr g (sub g h)) fun g h => tk_zr g (sub g h))
    o2 := ((S.o2.ch c1 fun h => h).ch e3 fun h => ?_).ch c3 (by omega)
    o5 := o6
    fr := S.fr.mono frE_mono le
    nm := S.nm.mono txE_mono le
    rw_ := (e2.imp fun c x he => rowE_mono _ _ c x (e3.rb (None_sub _)) he).ch rowE_mono c3 (c3.rb sub) fun g hg h => ?_
    hF := fun g hg => ?_
    nx := Nat.le_trans hn (Nat.le_trans hn1 (Nat.le_trans e3.next c3.next)) }⟩
  · have := S.hF g hg
    show h0.next ≤ g
    omega
  · have := S.hF _ h
    omega
  · rcases e4 g hg with h' | h'
    · have := S.hF g h'
      omega
    · omega
  · rcases e4 g hg with h' | h'
    · exact S.hF g h'
    · omega
theorem ans_round (wf : HWF h0) (hl : init.length ≤ 1048580) {K : V → H → Prop} (hK : ∀ v h', RdPost h0 l v h' → K v h') {m : Nat} {e : E} (I : AnI h0 l c sv init m e h) :
    XW C h0.next x37_5 (kX (fun e' h' => ∃ m', m' < m ∧ AnI h0 l c sv init m' (only [2, 5, 52, 53, 54] e') h') (kXB 0 (XW C h0.next x37_17 (kF37 K)) (kF37 K))) e h := by
  obtain ⟨i, nv, rv, ns, xs, F, rfl, hi, rfl, S, hr, h00, hxl⟩ := I
  simp only [q37_5, sx, reduceIte, Nat.reduceEqDiff, Nat.reduceAdd]
  refine byT_dec (fun hlt => ?_) (fun hge => ?_)
  · have hlt : i < init.length := by omega
    obtain ⟨b, o, w, p1, p2, p3⟩ := S.fr.at2 (List.getElem?_eq_getElem hlt)
    have hd : init.drop i = init[i] :: init.drop (i + 1) := List.drop_eq_getElem_cons hlt
    generalize hf : init[i] = f at *
    have l42 : loadV Try.prog 42 (.ptr b o) h.read = some (.agg [byteV f.1, w]) := (p2.mono (rb_le _ _)).agg agg42 siz42 rfl (by decide)
    have cA := ch_alloc S.ch.wf [V.int .u8 0, .nils]
    obtain ⟨h2, s1, o1, c2, n2⟩ := (Own.new (h := h) (lo := h0.next) (cs := [V.int .u8 0, .nils]) S.ch.next).fill (P := Try.prog) (t := 42) (c := [byteV f.1, w]) cA.wf siz42 rfl
      (by show (scal (byteV f.1) && (scal w && true)) = true; rw [p3.isSl.scal]; rfl) rfl
    have cF : Ch None_ None_ h h2 := ((cA.mono (None_sub (· = h.next)) (None_sub (· = h.next))).trans c2).old S.ch.wf (fun g h1 h2 => by omega) fun g h1 h2 => by omega
    have S2 := S.step cF fun _ h => h.elim
    have f0 : loadV Try.prog 40 (.ptr h.next 0) h2.read = some (byteV f.1) := (o1.at c2.wf).cell0 c40 rfl
    have f1 : loadV Try.prog 22 (.ptr h.next (0 + 1)) h2.read = some w := (o1.at c2.wf).cell c22 rfl
    have hw : Bytes h2.read w f.2 := (p3.mono (cF.rb (None_sub _))).mono (rb_le _ _)
    have k6 : binV Try.prog .neq 40 (byteV f.1) (.int .u8 6) = some (.bool (decide (f.1 ≠ 6))) := byte_neq 40 f.1 6
    have cells42 : (V.agg [V.int .u8 0, .nils]).cells = [V.int .u8 0, .nils] := rfl
    have e5 := add64 (a := i) (b := 1) (by omega)
    simp only [Int.cast_ofNat_Int] at e5
    have hinit : i = 0 → init = f :: init.drop 1 := fun h => by subst h; simpa using hd
    simp only [q37_6, q37_7, sx, reduceIte, Nat.reduceEqDiff, Nat.reduceAdd, p1, l42, z42, s1, fa42_0, f0, k6]
    refine byT_dec (fun g => ?_) (fun g => ?_)
    · have hn : rdAns l = none := by
        rw [hr]
        unfold restA
        split
        · rename_i h0'
          rw [hinit h0', rdInit_cons, if_pos (.inl g)]
        · rw [hd, rdRows_snoc, if_pos g]
      obtain ⟨h3, s3, hp⟩ := rd_err wf S2.ch S2.o2 hn hK
      simp only [q37_8, sx, reduceIte, Nat.reduceEqDiff, Nat.reduceAdd, b75, s3, e37_rt]
      exact hp _ (by simp only [sx, reduceIte, Nat.reduceEqDiff, Nat.reduceAdd]) (by simp only [sx, reduceIte, Nat.reduceEqDiff, Nat.reduceAdd])
    · have g : f.1 = 6 := Classical.byContradiction g
      simp only [q37_9, sx, reduceIte, Nat.reduceEqDiff, Nat.reduceAdd]
      refine byT_mk (fun g0 => ?_) (fun g0 => ?_)
      · have g0 : i = 0 := by rw [beqI] at g0; omega
        obtain ⟨rfl, rfl⟩ := h00 g0
        have hr' : rdAns l = rdInit c (f :: init.drop 1) := by rw [hr]; unfold restA; rw [if_pos g0, ← hinit g0]
        simp only [q37_10, sx, reduceIte, Nat.reduceEqDiff, Nat.reduceAdd, fa42_1, f1]
        refine (Go.Proofs.Ytghmbmblhdgabaa.names S2.ch.wf S2.ch.next hw).mono ?_
        rintro _ h3 ⟨nv', rfl, nt, c3⟩
        have S3 := S2.step c3 fun _ h => h.elim
        obtain ⟨h4, s4, S4⟩ := S3.names (nt.texts (X := Tk h0) c3.wf fun g hg => by have := S2.nx; rcases hg with h | h <;> omega)
        simp only [sx, reduceIte, Nat.reduceEqDiff, Nat.reduceAdd, fa75_0, s4]
        refine byT_mk (fun gk => ?_) (fun gk => ?_)
        · have gk : namesOk f.2 = false := by simpa using gk
          have hn : rdAns l = none := by rw [hr', rdInit_cons, if_pos (.inr gk)]
          obtain ⟨h5, s5, hp⟩ := rd_err wf S4.ch S4.o2 hn hK
          simp only [q37_11, sx, reduceIte, Nat.reduceEqDiff, Nat.reduceAdd, b75, s5, e37_rt]
          exact hp _ (by simp only [sx, reduceIte, Nat.reduceEqDiff, Nat.reduceAdd]) (by simp only [sx, reduceIte, Nat.reduceEqDiff, Nat.reduceAdd])
        · have gk : namesOk f.2 = true := by simpa using gk
          simp only [sx, reduceIte, Nat.reduceEqDiff, Nat.reduceAdd, q37_16, e5]
          refine ⟨init.length - (i + 1), by omega, i + 1, nv', rv, namesOf f.2, [], F, rfl, by omega, rfl, S4, ?_, (fun h => by omega), Nat.zero_le _⟩
          rw [hr', rdInit_cons]
          unfold restA
          rw [if_neg (by simp [g, gk]), if_neg (by omega), g0]
          simp only [List.nil_append]
      · have g0 : ¬ i = 0 := by rw [beqIf] at g0; omega
        have hr' : rdAns l = match rdRows ns.length (f :: init.drop (i + 1)) with
            | none => none
            | some ys => some ⟨ns, xs ++ ys, c⟩ := by rw [hr]; unfold restA; rw [if_neg g0, hd]
        rw [rdRows_snoc, if_neg (by simp [g])] at hr'
        simp only [q37_12, sx, reduceIte, Nat.reduceEqDiff, Nat.reduceAdd, fa42_1, f1]
        refine (Go.Proofs.Ytghmbmblhdgabaa.read S2.ch.wf S2.ch.next hw).mono ?_
        rintro _ h3 ⟨xv, rfl, hxv, c3⟩
        have S3 := S2.step c3 fun _ h => h.elim
        cases hp : readP f.2 with
        | none =>
          rw [hp] at hr' hxv
          have hn : rdAns l = none := hr'
          obtain ⟨h5, s5, hq⟩ := rd_err wf S3.ch S3.o2 hn hK
          have e2 : ((280 : Int) != 0) = true := by decide
          simp only [sx, reduceIte, Nat.reduceEqDiff, Nat.reduceAdd, e2, q37_14, b75, s5, e37_rt]
          exact hq _ (by simp only [sx, reduceIte, Nat.reduceEqDiff, Nat.reduceAdd]) (by simp only [sx, reduceIte, Nat.reduceEqDiff, Nat.reduceAdd])
        | some x =>
          rw [hp] at hr' hxv
          simp only at hr' hxv
          have hv : Vals (h3.rb (Tk h0)) xv x := hxv.vals c3.wf fun g hg => by have := S2.nx; rcases hg with h | h <;> omega
          have e2 : ((0 : Int) != 0) = false := by decide
          have la : loadV Try.prog 72 (.ptr (h0.next + 1) 0) h3.read = some nv := (S3.o5.at S3.ch.wf).cell0 c72 rfl
          have lb : loadV Try.prog 73 (.ptr (h0.next + 1) (0 + 1)) h3.read = some rv := (S3.o5.at S3.ch.wf).cell c73 rfl
          simp only [sx, reduceIte, Nat.reduceEqDiff, Nat.reduceAdd, e2, (hv.mono vlE_mono (rb_le _ _)).len s48, fa75_0, la, S3.nm.len sl72]
          refine byT_mk (fun gl => ?_) (fun gl => ?_)
          · have gl : x.length ≠ ns.length := by simp at gl; omega
            rw [if_pos gl] at hr'
            have hn : rdAns l = none := hr'
            obtain ⟨h5, s5, hq⟩ := rd_err wf S3.ch S3.o2 hn hK
            simp only [sx, reduceIte, Nat.reduceEqDiff, Nat.reduceAdd, q37_14, b75, s5, e37_rt]
            exact hq _ (by simp only [sx, reduceIte, Nat.reduceEqDiff, Nat.reduceAdd]) (by simp only [sx, reduceIte, Nat.reduceEqDiff, Nat.reduceAdd])
          · have gl : x.length = ns.length := by simp at gl; omega
            rw [if_neg (by simp [gl])] at hr'
            obtain ⟨v', h4, h5, F', x1, x2, S5⟩ := S3.app hv (by omega)
            have cx : xv.cells = [xv] := hv.isSl.cells
            simp only [sx, reduceIte, Nat.reduceEqDiff, Nat.reduceAdd, q37_15, fa75_1, lb, buildSlice_one bs73 (v := xv) (by rw [cx]; rfl), cx, x1, x2, q37_16, e5]
            refine ⟨init.length - (i + 1), by omega, i + 1, nv, v', ns, xs ++ [x], F', rfl, by omega, rfl, S5, ?_, (fun h => by omega), by simp; omega⟩
            rw [hr']
            unfold restA
            rw [if_neg (by omega)]
            cases rdRows ns.length (init.drop (i + 1)) with
            | none => rfl
            | some ys => simp
  · have hil : i = init.length := by omega
    subst hil
    have hfin : rdAns l = some ⟨ns, xs, c⟩ := by
      rw [hr]
      unfold restA
      split
      · rename_i h0'
        obtain ⟨rfl, rfl⟩ := h00 h0'
        have : init = [] := List.eq_nil_of_length_eq_zero h0'
        subst this
        rfl
      · rw [List.drop_length]
        simp [rdRows]
    have la : loadV Try.prog 75 (.ptr (h0.next + 1) 0) h.read = some (.agg [nv, rv, .int .i64 c]) := (S.o5.at S.ch.wf).agg agg75 siz75 rfl (by decide)
    have ir : IsSl rv := by
      obtain ⟨cs, _, hbuf, _⟩ := S.rw_
      rcases hbuf with ⟨h, _⟩ | ⟨b, c, f, low, h, _⟩
      · exact .inl h
      · exact .inr ⟨_, _, _, _, _, h⟩
    obtain ⟨h2, s1, o3, c2, n2⟩ := S.o2.fill (P := Try.prog) (t := 75) (c := [nv, rv, .int .i64 c]) S.ch.wf siz75 rfl (by show (scal nv && (scal rv && true)) = true; rw [S.nm.isSl.scal, ir.scal]; rfl) rfl
    have l2 : loadV Try.prog 75 (.ptr h0.next 0) h2.read = some (.agg [nv, rv, .int .i64 c]) := (o3.at c2.wf).agg agg75 siz75 rfl (by decide)
    simp only [sx, reduceIte, Nat.reduceEqDiff, Nat.reduceAdd, q37_17, la, s1, e37_rt]
    rw [res37 (t := .agg [nv, rv, .int .i64 c]) (by simp only [sx, reduceIte, Nat.reduceEqDiff, Nat.reduceAdd]; exact l2)]
    simp only [sx, reduceIte, Nat.reduceEqDiff, Nat.reduceAdd]
    have sub : ∀ g, g = h0.next → Tk h0 g := fun g h => .inl h
    have le := (c2.rb sub).trans (rb_le h2 (Tk h0))
    refine hK _ _ ⟨[nv, rv, .int .i64 c], by rw [hfin], ?_, ?_⟩
    · rw [hfin]
      exact ⟨nv, rv, rfl, S.nm.mono txE_mono le, (S.rw_.sl S.ch.wf fun g hg h => by have := S.hF g hg; rcases h with h | h <;> omega).mono rowE_mono le⟩
    · exact (S.ch.trans (c2.mono (fun g h => tk_zr g (sub g h)) fun g h => tk_zr g (sub g h))).old wf (fun g h1 h2 => by have : h0.next ≤ g := h1; omega) fun g h1 h2 => by have : h0.next ≤ g := h1; omega
end
theorem rdAns_last (init : List Fm) (f : Fm) : rdAns (init ++ [f]) = if rdLast f then rdInit (num4 f.2) init else none := by
  unfold rdAns
  simp only [List.getLast?_append, List.getLast?_singleton, Option.some_or, List.dropLast_concat]
theorem readA {a : V} {l : List Fm} {h : H} {lo : Nat} (wf : HWF h) (hlo : lo ≤ h.next) (ha : Frames h.read a l) (hl : l.length ≤ 1048580) : CW C 37 [a] lo h (RdPost h l) := by
  refine CW.low hS hlo (enter37 rfl ?_)
  have cA := ch_alloc wf [V.nils, .nils, .int .i64 0]
  have nA : (h.alloc [V.nils, .nils, .int .i64 0]).next = h.next + 1 := rfl
  have ha1 : Frames (h.alloc [V.nils, .nils, .int .i64 0]).read a l := ha.mono frE_mono (Ch.le cA)
  have o2 := Own.new (h := h) (lo := h.next) (cs := [V.nils, .nils, .int .i64 0]) (Nat.le_refl _)
  have cz : (V.agg [V.nils, .nils, .int .i64 0]).cells = [V.nils, .nils, .int .i64 0] := rfl
  have ch0 : Ch (Zr h) (Zr h) h (h.alloc [V.nils, .nils, .int .i64 0]) := cA.mono (None_sub _) (None_sub _)
  have err : ∀ {e}, rdAns l = none → E.get e 2 = .ptr h.next 0 → XW C h.next x37_2 (kX (XW C h.next x37_3 (kF37 (RdPost h l))) (kF37 (RdPost h l))) e (h.alloc [V.nils, .nils, .int .i64 0]) := by
    intro e hn g2
    obtain ⟨h3, s3, hp⟩ := rd_err wf ch0 o2 hn (K := RdPost h l) fun _ _ h => h
    simp only [q37_2, sx, reduceIte, Nat.reduceEqDiff, Nat.reduceAdd, b75, g2, s3, e37_rt]
    exact hp _ (by simp only [sx, reduceIte, Nat.reduceEqDiff, Nat.reduceAdd, g2]) (by simp only [sx, reduceIte, Nat.reduceEqDiff, Nat.reduceAdd])
  rcases List.eq_nil_or_concat l with rfl | ⟨init, f, rfl⟩
  · have hw : IntKind.wrap .i64 (((([] : List Fm).length : Nat) : Int) - 1) = -1 := by decide
    have hlt : decide ((-1 : Int) < 0) = true := by decide
    simp only [q37_0, sx, reduceIte, Nat.reduceEqDiff, Nat.reduceAdd, z75, cz, ha1.len s26, hw, hlt]
    exact err rfl (by simp only [sx, reduceIte, Nat.reduceEqDiff, Nat.reduceAdd])
  · rw [List.concat_eq_append] at *
    have hlen : (init ++ [f]).length = init.length + 1 := by simp
    have hw : IntKind.wrap .i64 (((init ++ [f]).length : Int) - 1) = (init.length : Int) := by rw [hlen, wrap64 (by omega) (by omega)]; omega
    have hlt : decide ((init.length : Int) < 0) = false := by rw [decide_eq_false_iff_not]; omega
    obtain ⟨b, o, w, p1, p2, p3, p4⟩ := ha1.at (i := init.length) (f := f) (by simp)
    have k7 : binV Try.prog .neq 40 (byteV f.1) (.int .u8 7) = some (.bool (decide (f.1 ≠ 7))) := byte_neq 40 f.1 7
    simp only [q37_0, sx, reduceIte, Nat.reduceEqDiff, Nat.reduceAdd, z75, cz, ha1.len s26, hw, hlt, p1, fa42_0, p2, k7]
    refine byT_dec (fun g => ?_) (fun g => ?_)
    · exact err (by rw [rdAns_last, if_neg fun h => g h.1]) (by simp only [sx, reduceIte, Nat.reduceEqDiff, Nat.reduceAdd])
    have g : f.1 = 7 := Classical.byContradiction g
    simp only [fa42_1, p3, p4.len t22, sx, reduceIte, Nat.reduceEqDiff, Nat.reduceAdd]
    refine byT_mk (fun g4 => ?_) (fun g4 => ?_)
    · have g4 : f.2.length ≠ 4 := by simp at g4; omega
      exact err (by rw [rdAns_last, if_neg fun h => g4 h.2.1]) (by simp only [sx, reduceIte, Nat.reduceEqDiff, Nat.reduceAdd])
    have g4 : f.2.length = 4 := by simp at g4; omega
    refine (number p4 (by omega)).mono ?_
    rintro _ _ ⟨rfl, rfl⟩
    simp only [sx, reduceIte, Nat.reduceEqDiff, Nat.reduceAdd]
    refine byT_dec (fun gn => ?_) (fun gn => ?_)
    · exact err (by rw [rdAns_last, if_neg fun h => by have := h.2.2; omega]) (by simp only [sx, reduceIte, Nat.reduceEqDiff, Nat.reduceAdd])
    have hr : rdAns (init ++ [f]) = rdInit (num4 f.2) init := by rw [rdAns_last, if_pos ⟨g, g4, by omega⟩]
    simp only [q37_3, sx, reduceIte, Nat.reduceEqDiff, Nat.reduceAdd, p1, fa42_1, p3]
    refine (number p4 (by omega)).mono ?_
    rintro _ _ ⟨rfl, rfl⟩
    have cB := ch_alloc cA.wf [V.nils, .nils, .int .i64 0]
    have o5 := Own.new (h := h.alloc [V.nils, .nils, .int .i64 0]) (lo := h.next) (cs := [V.nils, .nils, .int .i64 0]) (by omega)
    obtain ⟨h3, s3, o5', c3, n3⟩ := o5.fill (P := Try.prog) (t := 75) (c := [V.nils, .nils, .int .i64 (num4 f.2 : Int)]) cB.wf siz75 rfl rfl rfl
    rw [nA] at o5' s3 c3
    have fr3 : Frames (h3.rb (Tk h)) a (init ++ [f]) := ((((ha.mono frE_mono (rb_none h)).mono frE_mono (rb_new wf None_)).mono frE_mono (rb_mono fun g hg => .inr (by rcases hg with h | h <;> omega))).mono frE_mono (cA.rb (Z := Tk h) (None_sub _))).mono frE_mono ((cB.rb (Z := Tk h) (None_sub _)).trans (c3.rb fun g hg => .inr hg))
    obtain ⟨sv, s4, s5⟩ := SlOf.to (rd' := h3.read) s26 fr3 (hi := init.length) (k := .i64) (by simp)
    rw [List.take_left' rfl] at s5
    have S : RS h h3 (num4 f.2 : Int) sv .nils .nils init [] [] none := {
      ch := (ch0.trans (cB.mono (None_sub _) (None_sub _))).trans (c3.mono (fun g hg => by show h.next ≤ g; omega) fun g hg => by show h.next ≤ g; omega)
      o2 := (o2.ch cB fun h => h).ch c3 (by omega)
      o5 := o5'
      fr := s5
      nm := ⟨[], fun _ h => (by cases h), .inl ⟨rfl, rfl, rfl⟩, Each.nil _⟩
      rw_ := BufOf.nil
      hF := fun _ h => by cases h
      nx := by have e1 : ((h.alloc [V.nils, .nils, .int .i64 0]).alloc [V.nils, .nils, .int .i64 0]).next = h.next + 1 + 1 := rfl; omega }
    simp only [sx, reduceIte, Nat.reduceEqDiff, Nat.reduceAdd, b75n, z75, cz, nA, s3, s4, s5.len s26, q37_4]
    refine rounds (AnI h (init ++ [f]) (num4 f.2 : Int) sv init) (fun m e h' I => ans_round wf (by omega) (fun _ _ h => h) I) init.length ⟨0, .nils, .nils, [], [], none, by simp only [sx, reduceIte, Nat.reduceEqDiff, Nat.reduceAdd]; rfl, Nat.zero_le _, rfl, S, ?_, (fun _ => ⟨rfl, rfl⟩), Nat.zero_le _⟩
    rw [hr]
    rfl
end Go.Proofs.Ytghmbmblhdgabaa
