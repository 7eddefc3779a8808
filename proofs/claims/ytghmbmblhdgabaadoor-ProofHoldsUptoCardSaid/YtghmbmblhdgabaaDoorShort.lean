/- Shortcuts: what functions without arguments answer, reckoned once; what the model's own functions without a body answer: two strings of bytes held against one another. -/
import Derived.Test.YtghmbmblhdgabaaDoorSxA
import Derived.Test.YtghmbmblhdgabaaDoorViewA
import Derived.Lib.Bytealg
import Derived.Laws.Externs
import Derived.KernelRfl
set_option linter.all false
namespace Go.Den
open Go
variable {P : Program} {φ : Phi} {h : H} {w : World}

theorem run_loadBytes8 : ∀ (xs : List UInt8) (a : Addr) (acc : ByteArray), (∀ j x, xs[j]? = some x → w.cell? (a.add j) = some (.int .u8 (x.toNat : Int))) →
    (Extern.Bytes.loadBytes a xs.length acc).run P w = .ok ⟨acc.data ++ xs.toArray⟩ w
  | [], a, acc, _ => by simp [Extern.Bytes.loadBytes]
  | x :: l, a, acc, h => by
    have h0 : w.cell? a = some (.int .u8 (x.toNat : Int)) := by
      have := h 0 x rfl
      simpa [Addr.add] using this
    have ih := run_loadBytes8 l (a.add 1) (acc.push x) (fun j y hy => by
      have := h (j + 1) y (by simpa using hy)
      have e : (a.add 1).add j = a.add (j + 1) := by
        unfold Addr.add
        by_cases hj : j = 0
        · subst hj; simp
        · simp [hj]; omega
      rw [e]; exact this)
    have hx : ((x.toNat : Int)).toNat.toUInt8 = x := by
      simp only [Int.toNat_natCast]
      exact UInt8.ofNat_toNat
    simp only [List.length_cons, Extern.Bytes.loadBytes, Sem.run_bind, run_load, h0, Result.andThen, hx]
    rw [ih]
    congr 1
    apply ByteArray.ext
    simp [ByteArray.push]
theorem bytesOf_str (s : List UInt8) : (Extern.Bytes.bytesOf (.string ⟨⟨s⟩⟩)).run P w = .ok ⟨⟨s⟩⟩ w := by
  simp only [Extern.Bytes.bytesOf, Sem.run_pure]
theorem bytesOf_sl (s : Sim φ h w) {v : V} {v' : Value} (hv : VR φ v v') {bs : List UInt8} (hb : Bytes h.read v bs) : (Extern.Bytes.bytesOf v').run P w = .ok ⟨⟨bs⟩⟩ w := by
  rcases hb with ⟨rfl, h1, _⟩ | ⟨b, o, c, l, rfl, h2, h3, h4⟩
  · have h0 : bs = [] := List.eq_nil_of_length_eq_zero h1
    subst h0
    cases hv
    simp only [Extern.Bytes.bytesOf, Sem.run_pure]
    rfl
  · cases hv with
    | sl hb ha hn hc hr =>
    rename_i c' g base sz a
    simp only [Extern.Bytes.bytesOf]
    have hl := run_loadBytes8 (P := P) (w := w) bs a .empty (fun j x hj => by
      have hlt := (List.getElem?_eq_some_iff.1 hj).1
      rcases hb with hb | hb
      · rcases ha with ha | ha
        · subst ha
          have hcell := s.at_ _ _ _ hb h2
          have hlj : l[o + j]? = some (byteV x) := by
            have h5 : (bs.map byteV)[j]? = some (byteV x) := by rw [List.getElem?_map, hj]; rfl
            rw [h4, List.getElem?_take, if_pos (by omega), List.getElem?_drop] at h5
            exact h5
          obtain ⟨v', q1, q2⟩ := hcell.cell hlj
          unfold byteV at q2
          cases q2
          have e : (⟨g, base + o, none⟩ : Addr).add j = ⟨g, base + (o + j), none⟩ := by
            unfold Addr.add
            split <;> simp_all <;> omega
          rw [e]
          exact q1
        · omega
      · omega)
    rw [hl]
    congr 1
    apply ByteArray.ext
    show (#[] : Array UInt8) ++ bs.toArray = bs.toArray
    simp
theorem run_compare {a b : Value} {xs ys : List UInt8} (ha : (Extern.Bytes.bytesOf a).run P w = .ok ⟨⟨xs⟩⟩ w) (hb : (Extern.Bytes.bytesOf b).run P w = .ok ⟨⟨ys⟩⟩ w) :
    (Extern.BytealgCompare.compare #[a, b]).run P w = .ok (.int .i64 (Lib.compareBytes xs ys)) w := by
  change Sem.run P (do pure (goInt (Extern.BytealgCompare.cmp (← Extern.Bytes.bytesOf a) (← Extern.Bytes.bytesOf b)))) w = _
  simp only [Sem.run_bind, ha, hb, Sem.run_pure, Result.andThen]
  rw [Lib.cmp_eq]
  rfl
/-- the comparison as a shortcut -/
def toByte1 : V → Option UInt8
  | .int .u8 n => if n = ((UInt8.ofNat n.toNat).toNat : Int) then some (UInt8.ofNat n.toNat) else none
  | _ => none
def cmpN : List V → Nat → H → Option (V × H)
  | [a, b], _, h => match elems h.read 1 a, elems h.read 1 b with
    | some (_, xs), some (_, ys) => match omap toByte1 xs, omap toByte1 ys with
      | some p, some q => some (.int .i64 (Lib.compareBytes p q), h)
      | _, _ => none
    | _, _ => none
  | _, _, _ => none
theorem omap_byte1 {xs : List V} : ∀ {p : List UInt8}, omap toByte1 xs = some p → xs = p.map byteV := by
  induction xs with
  | nil => intro p h; cases h; rfl
  | cons x r ih =>
    intro p h
    unfold omap at h
    split at h
    · rename_i y hy
      split at h
      · rename_i ys hys
        cases h
        rw [List.map_cons, ← ih hys]
        congr 1
        unfold toByte1 at hy
        split at hy
        · rename_i n
          split at hy
          · rename_i hn
            cases hy
            unfold byteV
            rw [← hn]
          · cases hy
        · cases hy
      · cases h
    · cases h
theorem omap_bytes1 (bs : List UInt8) : omap toByte1 (bs.map byteV) = some bs := by
  induction bs with
  | nil => rfl
  | cons b r ih =>
    have h1 : toByte1 (byteV b) = some b := by
      unfold toByte1 byteV
      simp only [Int.toNat_natCast]
      rw [UInt8.ofNat_toNat, if_pos rfl]
    simp only [List.map_cons, omap, h1, ih]
theorem elems_bytes {rd : Rd} {v : V} {m : Nat} {p : List UInt8} (he : elems rd 1 v = some (m, p.map byteV)) : Bytes rd v p ∨ v = .str p := by
  cases v with
  | nils =>
    injection he with h1
    injection h1 with h2 h3
    have : p = [] := by
      cases p with
      | nil => rfl
      | cons x r => cases h3
    subst this
    exact .inl (.inl ⟨rfl, rfl, rfl⟩)
  | sl b o n c es =>
    unfold elems at he
    simp only at he
    split at he
    · rename_i h1
      subst h1
      split at he
      · rename_i cs hr
        split at he
        · rename_i hle
          injection he with h1
          injection h1 with h2 h3
          have hl := congrArg List.length h3
          simp only [List.length_take, List.length_drop, List.length_map] at hl
          have hn : n = p.length := by omega
          subst hn
          exact .inl (.inr ⟨b, o, c, cs, rfl, hr, hle, h3.symm⟩)
        · cases he
      · cases he
    · cases he
  | str s =>
    right
    have he : some (s.length, s.map fun b => V.int .u8 (b.toNat : Int)) = some (m, p.map byteV) := he
    injection he with h1
    injection h1 with h2 h3
    have key : ∀ (s p : List UInt8), (s.map fun b => V.int .u8 (b.toNat : Int)) = p.map byteV → s = p := by
      intro s
      induction s with
      | nil => intro p h; cases p with
        | nil => rfl
        | cons x r => cases h
      | cons x r ih => intro p h; cases p with
        | nil => cases h
        | cons y q =>
          injection h with h4 h5
          unfold byteV at h4
          injection h4 with h6 h7
          rw [ih q h5, UInt8.toNat_inj.1 (show x.toNat = y.toNat by omega)]
    rw [key s p h3]
  | _ => cases he
theorem cmpN_some {as : List V} {lo : Nat} {h h' : H} {v : V} (hc : cmpN as lo h = some (v, h')) : ∃ a b p q, as = [a, b] ∧ (Bytes h.read a p ∨ a = .str p) ∧ (Bytes h.read b q ∨ b = .str q) ∧ v = .int .i64 (Lib.compareBytes p q) ∧ h' = h := by
  unfold cmpN at hc
  split at hc
  · split at hc
    · rename_i h1 h2
      split at hc
      · rename_i h3 h4
        cases hc
        rw [omap_byte1 h3] at h1
        rw [omap_byte1 h4] at h2
        exact ⟨_, _, _, _, rfl, elems_bytes h1, elems_bytes h2, rfl, rfl⟩
      · cases hc
    · cases hc
  · cases hc
theorem cmpN_go {a b : V} {lo : Nat} {h : H} {p q : List UInt8} (ha : elems h.read 1 a = some (p.length, p.map byteV)) (hb : elems h.read 1 b = some (q.length, q.map byteV)) : cmpN [a, b] lo h = some (.int .i64 (Lib.compareBytes p q), h) := by
  unfold cmpN
  simp only [ha, hb, omap_bytes1]
/-- the shortcuts -/
def shortS (l : List (Nat × V)) (cm : List Nat) : FuncId → Option (List V → Nat → H → Option (V × H)) := fun f => match closedS l f with
  | some g => some g
  | none => match cm.find? (fun p => Nat.beq p f) with
    | some _ => some cmpN
    | none => none
theorem shortS_some {l : List (Nat × V)} {cm : List Nat} {f : FuncId} {g : List V → Nat → H → Option (V × H)} (hs : shortS l cm f = some g) : closedS l f = some g ∨ (f ∈ cm ∧ g = cmpN) := by
  unfold shortS at hs
  split at hs
  · rename_i h; cases hs; exact .inl h
  · split at hs
    · rename_i p hp
      cases hs
      have h1 := List.find?_some hp
      have h2 := List.mem_of_find?_eq_some hp
      have h3 := Nat.eq_of_beq_eq_true h1
      exact .inr ⟨h3 ▸ h2, rfl⟩
    · cases hs
theorem shortS_low (l : List (Nat × V)) (cm : List Nat) : ShortLow { P := P, S := shortS l cm } := fun f g hs as lo lo' h v h' hl hc => by
  rcases shortS_some hs with h1 | ⟨_, rfl⟩
  · exact closedS_low (P := P) l f g h1 as lo lo' h v h' hl hc
  · obtain ⟨a, b, p, q, rfl, _, _, rfl, rfl⟩ := cmpN_some hc
    unfold cmpN at hc ⊢
    exact hc
def CmpOk (P : Program) (f : FuncId) : Prop := (∃ fn, P.funcs[f]? = some fn ∧ fn.body.isSome = true) ∧ ∀ (a b : Value) (w : World) (xs ys : List UInt8), (Extern.Bytes.bytesOf a).run P w = .ok ⟨⟨xs⟩⟩ w → (Extern.Bytes.bytesOf b).run P w = .ok ⟨⟨ys⟩⟩ w →
  Calls P f #[a, b] w fun e w' => e = .returned (.int .i64 (Lib.compareBytes xs ys)) ∧ w' = w
theorem progOk_short {l : List (Nat × V)} {cm : List Nat} (ok : ProgOk { P := P, S := fun _ => none }) (hgr : l = [] ∨ GR fun _ => none)
    (hl : ∀ f v, (f, v) ∈ l → (∃ b, v = .bool b) ∧ ∃ n h', call { P := P, S := fun _ => none } n f [] 0 H0 = some (v, h')) (hcm : ∀ f ∈ cm, CmpOk P f) : ProgOk { P := P, S := shortS l cm } where
  mix := ok.mix
  names := ok.names
  next := fun f g hs as lo h v h' hc => by
    rcases shortS_some hs with h1 | ⟨_, rfl⟩
    · exact (progOk_closed ok hgr hl).next f g h1 as lo h v h' hc
    · obtain ⟨a, b, p, q, rfl, _, _, rfl, rfl⟩ := cmpN_some hc
      exact Nat.le_refl _
  good := fun f g hs as lo h v h' hc hlo => by
    rcases shortS_some hs with h1 | ⟨_, rfl⟩
    · exact (progOk_closed ok hgr hl).good f g h1 as lo h v h' hc hlo
    · obtain ⟨a, b, p, q, rfl, _, _, rfl, rfl⟩ := cmpN_some hc
      exact Good.refl _ _
  sim := fun f g hs as lo h v h' hc => by
    rcases shortS_some hs with h1 | ⟨hm, rfl⟩
    · exact (progOk_closed ok hgr hl).sim f g h1 as lo h v h' hc
    · obtain ⟨a, b, p, q, rfl, ha, hb, rfl, rfl⟩ := cmpN_some hc
      obtain ⟨c1, c2⟩ := hcm f hm
      refine ⟨c1, fun hlo φ w as' s ff hr => ?_⟩
      obtain ⟨a', b', rfl, va, vb⟩ : ∃ a' b', as' = [a', b'] ∧ VR φ a a' ∧ VR φ b b' := by
        cases hr with
        | cons h1 hr => cases hr with
          | cons h2 hr => cases hr; exact ⟨_, _, rfl, h1, h2⟩
      have hof : ∀ {v : V} {v' : Value} {bs : List UInt8}, VR φ v v' → (Bytes h'.read v bs ∨ v = .str bs) → (Extern.Bytes.bytesOf v').run P w = .ok ⟨⟨bs⟩⟩ w := by
        intro v v' bs hv hb
        rcases hb with hb | rfl
        · exact bytesOf_sl s hv hb
        · cases hv; exact bytesOf_str _
      refine (c2 a' b' w p q (hof va ha) (hof vb hb)).mono fun e w' hp => ?_
      obtain ⟨rfl, rfl⟩ := hp
      exact ⟨_, φ, rfl, Ext.refl _ _ _ _, s, .int _ _⟩
theorem short_CW {l : List (Nat × V)} {cm : List Nat} {f : FuncId} {v : V} (hs : shortS l cm f = some (closed v)) {lo : Nat} {K : V → H → Prop} (hk : K v h) : CW { P := P, S := shortS l cm } f [] lo h K :=
  ⟨0, v, h, by
    show callStep _ _ _ _ _ _ = _
    unfold callStep
    simp only [hs]
    rfl, hk⟩
theorem cmp_CW {l : List (Nat × V)} {cm : List Nat} {f : FuncId} (hs : shortS l cm f = some cmpN) {a b : V} {p q : List UInt8} (ha : elems h.read 1 a = some (p.length, p.map byteV)) (hb : elems h.read 1 b = some (q.length, q.map byteV)) {lo : Nat} {K : V → H → Prop}
    (hk : K (.int .i64 (Lib.compareBytes p q)) h) : CW { P := P, S := shortS l cm } f [a, b] lo h K :=
  ⟨0, _, h, by
    show callStep _ _ _ _ _ _ = _
    unfold callStep
    simp only [hs]
    exact cmpN_go ha hb, hk⟩
end Go.Den
