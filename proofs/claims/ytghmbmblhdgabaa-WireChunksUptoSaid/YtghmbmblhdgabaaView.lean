/- What slices hold, said without blocks. -/
import Derived.Test.YtghmbmblhdgabaaSr
set_option linter.all false
namespace Go.Den
open Go
variable {P : Program} {h h' : H} {lo : Nat}

/-- what a slice type is: its elements, their cells -/
structure SlT (P : Program) (t e es : Nat) : Prop where
  u : P.underlying t = some (.slice e)
  s : size? P e = some es
/-- a type of one cell -/
structure Sc (P : Program) (e : Nat) : Prop where
  a : agg? P e = some false
  s : size? P e = some 1
/-- the slice v has n elements of es cells each, the cells being cs -/
def Sl (rd : Rd) (es : Nat) (v : V) (n : Nat) (cs : List V) : Prop :=
  (v = .nils ∧ n = 0 ∧ cs = []) ∨ ∃ b o c l, v = .sl b o n c es ∧ rd b = some l ∧ o + n * es ≤ l.length ∧ cs = (l.drop o).take (n * es)
def byteV (b : UInt8) : V := .int .u8 (b.toNat : Int)
def Bytes (rd : Rd) (v : V) (bs : List UInt8) : Prop := Sl rd 1 v bs.length (bs.map byteV)
/-- what could be read still reads the same -/
def Keeps (h h' : H) : Prop := ∀ b l, h.read b = some l → h'.read b = some l
theorem Keeps.refl (h : H) : Keeps h h := fun _ _ hr => hr
theorem Keeps.trans {h1 h2 h3 : H} (a : Keeps h1 h2) (b : Keeps h2 h3) : Keeps h1 h3 := fun c l hr => b c l (a c l hr)
theorem Good.keeps (g : Good h.next h h') (wf : HWF h) : Keeps h h' := by
  intro b l hr
  have hlt : b < h.next := by rcases read_some hr with hg | ⟨_, _, _, hg, _⟩ <;> exact wf.lt _ _ hg
  rw [read_eq_of wf (g.get b hlt) (fun f hf => g.fam f (by omega))]
  exact hr
theorem Sl.keep {es n : Nat} {v : V} {cs : List V} (k : Keeps h h') (hs : Sl h.read es v n cs) : Sl h'.read es v n cs := by
  rcases hs with h1 | ⟨b, o, c, l, h1, h2, h3, h4⟩
  · exact .inl h1
  · exact .inr ⟨b, o, c, l, h1, k _ _ h2, h3, h4⟩
theorem Sl.len {rd : Rd} {es n : Nat} {v : V} {cs : List V} (hs : Sl rd es v n cs) : cs.length = n * es := by
  rcases hs with ⟨_, rfl, rfl⟩ | ⟨b, o, c, l, h1, h2, h3, rfl⟩
  · simp
  · simp; omega
theorem Sl.lenV {rd : Rd} {t e es n : Nat} {v : V} {cs : List V} (T : SlT P t e es) (hs : Sl rd es v n cs) : lenV P [t] v = some (.int .i64 (n : Int)) := by
  rcases hs with ⟨rfl, rfl, rfl⟩ | ⟨b, o, c, l, rfl, h2, h3, rfl⟩ <;> simp [Den.lenV, T.u]
theorem Sl.elems {rd : Rd} {es n : Nat} {v : V} {cs : List V} (hs : Sl rd es v n cs) : elems rd es v = some (n, cs) := by
  rcases hs with ⟨rfl, rfl, rfl⟩ | ⟨b, o, c, l, rfl, h2, h3, rfl⟩
  · rfl
  · simp [Den.elems, h2, h3]
theorem Sl.addr {rd : Rd} {t e es n : Nat} {v : V} {cs : List V} (T : SlT P t e es) (hs : Sl rd es v n cs) {k : IntKind} {i : Nat} (hi : i < n) :
    ∃ b o l, addrV P t v (.int k (i : Int)) = some (.ptr b (o + i * es)) ∧ rd b = some l ∧ o + n * es ≤ l.length ∧ cs = (l.drop o).take (n * es) := by
  rcases hs with ⟨rfl, rfl, rfl⟩ | ⟨b, o, c, l, rfl, h2, h3, rfl⟩
  · omega
  · refine ⟨b, o, l, ?_, h2, h3, rfl⟩
    unfold addrV
    simp only [T.u]
    rw [if_pos (by omega), if_pos T.s]
    simp
theorem loadV_one {rd : Rd} {e b o : Nat} {l : List V} {v : V} (S : Sc P e) (hr : rd b = some l) (hv : l[o]? = some v) : loadV P e (.ptr b o) rd = some v := by
  unfold loadV partV
  simp only [hr, S.a, S.s, hv]
theorem Sl.at {rd : Rd} {t e n : Nat} {v : V} {cs : List V} (T : SlT P t e 1) (S : Sc P e) (hs : Sl rd 1 v n cs) {k : IntKind} {i : Nat} {x : V} (hx : cs[i]? = some x) :
    ∃ p, addrV P t v (.int k (i : Int)) = some p ∧ loadV P e p rd = some x := by
  have hi : i < n := by have := (List.getElem?_eq_some_iff.1 hx).1; have := hs.len; omega
  obtain ⟨b, o, l, h1, h2, h3, h4⟩ := hs.addr T hi (k := k)
  refine ⟨_, h1, loadV_one S h2 ?_⟩
  subst h4
  rw [List.getElem?_take, if_pos (by omega), List.getElem?_drop] at hx
  rw [← hx]
  simp
theorem Bytes.len {rd : Rd} {t e : Nat} {v : V} {bs : List UInt8} (T : SlT P t e 1) (hb : Bytes rd v bs) : Den.lenV P [t] v = some (.int .i64 (bs.length : Int)) := Sl.lenV T hb
theorem Bytes.at {rd : Rd} {t e : Nat} {v : V} {bs : List UInt8} (T : SlT P t e 1) (S : Sc P e) (hb : Bytes rd v bs) {k : IntKind} {i : Nat} (hi : i < bs.length) :
    ∃ p, addrV P t v (.int k (i : Int)) = some p ∧ loadV P e p rd = some (byteV bs[i]) := Sl.at T S hb (by simp [List.getElem?_eq_getElem hi])
theorem Bytes.keep {v : V} {bs : List UInt8} (k : Keeps h h') (hb : Bytes h.read v bs) : Bytes h'.read v bs := Sl.keep k hb
end Go.Den
