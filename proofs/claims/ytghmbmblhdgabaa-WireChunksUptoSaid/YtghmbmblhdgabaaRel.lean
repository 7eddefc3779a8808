/- How the machine's values stand for the model's, and how its memory stands for the model's. -/
import Derived.Test.YtghmbmblhdgabaaExec
import Derived.Laws.World
import Derived.Laws.Rows
import Derived.WalkKit
set_option linter.all false
namespace Go.Den

/-! ### tables -/
namespace T
variable {α : Type}
theorem get_nil (i : Nat) : (T.nil : T α).get i = none := by cases i <;> rfl
theorem get_zero (v : Option α) (l r : T α) : (T.node v l r).get 0 = v := rfl
theorem get_succ (v : Option α) (l r : T α) (i : Nat) : (T.node v l r).get (i + 1) = if i % 2 = 0 then l.get (i / 2) else r.get (i / 2) := by
  rw [get]
  rcases Nat.mod_two_eq_zero_or_one i with h | h <;> simp [h]
theorem get_val (t : T α) : t.val = t.get 0 := by cases t <;> rfl
theorem get_left (t : T α) (i : Nat) (h : i % 2 = 0) : t.left.get (i / 2) = t.get (i + 1) := by
  cases t with
  | nil => simp [left, get_nil]
  | node v l r => rw [get_succ, if_pos h]; rfl
theorem get_right (t : T α) (i : Nat) (h : ¬ i % 2 = 0) : t.right.get (i / 2) = t.get (i + 1) := by
  cases t with
  | nil => simp [right, get_nil]
  | node v l r => rw [get_succ, if_neg h]; rfl
theorem get_node (v : Option α) (t : T α) (j : Nat) (hj : j ≠ 0) : (T.node v t.left t.right).get j = t.get j := by
  obtain ⟨j, rfl⟩ : ∃ k, j = k + 1 := ⟨j - 1, by omega⟩
  rw [get_succ]
  by_cases h : j % 2 = 0
  · rw [if_pos h, get_left t j h]
  · rw [if_neg h, get_right t j h]
theorem get_setF (v : Option α) : ∀ (n : Nat) (t : T α) (i j : Nat), i < 2 ^ n → (setF n t i v).get j = if j = i then v else t.get j := by
  intro n
  induction n with
  | zero =>
    intro t i j hi
    have : i = 0 := by simpa using hi
    subst this
    by_cases hj : j = 0
    · subst hj; rfl
    · rw [if_neg hj, setF, get_node v t j hj]
  | succ n ih =>
    intro t i j hi
    cases i with
    | zero =>
      rw [setF]
      by_cases hj : j = 0
      · subst hj; rfl
      · rw [if_neg hj, get_node v t j hj]
    | succ i =>
      have hlt : i / 2 < 2 ^ n := by rw [Nat.pow_succ] at hi; omega
      rw [setF]
      rcases Nat.mod_two_eq_zero_or_one i with h | h
      · simp only [h]
        cases j with
        | zero => rw [get_zero, get_val, if_neg (by omega)]
        | succ j =>
          rw [get_succ]
          by_cases hj : j % 2 = 0
          · rw [if_pos hj, ih _ _ _ hlt]
            by_cases e : j = i
            · subst e; simp
            · rw [if_neg (by omega), if_neg (by omega), get_left t j hj]
          · rw [if_neg hj, if_neg (by omega), get_right t j hj]
      · simp only [h]
        cases j with
        | zero => rw [get_zero, get_val, if_neg (by omega)]
        | succ j =>
          rw [get_succ]
          by_cases hj : j % 2 = 0
          · rw [if_pos hj, if_neg (by omega), get_left t j hj]
          · rw [if_neg hj, ih _ _ _ hlt]
            by_cases e : j = i
            · subst e; simp
            · rw [if_neg (by omega), if_neg (by omega), get_right t j hj]
theorem get_set (t : T α) (i j : Nat) (v : α) : (t.set i v).get j = if j = i then some v else t.get j := by
  unfold set
  exact get_setF (some v) _ t i j (by
    by_cases h : i = 0
    · subst h; decide
    · exact Nat.lt_log2_self)
end T

theorem Env.at_set (e : Env) (i j : Nat) (v : V) : Env.at (T.set e i v) j = if j = i then v else e.at j := by
  unfold Env.at
  rw [T.get_set]
  split <;> rfl
theorem Env.at_nil (j : Nat) : Env.at T.nil j = undef := by unfold Env.at; rw [T.get_nil]; rfl

/-! ### values -/
/-- where a block of the machine's lies: the model's block, from which place on, how many cells that block has -/
abbrev Phi := Nat → Option (Nat × Nat × Nat)
def Phi.le (φ φ' : Phi) : Prop := ∀ b x, φ b = some x → φ' b = some x
theorem Phi.le.refl (φ : Phi) : φ.le φ := fun _ _ h => h
theorem Phi.le.trans {a b c : Phi} (h : a.le b) (h' : b.le c) : a.le c := fun _ _ e => h' _ _ (h _ _ e)

mutual
inductive VR (φ : Phi) : V → Value → Prop
  | bool (b : Bool) : VR φ (.bool b) (.bool b)
  | int (k : IntKind) (n : Int) : VR φ (.int k n) (.int k n)
  | str (s : List UInt8) : VR φ (.str s) (.string ⟨⟨s⟩⟩)
  | ptr {b o g base sz : Nat} (h : φ b = some (g, base, sz)) : VR φ (.ptr b o) (.pointer (some ⟨g, base + o, none⟩))
  | nilp : VR φ .nilp (.pointer none)
  | sl {b o n es c' g base sz : Nat} {c : Option Nat} {a : Addr} (h : φ b = some (g, base, sz) ∨ (c' = 0 ∧ c = some 0)) (ha : a = ⟨g, base + o, none⟩ ∨ (c' = 0 ∧ a.block = g))
      (hn : n ≤ c') (hc : ∀ k, c = some k → c' = k) (hr : base + o + c' * es ≤ sz ∨ c' = 0) : VR φ (.sl b o n c es) (.slice (some a) n c')
  | nils : VR φ .nils (.slice none 0 0)
  | map {r g base sz : Nat} (h : φ r = some (g, base, sz)) : VR φ (.map r) (.map (some g))
  | nilm : VR φ .nilm (.map none)
  | fn {f : Fn} {a b : List V} {a' b' : List Value} (ha : VRs φ a a') (hb : VRs φ b b') : VR φ (.fn f a b) (.func f ⟨a'⟩ ⟨b'⟩)
  | nilf : VR φ .nilf .nilFunc
  | iface {t : TypeId} {v : V} {v' : Value} (h : VR φ v v') : VR φ (.iface t v) (.iface t v')
  | nili : VR φ .nili .nilIface
  | agg {cs : List V} {cs' : List Value} (h : VRs φ cs cs') : VR φ (.agg cs) (.agg ⟨cs'⟩)
  | tup {cs : List V} {cs' : List Value} (h : VRs φ cs cs') : VR φ (.tup cs) (.tuple ⟨cs'⟩)
inductive VRs (φ : Phi) : List V → List Value → Prop
  | nil : VRs φ [] []
  | cons {v : V} {v' : Value} {r : List V} {r' : List Value} (h : VR φ v v') (hr : VRs φ r r') : VRs φ (v :: r) (v' :: r')
end

mutual
theorem VR.mono {φ φ' : Phi} (hl : φ.le φ') : ∀ {v : V} {v' : Value}, VR φ v v' → VR φ' v v'
  | _, _, .bool b => .bool b
  | _, _, .int k n => .int k n
  | _, _, .str s => .str s
  | _, _, .ptr h => .ptr (hl _ _ h)
  | _, _, .nilp => .nilp
  | _, _, .sl h ha hn hc hr => .sl (h.imp (hl _ _) id) ha hn hc hr
  | _, _, .nils => .nils
  | _, _, .map h => .map (hl _ _ h)
  | _, _, .nilm => .nilm
  | _, _, .fn ha hb => .fn (VRs.mono hl ha) (VRs.mono hl hb)
  | _, _, .nilf => .nilf
  | _, _, .iface h => .iface (VR.mono hl h)
  | _, _, .nili => .nili
  | _, _, .agg h => .agg (VRs.mono hl h)
  | _, _, .tup h => .tup (VRs.mono hl h)
theorem VRs.mono {φ φ' : Phi} (hl : φ.le φ') : ∀ {v : List V} {v' : List Value}, VRs φ v v' → VRs φ' v v'
  | _, _, .nil => .nil
  | _, _, .cons h hr => .cons (VR.mono hl h) (VRs.mono hl hr)
end

section
variable {φ : Phi}
theorem VRs.length {l : List V} {l' : List Value} (h : VRs φ l l') : l.length = l'.length := by
  induction l generalizing l' with
  | nil => cases h; rfl
  | cons v r ih => cases h with | cons h hr => simp [ih hr]
theorem VRs.get {l : List V} {l' : List Value} (h : VRs φ l l') : ∀ (i : Nat) (v : V), l[i]? = some v → ∃ v', l'[i]? = some v' ∧ VR φ v v' := by
  induction l generalizing l' with
  | nil => intro i v hv; simp at hv
  | cons x r ih =>
    cases h with
    | cons h hr =>
      intro i v hv
      cases i with
      | zero => simp at hv; subst hv; exact ⟨_, by simp, h⟩
      | succ i => simp at hv; obtain ⟨v', h1, h2⟩ := ih hr i v hv; exact ⟨v', by simpa using h1, h2⟩
theorem VRs.get' {l : List V} {l' : List Value} (h : VRs φ l l') (i : Nat) (v' : Value) (hv : l'[i]? = some v') : ∃ v, l[i]? = some v ∧ VR φ v v' := by
  have hl := h.length
  have hi : i < l'.length := by
    rcases Nat.lt_or_ge i l'.length with h1 | h1
    · exact h1
    · rw [List.getElem?_eq_none h1] at hv; cases hv
  obtain ⟨v'', h1, h2⟩ := h.get i (l[i]'(by omega)) (List.getElem?_eq_getElem (by omega))
  rw [h1] at hv
  cases hv
  exact ⟨_, List.getElem?_eq_getElem (by omega), h2⟩
theorem VRs.of_get : ∀ {l : List V} {l' : List Value}, l.length = l'.length → (∀ (i : Nat) (v : V) (v' : Value), l[i]? = some v → l'[i]? = some v' → VR φ v v') → VRs φ l l'
  | [], [], _, _ => .nil
  | [], _ :: _, h, _ => by simp at h
  | _ :: _, [], h, _ => by simp at h
  | v :: r, v' :: r', h, hg => .cons (hg 0 v v' (by simp) (by simp)) (VRs.of_get (by simpa using h) fun i x x' hx hx' => hg (i + 1) x x' (by simpa using hx) (by simpa using hx'))
theorem VRs.append {a b : List V} {a' b' : List Value} (h : VRs φ a a') (h' : VRs φ b b') : VRs φ (a ++ b) (a' ++ b') := by
  induction a generalizing a' with
  | nil => cases h; exact h'
  | cons v r ih => cases h with | cons h hr => exact .cons h (ih hr)
theorem VRs.drop {a : List V} {a' : List Value} (h : VRs φ a a') (n : Nat) : VRs φ (a.drop n) (a'.drop n) := by
  induction n generalizing a a' with
  | zero => simpa using h
  | succ n ih => cases h with
    | nil => exact .nil
    | cons h hr => simpa using ih hr
theorem VRs.take {a : List V} {a' : List Value} (h : VRs φ a a') (n : Nat) : VRs φ (a.take n) (a'.take n) := by
  induction n generalizing a a' with
  | zero => simpa using VRs.nil
  | succ n ih => cases h with
    | nil => exact .nil
    | cons h hr => simpa using VRs.cons h (ih hr)

theorem VR.cells {v : V} {v' : Value} (h : VR φ v v') : VRs φ v.cells v'.cells.toList := by
  cases h <;> first | exact .cons (by constructor <;> assumption) .nil | assumption | skip
  all_goals first
    | exact .cons (.ptr ‹_›) .nil
    | exact .cons (.sl ‹_› ‹_› ‹_› ‹_› ‹_›) .nil
    | exact .cons (.map ‹_›) .nil
    | exact .cons (.fn ‹_› ‹_›) .nil
    | exact .cons (.iface ‹_›) .nil
    | exact .cons (.tup ‹_›) .nil

theorem VR.undef : VR φ undef Go.undef := .tup .nil

/-! ### constants -/
theorem ofScalar_rel {v : Value} {x : V} (h : ofScalar v = some x) : VR φ x v := by
  unfold ofScalar at h
  split at h
  all_goals first | (cases h; done) | skip
  all_goals (injection h with h; subst h)
  · exact .bool _
  · exact .int _ _
  · rename_i s; exact .str _
  · exact .nilp
  · exact .nils
  · exact .nilm
  · exact .nilf
  · exact .nili
theorem omap_rel {f : Value → Option V} (hf : ∀ v x, f v = some x → VR φ x v) : ∀ {l : List Value} {xs : List V}, omap f l = some xs → VRs φ xs l
  | [], xs, h => by cases h; exact .nil
  | v :: r, xs, h => by
    unfold omap at h
    split at h
    · rename_i y hy
      split at h
      · rename_i ys hys
        cases h
        exact .cons (hf _ _ hy) (omap_rel hf hys)
      · cases h
    · cases h
theorem ofValue_rel {v : Value} {x : V} (h : ofValue v = some x) : VR φ x v := by
  unfold ofValue at h
  split at h
  · rename_i cs
    rw [Option.map_eq_some_iff] at h
    obtain ⟨xs, hx, rfl⟩ := h
    exact .agg (omap_rel (fun v x => ofScalar_rel) hx)
  · rename_i cs
    split at h
    · rename_i h0
      cases h
      have : cs = #[] := by simpa using h0
      subst this
      exact .tup .nil
    · cases h
  · exact ofScalar_rel h

/-- the frame -/
def ER (φ : Phi) (e : Env) (a : Array Value) : Prop := ∀ t, VR φ (e.at t) (a.getD t Go.undef)
theorem ER.mono {φ φ' : Phi} (hl : φ.le φ') {e : Env} {a : Array Value} (h : ER φ e a) : ER φ' e a := fun t => (h t).mono hl
theorem ev_rel {e : Env} {a : Act} (h : ER φ e a.tmps) {x : Operand} {v : V} (hv : ev e x = some v) : VR φ v (a.eval x) := by
  unfold ev at hv
  split at hv
  · cases hv; exact h _
  · exact ofValue_rel hv
  · cases hv
  · cases hv; exact .fn .nil .nil
theorem evs_rel {e : Env} {a : Act} (h : ER φ e a.tmps) : ∀ {l : List Operand} {vs : List V}, evs e l = some vs → VRs φ vs (l.map a.eval)
  | [], vs, hv => by cases hv; exact .nil
  | x :: r, vs, hv => by
    unfold evs omap at hv
    split at hv
    · rename_i y hy
      split at hv
      · rename_i ys hys
        cases hv
        exact .cons (ev_rel h hy) (evs_rel h hys)
      · cases hv
    · cases hv
end
end Go.Den
