/- A region whose order is open: whatever order is drawn, it comes to what the text's order comes to. First: what the checks on a front say. -/
import Derived.Test.YtghmbmblhdgabaaCongr
import Derived.Test.YtghmbmblhdgabaaSound
set_option linter.all false
namespace Go.Den
open Go
variable {P : Program}

/-! ### what waits for what -/
/-- the operations that are done: with each of them all that it waits for -/
structure Closed (ops : Array Oper) (D : Nat → Prop) : Prop where
  lt : ∀ i, D i → i < ops.size
  dn : ∀ i o, D i → ops[i]? = some o → ∀ e ∈ o.after, Region.binds .any e = true → D e.on
theorem befOf_bit {D : Nat → Prop} {acc : List Nat} : ∀ {es : List Edge} {i : Nat}, (befOf acc es).testBit i = true → (∀ e ∈ es, Region.binds .any e = true → D e.on) → (∀ j, j < acc.length → D j → ∀ i, (acc.getD j 0).testBit i = true → D i) → D i
  | [], i, hb, _, _ => by simp [befOf] at hb
  | e :: r, i, hb, he, ha => by
    unfold befOf at hb
    have hr := fun hb => befOf_bit (es := r) (i := i) (D := D) (acc := acc) hb (fun e hm => he e (by simp [hm])) ha
    split at hb
    · rename_i hc
      rw [Bool.and_eq_true, decide_eq_true_eq] at hc
      have hd := he e (by simp) hc.1
      rw [Nat.testBit_or, Nat.testBit_or, Bool.or_eq_true, Bool.or_eq_true] at hb
      rcases hb with (hb | hb) | hb
      · rw [Nat.testBit_two_pow] at hb
        have : e.on = i := by simpa using hb
        rw [← this]; exact hd
      · exact ha _ hc.2 hd i hb
      · exact hr hb
    · exact hr hb
theorem befs_length : ∀ (l : List Oper) (acc : List Nat), (befs acc l).length = acc.length + l.length
  | [], acc => by simp [befs]
  | o :: r, acc => by rw [befs, befs_length r]; simp; omega
theorem befs_prefix : ∀ (l : List Oper) (acc : List Nat) (j : Nat), j < acc.length → (befs acc l).getD j 0 = acc.getD j 0
  | [], acc, j, _ => rfl
  | o :: r, acc, j, hj => by
    rw [befs, befs_prefix r _ j (by simp; omega)]
    simp [List.getD, List.getElem?_append_left hj]
/-- all that an operation waits for, near and far, is done when all that it waits for straight away is done -/
theorem befs_done {ops : Array Oper} {D : Nat → Prop} (hc : Closed ops D) : ∀ (l : List Oper) (acc : List Nat), (∀ j, l[j]? = ops[acc.length + j]?) →
    (∀ j, j < acc.length → ∀ o, ops[j]? = some o → (∀ e ∈ o.after, Region.binds .any e = true → D e.on) → ∀ i, (acc.getD j 0).testBit i = true → D i) →
    ∀ j, j < acc.length + l.length → ∀ o, ops[j]? = some o → (∀ e ∈ o.after, Region.binds .any e = true → D e.on) → ∀ i, ((befs acc l).getD j 0).testBit i = true → D i
  | [], acc, _, ha, j, hj, o, ho, he, i, hb => ha j (by simpa using hj) o ho he i hb
  | o :: r, acc, hl, ha, j, hj, oj, hoj, he, i, hb => by
    rw [befs] at hb
    refine befs_done hc r (acc ++ [befOf acc o.after.toList]) (fun j => ?_) ?_ j (by simp at hj ⊢; omega) oj hoj he i hb
    · have := hl (j + 1)
      simp only [List.getElem?_cons_succ] at this
      rw [this]
      simp [Nat.add_assoc, Nat.add_comm 1 j]
    · intro j' hj' o' ho' he' i' hb'
      by_cases hlt : j' < acc.length
      · refine ha j' hlt o' ho' he' i' ?_
        simpa [List.getD, List.getElem?_append_left hlt] using hb'
      · have hje : j' = acc.length := by simp at hj'; omega
        subst hje
        have h0 := hl 0
        simp only [List.getElem?_cons_zero, Nat.add_zero] at h0
        rw [ho'] at h0
        cases h0
        have hb2 : (befOf acc o.after.toList).testBit i' = true := by simpa [List.getD, List.getElem?_append_right (Nat.le_refl _)] using hb'
        refine befOf_bit hb2 (fun e hm => he' e (by simpa using hm)) fun j2 hj2 hd i2 hb3 => ?_
        have hlt2 := hc.lt _ hd
        obtain ⟨o2, ho2⟩ : ∃ o2, ops[j2]? = some o2 := ⟨ops[j2], by simp [hlt2]⟩
        exact ha j2 hj2 o2 ho2 (hc.dn _ _ hd ho2) i2 hb3
theorem done_of_bit {ops : Array Oper} {D : Nat → Prop} (hc : Closed ops D) {j : Nat} {o : Oper} (ho : ops[j]? = some o) (he : ∀ e ∈ o.after, Region.binds .any e = true → D e.on) {i : Nat}
    (hb : ((befs [] ops.toList).getD j 0).testBit i = true) : D i := by
  have hlt : j < ops.size := (Array.getElem?_eq_some_iff.1 ho).1
  exact befs_done hc ops.toList [] (fun j => by simp) (fun j hj => by simp at hj) j (by simpa using hlt) o ho he i hb

/-! ### the checks -/
theorem pairsOk_spec {ops : Array Oper} {j : Nat} {oj : Oper} {bj : Nat} : ∀ {l : List Oper} {i : Nat}, pairsOk ops j oj bj i l = true → ∀ d o, l[d]? = some o → i + d < j → bj.testBit (i + d) = true ∨ apartOk ops o oj = true
  | [], _, _, d, o, ho, _ => by simp at ho
  | x :: r, i, h, d, o, ho, hlt => by
    unfold pairsOk at h
    rw [if_neg (by omega), Bool.and_eq_true, Bool.or_eq_true] at h
    cases d with
    | zero => simp at ho; subst ho; exact h.1
    | succ d =>
      have := pairsOk_spec h.2 d o (by simpa using ho) (by omega)
      rwa [show i + 1 + d = i + (d + 1) from by omega] at this
theorem frontOk_spec {ops : Array Oper} {bs : List Nat} : ∀ {l : List Oper} {j k : Nat}, frontOk ops bs j k l = true → ∀ d o, d < k → l[d]? = some o → (heavy o.op || light o.op) = true ∧ pairsOk ops (j + d) o (bs.getD (j + d) 0) 0 ops.toList = true
  | _, _, 0, _, d, o, hd, _ => by omega
  | [], _, k + 1, h, d, o, _, ho => by simp at ho
  | x :: r, j, k + 1, h, d, o, hd, ho => by
    unfold frontOk at h
    rw [Bool.and_eq_true, Bool.and_eq_true] at h
    cases d with
    | zero => simp at ho; subst ho; exact ⟨h.1.1, h.1.2⟩
    | succ d =>
      have := frontOk_spec h.2 d o (by omega) (by simpa using ho)
      rwa [show j + 1 + d = j + (d + 1) from by omega] at this
theorem frontOk_len {ops : Array Oper} {bs : List Nat} : ∀ {l : List Oper} {j k : Nat}, frontOk ops bs j k l = true → k ≤ l.length
  | _, _, 0, _ => Nat.zero_le _
  | [], _, k + 1, h => by simp [frontOk] at h
  | x :: r, j, k + 1, h => by
    unfold frontOk at h
    rw [Bool.and_eq_true] at h
    have := frontOk_len h.2
    simp; omega
theorem tailOk_spec : ∀ {l : List Nat} {j : Nat}, tailOk j l = true → ∀ d b, l[d]? = some b → b = 2 ^ (j + d) - 1
  | [], _, _, d, b, hb => by simp at hb
  | x :: r, j, h, d, b, hb => by
    unfold tailOk at h
    rw [Bool.and_eq_true, decide_eq_true_eq] at h
    cases d with
    | zero => simp at hb; subst hb; exact h.1
    | succ d =>
      have := tailOk_spec h.2 d b (by simpa using hb)
      rwa [show j + 1 + d = j + (d + 1) from by omega] at this
theorem tailAt_spec : ∀ (l : List Nat) (j : Nat), j ≤ tailAt j l ∧ ∀ d b, tailAt j l ≤ j + d → l[d]? = some b → b = 2 ^ (j + d) - 1
  | [], j => ⟨Nat.le_refl _, fun d b _ hb => by simp at hb⟩
  | x :: r, j => by
    unfold tailAt
    split
    · rename_i ht
      exact ⟨Nat.le_refl _, fun d b _ hb => tailOk_spec ht d b hb⟩
    · obtain ⟨h1, h2⟩ := tailAt_spec r (j + 1)
      refine ⟨by omega, fun d b hd hb => ?_⟩
      cases d with
      | zero => omega
      | succ d =>
        have := h2 d b (by omega) (by simpa using hb)
        rwa [show j + 1 + d = j + (d + 1) from by omega] at this
/-- two operations of a front that do not wait for one another share no slot and are not both heavy -/
theorem apartOk_spec {ops : Array Oper} {x y : Oper} (h : apartOk ops x y = true) : (∀ t, x.dst = some t → t ∉ names ops y) ∧ (∀ t, y.dst = some t → t ∉ names ops x) ∧ ¬ (heavy x.op = true ∧ heavy y.op = true) := by
  unfold apartOk at h
  rw [Bool.not_eq_true', Bool.or_eq_false_iff, Bool.or_eq_false_iff] at h
  obtain ⟨⟨h1, h2⟩, h3⟩ := h
  refine ⟨fun t ht hm => ?_, fun t ht hm => ?_, fun hh => ?_⟩
  · rw [ht] at h1; simp [hm] at h1
  · rw [ht] at h2; simp [hm] at h2
  · rw [hh.1, hh.2] at h3; cases h3
end Go.Den
