/- Light operations, the end: one law for all of them. -/
import Derived.Test.YtghmbmblhdgabaaLight3
set_option linter.all false
namespace Go.Den
open Go
variable {P : Program} {φ : Phi} {w : World}

theorem extract_str (s : List UInt8) (l h : Nat) : (⟨⟨s⟩⟩ : ByteArray).extract l h = ⟨⟨(s.drop l).take (h - l)⟩⟩ := by
  rw [Lib.extract_eq]
theorem sliceV_rel {rd : Rd} {t : TypeId} {x v : V} {lo hi mx : Option V} (h : sliceV P rd t x lo hi mx = some v) (hrd : RdSim φ w rd) {x' : Value} (hx : VR φ x x')
    {lo' hi' mx' : Option Value} (hlo : VRo φ lo lo') (hhi : VRo φ hi hi') (hmx : VRo φ mx mx') :
    ∃ v', (Instr.sliceAt t x' lo' hi' mx').run P w = .ok v' w ∧ VR φ v v' := by
  unfold sliceV at h
  split at h
  · rename_i s hu
    cases hx
    split at h
    · cases h
    · rename_i hm0
      have hmn : mx = none := by simpa using hm0
      subst hmn
      cases hmx
      split at h
      · rename_i hh hbh
        split at h
        · rename_i l hbl
          cases h
          obtain ⟨h1, h2, _, h4⟩ := sliceBounds_rel (P := P) (mx := none) (n := s.length) (m := s.length) (cap := s.length) hlo hhi .none false rfl (by simpa using hbh) rfl hbl (Nat.le_refl _) w
          refine ⟨.string ⟨⟨(s.drop l).take (hh - l)⟩⟩, ?_, .str _⟩
          simp only [Option.isSome_none, Bool.false_eq_true, if_false] at h4
          have e : (⟨⟨s⟩⟩ : ByteArray).size = s.length := rfl
          simp [Instr.sliceAt, Instr.slice, run_underlying hu, e, h4, extract_str]
        · cases h
      · cases h
  · rename_i e b o n c es hu
    cases hx with
    | sl hb ha hn hc hroom =>
    rename_i c' g base sz a
    split at h
    · rename_i hs
      split at h
      · rename_i m hh hbm hbh
        split at h
        · cases h
        · rename_i hno
          simp only [Bool.and_eq_true, Bool.or_eq_true, decide_eq_true_eq, not_and, not_or] at hno
          split at h
          · rename_i l hbl
            cases h
            have hno1 : (mx.isSome && hi.isNone) = false := by
              cases hms : mx.isSome
              · rfl
              · have := (hno hms).1
                rw [Bool.true_and]
                exact Bool.eq_false_iff.2 this
            have hbh' : bound hi n (if mx.isSome then m else n) = some hh := by
              cases hms : mx.isSome
              · simpa using hbh
              · simp only [if_true]
                have h2 := (hno hms).2
                cases hi with
                | none => rw [hms] at hno1; cases hno1
                | some hv =>
                  unfold bound at hbh ⊢
                  split at hbh
                  · rename_i e0; cases e0
                  · rename_i k i e0
                    cases e0
                    split at hbh
                    · rename_i hb2
                      cases hbh
                      rw [if_pos (by omega)]
                    · cases hbh
                  · cases hbh
            obtain ⟨h1, h2, h3, h4⟩ := sliceBounds_rel (P := P) (cap := c') hlo hhi hmx true hbm hbh' hno1 hbl hn w
            generalize hM : (if mx.isSome then m else c') = M at h4
            have hMc : M ≤ c' := by
              subst hM
              split
              · rename_i hms; have := (h3 hms).2; omega
              · exact Nat.le_refl _
            have hhM : hh ≤ M := by
              subst hM
              split
              · rename_i hms; exact (h3 hms).1
              · omega
            refine ⟨.slice ((if M = l then some a else (some a).map (·.add (l * es)))) (hh - l) (M - l), ?_, ?_⟩
            · simp [Instr.sliceAt, Instr.slice, run_underlying hu, h4, run_sizeOf hs]
            · have hcap : ∀ k, (if mx.isSome = true then some (m - l) else c.map (· - l)) = some k → M - l = k := by
                intro k hk
                subst hM
                split at hk
                · rename_i hms; rw [if_pos hms]; injection hk
                · rename_i hms
                  rw [if_neg hms]
                  rw [Option.map_eq_some_iff] at hk
                  obtain ⟨k', hk', rfl⟩ := hk
                  rw [hc k' hk']
              have hb : φ b = some (g, base, sz) ∨ (M - l = 0 ∧ (if mx.isSome = true then some (m - l) else c.map (· - l)) = some 0) := by
                refine hb.imp id fun ⟨hz, hc0⟩ => ⟨by omega, ?_⟩
                subst hM
                split
                · rename_i hms; rw [if_pos hms] at hMc; congr 1; omega
                · rw [hc0]; simp
              by_cases hMl : M = l
              · rw [if_pos hMl]
                exact .sl hb (.inr ⟨by omega, by rcases ha with rfl | ha <;> first | rfl | exact ha.2⟩) (by omega) hcap (.inr (by omega))
              · rw [if_neg hMl]
                have ha' : a = ⟨g, base + o, none⟩ := ha.resolve_right (by omega)
                subst ha'
                simp only [Option.map_some, add_addr]
                refine .sl hb (.inl (by simp [Nat.add_assoc])) (by omega) hcap (.inl ?_)
                have hr := hroom.resolve_right (by omega)
                have e1 : l * es + (M - l) * es = M * es := by rw [← Nat.add_mul]; congr 1; omega
                have e2 : M * es ≤ c' * es := Nat.mul_le_mul_right es hMc
                omega
          · cases h
      · cases h
    · cases h
  · rename_i e hu
    cases hx
    split at h
    · rename_i s0 m hh l hsz hbm hbh hbl
      split at h
      · cases h
      · rename_i hno
        cases h
        have z : ∀ {y : Option V} {r : Nat}, bound y 0 0 = some r → r = 0 := by
          intro y r hy
          unfold bound at hy
          split at hy
          · cases hy; rfl
          · split at hy
            · cases hy; omega
            · cases hy
          · cases hy
        have hm0 := z hbm
        have hh0 := z hbh
        have hl0 := z hbl
        subst hm0; subst hh0; subst hl0
        obtain ⟨h1, h2, h3, h4⟩ := sliceBounds_rel (P := P) (n := 0) (cap := 0) hlo hhi hmx true hbm (by split <;> exact hbh) (Bool.eq_false_iff.2 hno) hbl (Nat.le_refl _) w
        refine ⟨.slice none 0 0, ?_, .nils⟩
        have e0 : (if mx.isSome = true then 0 else 0) = 0 := by split <;> rfl
        rw [e0] at h4
        simp [Instr.sliceAt, Instr.slice, run_underlying hu, h4, run_sizeOf hsz]
    · cases h
  · rename_i n e b o hu
    cases hx with
    | ptr hb =>
    rename_i g base sz
    split at h
    · rename_i s cs hs hr
      split at h
      · rename_i hroom
        split at h
        · rename_i m hbm
          split at h
          · rename_i hh hbh
            split at h
            · cases h
            · rename_i hno
              split at h
              · rename_i l hbl
                cases h
                have hbh' : bound hi n (if mx.isSome then m else n) = some hh := by
                  cases hmx with
                  | none =>
                    have : m = n := by simpa [bound] using hbm.symm
                    subst this
                    simpa using hbh
                  | some _ => simpa using hbh
                obtain ⟨h1, h2, h3, h4⟩ := sliceBounds_rel (P := P) (cap := n) hlo hhi hmx false hbm hbh' (Bool.eq_false_iff.2 hno) hbl (Nat.le_refl _) w
                have hM : (if mx.isSome then m else n) = m := by
                  cases hmx with
                  | none => have : m = n := by simpa [bound] using hbm.symm
                            simp [this]
                  | some _ => simp
                rw [hM] at h4
                have hmn : m ≤ n ∧ hh ≤ m := by
                  cases hmx with
                  | none => have : m = n := by simpa [bound] using hbm.symm
                            omega
                  | some _ => have := h3 rfl; omega
                obtain ⟨arr, t', lo0, hi0, hh1, hh2, _, hh3, _⟩ := hrd _ _ _ hb hr
                simp only at hh3
                refine ⟨.slice (some (if m = l then ⟨g, base + o, none⟩ else (⟨g, base + o, none⟩ : Addr).add (l * s))) (hh - l) (m - l), ?_, ?_⟩
                · simp [Instr.sliceAt, run_underlying hu, Instr.sureAddr, h4, run_sizeOf hs]
                · by_cases hml : m = l
                  · rw [if_pos hml]
                    exact .sl (.inl hb) (.inr ⟨by omega, rfl⟩) (by omega) (fun k hk => by cases hk; rfl) (.inr (by omega))
                  · rw [if_neg hml, add_addr]
                    refine .sl (.inl hb) (.inl (by simp [Nat.add_assoc])) (by omega) (fun k hk => by cases hk; rfl) (.inl ?_)
                    have e1 : l * s + (m - l) * s = m * s := by rw [← Nat.add_mul]; congr 1; omega
                    have e2 : m * s ≤ n * s := Nat.mul_le_mul_right s hmn.1
                    omega
              · cases h
          · cases h
        · cases h
      · cases h
    · cases h
  · cases h
end Go.Den
