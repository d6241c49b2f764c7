/- Decimal numerals, read again. -/
import Derived.Test.YtlmlpgmpdaepkaaDoorCdNum4
import Derived.Lib.ItoaLen
set_option linter.unusedSimpArgs false
set_option linter.unusedVariables false
set_option linter.unusedSectionVars false
namespace Go.Cn.D
open Go.Proofs

theorem decDigits_facts : ∀ u : Nat, decVal (Lib.decDigits u) = u ∧ (∀ c ∈ Lib.decDigits u, isDig c = true) ∧ (Lib.decDigits u ≠ []) ∧ (1 ≤ u → ∃ c0 l, Lib.decDigits u = c0 :: l ∧ c0 ≠ 48) := by
  intro u
  induction u using Nat.strongRecOn with
  | _ u ih =>
    have hdig : ∀ d, d < 10 → isDig (UInt8.ofNat (48 + d)) = true ∧ (UInt8.ofNat (48 + d)).toNat - 48 = d := by
      intro d hd
      have : (UInt8.ofNat (48 + d)).toNat = 48 + d := by simp; omega
      exact ⟨by simp only [isDig, this, decide_eq_true_eq]; omega, by omega⟩
    by_cases h : u < 10
    · rw [Lib.decDigits_one h]
      obtain ⟨h1, h2⟩ := hdig u h
      refine ⟨by simp only [decVal, List.foldl_cons, List.foldl_nil]; omega, fun c hc => by rw [List.mem_singleton] at hc; subst hc; exact h1, by simp, fun hu => ⟨_, [], rfl, fun he => ?_⟩⟩
      have := congrArg UInt8.toNat he
      simp at this
      omega
    · rw [Lib.decDigits, dif_neg h]
      obtain ⟨i1, i2, i3, i4⟩ := ih (u / 10) (by omega)
      obtain ⟨h1, h2⟩ := hdig (u % 10) (by omega)
      refine ⟨by rw [decVal_snoc, i1, h2]; omega, fun c hc => ?_, by simp, fun _ => ?_⟩
      · rcases List.mem_append.1 hc with hc | hc
        · exact i2 c hc
        · rw [List.mem_singleton] at hc; subst hc; exact h1
      · obtain ⟨c0, l, e, hne⟩ := i4 (by omega)
        exact ⟨c0, l ++ [UInt8.ofNat (48 + u % 10)], by rw [e]; rfl, hne⟩

end Go.Cn.D
