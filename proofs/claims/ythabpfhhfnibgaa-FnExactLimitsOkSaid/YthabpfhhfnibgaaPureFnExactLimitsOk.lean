/- What is left of the law FnExactLimitsOk when memory is gone: FnExactLimitsOk's answers over numbers and lists are what the reference's are. Condition: each number is an int, each byte is one. -/
import Derived.Test.YthabpfhhfnibgaaPFnExactLimitsOkx1
import Derived.Test.YthabpfhhfnibgaaOwn
import Derived.Test.YthabpfhhfnibgaaLib
set_option linter.unusedVariables false
set_option linter.unusedSimpArgs false
namespace Go.Proofs.Ythabpfhhfnibgaa.PFnExactLimitsOk
open Go.RowKit Go.Proofs.YthabpfhhfnibgaaW.PrintWords Go.Proofs.YthabpfhhfnibgaaW.PrintLast Go.Proofs.Ythabpfhhfnibgaa.Own Go.Proofs.Ythabpfhhfnibgaa.Lib
/-- The one pure statement. -/
def laws_FnExactLimitsOk.Pure_ : Prop := ∀ (a0_0 : Int) (a0_1 : Int) (a0_2 : Int) (a0_3 : Int) (a0_4 : Int), I64 a0_0 → I64 a0_1 → I64 a0_2 → I64 a0_3 → I64 a0_4 → laws_FnExactLimitsOk.f a0_0 a0_1 a0_2 a0_3 a0_4 = some true

theorem spec_l01In.ev (a b c : Int) : spec_l01In.f a b c = some (inR a b c) := by
  unfold spec_l01In.f inR
  by_cases h : a ≥ b
  · rw [if_pos h, decide_eq_true (show b ≤ a from h), Bool.true_and]
  · rw [if_neg h, decide_eq_false (show ¬ b ≤ a from h), Bool.false_and]

theorem spec_l02Signers.ev (a : Int) : spec_l02Signers.f a = some (inR a 1 10) := by unfold spec_l02Signers.f; rw [spec_l01In.ev]; rfl

theorem spec_LimitsOk.eq (a0 a1 a2 a3 a4 : Int) : spec_LimitsOk.f a0 a1 a2 a3 a4 = some (limitsOk a0 a1 a2 a3 a4) := by
  unfold spec_LimitsOk.f limitsOk
  simp only [spec_l01In.ev, spec_l02Signers.ev, Option.bind_some]
  cases inR a0 1 10 <;> cases inR a1 0 40 <;> cases inR a2 0 8 <;> cases inR a3 1 4000 <;> rfl
theorem spec_LimitsOk.ev (a0 a1 a2 a3 a4 : Int) : ∃ K : Nat, ∀ k : Nat, K ≤ k → spec_LimitsOk.f a0 a1 a2 a3 a4 = some (limitsOk a0 a1 a2 a3 a4) := ⟨0, fun _ _ => spec_LimitsOk.eq ..⟩

theorem impl_within.ev (a b c : Int) : impl_within.f a b c = some (inR a b c) := by
  unfold impl_within.f inR
  by_cases h : b ≤ a
  · rw [if_pos h, decide_eq_true h, Bool.true_and]
  · rw [if_neg h, decide_eq_false h, Bool.false_and]

theorem impl_LimitsOk.eq (a0 a1 a2 a3 a4 : Int) : impl_LimitsOk.f a0 a1 a2 a3 a4 = some (limitsOk a0 a1 a2 a3 a4) := by
  unfold impl_LimitsOk.f limitsOk
  simp only [impl_within.ev, Option.bind_some]
  cases inR a0 1 10 <;> cases inR a1 0 40 <;> cases inR a2 0 8 <;> cases inR a3 1 4000 <;> rfl
theorem impl_LimitsOk.ev (a0 a1 a2 a3 a4 : Int) : ∃ K : Nat, ∀ k : Nat, K ≤ k → impl_LimitsOk.f a0 a1 a2 a3 a4 = some (limitsOk a0 a1 a2 a3 a4) := ⟨0, fun _ _ => impl_LimitsOk.eq ..⟩

theorem Pure_FnExactLimitsOk : laws_FnExactLimitsOk.Pure_ := by
  intro a0_0 a0_1 a0_2 a0_3 a0_4 wa0_0 wa0_1 wa0_2 wa0_3 wa0_4
  obtain ⟨Ks, es⟩ := spec_LimitsOk.ev a0_0 a0_1 a0_2 a0_3 a0_4 
  obtain ⟨Ki, ei⟩ := impl_LimitsOk.ev a0_0 a0_1 a0_2 a0_3 a0_4 
  simp only [laws_FnExactLimitsOk.f, laws_toLimits.f, es (Ks + Ki + 5) (by omega), ei (Ks + Ki + 5) (by omega), Option.bind_some, bne_self_eq_false, eq_self, if_true, if_false, Bool.false_eq_true]
end Go.Proofs.Ythabpfhhfnibgaa.PFnExactLimitsOk
