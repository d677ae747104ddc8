/- The program's KindName answers what the reference's KindName answers: for every int. No condition. -/
import Derived.Test.YthabpfhhfnibgaaPFnExactKindNamex1
namespace Go.Proofs.Ythabpfhhfnibgaa.Pure
open Go.RowKit Go.Proofs.Ythabpfhhfnibgaa.PFnExactKindName Go.Proofs.YthabpfhhfnibgaaW.PrintWords Go.Proofs.YthabpfhhfnibgaaW.PrintLast

theorem FnExactKindName : laws_FnExactKindName.Pure := by
  intro a0 hw
  unfold laws_FnExactKindName.f spec_KindName.f impl_KindName.f impl_nameAt.f spec_l17Kind.f spec_l01In.f impl_within.f
  by_cases h1 : 1 ≤ a0 ∧ a0 ≤ 7
  · obtain ⟨h1, h2⟩ := h1
    have : a0 = 1 ∨ a0 = 2 ∨ a0 = 3 ∨ a0 = 4 ∨ a0 = 5 ∨ a0 = 6 ∨ a0 = 7 := by omega
    rcases this with rfl | rfl | rfl | rfl | rfl | rfl | rfl <;> simp [wrap64, rdOf]
  · by_cases h0 : a0 = 0
    · subst h0; simp [wrap64, rdOf]
    · by_cases h2 : a0 < 0
      · have e1 : ¬ (a0 ≥ 1) := by omega
        have e2 : ¬ (0 ≤ a0) := by omega
        simp [e1, e2]
      · have e1 : a0 ≥ 1 := by omega
        have e2 : ¬ (a0 ≤ 7) := by omega
        have e3 : 0 ≤ a0 := by omega
        simp [e1, e2, e3, wrap64]

end Go.Proofs.Ythabpfhhfnibgaa.Pure
