/- The program's FormatCode answers what the reference's answers, at every code. -/
import Derived.Test.YtjglmllogbhknaaPFnExactFormatCodex1
namespace Go.Proofs.Ytjglmllogbhknaa.Pure
open Go.RowKit Go.Proofs.Ytjglmllogbhknaa.PFnExactFormatCode Go.Proofs.YtjglmllogbhknaaW.PrintWords Go.Proofs.YtjglmllogbhknaaW.PrintLast

/-- YOURS: ∀ (a0 : Int), (Lit.int .i64 a0).wf = true → laws_FnExactFormatCode.f a0 = some true
What it reaches (each with k first where it has rounds; `.mono`: more rounds tell the same; `.l0`, ..: its loops, with `.mono_l`): spec_l1In.f, spec_FormatCode.f, impl_FormatCode.f, laws_FnExactFormatCode.f -/
theorem FnExactFormatCode : laws_FnExactFormatCode.Pure := by
  intro a h
  by_cases h1 : 1 ≤ a
  · by_cases h3 : a ≤ 3
    · rcases (show a = 1 ∨ a = 2 ∨ a = 3 by omega) with rfl | rfl | rfl
      all_goals decide +kernel
    · have n1 : a ≠ 1 := by omega
      have n2 : a ≠ 2 := by omega
      have n3 : a ≠ 3 := by omega
      simp [laws_FnExactFormatCode.f, spec_FormatCode.f, impl_FormatCode.f, spec_l1In.f, h3, n1, n2, n3, h1]
  · have n1 : a ≠ 1 := by omega
    have n2 : a ≠ 2 := by omega
    have n3 : a ≠ 3 := by omega
    simp [laws_FnExactFormatCode.f, spec_FormatCode.f, impl_FormatCode.f, spec_l1In.f, n1, n2, n3, h1]

end Go.Proofs.Ytjglmllogbhknaa.Pure
