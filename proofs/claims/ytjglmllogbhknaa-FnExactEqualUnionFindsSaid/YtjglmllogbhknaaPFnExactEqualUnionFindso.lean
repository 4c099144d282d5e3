-- Written by xprint.py: how the arguments of laws_FnExactEqualUnionFinds read, and its pure statement.
import Derived.Test.YtjglmllogbhknaaPFnExactEqualUnionFindsx2
import Derived.Test.YtjglmllogbhknaaXOpen
namespace Go.Proofs.Ytjglmllogbhknaa.PFnExactEqualUnionFinds
open Go.RowKit Go.Proofs.YtjglmllogbhknaaW.PrintWords Go.Proofs.YtjglmllogbhknaaX
set_option linter.unusedVariables false
def ok37 (x : S37) : Prop := okL okI x.f0
theorem opens37 : Opens Try.prog 37 k37 ok37 := by
  intro H enc w base spare held fuel cs x h
  obtain ⟨hl, n, hf⟩ := trod_cells Try.underlying37 (by kernel_rfl) (by kernel_rfl) h
  obtain ⟨c0, rfl⟩ := list1 (hl.trans rfl)
  obtain ⟨y0, g0⟩ := hf 0 _ c0 rfl rfl
  obtain ⟨a0, K0, o0⟩ := (opens_slice Try.underlying24 (by kernel_rfl) (opens_int Try.underlying3)) H enc w base spare held n _ _ g0
  exact ⟨⟨a0⟩, K0, o0⟩
def laws_FnExactEqualUnionFinds.Pure : Prop := ∀ (l0_0 : List Int) (l1_0 : List Int), okL okI l0_0 → okL okI l1_0 → ∃ k, laws_FnExactEqualUnionFinds.f k l0_0 l1_0 = some true
end Go.Proofs.Ytjglmllogbhknaa.PFnExactEqualUnionFinds
