-- Written by xprint.py: how the arguments of laws_FnExactPositionIndex read, and its pure statement.
import Derived.Test.YtjglmllogbhknaaPFnExactPositionIndexx5
import Derived.Test.YtjglmllogbhknaaXOpen
namespace Go.Proofs.Ytjglmllogbhknaa.PFnExactPositionIndex
open Go.RowKit Go.Proofs.YtjglmllogbhknaaW.PrintWords Go.Proofs.YtjglmllogbhknaaX
set_option linter.unusedVariables false
def ok95 (x : S95) : Prop := okS x.f0 ∧ okI x.f1 ∧ okB x.f2
theorem opens95 : Opens Try.prog 95 k95 ok95 := by
  intro H enc w base spare held fuel cs x h
  obtain ⟨hl, n, hf⟩ := trod_cells Try.underlying95 (by kernel_rfl) (by kernel_rfl) h
  obtain ⟨c0, c1, c2, rfl⟩ := list3 (hl.trans rfl)
  obtain ⟨y0, g0⟩ := hf 0 _ c0 rfl rfl
  obtain ⟨a0, K0, o0⟩ := (opens_string Try.underlying9) H enc w base spare held n _ _ g0
  obtain ⟨y1, g1⟩ := hf 1 _ c1 rfl rfl
  obtain ⟨a1, K1, o1⟩ := (opens_int Try.underlying3) H enc w base spare held n _ _ g1
  obtain ⟨y2, g2⟩ := hf 2 _ c2 rfl rfl
  obtain ⟨a2, K2, o2⟩ := (opens_bool Try.underlying4) H enc w base spare held n _ _ g2
  exact ⟨⟨a0, a1, a2⟩, ⟨[c0], [c1, c2], rfl, K0, ⟨[c1], [c2], rfl, K1, K2⟩⟩, ⟨o0, o1, o2⟩⟩
def laws_FnExactPositionIndex.Pure : Prop := ∀ (l0 : List (S95)) (a1 : Int) (a2 : Int), okL ok95 l0 → okI a1 → okI a2 → ∃ k, laws_FnExactPositionIndex.f k l0 a1 a2 = some true
end Go.Proofs.Ytjglmllogbhknaa.PFnExactPositionIndex
