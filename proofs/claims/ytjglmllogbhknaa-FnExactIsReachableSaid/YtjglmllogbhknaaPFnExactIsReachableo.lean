-- Written by xprint.py: how the arguments of laws_FnExactIsReachable read, and its pure statement.
import Derived.Test.YtjglmllogbhknaaPFnExactIsReachablex3
import Derived.Test.YtjglmllogbhknaaXOpen
namespace Go.Proofs.Ytjglmllogbhknaa.PFnExactIsReachable
open Go.RowKit Go.Proofs.YtjglmllogbhknaaW.PrintWords Go.Proofs.YtjglmllogbhknaaX
set_option linter.unusedVariables false
def ok88 (x : S88) : Prop := okI x.f0 ∧ okI x.f1 ∧ okB x.f2
theorem opens88 : Opens Try.prog 88 k88 ok88 := by
  intro H enc w base spare held fuel cs x h
  obtain ⟨hl, n, hf⟩ := trod_cells Try.underlying88 (by kernel_rfl) (by kernel_rfl) h
  obtain ⟨c0, c1, c2, rfl⟩ := list3 (hl.trans rfl)
  obtain ⟨y0, g0⟩ := hf 0 _ c0 rfl rfl
  obtain ⟨a0, K0, o0⟩ := (opens_int Try.underlying3) H enc w base spare held n _ _ g0
  obtain ⟨y1, g1⟩ := hf 1 _ c1 rfl rfl
  obtain ⟨a1, K1, o1⟩ := (opens_int Try.underlying3) H enc w base spare held n _ _ g1
  obtain ⟨y2, g2⟩ := hf 2 _ c2 rfl rfl
  obtain ⟨a2, K2, o2⟩ := (opens_bool Try.underlying4) H enc w base spare held n _ _ g2
  exact ⟨⟨a0, a1, a2⟩, ⟨[c0], [c1, c2], rfl, K0, ⟨[c1], [c2], rfl, K1, K2⟩⟩, ⟨o0, o1, o2⟩⟩
def laws_FnExactIsReachable.Pure : Prop := ∀ (a0 : Int) (l1 : List (S88)) (a2 : Int) (a3 : Int), okI a0 → okL ok88 l1 → okI a2 → okI a3 → ∃ k, laws_FnExactIsReachable.f k a0 l1 a2 a3 = some true
end Go.Proofs.Ytjglmllogbhknaa.PFnExactIsReachable
