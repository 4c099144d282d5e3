import Derived.Test.YthcggkagkihamaaGreatEngV
set_option linter.unusedVariables false
set_option linter.unusedSimpArgs false
namespace Go.Eng
open Go Go.RowKit
def sigs5 : Rels := [([97], 2, true), ([98], 1, true), ([112], 2, false), ([113], 2, false), ([114], 1, false)]
def arS (r : Int) : Int := (sigs5.getD r.toNat ([], 0, false)).2.1
def atomL (a : Int × List Int) : Prop := (-1 ≤ a.1 ∧ a.1 ≤ 5) ∧ (1 ≤ a.2.length ∧ a.2.length ≤ 2) ∧ ∀ x ∈ a.2, -11 ≤ x ∧ x ≤ 5
def depL (d : Dep) : Prop := (1 ≤ d.1.length ∧ d.1.length ≤ 2) ∧ d.2.1.length ≤ 3 ∧ (∀ a ∈ d.1, atomL a) ∧ (∀ a ∈ d.2.1, atomL a) ∧ (-20 ≤ d.2.2.2.1 ∧ d.2.2.2.1 ≤ 20) ∧ (-20 ≤ d.2.2.2.2 ∧ d.2.2.2.2 ≤ 20)
def relL (z : List UInt8 × Int × Bool) : Prop := z.1.length ≤ 2 ∧ -1 ≤ z.2.1 ∧ z.2.1 ≤ 4
end Go.Eng
