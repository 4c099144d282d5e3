import Derived.Test.YthcggkagkihamaaGreatEngZ
set_option linter.unusedVariables false
set_option linter.unusedSimpArgs false
namespace Go.Eng
open Go Go.RowKit
theorem act_trg {rs : Rels} {fs a0 a1 : Atoms} {a2 : Bool} {a3 a4 : Int} {b : List Int} (h : actOk rs fs a0 a1 a2 a3 a4 b = true) : trgOk rs fs a0 a1 a2 a3 a4 b = true := by
 unfold actOk at h
 simp only [Bool.and_eq_true] at h
 exact h.1
end Go.Eng
