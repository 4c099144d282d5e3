import Derived.Test.YthcggkagkihamaaGreatDoorEngZ
set_option linter.unusedVariables false
set_option linter.unusedSimpArgs false
namespace Go.Eng
open Go Go.RowKit
theorem atomsOk_parts {rs : Rels} {l : Atoms} {n : Int} (h : atomsOk rs l n = true) : (l.length : Int) ≤ n ∧ ∀ a ∈ l, atomOk rs a.1 a.2 = true := by
 unfold atomsOk at h
 simp only [Bool.and_eq_true, decide_eq_true_eq, Bool.not_eq_true', List.any_eq_false] at h
 exact ⟨by omega, fun a ha => by
  have := h.2 a ha
  unfold badA at this
  simpa using this⟩
theorem dep_body {rs : Rels} {a0 a1 : Atoms} {a2 : Bool} {a3 a4 : Int} (h : depOk rs a0 a1 a2 a3 a4 = true) : atomsOk rs a0 2 = true := by
 unfold depOk at h
 simp only [Bool.and_eq_true] at h
 exact h.1
end Go.Eng
