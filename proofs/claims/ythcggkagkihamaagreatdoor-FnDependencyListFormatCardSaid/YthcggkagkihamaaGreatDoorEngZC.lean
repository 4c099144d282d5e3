import Derived.Test.YthcggkagkihamaaGreatDoorEngZB
set_option linter.unusedVariables false
set_option linter.unusedSimpArgs false
namespace Go.Eng
open Go Go.RowKit
def keepF (rs : Rels) (t : Bool) (f : Int × List Int) : Bool := srcA rs f == t
def rstR (rs : Rels) (fs : Atoms) : Rels := if instOk rs fs = true then rs else []
def rstF (rs : Rels) (fs : Atoms) (t : Bool) : Atoms := if instOk rs fs = true then fs.filter (keepF rs t) else []
def dlK {α : Type} (K : α → Bool) (l q : List α) (k j : Nat) : Prop := k < j ∧ j ≤ l.length ∧ q.length = l.length ∧ q.take k = (l.take j).filter K ∧ ∀ n, j ≤ n → q[n]? = l[n]?
section
variable {α : Type} {K : α → Bool} {l q : List α} {k j : Nat} {z : α}
end
def solB (rs : Rels) (fs : Atoms) (rs2 : Rels) (fs2 : Atoms) (ds : List Dep) : Bool := (vioS rs2 fs2 ds && instOk rs fs) && (decide (rstR rs fs = rstR rs2 fs2) && decide (rstF rs fs true = rstF rs2 fs2 true))
end Go.Eng
