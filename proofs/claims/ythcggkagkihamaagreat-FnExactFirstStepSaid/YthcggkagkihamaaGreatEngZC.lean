import Derived.Test.YthcggkagkihamaaGreatEngZB
set_option linter.unusedVariables false
set_option linter.unusedSimpArgs false
namespace Go.Eng
open Go Go.RowKit
def keepF (rs : Rels) (t : Bool) (f : Int × List Int) : Bool := srcA rs f == t
def rstR (rs : Rels) (fs : Atoms) : Rels := if instOk rs fs = true then rs else []
def rstF (rs : Rels) (fs : Atoms) (t : Bool) : Atoms := if instOk rs fs = true then fs.filter (keepF rs t) else []
def dlK {α : Type} (K : α → Bool) (l q : List α) (k j : Nat) : Prop := k < j ∧ j ≤ l.length ∧ q.length = l.length ∧ q.take k = (l.take j).filter K ∧ ∀ n, j ≤ n → q[n]? = l[n]?
section
variable {α : Type} {K : α → Bool} {l q : List α} {k j : Nat} {z : α}
end
theorem szS_sub {α : Type} {f : α → Nat} {x l : List α} (h : x.Sublist l) : szS f x ≤ szS f l := by
 have h2 : (x.map f).Sublist (l.map f) := h.map f
 have h3 := h.length_le
 have h4 : ∀ {x y : List Nat}, x.Sublist y → x.sum ≤ y.sum := by
  intro x y h
  induction h with
  | slnil => simp
  | cons a _ ih => simp only [List.sum_cons]; omega
  | cons_cons a _ ih => simp only [List.sum_cons]; omega
 have h5 := h4 h2
 unfold szS
 omega
def solB (rs : Rels) (fs : Atoms) (rs2 : Rels) (fs2 : Atoms) (ds : List Dep) : Bool := (vioS rs2 fs2 ds && instOk rs fs) && (decide (rstR rs fs = rstR rs2 fs2) && decide (rstF rs fs true = rstF rs2 fs2 true))
end Go.Eng
