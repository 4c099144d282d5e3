import Derived.Test.YtiikejgonbnimaaGreatEngZB
set_option linter.unusedVariables false
set_option linter.unusedSimpArgs false
namespace Go.Eng
open Go Go.RowKit
section
variable {α:Type} {K:α→Bool} {l q:List α} {k j:Nat} {z:α}
end
theorem tN {α:Type} {f:α→Nat} {x l:List α} (h:x.Sublist l):l7 f x≤l7 f l:=by
 have h2:(x.map f).Sublist (l.map f):=h.map f
 have h3:=h.length_le
 have h4:∀ {x y:List Nat},x.Sublist y→x.sum≤y.sum:=by
  intro x y h
  induction h with
  | slnil=>simp
  | cons a _ ih=>simp only [List.sum_cons];omega
  | cons_cons a _ ih=>simp only [List.sum_cons];omega
 have h5:=h4 h2
 unfold l7
 omega
end Go.Eng
