import Derived.Test.YthcggkagkihamaaGreatDoorEngY
set_option linter.unusedVariables false
set_option linter.unusedSimpArgs false
namespace Go.Eng
open Go Go.RowKit
theorem UN:∀l:List Int,Q6 l l=0:=fun l=>(QX l l).2 rfl
theorem kY (f:Int × List Int):W8 f f=0:=by
 unfold W8
 rw [if_neg (by omega),if_neg (by omega),UN]
theorem E3 {f g:Int × List Int}:W8 f g=0↔f=g:=by
 constructor
 ·intro h
  unfold W8 at h
  split at h
  ·omega
  ·split at h
   ·omega
   ·exact Prod.ext (by omega) ((QX _ _).1 h)
 ·rintro rfl
  exact kY f
end Go.Eng
