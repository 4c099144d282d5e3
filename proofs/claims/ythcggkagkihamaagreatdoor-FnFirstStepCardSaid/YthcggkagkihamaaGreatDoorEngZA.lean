import Derived.Test.YthcggkagkihamaaGreatDoorEngZ
set_option linter.unusedVariables false
set_option linter.unusedSimpArgs false
namespace Go.Eng
open Go Go.RowKit
theorem O4 {rs:T9} {fs a0 a1:w9} {a2:Bool} {a3 a4:Int} {b:List Int} (h:f6 rs fs a0 a1 a2 a3 a4 b=true):T4 rs fs a0 a1 a2 a3 a4 b=true:=by
 unfold f6 at h
 simp only [Bool.and_eq_true] at h
 exact h.1
theorem BJ {rs:T9} {fs a0 a1:w9} {a2:Bool} {a3 a4:Int} {b:List Int} (hb:b∈N6 rs fs a0 a1 a2 a3 a4):f6 rs fs a0 a1 a2 a3 a4 b=true:=by
 unfold N6 at hb
 split at hb
 ·exact(List.mem_filter.1 hb).2
 ·simp at hb
end Go.Eng
