import Derived.Test.YthcggkagkihamaaGreatDoorEngZN
set_option linter.unusedVariables false
set_option linter.unusedSimpArgs false
namespace Go.Eng
open Go Go.RowKit
theorem oK {rs:T9} {fs a0 a1:w9} {a2:Bool} {a3 a4:Int} (hf:fs.length≤11)(hl:a0.length≤2):(N6 rs fs a0 a1 a2 a3 a4).length≤121:=by
 unfold N6
 split
 ·exact Nat.le_trans (List.length_filter_le _ _) (jR hf hl)
 ·simp
theorem PK {rs:T9} {fs a0 a1:w9} {a2:Bool} {a3 a4:Int} {v:List Int} (h:f6 rs fs a0 a1 a2 a3 a4 v=true):YW rs fs a0 a1 a2 a3 a4 v≠0:=by
 unfold YW
 rw [if_pos h]
 split
 ·unfold HP
  split <;> omega
 ·split <;> omega
theorem yJ {rs:T9} {fs:w9} {ds:List Y1} (h:B6 rs fs ds=true):f6 rs fs (N1 rs fs ds).1 (N1 rs fs ds).2.1 (N1 rs fs ds).2.2.1 (N1 rs fs ds).2.2.2.1 (N1 rs fs ds).2.2.2.2 (P3 rs fs ds)=true:=by
 have h1:=h
 unfold B6 at h1
 simp only [Bool.and_eq_true] at h1
 obtain⟨m,z,h2,h3,h4,_⟩:=jT h1.2.2
 have eI:P1 rs fs ds=(m:Int):=by unfold P1;rw [if_pos h,h2]
 have eD:N1 rs fs ds=z:=by unfold N1;rw [eI,List.getD_eq_getElem?_getD];simp [h3]
 have hpos:0 < (jV rs fs z).length:=of_decide_eq_true h4
 have eB:P3 rs fs ds=(jV rs fs z).headD []:=by
  unfold P3
  rw [if_pos h,h2,List.getD_eq_getElem?_getD]
  simp [h3]
 rw [eD,eB]
 cases hc:jV rs fs z with
 | nil=>rw [hc] at hpos;simp at hpos
 | cons y r=>exact BJ (by show y∈jV rs fs z;rw [hc];exact List.mem_cons_self)
theorem WN {rs:T9} {fs:w9} {ds:List Y1}:mQ rs fs ds=0↔B6 rs fs ds=false:=by
 constructor
 ·intro h
  cases hv:B6 rs fs ds with
  | false=>rfl
  | true=>
   unfold mQ at h
   rw [if_pos hv] at h
   exact absurd h (PK (yJ hv))
 ·intro h
  exact(RT h).2.2.1
def sS (n:Int):List UInt8:=if n=1 then [100,111,110,101] else if n=2 then [102,97,105,108] else if n=3 then [111,118,101,114] else []
theorem sJ {n:Int} (h:¬(1≤n∧n≤3)):([]:List UInt8)=sS n:=by
 unfold sS
 rw [if_neg (by omega),if_neg (by omega),if_neg (by omega)]
theorem NJ {n:Int} {k:Nat} {z:List UInt8} (hz:[([100,111,110,101]:List UInt8),[102,97,105,108],[111,118,101,114]][k]? =some z)(hk:(k:Int)=n - 1):z=sS n:=by
 unfold sS
 match k,hz with
 | 0,hz=>cases hz;rw [if_pos (by omega)]
 | 1,hz=>cases hz;rw [if_neg (by omega),if_pos (by omega)]
 | 2,hz=>cases hz;rw [if_neg (by omega),if_neg (by omega),if_pos (by omega)]
 | k + 3,hz=>simp at hz
end Go.Eng
