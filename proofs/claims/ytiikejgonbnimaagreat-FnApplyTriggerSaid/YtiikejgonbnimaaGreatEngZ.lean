import Derived.Test.YtiikejgonbnimaaGreatEngY
set_option linter.unusedVariables false
set_option linter.unusedSimpArgs false
namespace Go.Eng
open Go Go.RowKit
def pG (r:List Int) (t v:Int):Prop:=(t < 0→ -1 - t=v)∧(0≤t→r[t.toNat]? =some v)
def AG (r:List Int) (a f:Int × List Int):Prop:=a.1=f.1∧∀t v,(t,v)∈a.2.zip f.2→pG r t v
def JI (b r:List Int):Prop:=b.length=r.length∧∀(k:Nat) (y:Int),b[k]? =some y→y≠10→r[k]? =some y
theorem xN {rs:V9} {fs:p9} (h:M8 rs fs=true):∀f∈fs,∀v∈f.2, -40≤v∧v≤9:=fun f hf v hv=>by
 have h1:=mV h hf
 unfold v6 at h1
 simp only [Bool.and_eq_true,Bool.not_eq_true',List.any_eq_false] at h1
 have:=h1.2.2.2 v hv
 unfold dY at this
 simpa using this
theorem CN:∀l:List Int,U6 l l=0:=fun l=>(qX l l).2 rfl
theorem W1 (f:Int × List Int):R8 f f=0:=by
 unfold R8
 rw [if_neg (by omega),if_neg (by omega),CN]
theorem H4 {f g:Int × List Int}:R8 f g=0↔f=g:=by
 constructor
 ·intro h
  unfold R8 at h
  split at h
  ·omega
  ·split at h
   ·omega
   ·exact Prod.ext (by omega) ((qX _ _).1 h)
 ·rintro rfl
  exact W1 f
theorem aT {fs:p9} {f:Int × List Int}:oU fs f=true↔f∈fs:=by
 unfold oU
 rw [List.any_eq_true]
 constructor
 ·rintro⟨x,hx,e⟩
  rw [← H4.1 (of_decide_eq_true e)]
  exact hx
 ·intro h
  exact⟨f,h,decide_eq_true (W1 f)⟩
end Go.Eng
