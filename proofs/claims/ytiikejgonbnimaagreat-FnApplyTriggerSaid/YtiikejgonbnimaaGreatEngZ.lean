import Derived.Test.YtiikejgonbnimaaGreatEngY
set_option linter.unusedVariables false
set_option linter.unusedSimpArgs false
namespace Go.Eng
open Go Go.RowKit
def nG (r:List Int) (t v:Int):Prop:=(t < 0→ -1 - t=v)∧(0≤t→r[t.toNat]? =some v)
def zG (r:List Int) (a f:Int × List Int):Prop:=a.1=f.1∧∀t v,(t,v)∈a.2.zip f.2→nG r t v
def II (b r:List Int):Prop:=b.length=r.length∧∀(k:Nat) (y:Int),b[k]? =some y→y≠10→r[k]? =some y
theorem GN {rs:V9} {fs:p9} (h:M8 rs fs=true):∀f∈fs,∀v∈f.2, -40≤v∧v≤9:=fun f hf v hv=>by
 have h1:=mV h hf
 unfold v6 at h1
 simp only [Bool.and_eq_true,Bool.not_eq_true',List.any_eq_false] at h1
 have:=h1.2.2.2 v hv
 unfold ZZ at this
 simpa using this
theorem ZN:∀l:List Int,T6 l l=0:=fun l=>(eX l l).2 rfl
theorem f0 (f:Int × List Int):S8 f f=0:=by
 unfold S8
 rw [if_neg (by omega),if_neg (by omega),ZN]
theorem I4 {f g:Int × List Int}:S8 f g=0↔f=g:=by
 constructor
 ·intro h
  unfold S8 at h
  split at h
  ·omega
  ·split at h
   ·omega
   ·exact Prod.ext (by omega) ((eX _ _).1 h)
 ·rintro rfl
  exact f0 f
theorem JU {fs:p9} {f:Int × List Int}:sU fs f=true↔f∈fs:=by
 unfold sU
 rw [List.any_eq_true]
 constructor
 ·rintro⟨x,hx,e⟩
  rw [← I4.1 (of_decide_eq_true e)]
  exact hx
 ·intro h
  exact⟨f,h,decide_eq_true (f0 f)⟩
end Go.Eng
