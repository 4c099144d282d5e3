import Derived.Test.YtiikejgonbnimaaGreatEngX
set_option linter.unusedVariables false
set_option linter.unusedSimpArgs false
namespace Go.Eng
open Go Go.RowKit
def eI (fs:p9) (f:Int × List Int):Int:=V1 (fun x=>decide (S8 x f=0)) fs
def pP (f:Int × List Int):Int × List Int→Bool:=fun x=>decide (S8 x f < 0)
def c4 (fs:p9) (f:Int × List Int):p9:=if 0≤eI fs f then fs else fs.takeWhile (pP f)++f::fs.dropWhile (pP f)
theorem HQ {α:Type} {p:α→Bool}:∀ {l:List α} {m:Nat},(∀j y,j < m→l[j]? =some y→p y=true)→m≤l.length→(∀y,l[m]? =some y→p y=false)→l.takeWhile p=l.take m∧l.dropWhile p=l.drop m
 | [],m,_,h,_=>by simp
 | x::l,0,_,_,h3=>by
  have:=h3 x rfl
  simp [List.takeWhile_cons,List.dropWhile_cons,this]
 | x::l,m + 1,h1,h2,h3=>by
  have hx:=h1 0 x (by omega) rfl
  obtain⟨e1,e2⟩:=HQ (l:=l) (m:=m) (fun j y hj hy=>h1 (j + 1) y (by omega) hy) (by simpa using h2) (fun y hy=>h3 y hy)
  simp [List.takeWhile_cons,List.dropWhile_cons,hx,e1,e2]
theorem DP {fs:p9} {f:Int × List Int} (h:0≤eI fs f):c4 fs f=fs:=if_pos h
theorem W2 {fs:p9} {f:Int × List Int} {m:Nat} (h:¬0≤eI fs f)(h1:∀j y,j < m→fs[j]? =some y→S8 y f < 0)(h2:m≤fs.length)(h3:∀y,fs[m]? =some y→¬S8 y f < 0):c4 fs f=fs.take m++f::fs.drop m:=by
 unfold c4
 rw [if_neg h]
 obtain⟨e1,e2⟩:=HQ (p:=pP f) (l:=fs) (m:=m) (fun j y hj hy=>decide_eq_true (h1 j y hj hy)) h2 (fun y hy=>decide_eq_false (h3 y hy))
 rw [e1,e2]
theorem zK {fs:p9} {f z:Int × List Int} {m n:Nat} (h:∀j y,j < m→fs[j]? =some y→S8 y f < 0)(hz:fs[n]? =some z)(e:n=m)(hx:S8 z f < 0):∀j y,j < m + 1→fs[j]? =some y→S8 y f < 0:=by
 intro j y hj hy
 by_cases q:j < m
 ·exact h j y q hy
 ·obtain rfl:j=m:=by omega
  subst e
  rw [hz] at hy
  cases hy
  exact hx
theorem BY (fs:p9)(f:Int × List Int):(c4 fs f).length≤fs.length + 1:=by
 unfold c4
 split
 ·omega
 ·have:=congrArg List.length (List.takeWhile_append_dropWhile (p:=pP f) (l:=fs))
  simp only [List.length_append,List.length_cons] at *
  omega
theorem RQ {fs:p9} {f x:Int × List Int} (h:x∈c4 fs f):x∈fs∨x=f:=by
 unfold c4 at h
 split at h
 ·exact .inl h
 ·rcases List.mem_append.1 h with q | q
  ·exact .inl ((List.takeWhile_prefix _).subset q)
  ·rcases List.mem_cons.1 q with q | q
   ·exact .inr q
   ·exact .inl ((List.dropWhile_suffix _).subset q)
def fY (f:Int × List Int):Prop:=(-1≤f.1∧f.1≤5)∧f.2.length≤3∧∀x∈f.2, -256≤x∧x≤256
def oT (rs:V9) (fs:p9):Prop:=rs.length≤5∧(∀z∈rs,fR z)∧fs.length≤11∧∀a∈fs,fY a
theorem T2 {fs:p9} {f:Int × List Int} {p:Int × List Int→Prop} (h:∀a∈fs,p a)(hf:p f):∀a∈c4 fs f,p a:=by
 intro a ha
 rcases RQ ha with q | q
 ·exact h a q
 ·rw [q];exact hf
theorem L0 {l:p9} (h:∀a∈l,fY a):l7 (fun(x:Int ×(List (Int)))=>(x.2).length) l≤4 * l.length:=by
 unfold l7
 induction l with
 | nil=>simp
 | cons x l ih=>
  have:=ih (fun a ha=>h a (List.mem_cons_of_mem _ ha))
  have:=(h x (by simp)).2.1
  simp only [List.length_cons,List.map_cons,List.sum_cons] at *
  omega
theorem YU {l:p9} (h:∀a∈l,fY a):∀z∈l,∀x∈z.2,s7 x:=fun z hz x hx=>by
 have:=(h z hz).2.2 x hx
 unfold s7
 omega
theorem cX {l:p9} (h:∀a∈l,B2 a):∀z∈l,∀x∈z.2,s7 x:=fun z hz x hx=>by
 have:=(h z hz).2.2 x hx
 unfold s7
 omega
theorem jS {α:Type} {l:List α} {m:Nat} {z:α} (h:l[m]? =some z):l.take m++[z]=l.take (m + 1):=by rw [List.take_add_one,h];rfl
theorem EP {x:Int} (h:x∈ [(10:Int), -41,9]): -41≤x∧x≤10:=by
 simp only [List.mem_cons,List.not_mem_nil,or_false] at h
 omega
theorem GW {rs rs':V9} {fs fs':p9} (h1:rs=rs')(h2:fs=fs'):AV.agg [.t none (.sl 3 (d8 Z9 f9 a8) rs),.t none (.sl 2 (E9 f9 (B9 1 f9)) fs)]=AV.agg [.t none (.sl 3 (d8 Z9 f9 a8) rs'),.t none (.sl 2 (E9 f9 (B9 1 f9)) fs')]:=by rw [h1,h2]
theorem nX {fs:p9} {f:Int × List Int} {kk kk':Int} (h:(fs.length:Int) + kk≤5)(hk:kk'=kk - 1):((c4 fs f).length:Int) + kk'≤5:=by
 have:=BY fs f
 omega
theorem SW {fs:p9} {f:Int × List Int} {kk:Int} (h:(fs.length:Int) + kk≤5)(hk:0 < kk):(c4 fs f).length≤5:=by
 have:=BY fs f
 omega
theorem jK {a b:Int} (hb:b=11)(h:0≤a∧a≤11):KV .quo .i64 a b=some (.int .i64 (a / 11)):=by
 have e:a=((a.toNat:Nat):Int):=by omega
 rw [e,HJ 11 (by omega) (by omega) (by omega)]
 rfl
theorem wI {x:Int} (h:x∈ [(10:Int),10,0,1,2, -1, -2]):s7 x:=by
 simp only [List.mem_cons,List.not_mem_nil,or_false] at h
 unfold s7
 omega
theorem KS {rs:V9} {fs l:p9} (hf:fs.length≤11)(hl:l.length≤2):(V6 rs fs l).length≤121:=by
 unfold V6
 split
 ·refine Nat.le_trans (GU _) (Nat.le_trans (dW fs l l6) ?_)
  refine Nat.le_trans (Nat.pow_le_pow_left hf l.length) ?_
  exact Nat.le_trans (Nat.pow_le_pow_right (by omega) hl) (by decide)
 ·simp
end Go.Eng
