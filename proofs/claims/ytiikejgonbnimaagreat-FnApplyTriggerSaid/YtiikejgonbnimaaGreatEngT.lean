import Derived.Test.YtiikejgonbnimaaGreatEngS
set_option linter.unusedVariables false
set_option linter.unusedSimpArgs false
namespace Go.Eng
open Go Go.RowKit
theorem WM {α:Type} {p:α→Bool} {l:List α} (h:l.any p=true):∃(m:Nat) (z:α),V1 p l=(m:Int)∧l[m]? =some z∧p z=true∧∀j z,j < m→l[j]? =some z→p z=false:=by
 have key:∀(m:Nat),m≤l.length→(∀j z,j < m→l[j]? =some z→p z=false)∨∃(q:Nat) (z:α),l[q]? =some z∧p z=true∧∀j z,j < q→l[j]? =some z→p z=false:=by
  intro m
  induction m with
  | zero=>intro _;exact .inl (fun j z h=>by omega)
  | succ m ih=>
   intro hm
   rcases ih (by omega) with h1 | h1
   ·cases hp:p (l[m]'(by omega))
    ·exact .inl (W4 h1 (List.getElem?_eq_getElem (by omega)) rfl hp)
    ·exact .inr ⟨m,_,List.getElem?_eq_getElem (by omega),hp,h1⟩
   ·exact .inr h1
 rcases key l.length (Nat.le_refl _) with h1 | ⟨q,z,h1,h2,h3⟩
 ·rw [A3 h1 (Nat.le_refl _)] at h
  cases h
 ·exact⟨q,z,SZ h3 h1 h2,h1,h2,h3⟩
theorem NJ {l:List Int} {v:Int} (h:v∈l):∃m:Nat,V1 (CS v) l=(m:Int)∧m < l.length∧l[m]? =some v:=by
 obtain⟨m,z,h1,h2,h3,_⟩:=WM (p:=CS v) (l:=l) (List.any_eq_true.2 ⟨v,h,by simp [CS]⟩)
 have:z=v:=by simpa [CS] using h3
 subst this
 exact⟨m,h1,(List.getElem?_eq_some_iff.1 h2).1,h2⟩
def H6 (ns vs:List Int) (j:Nat):Bool:=match ns[j]?,vs[j]? with
 | some k,some v=>decide (0≤k∧k≤39)&&((decide (j=0) ||match ns[j - 1]? with | some p=>decide (p < k) | none=>false)&&decide (-40≤v∧v≤9))
 | _,_=>false
def D5 (ns vs:List Int):Bool:=decide (ns.length=vs.length)&&decide (∀j,j < ns.length→H6 ns vs j=true)
section
variable {ns vs:List Int} {m:Nat} {k v p:Int}
theorem NW (hk:ns[m]? =some k)(hv:vs[m]? =some v)(h0:m=0):H6 ns vs m=(decide (0≤k∧k≤39)&&decide (-40≤v∧v≤9)):=by
 subst h0
 unfold H6
 rw [hk,hv]
 simp
theorem JS {n:Nat} (hk:ns[m]? =some k)(hv:vs[m]? =some v)(h0:m≠0)(hp:ns[n]? =some p)(hn:n=m - 1):H6 ns vs m=(decide (0≤k∧k≤39)&&(decide (p < k)&&decide (-40≤v∧v≤9))):=by
 subst hn
 unfold H6
 rw [hk,hv,hp]
 simp [h0]
theorem xS (hk:ns[m]? =some k)(h:¬(0≤k∧k≤39)):H6 ns vs m=false:=by
 unfold H6
 rw [hk]
 cases vs[m]? with
 | none=>rfl
 | some v=>simp only [decide_eq_false h,Bool.false_and]
theorem uS {n:Nat} (hk:ns[m]? =some k)(h0:m≠0)(hp:ns[n]? =some p)(hn:n=m - 1)(h:¬p < k):H6 ns vs m=false:=by
 subst hn
 unfold H6
 rw [hk,hp]
 cases vs[m]? with
 | none=>rfl
 | some v=>simp only [decide_eq_false h,decide_eq_false h0,Bool.false_or,Bool.false_and,Bool.and_false]
theorem dX (hv:vs[m]? =some v)(h:¬(-40≤v∧v≤9)):H6 ns vs m=false:=by
 unfold H6
 rw [hv]
 cases ns[m]? with
 | none=>rfl
 | some k=>simp only [decide_eq_false h,Bool.and_false]
theorem vS (h:¬((ns.length:Nat):Int)=((vs.length:Nat):Int)):D5 ns vs=false:=by
 unfold D5
 rw [decide_eq_false (fun e=>h (by omega))]
 rfl
theorem D3 (hm:m < ns.length)(h:H6 ns vs m=false):D5 ns vs=false:=by
 unfold D5
 rw [decide_eq_false (fun q:∀j,j < ns.length→H6 ns vs j=true=>by rw [q m hm] at h;cases h)]
 simp
theorem ZW (hl:ns.length=vs.length)(h:∀j,j < m→H6 ns vs j=true)(hm:ns.length≤m):D5 ns vs=true:=by
 unfold D5
 rw [decide_eq_true hl,decide_eq_true (fun j hj=>h j (by omega))]
 rfl
end
def W0 (ns vs:List Int) (v:Int):Int:=if (-40≤v∧v≤ -1)∧0≤V1 (CS (-1 - v)) ns∧D5 ns vs=true then vs.getD (V1 (CS (-1 - v)) ns).toNat 0 else v
theorem LW {ns vs:List Int} {v:Int} (h:¬((-40≤v∧v≤ -1)∧0≤V1 (CS (-1 - v)) ns∧D5 ns vs=true)):v=W0 ns vs v:=(if_neg h).symm
theorem zQ {ns vs:List Int} {v n z:Int} (h:(-40≤v∧v≤ -1))(h2:0≤n)(hn:n=V1 (CS (-1 - v)) ns)(h3:D5 ns vs=true)(hz:vs[n.toNat]? =some z):z=W0 ns vs v:=by
 subst hn
 unfold W0
 rw [if_pos ⟨h,h2,h3⟩,List.getD_eq_getElem?_getD,hz]
 rfl
theorem eK {ns vs:List Int} {v k:Int} (h:(-40≤v∧v≤ -1))(hk:k= -1 - v)(h2:0≤V1 (CS k) ns)(h3:D5 ns vs=true):V1 (CS k) ns < vs.length:=by
 have hm:k∈ns:=by
  by_cases q:k∈ns
  ·exact q
  ·exfalso
   have:V1 (CS k) ns= -1:=C0 (m:=ns.length) (fun j z _ hz=>by
    unfold CS
    refine decide_eq_false fun e=>q ?_
    rw [← e]
    exact List.mem_of_getElem? hz) rfl
   omega
 obtain⟨m,e1,e2,_⟩:=NJ hm
 unfold D5 at h3
 simp only [Bool.and_eq_true,decide_eq_true_eq] at h3
 omega
theorem UH {P:Program} {t:TypeId} (ht:P.underlying t=some (.int .u8)):Op P t 1 f6 (fun _=>True):=by
 intro H en w base spare held fuel cs x h
 obtain⟨n,rfl,_,hw⟩:=DataW.trod_int ht h
 exact⟨n,rfl,fun j hj=>⟨_,by rw [show j=0 by omega];rfl,rfl,rfl⟩,trivial⟩
end Go.Eng
