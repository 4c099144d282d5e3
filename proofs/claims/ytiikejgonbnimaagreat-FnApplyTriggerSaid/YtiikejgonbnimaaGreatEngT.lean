import Derived.Test.YtiikejgonbnimaaGreatEngS
set_option linter.unusedVariables false
set_option linter.unusedSimpArgs false
namespace Go.Eng
open Go Go.RowKit
theorem pK {α:Type} {p:α→Bool} {l:List α} (h:l.any p=true):∃(m:Nat) (z:α),M1 p l=(m:Int)∧l[m]? =some z∧p z=true∧∀j z,j < m→l[j]? =some z→p z=false:=by
 have key:∀(m:Nat),m≤l.length→(∀j z,j < m→l[j]? =some z→p z=false)∨∃(q:Nat) (z:α),l[q]? =some z∧p z=true∧∀j z,j < q→l[j]? =some z→p z=false:=by
  intro m
  induction m with
  | zero=>intro _;exact .inl (fun j z h=>by omega)
  | succ m ih=>
   intro hm
   rcases ih (by omega) with h1 | h1
   ·cases hp:p (l[m]'(by omega))
    ·exact .inl (V4 h1 (List.getElem?_eq_getElem (by omega)) rfl hp)
    ·exact .inr ⟨m,_,List.getElem?_eq_getElem (by omega),hp,h1⟩
   ·exact .inr h1
 rcases key l.length (Nat.le_refl _) with h1 | ⟨q,z,h1,h2,h3⟩
 ·rw [B3 h1 (Nat.le_refl _)] at h
  cases h
 ·exact⟨q,z,SZ h3 h1 h2,h1,h2,h3⟩
theorem UJ {l:List Int} {v:Int} (h:v∈l):∃m:Nat,M1 (GS v) l=(m:Int)∧m < l.length∧l[m]? =some v:=by
 obtain⟨m,z,h1,h2,h3,_⟩:=pK (p:=GS v) (l:=l) (List.any_eq_true.2 ⟨v,h,by simp [GS]⟩)
 have:z=v:=by simpa [GS] using h3
 subst this
 exact⟨m,h1,(List.getElem?_eq_some_iff.1 h2).1,h2⟩
def H6 (ns vs:List Int) (j:Nat):Bool:=match ns[j]?,vs[j]? with
 | some k,some v=>decide (0≤k∧k≤39)&&((decide (j=0) ||match ns[j - 1]? with | some p=>decide (p < k) | none=>false)&&decide (-40≤v∧v≤9))
 | _,_=>false
def J5 (ns vs:List Int):Bool:=decide (ns.length=vs.length)&&decide (∀j,j < ns.length→H6 ns vs j=true)
section
variable {ns vs:List Int} {m:Nat} {k v p:Int}
theorem vV (hk:ns[m]? =some k)(hv:vs[m]? =some v)(h0:m=0):H6 ns vs m=(decide (0≤k∧k≤39)&&decide (-40≤v∧v≤9)):=by
 subst h0
 unfold H6
 rw [hk,hv]
 simp
theorem UT {n:Nat} (hk:ns[m]? =some k)(hv:vs[m]? =some v)(h0:m≠0)(hp:ns[n]? =some p)(hn:n=m - 1):H6 ns vs m=(decide (0≤k∧k≤39)&&(decide (p < k)&&decide (-40≤v∧v≤9))):=by
 subst hn
 unfold H6
 rw [hk,hv,hp]
 simp [h0]
theorem ES (hk:ns[m]? =some k)(h:¬(0≤k∧k≤39)):H6 ns vs m=false:=by
 unfold H6
 rw [hk]
 cases vs[m]? with
 | none=>rfl
 | some v=>simp only [decide_eq_false h,Bool.false_and]
theorem AS {n:Nat} (hk:ns[m]? =some k)(h0:m≠0)(hp:ns[n]? =some p)(hn:n=m - 1)(h:¬p < k):H6 ns vs m=false:=by
 subst hn
 unfold H6
 rw [hk,hp]
 cases vs[m]? with
 | none=>rfl
 | some v=>simp only [decide_eq_false h,decide_eq_false h0,Bool.false_or,Bool.false_and,Bool.and_false]
theorem ZY (hv:vs[m]? =some v)(h:¬(-40≤v∧v≤9)):H6 ns vs m=false:=by
 unfold H6
 rw [hv]
 cases ns[m]? with
 | none=>rfl
 | some k=>simp only [decide_eq_false h,Bool.and_false]
theorem fS (h:¬((ns.length:Nat):Int)=((vs.length:Nat):Int)):J5 ns vs=false:=by
 unfold J5
 rw [decide_eq_false (fun e=>h (by omega))]
 rfl
theorem C3 (hm:m < ns.length)(h:H6 ns vs m=false):J5 ns vs=false:=by
 unfold J5
 rw [decide_eq_false (fun q:∀j,j < ns.length→H6 ns vs j=true=>by rw [q m hm] at h;cases h)]
 simp
theorem VW (hl:ns.length=vs.length)(h:∀j,j < m→H6 ns vs j=true)(hm:ns.length≤m):J5 ns vs=true:=by
 unfold J5
 rw [decide_eq_true hl,decide_eq_true (fun j hj=>h j (by omega))]
 rfl
end
def T0 (ns vs:List Int) (v:Int):Int:=if (-40≤v∧v≤ -1)∧0≤M1 (GS (-1 - v)) ns∧J5 ns vs=true then vs.getD (M1 (GS (-1 - v)) ns).toNat 0 else v
theorem tW {ns vs:List Int} {v:Int} (h:¬((-40≤v∧v≤ -1)∧0≤M1 (GS (-1 - v)) ns∧J5 ns vs=true)):v=T0 ns vs v:=(if_neg h).symm
theorem wP {ns vs:List Int} {v n z:Int} (h:(-40≤v∧v≤ -1))(h2:0≤n)(hn:n=M1 (GS (-1 - v)) ns)(h3:J5 ns vs=true)(hz:vs[n.toNat]? =some z):z=T0 ns vs v:=by
 subst hn
 unfold T0
 rw [if_pos ⟨h,h2,h3⟩,List.getD_eq_getElem?_getD,hz]
 rfl
theorem wL {ns vs:List Int} {v k:Int} (h:(-40≤v∧v≤ -1))(hk:k= -1 - v)(h2:0≤M1 (GS k) ns)(h3:J5 ns vs=true):M1 (GS k) ns < vs.length:=by
 have hm:k∈ns:=by
  by_cases q:k∈ns
  ·exact q
  ·exfalso
   have:M1 (GS k) ns= -1:=C0 (m:=ns.length) (fun j z _ hz=>by
    unfold GS
    refine decide_eq_false fun e=>q ?_
    rw [← e]
    exact List.mem_of_getElem? hz) rfl
   omega
 obtain⟨m,e1,e2,_⟩:=UJ hm
 unfold J5 at h3
 simp only [Bool.and_eq_true,decide_eq_true_eq] at h3
 omega
theorem aG {P:Program} {t:TypeId} (ht:P.underlying t=some (.int .u8)):Op P t 1 c6 (fun _=>True):=by
 intro H en w base spare held fuel cs x h
 obtain⟨n,rfl,_,hw⟩:=DataW.trod_int ht h
 exact⟨n,rfl,fun j hj=>⟨_,by rw [show j=0 by omega];rfl,rfl,rfl⟩,trivial⟩
end Go.Eng
