import Derived.Test.YtiikejgonbnimaaGreatEngV
set_option linter.unusedVariables false
set_option linter.unusedSimpArgs false
namespace Go.Eng
open Go Go.RowKit
def T8:V9:=[([97],2,true),([98],1,true),([112],2,false),([113],2,false),([114],1,false)]
def uH (r:Int):Int:=(T8.getD r.toNat ([],0,false)).2.1
theorem OZ {r:Int} {z:List UInt8 × Int × Bool} (h:T8[r.toNat]? =some z):z.2.1=uH r∧1≤z.2.1∧z.2.1≤2:=by
 have h1:uH r=z.2.1:=by unfold uH;rw [List.getD_eq_getElem?_getD,h];rfl
 refine⟨h1.symm,?_⟩
 have:∀y∈T8,1≤y.2.1∧y.2.1≤2:=by
  intro y hy
  simp only [T8,List.mem_cons,List.not_mem_nil,or_false] at hy
  rcases hy with rfl | rfl | rfl | rfl | rfl <;> decide
 exact this z (List.mem_of_getElem? h)
theorem KK {r:Int} (h:0≤r∧r≤4):1≤uH r∧uH r≤2:=by
 have h1:r.toNat < T8.length:=by show r.toNat < 5;omega
 have:=OZ (List.getElem?_eq_getElem h1)
 omega
theorem u7:T8.length=5:=rfl
def B2 (a:Int × List Int):Prop:=(-1≤a.1∧a.1≤5)∧(1≤a.2.length∧a.2.length≤2)∧∀x∈a.2, -11≤x∧x≤5
def yY (d:AN):Prop:=(1≤d.1.length∧d.1.length≤2)∧d.2.1.length≤3∧(∀a∈d.1,B2 a)∧(∀a∈d.2.1,B2 a)∧(-20≤d.2.2.2.1∧d.2.2.2.1≤20)∧(-20≤d.2.2.2.2∧d.2.2.2.2≤20)
theorem m7 {α:Type} {l:List α} {z:α} {p:α→Prop} (h:∀x∈l,p x)(hz:p z):∀x∈l++[z],p x:=by
 intro x hx
 rcases List.mem_append.1 hx with q | q
 ·exact h x q
 ·rw [List.mem_singleton.1 q];exact hz
theorem F8 {α:Type} {l:List α} {z:α} {n:Nat} {p:α→Prop} (h:∀x∈l,p x)(hz:p z):∀x∈l.set n z,p x:=by
 intro x hx
 rcases List.mem_or_eq_of_mem_set hx with q | q
 ·exact h x q
 ·rw [q];exact hz
theorem BV {l:List (Int × List Int)} (h:∀a∈l,B2 a):l7 (fun(x:Int × List Int)=>x.2.length) l≤3 * l.length:=by
 unfold l7
 induction l with
 | nil=>simp
 | cons x l ih=>
  have:=ih (fun a ha=>h a (List.mem_cons_of_mem _ ha))
  have:=(h x (by simp)).2.1
  simp only [List.length_cons,List.map_cons,List.sum_cons] at *
  omega
theorem ZO {l:List (Int × List Int)} (h:∀a∈l,B2 a):∀x∈F9 l,0≤x∧x≤5:=by
 intro x hx
 unfold F9 C6 at hx
 simp only [List.mem_flatMap,List.mem_filter,decide_eq_true_eq] at hx
 obtain⟨a,ha,h1,h2⟩:=hx
 have:=(h a ha).2.2 x h1
 omega
def fR (z:List UInt8 × Int × Bool):Prop:=z.1.length≤2∧ -1≤z.2.1∧z.2.1≤4
theorem QX:∀z∈T8,fR z:=by
 intro z hz
 simp only [T8,List.mem_cons,List.not_mem_nil,or_false] at hz
 unfold fR
 rcases hz with rfl | rfl | rfl | rfl | rfl <;> decide
theorem N0 {x:Int} (h:x∈ [(5:Int), -11,4]): -11≤x∧x≤5:=by
 simp only [List.mem_cons,List.not_mem_nil,or_false] at h
 omega
end Go.Eng
