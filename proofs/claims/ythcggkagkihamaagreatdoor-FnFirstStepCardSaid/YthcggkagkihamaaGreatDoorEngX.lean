import Derived.Test.YthcggkagkihamaaGreatDoorEngW
set_option linter.unusedVariables false
set_option linter.unusedSimpArgs false
namespace Go.Eng
open Go Go.RowKit
theorem fJ {ds:List Y1} (h:ds.length≤6)(hd:∀d∈ds,R1 d):N8 (fun(x:(List (Int ×(List (Int)))) ×(List (Int ×(List (Int)))) × Bool × Int × Int)=>(N8 (fun(x:Int ×(List (Int)))=>(x.2).length) (x.1)) +(N8 (fun(x:Int ×(List (Int)))=>(x.2).length) (x.2.1))) ds≤1000:=by
 have key:∀l:List Y1,(∀d∈l,R1 d)→(l.map (fun(x:(List (Int ×(List (Int)))) ×(List (Int ×(List (Int)))) × Bool × Int × Int)=>(N8 (fun(x:Int ×(List (Int)))=>(x.2).length) (x.1)) +(N8 (fun(x:Int ×(List (Int)))=>(x.2).length) (x.2.1)))).sum≤15 * l.length:=by
  intro l
  induction l with
  | nil=>intro _;simp
  | cons x l ih=>
   intro h
   have h1:=ih (fun d hd=>h d (List.mem_cons_of_mem _ hd))
   have h2:=OJ (h x (by simp))
   simp only [List.map_cons,List.sum_cons,List.length_cons]
   omega
 have:=key ds hd
 unfold N8 at *
 omega
end Go.Eng
