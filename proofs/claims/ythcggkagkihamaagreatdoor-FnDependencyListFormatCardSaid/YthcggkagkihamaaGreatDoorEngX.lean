import Derived.Test.YthcggkagkihamaaGreatDoorEngW
set_option linter.unusedVariables false
set_option linter.unusedSimpArgs false
namespace Go.Eng
open Go Go.RowKit
theorem dep6_sz {ds : List Dep} (h : ds.length ≤ 6) (hd : ∀ d ∈ ds, depL d) : szS (fun (x : (List (Int × (List (Int)))) × (List (Int × (List (Int)))) × Bool × Int × Int) => (szS (fun (x : Int × (List (Int))) => (x.2).length) (x.1)) + (szS (fun (x : Int × (List (Int))) => (x.2).length) (x.2.1))) ds ≤ 1000 := by
 have key : ∀ l : List Dep, (∀ d ∈ l, depL d) → (l.map (fun (x : (List (Int × (List (Int)))) × (List (Int × (List (Int)))) × Bool × Int × Int) => (szS (fun (x : Int × (List (Int))) => (x.2).length) (x.1)) + (szS (fun (x : Int × (List (Int))) => (x.2).length) (x.2.1)))).sum ≤ 15 * l.length := by
  intro l
  induction l with
  | nil => intro _; simp
  | cons x l ih =>
   intro h
   have h1 := ih (fun d hd => h d (List.mem_cons_of_mem _ hd))
   have h2 := szA_dep (h x (by simp))
   simp only [List.map_cons, List.sum_cons, List.length_cons]
   omega
 have := key ds hd
 unfold szS at *
 omega
end Go.Eng
