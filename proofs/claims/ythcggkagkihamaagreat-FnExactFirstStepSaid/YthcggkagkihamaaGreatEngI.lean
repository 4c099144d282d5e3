import Derived.Test.YthcggkagkihamaaGreatEngH
import Derived.Laws.StructEq
set_option linter.unusedVariables false
set_option linter.unusedSimpArgs false
namespace Go.Eng
open Go Go.RowKit
def EqS (P : Program) (op : BinOp) (t : TypeId) (xs ys : List Value) (v : Value) : Prop :=
 v.oneCell' = true ∧ ∀ (x y : Operand) (w : World), ((do eqGuard op t x y (.agg xs.toArray) (.agg ys.toArray); binOp op t (.agg xs.toArray) (.agg ys.toArray)) : Sem Value).run P w = .ok v w
section rules
variable {cx : Cx} {s : St} {dst : Option Nat} {ty : TypeId} {pos : String} {aft : Array Edge}
end rules
def sumA (l : Rels) : Int := (l.map fun x => x.2.1).sum
def posOk (rs : Rels) (r i : Int) : Bool := relsOk rs && (decide (0 ≤ r ∧ r ≤ (rs.length : Int) - 1) && (match rs[r.toNat]? with | some x => decide (0 ≤ i ∧ i ≤ x.2.1 - 1) | none => false))
def posIx (rs : Rels) (r i : Int) : Int := if posOk rs r i = true then sumA (rs.take r.toNat) + i else -1
section
variable {rs : Rels} {r i : Int} {z : List UInt8 × Int × Bool}
end
def plcA (rs : Rels) (r v : Int) : Nat → List Int → List Int
 | _, [] => []
 | j, t :: ts => (if t = v then [posIx rs r (j : Int)] else []) ++ plcA rs r v (j + 1) ts
def plc1 (rs : Rels) (v : Int) (a : Int × List Int) : List Int := plcA rs a.1 v 0 a.2
def placesL (rs : Rels) (l : Atoms) (v : Int) : List Int := l.flatMap (plc1 rs v)
section
variable {α β : Type} {g : α → List β} {l : List α} {m : Nat} {z : α}
end
section
variable {rs : Rels} {l : Atoms} {v : Int} {m n : Nat} {z : Int × List Int} {t : Int}
end
abbrev Edg := Int × Int × Bool
def putE (q : List Edg) (x : Edg) : List Edg := if (q.any fun y => decide (y = x)) = true then q else q ++ [x]
def putAll (P : List Edg) : List Edg := P.foldl putE []
def addL (f : Int) (sp : Bool) (q : List Edg) (tos : List Int) : List Edg := tos.foldl (fun q t => putE q (f, t, sp)) q
def frontV (d : Dep) : List Int := selV true (setI (varsL d.1)) (setI (varsL d.2.1))
def exisV (d : Dep) : List Int := selV false (setI (varsL d.1)) (setI (varsL d.2.1))
def edgesX (rs : Rels) (d : Dep) (f o : Int) : List Edg := (placesL rs d.2.1 o).map fun t => (f, t, true)
def edgesN (rs : Rels) (d : Dep) (v f : Int) : List Edg := (placesL rs d.2.1 v).map fun t => (f, t, false)
def edgesF (rs : Rels) (d : Dep) (v f : Int) : List Edg := edgesN rs d v f ++ (exisV d).flatMap (edgesX rs d f)
def edgesV (rs : Rels) (d : Dep) (v : Int) : List Edg := (placesL rs d.1 v).flatMap (edgesF rs d v)
def edgesD (rs : Rels) (d : Dep) : List Edg := (frontV d).flatMap (edgesV rs d)
def graphL (rs : Rels) (ds : List Dep) : List Edg := if depsOk rs ds = true then putAll (ds.flatMap (edgesD rs)) else []
section
variable {rs : Rels} {ds : List Dep} {d : Dep}
end
end Go.Eng
namespace Go.Eng
open Go Go.RowKit
section
variable {α β γ : Type} {g : α → List β} {h : γ → List β} {l : List α} {m p : Nat} {z : α} {A N : List β} {r : List γ}
end
end Go.Eng
namespace Go.Eng
theorem nc {b : Bool} {α : Prop} (h : b = true) (h' : b = false) : α := Bool.noConfusion (h.symm.trans h')
theorem ncf {b : Bool} {α : Prop} (h : b = false) (h' : b = true) : α := Bool.noConfusion (h.symm.trans h')
theorem bnt {b : Bool} (h : (!b) = true) : b = false := by cases b <;> simp_all
theorem bnf {b : Bool} (h : (!b) = false) : b = true := by cases b <;> simp_all
end Go.Eng
