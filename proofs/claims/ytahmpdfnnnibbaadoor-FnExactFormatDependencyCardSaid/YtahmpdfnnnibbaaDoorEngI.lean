/- The engine, part I: structs compared; models: positions, the graph of positions. -/
import Derived.Test.YtahmpdfnnnibbaaDoorEngH
import Derived.Laws.StructEq
set_option linter.unusedVariables false
set_option linter.unusedSimpArgs false
namespace Go.Eng
open Go Go.RowKit
def EqS (P : Program) (op : BinOp) (t : TypeId) (xs ys : List Value) (v : Value) : Prop :=
  v.oneCell' = true ∧ ∀ (x y : Operand) (w : World), ((do eqGuard op t x y (.agg xs.toArray) (.agg ys.toArray); binOp op t (.agg xs.toArray) (.agg ys.toArray)) : Sem Value).run P w = .ok v w
section rules
variable {cx : Cx} {s : St} {dst : Option Nat} {ty : TypeId} {pos : String} {aft : Array Edge}
end rules
/-! ### positions -/
def sumA (l : Rels) : Int := (l.map fun x => x.2.1).sum
theorem sumA_step {l : Rels} {m : Nat} {z : List UInt8 × Int × Bool} (h : l[m]? = some z) : sumA (l.take (m + 1)) = sumA (l.take m) + z.2.1 := by
  unfold sumA
  rw [List.take_add_one, h, List.map_append, List.sum_append]
  simp
theorem rels_ok {l : Rels} (h : relsOk l = true) : l.length ≤ 6 ∧ ∀ x ∈ l, 1 ≤ x.2.1 ∧ x.2.1 ≤ 3 := by
  unfold relsOk at h
  simp only [Bool.and_eq_true, decide_eq_true_eq] at h
  refine ⟨h.2, fun x hx => ?_⟩
  obtain ⟨j, hj⟩ := List.getElem?_of_mem hx
  have h1 := h.1 j (List.getElem?_eq_some_iff.1 hj).1
  rw [relStep_at hj] at h1
  simp only [Bool.and_eq_true] at h1
  have h2 := h1.1
  unfold relOk at h2
  simp only [Bool.and_eq_true, decide_eq_true_eq] at h2
  exact h2.2
theorem sum_bnd (l : Rels) (h : ∀ x ∈ l, 1 ≤ x.2.1 ∧ x.2.1 ≤ 3) : 0 ≤ sumA l ∧ sumA l ≤ 3 * l.length := by
  unfold sumA
  induction l with
  | nil => simp
  | cons x l ih =>
    have h1 := ih fun y hy => h y (List.mem_cons_of_mem _ hy)
    have h2 := h x List.mem_cons_self
    simp only [List.map_cons, List.sum_cons, List.length_cons]
    omega
theorem sumA_bnd {l : Rels} (h : relsOk l = true) (m : Nat) : 0 ≤ sumA (l.take m) ∧ sumA (l.take m) ≤ 18 := by
  have h1 := rels_ok h
  have h2 := sum_bnd (l.take m) fun x hx => h1.2 x (List.mem_of_mem_take hx)
  rw [List.length_take] at h2
  omega
def posOk (rs : Rels) (r i : Int) : Bool := relsOk rs && (decide (0 ≤ r ∧ r ≤ (rs.length : Int) - 1) && (match rs[r.toNat]? with | some x => decide (0 ≤ i ∧ i ≤ x.2.1 - 1) | none => false))
def posIx (rs : Rels) (r i : Int) : Int := if posOk rs r i = true then sumA (rs.take r.toNat) + i else -1
section
variable {rs : Rels} {r i : Int} {z : List UInt8 × Int × Bool}
theorem posIx_no1 (h : relsOk rs = false) : -1 = posIx rs r i := by unfold posIx posOk; rw [h]; rfl
theorem posIx_no2 (h : ¬ (0 ≤ r ∧ r ≤ (rs.length : Int) - 1)) : -1 = posIx rs r i := by unfold posIx posOk; rw [decide_eq_false h]; simp
theorem posIx_no3 (hz : rs[r.toNat]? = some z) (h : ¬ (0 ≤ i ∧ i ≤ z.2.1 - 1)) : -1 = posIx rs r i := by unfold posIx posOk; rw [hz]; simp only [decide_eq_false h]; simp
theorem posIx_yes (h1 : relsOk rs = true) (h2 : 0 ≤ r ∧ r ≤ (rs.length : Int) - 1) (hz : rs[r.toNat]? = some z) (h : 0 ≤ i ∧ i ≤ z.2.1 - 1) : posIx rs r i = sumA (rs.take r.toNat) + i := by
  unfold posIx posOk
  rw [h1, decide_eq_true h2, hz]
  simp only [decide_eq_true h]
  rfl
end
def plcA (rs : Rels) (r v : Int) : Nat → List Int → List Int
  | _, [] => []
  | j, t :: ts => (if t = v then [posIx rs r (j : Int)] else []) ++ plcA rs r v (j + 1) ts
def plc1 (rs : Rels) (v : Int) (a : Int × List Int) : List Int := plcA rs a.1 v 0 a.2
def placesL (rs : Rels) (l : Atoms) (v : Int) : List Int := l.flatMap (plc1 rs v)
section
variable {α β : Type} {g : α → List β} {l : List α} {m : Nat} {z : α}
end
section
variable {rs : Rels} {l : Atoms} {v : Int} {m n : Nat} {z : Int × List Int} {t : Int}
end
/-! ### edges -/
abbrev Edg := Int × Int × Bool
def putE (q : List Edg) (x : Edg) : List Edg := if (q.any fun y => decide (y = x)) = true then q else q ++ [x]
def putAll (P : List Edg) : List Edg := P.foldl putE []
def addL (f : Int) (sp : Bool) (q : List Edg) (tos : List Int) : List Edg := tos.foldl (fun q t => putE q (f, t, sp)) q
def frontV (d : Dep) : List Int := selV true (setI (varsL d.1)) (setI (varsL d.2.1))
def exisV (d : Dep) : List Int := selV false (setI (varsL d.1)) (setI (varsL d.2.1))
def edgesX (rs : Rels) (d : Dep) (f o : Int) : List Edg := (placesL rs d.2.1 o).map fun t => (f, t, true)
def edgesN (rs : Rels) (d : Dep) (v f : Int) : List Edg := (placesL rs d.2.1 v).map fun t => (f, t, false)
def edgesF (rs : Rels) (d : Dep) (v f : Int) : List Edg := edgesN rs d v f ++ (exisV d).flatMap (edgesX rs d f)
def edgesV (rs : Rels) (d : Dep) (v : Int) : List Edg := (placesL rs d.1 v).flatMap (edgesF rs d v)
def edgesD (rs : Rels) (d : Dep) : List Edg := (frontV d).flatMap (edgesV rs d)
def graphL (rs : Rels) (ds : List Dep) : List Edg := if depsOk rs ds = true then putAll (ds.flatMap (edgesD rs)) else []
section
variable {rs : Rels} {ds : List Dep} {d : Dep}
end
end Go.Eng
namespace Go.Eng
open Go Go.RowKit
section
variable {α β γ : Type} {g : α → List β} {h : γ → List β} {l : List α} {m p : Nat} {z : α} {A N : List β} {r : List γ}
end
end Go.Eng
namespace Go.Eng
theorem nc {b : Bool} {α : Prop} (h : b = true) (h' : b = false) : α := Bool.noConfusion (h.symm.trans h')
theorem ncf {b : Bool} {α : Prop} (h : b = false) (h' : b = true) : α := Bool.noConfusion (h.symm.trans h')
theorem bnt {b : Bool} (h : (!b) = true) : b = false := by cases b <;> simp_all
theorem bnf {b : Bool} (h : (!b) = false) : b = true := by cases b <;> simp_all
end Go.Eng
