import Derived.Test.YtkondeglfdachaaGreatEngS
set_option linter.unusedVariables false
set_option linter.unusedSimpArgs false
namespace Go.Eng
open Go Go.RowKit
theorem idx_spec {α : Type} {p : α → Bool} {l : List α} (h : l.any p = true) : ∃ (m : Nat) (z : α), idxI p l = (m : Int) ∧ l[m]? = some z ∧ p z = true ∧ ∀ j z, j < m → l[j]? = some z → p z = false := by
 have key : ∀ (m : Nat), m ≤ l.length → (∀ j z, j < m → l[j]? = some z → p z = false) ∨ ∃ (q : Nat) (z : α), l[q]? = some z ∧ p z = true ∧ ∀ j z, j < q → l[j]? = some z → p z = false := by
  intro m
  induction m with
  | zero => intro _; exact .inl (fun j z h => by omega)
  | succ m ih =>
   intro hm
   rcases ih (by omega) with h1 | h1
   ·cases hp : p (l[m]'(by omega))
    ·exact .inl (no_step h1 (List.getElem?_eq_getElem (by omega)) rfl hp)
    ·exact .inr ⟨m, _, List.getElem?_eq_getElem (by omega), hp, h1⟩
   ·exact .inr h1
 rcases key l.length (Nat.le_refl _) with h1 | ⟨q, z, h1, h2, h3⟩
 ·rw [any_false h1 (Nat.le_refl _)] at h
  cases h
 ·exact ⟨q, z, idx_hit h3 h1 h2, h1, h2, h3⟩
def gdV (l : List Int) (v : Int) : Bool := decide (1 < (posI v l).length ∨ 0 ≤ v)
def subStep (ns vs : List Int) (j : Nat) : Bool := match ns[j]?, vs[j]? with
 | some k, some v => decide (0 ≤ k ∧ k ≤ 39) && ((decide (j = 0) || match ns[j - 1]? with | some p => decide (p < k) | none => false) && decide (-40 ≤ v ∧ v ≤ 9))
 | _, _ => false
def subOk (ns vs : List Int) : Bool := decide (ns.length = vs.length) && decide (∀ j, j < ns.length → subStep ns vs j = true)
section
variable {ns vs : List Int} {m : Nat} {k v p : Int}
end
def appV (ns vs : List Int) (v : Int) : Int := if (-40 ≤ v ∧ v ≤ -1) ∧ 0 ≤ idxI (eqP (-1 - v)) ns ∧ subOk ns vs = true then vs.getD (idxI (eqP (-1 - v)) ns).toNat 0 else v
def rU (l : List Int) (a b : Int) (v : Int) : Int := if uniC l a b = 1 then repU (findU l a) (findU l b) v else v
def nulU (n : Nat) : List Int := (List.range n).map fun (k : Nat) => -1 - (k : Int)
def newU (n : Int) : List Int := if 0 ≤ n ∧ n ≤ 40 then nulU n.toNat else []
end Go.Eng
