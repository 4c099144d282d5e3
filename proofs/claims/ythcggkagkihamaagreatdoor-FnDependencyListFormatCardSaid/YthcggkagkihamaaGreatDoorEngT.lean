import Derived.Test.YthcggkagkihamaaGreatDoorEngS
set_option linter.unusedVariables false
set_option linter.unusedSimpArgs false
namespace Go.Eng
open Go Go.RowKit
def gdV (l : List Int) (v : Int) : Bool := decide (1 < (posI v l).length ∨ 0 ≤ v)
def subStep (ns vs : List Int) (j : Nat) : Bool := match ns[j]?, vs[j]? with
 | some k, some v => decide (0 ≤ k ∧ k ≤ 39) && ((decide (j = 0) || match ns[j - 1]? with | some p => decide (p < k) | none => false) && decide (-40 ≤ v ∧ v ≤ 9))
 | _, _ => false
def subOk (ns vs : List Int) : Bool := decide (ns.length = vs.length) && decide (∀ j, j < ns.length → subStep ns vs j = true)
section
variable {ns vs : List Int} {m : Nat} {k v p : Int}
end
def appV (ns vs : List Int) (v : Int) : Int := if (-40 ≤ v ∧ v ≤ -1) ∧ 0 ≤ idxI (eqP (-1 - v)) ns ∧ subOk ns vs = true then vs.getD (idxI (eqP (-1 - v)) ns).toNat 0 else v
def rU (l : List Int) (a b : Int) (v : Int) : Int := if uniC l a b = 1 then repU (findU l a) (findU l b) v else v
def nulU (n : Nat) : List Int := (List.range n).map fun (k : Nat) => -1 - (k : Int)
def newU (n : Int) : List Int := if 0 ≤ n ∧ n ≤ 40 then nulU n.toNat else []
theorem op_u8 {P : Program} {t : TypeId} (ht : P.underlying t = some (.int .u8)) : Op P t 1 encU (fun _ => True) := by
 intro H en w base spare held fuel cs x h
 obtain ⟨n, rfl, _, hw⟩ := DataW.trod_int ht h
 exact ⟨n, rfl, fun j hj => ⟨_, by rw [show j = 0 by omega]; rfl, rfl, rfl⟩, trivial⟩
end Go.Eng
