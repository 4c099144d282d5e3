import Derived.Test.YthcggkagkihamaaGreatDoorEngX
set_option linter.unusedVariables false
set_option linter.unusedSimpArgs false
namespace Go.Eng
open Go Go.RowKit
def plcF (fs : Atoms) (f : Int × List Int) : Int := idxI (fun x => decide (cmpF x f = 0)) fs
def ltF (f : Int × List Int) : Int × List Int → Bool := fun x => decide (cmpF x f < 0)
def putF (fs : Atoms) (f : Int × List Int) : Atoms := if 0 ≤ plcF fs f then fs else fs.takeWhile (ltF f) ++ f :: fs.dropWhile (ltF f)
def factL (f : Int × List Int) : Prop := (-1 ≤ f.1 ∧ f.1 ≤ 5) ∧ f.2.length ≤ 3 ∧ ∀ x ∈ f.2, -256 ≤ x ∧ x ≤ 256
def instL (rs : Rels) (fs : Atoms) : Prop := rs.length ≤ 5 ∧ (∀ z ∈ rs, relL z) ∧ fs.length ≤ 11 ∧ ∀ a ∈ fs, factL a
theorem atomL_okI {l : Atoms} (h : ∀ a ∈ l, atomL a) : ∀ z ∈ l, ∀ x ∈ z.2, okI x := fun z hz x hx => by
 have := (h z hz).2.2 x hx
 unfold okI
 omega
end Go.Eng
