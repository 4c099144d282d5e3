import Derived.Test.YthcggkagkihamaaGreatDoorEngY
set_option linter.unusedVariables false
set_option linter.unusedSimpArgs false
namespace Go.Eng
open Go Go.RowKit
def mt1 (r : List Int) (t v : Int) : Prop := (t < 0 → -1 - t = v) ∧ (0 ≤ t → r[t.toNat]? = some v)
def mtF (r : List Int) (a f : Int × List Int) : Prop := a.1 = f.1 ∧ ∀ t v, (t, v) ∈ a.2.zip f.2 → mt1 r t v
def exB (b r : List Int) : Prop := b.length = r.length ∧ ∀ (k : Nat) (y : Int), b[k]? = some y → y ≠ 10 → r[k]? = some y
end Go.Eng
