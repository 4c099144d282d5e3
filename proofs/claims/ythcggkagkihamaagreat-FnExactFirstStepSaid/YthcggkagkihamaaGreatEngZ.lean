import Derived.Test.YthcggkagkihamaaGreatEngY
set_option linter.unusedVariables false
set_option linter.unusedSimpArgs false
namespace Go.Eng
open Go Go.RowKit
def mt1 (r : List Int) (t v : Int) : Prop := (t < 0 → -1 - t = v) ∧ (0 ≤ t → r[t.toNat]? = some v)
def mtF (r : List Int) (a f : Int × List Int) : Prop := a.1 = f.1 ∧ ∀ t v, (t, v) ∈ a.2.zip f.2 → mt1 r t v
def exB (b r : List Int) : Prop := b.length = r.length ∧ ∀ (k : Nat) (y : Int), b[k]? = some y → y ≠ 10 → r[k]? = some y
theorem cmpL_refl : ∀ l : List Int, cmpL l l = 0 := fun l => (cmpL_zero l l).2 rfl
theorem cmpF_refl (f : Int × List Int) : cmpF f f = 0 := by
 unfold cmpF
 rw [if_neg (by omega), if_neg (by omega), cmpL_refl]
theorem cmpF_zero {f g : Int × List Int} : cmpF f g = 0 ↔ f = g := by
 constructor
 ·intro h
  unfold cmpF at h
  split at h
  ·omega
  ·split at h
   ·omega
   ·exact Prod.ext (by omega) ((cmpL_zero _ _).1 h)
 ·rintro rfl
  exact cmpF_refl f
end Go.Eng
