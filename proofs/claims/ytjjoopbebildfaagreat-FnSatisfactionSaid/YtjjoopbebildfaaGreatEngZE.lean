import Derived.Test.YtjjoopbebildfaaGreatEngZD
set_option linter.unusedVariables false
set_option linter.unusedSimpArgs false
namespace Go.Eng
open Go Go.RowKit
theorem rst_instL {rs : Rels} {fs : Atoms} (h : instL rs fs) (t : Bool) : instL (rstR rs fs) (rstF rs fs t) := by
 obtain ⟨h1, h2, h3, h4⟩ := h
 have s := rstF_sub rs fs t
 refine ⟨Nat.le_trans (rstR_len rs fs) h1, ?_, Nat.le_trans s.length_le h3, fun a ha => h4 a (s.subset ha)⟩
 unfold rstR
 split
 ·exact h2
 ·intro z hz; simp at hz
def actN (rs : Rels) (fs : Atoms) (ds : List Dep) (m : Nat) : Nat := ((ds.take m).map fun d => (actD rs fs d).length).sum
section
variable {rs : Rels} {fs : Atoms} {ds : List Dep} {m : Nat} {z : Dep}
theorem actN_step (hz : ds[m]? = some z) : actN rs fs ds (m + 1) = actN rs fs ds m + (actL rs fs z.1 z.2.1 z.2.2.1 z.2.2.2.1 z.2.2.2.2).length := by
 unfold actN
 rw [List.take_add_one, hz, List.map_append, List.sum_append]
 simp [actD]
theorem actN_le : actN rs fs ds m ≤ 27000 * m := by
 induction m with
 | zero => simp [actN]
 | succ m ih =>
  cases hz : ds[m]? with
  | none =>
   have : actN rs fs ds (m + 1) = actN rs fs ds m := by
    unfold actN
    rw [List.take_add_one, hz]
    simp
   omega
  | some z =>
   rw [actN_step hz]
   have := actL_len rs fs z.1 z.2.1 z.2.2.1 z.2.2.2.1 z.2.2.2.2
   omega
theorem actN_any (hm : ds.length ≤ m) : ds.any (hotD rs fs) = decide (0 < actN rs fs ds m) := by
 unfold actN
 rw [List.take_of_length_le hm]
 clear hm
 induction ds with
 | nil => rfl
 | cons d ds ih =>
  rw [List.any_cons, ih, List.map_cons, List.sum_cons]
  unfold hotD
  by_cases h1 : 0 < (actD rs fs d).length
  ·rw [decide_eq_true h1, decide_eq_true (show 0 < (actD rs fs d).length + (ds.map fun d => (actD rs fs d).length).sum by omega)]
   rfl
  ·have h0 : (actD rs fs d).length = 0 := by omega
   rw [h0, Nat.zero_add]
   rfl
end
end Go.Eng
