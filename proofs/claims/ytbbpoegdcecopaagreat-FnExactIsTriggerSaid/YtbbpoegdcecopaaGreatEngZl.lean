/- The engine, part Zl: marks of lists of atoms; elements selected. -/
import Derived.Test.YtbbpoegdcecopaaGreatEngZk
set_option linter.unusedVariables false
set_option linter.unusedSimpArgs false
namespace Go.Eng
open Go Go.RowKit
def ctA : Int × List Int → Nat := fun x => 1 + x.2.length
def markAT : Int → Int × List Int → Int × List Int := fun k x => (k, seqI (k + 1) x.2.length)
def markATS : Int → List (Int × List Int) → List (Int × List Int) := mkL markAT ctA
theorem ctA_sum (l : List (Int × List Int)) : (l.map ctA).sum = szS (fun (x : Int × List Int) => x.2.length) l := by
  unfold szS
  induction l with
  | nil => rfl
  | cons x l ih =>
    simp only [List.map_cons, List.sum_cons, ih, List.length_cons]
    unfold ctA
    omega
theorem ctA_part (l : List (Int × List Int)) (m : Nat) : szT ctA l m ≤ szS (fun (x : Int × List Int) => x.2.length) l := by
  rw [← ctA_sum]
  unfold szT
  have h : ((l.take m).map ctA).sum + ((l.drop m).map ctA).sum = (l.map ctA).sum := by
    rw [← List.sum_append, ← List.map_append, List.take_append_drop]
  omega
theorem markATS_idem (k : Int) (l : List (Int × List Int)) : markATS k (markATS k l) = markATS k l := mkL_idem (fun k x => by simp [markAT, seqI_length]) (fun k x => by simp [markAT, ctA, seqI_length]) k l
theorem markATS_sum (k : Int) (l : List (Int × List Int)) : ((markATS k l).map ctA).sum = (l.map ctA).sum := mkL_sum (fun k x => by simp [markAT, ctA, seqI_length]) k l
theorem markAT_set {k : Int} {l : List (Int × List Int)} {m : Nat} {z y y1 : Int × List Int} (h : l[m]? = some z) (hy : y = markAT (k + ((szT ctA l m : Nat) : Int)) z) : ((mkL markAT ctA k (l.take m) ++ l.drop m).set m y1).set m y = mkL markAT ctA k (l.take (m + 1)) ++ l.drop (m + 1) := by
  rw [List.set_set]
  exact mkL_set h hy
theorem set_at {α : Type} {l : List α} {n : Nat} {y z : α} (h : (l.set n y)[n]? = some z) : z = y := by
  rw [List.getElem?_set] at h
  simp only [if_true] at h
  split at h
  · exact (Option.some.inj h).symm
  · cases h
section
variable {α : Type} {p : α → Bool} {l : List α} {m : Nat} {z : α}
theorem filt_more (h : l[m]? = some z) (hp : p z = true) : (l.take (m + 1)).filter p = (l.take m).filter p ++ [z] := by
  rw [List.take_add_one, h, List.filter_append]
  simp [hp]
theorem filt_same (h : l[m]? = some z) (hp : p z = false) : (l.take (m + 1)).filter p = (l.take m).filter p := by
  rw [List.take_add_one, h, List.filter_append]
  simp [hp]
theorem filt_end (h : l.length ≤ m) : (l.take m).filter p = l.filter p := by rw [List.take_of_length_le h]
theorem filt_len : ((l.take m).filter p).length ≤ l.length := Nat.le_trans (List.length_filter_le _ _) (by rw [List.length_take]; omega)
end
/-- Of H the values that B holds (or not). -/
def selV (q : Bool) (B H : List Int) : List Int := H.filter fun x => hasI B x == q
theorem selV_len (q : Bool) (B H : List Int) : (selV q B H).length ≤ H.length := List.length_filter_le _ _
end Go.Eng
