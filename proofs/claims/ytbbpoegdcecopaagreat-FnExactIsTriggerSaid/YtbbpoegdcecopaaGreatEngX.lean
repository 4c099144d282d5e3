/- The engine, part X: what the laws' marks leave in rows. -/
import Derived.Test.YtbbpoegdcecopaaGreatEngW
set_option linter.unusedVariables false
set_option linter.unusedSimpArgs false
namespace Go.Eng
open Go Go.RowKit
/-- Each element marked by f, of which an element takes ct marks. -/
def mkL {α : Type} (f : Int → α → α) (ct : α → Nat) : Int → List α → List α
  | _, [] => []
  | k, x :: l => f k x :: mkL f ct (k + ct x) l
section
variable {α : Type} {f : Int → α → α} {ct : α → Nat}
theorem mkL_length (k : Int) (l : List α) : (mkL f ct k l).length = l.length := by
  induction l generalizing k with
  | nil => rfl
  | cons x l ih => simp [mkL, ih]
theorem mkL_append (k : Int) (l r : List α) : mkL f ct k (l ++ r) = mkL f ct k l ++ mkL f ct (k + ((l.map ct).sum : Nat)) r := by
  induction l generalizing k with
  | nil => simp [mkL]
  | cons x l ih =>
    simp only [List.cons_append, mkL, ih, List.map_cons, List.sum_cons]
    congr 3
    omega
theorem mkL_at {k : Int} {l : List α} {m : Nat} {z : α} (h : (mkL f ct k (l.take m) ++ l.drop m)[m]? = some z) (hm : m ≤ l.length) : l[m]? = some z := by
  rw [List.getElem?_append_right (by rw [mkL_length, List.length_take]; omega), mkL_length, List.length_take, Nat.min_eq_left hm, Nat.sub_self, List.getElem?_drop] at h
  simpa using h
theorem mkL_set {k : Int} {l : List α} {m : Nat} {z y : α} (h : l[m]? = some z) (hy : y = f (k + ((szT ct l m : Nat) : Int)) z) : (mkL f ct k (l.take m) ++ l.drop m).set m y = mkL f ct k (l.take (m + 1)) ++ l.drop (m + 1) := by
  obtain ⟨hm, hz⟩ := List.getElem?_eq_some_iff.1 h
  rw [List.set_append_right _ _ (by rw [mkL_length, List.length_take]; omega), mkL_length, List.length_take, Nat.min_eq_left (by omega), Nat.sub_self, List.drop_eq_getElem_cons hm, List.set_cons_zero, List.take_add_one, h, mkL_append, hy]
  simp [mkL, szT]
theorem mkL_idem (hf : ∀ k x, f k (f k x) = f k x) (hc : ∀ k x, ct (f k x) = ct x) (k : Int) (l : List α) : mkL f ct k (mkL f ct k l) = mkL f ct k l := by
  induction l generalizing k with
  | nil => rfl
  | cons x l ih => simp only [mkL, hf, hc, ih]
theorem mkL_sum (hc : ∀ k x, ct (f k x) = ct x) (k : Int) (l : List α) : ((mkL f ct k l).map ct).sum = (l.map ct).sum := by
  induction l generalizing k with
  | nil => rfl
  | cons x l ih => simp only [mkL, List.map_cons, List.sum_cons, hc, ih]
theorem heldL_step {k : Int} {l : List α} {m n : Nat} {z : α} (h : l.take m = mkL f ct k (l.take m)) (hz : l[n]? = some z) (e : n = m) (hk : z = f (k + ((szT ct l m : Nat) : Int)) z) : l.take (m + 1) = mkL f ct k (l.take (m + 1)) := by
  subst e
  rw [List.take_add_one, hz, mkL_append, ← h]
  simp only [Option.toList_some, mkL]
  congr 1
  unfold szT at hk
  rw [← hk]
theorem heldL_ne {k : Int} {l : List α} {m n : Nat} {z : α} (hz : l[n]? = some z) (e : n = m) (hne : ¬ z = f (k + ((szT ct l m : Nat) : Int)) z) : l ≠ mkL f ct k l := by
  subst e
  intro h
  have hm := (List.getElem?_eq_some_iff.1 hz).1
  have h1 : mkL f ct k l = mkL f ct k (l.take n) ++ mkL f ct (k + (((l.take n).map ct).sum : Nat)) (l.drop n) := by rw [← mkL_append, List.take_append_drop]
  have h2 : (mkL f ct k (l.take n) ++ mkL f ct (k + (((l.take n).map ct).sum : Nat)) (l.drop n))[n]? = some (f (k + ((szT ct l n : Nat) : Int)) z) := by
    rw [List.getElem?_append_right (by rw [mkL_length, List.length_take]; omega), mkL_length, List.length_take, Nat.min_eq_left (by omega), Nat.sub_self, List.drop_eq_getElem_cons hm]
    have hz2 := (List.getElem?_eq_some_iff.1 hz).2
    rw [hz2]
    rfl
  rw [← h1, ← h, hz] at h2
  exact hne (Option.some.inj h2)
end
theorem seqI_idem (k : Int) (n : Nat) : seqI k (seqI k n).length = seqI k n := by rw [seqI_length]
def markIS : Int → List Int → List Int := fun k x => seqI k x.length
def markISS : Int → List (List Int) → List (List Int) := mkL markIS List.length
theorem markISS_idem (k : Int) (l : List (List Int)) : markISS k (markISS k l) = markISS k l := mkL_idem (fun k x => by simp [markIS, seqI_length]) (fun k x => by simp [markIS, seqI_length]) k l
theorem markISS_size (k : Int) (l : List (List Int)) : szS List.length (markISS k l) = szS List.length l := by
  unfold szS
  rw [markISS, mkL_length, mkL_sum (fun k x => by simp [markIS, seqI_length])]
theorem markISS_sum (k : Int) (l : List (List Int)) : ((markISS k l).map List.length).sum = (l.map List.length).sum := mkL_sum (fun k x => by simp [markIS, seqI_length]) k l
end Go.Eng
