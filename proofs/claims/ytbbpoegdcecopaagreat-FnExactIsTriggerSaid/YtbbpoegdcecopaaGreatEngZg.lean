/- Models: the variables of atoms; a number put in its place. -/
import Derived.Test.YtbbpoegdcecopaaGreatEngZf
set_option linter.unusedVariables false
set_option linter.unusedSimpArgs false
namespace Go.Eng
open Go Go.RowKit
def nonneg (l : List Int) : List Int := l.filter fun t => decide (0 ≤ t)
def varsL (l : List (Int × List Int)) : List Int := l.flatMap fun a => nonneg a.2
theorem nonneg_more {l : List Int} {n : Nat} {z : Int} (h : l[n]? = some z) (hz : 0 ≤ z) : nonneg (l.take (n + 1)) = nonneg (l.take n) ++ [z] := by
  unfold nonneg
  rw [List.take_add_one, h, List.filter_append]
  simp [hz]
theorem nonneg_same {l : List Int} {n : Nat} {z : Int} (h : l[n]? = some z) (hz : ¬ 0 ≤ z) : nonneg (l.take (n + 1)) = nonneg (l.take n) := by
  unfold nonneg
  rw [List.take_add_one, h, List.filter_append]
  simp [hz]
theorem nonneg_zero (l : List Int) : nonneg (l.take 0) = [] := rfl
theorem varsL_step {l : List (Int × List Int)} {m : Nat} {z : Int × List Int} (h : l[m]? = some z) : varsL (l.take (m + 1)) = varsL (l.take m) ++ nonneg z.2 := by
  unfold varsL
  rw [List.take_add_one, h, List.flatMap_append]
  simp
theorem nonneg_len (l : List Int) : (nonneg l).length ≤ l.length := List.length_filter_le _ _
theorem varsL_part {l : List (Int × List Int)} {m n : Nat} {z : Int × List Int} (h : l[m]? = some z) : (varsL (l.take m)).length + (nonneg (z.2.take n)).length ≤ (varsL l).length := by
  have h1 : varsL l = varsL (l.take (m + 1)) ++ varsL (l.drop (m + 1)) := by unfold varsL; rw [← List.flatMap_append, List.take_append_drop]
  have h2 : nonneg z.2 = nonneg (z.2.take n) ++ nonneg (z.2.drop n) := by unfold nonneg; rw [← List.filter_append, List.take_append_drop]
  rw [h1, varsL_step h, h2]
  simp only [List.length_append]
  omega
theorem varsL_size (l : List (Int × List Int)) : (varsL l).length ≤ szS (fun x => x.2.length) l := by
  unfold szS
  induction l with
  | nil => simp [varsL]
  | cons a l ih =>
    have := nonneg_len a.2
    simp only [varsL, List.flatMap_cons, List.length_append, List.map_cons, List.sum_cons, List.length_cons] at ih ⊢
    omega
theorem varsL_end {l : List (Int × List Int)} {m : Nat} (h : l.length ≤ m) : varsL (l.take m) = varsL l := by rw [List.take_of_length_le h]
theorem putI_pos : ∀ (l : List Int) (x : Int) (m : Nat), (∀ j y, j < m → l[j]? = some y → y < x) → m ≤ l.length → (∀ y, l[m]? = some y → ¬ y < x) → putI l x = if l[m]? = some x then l else l.take m ++ x :: l.drop m
  | [], x, m, _, h2, _ => by
    have : m = 0 := by simpa using h2
    subst this
    simp [putI]
  | y :: l, x, 0, _, _, h3 => by
    have h3 := h3 y rfl
    unfold putI
    rw [if_neg h3]
    simp only [List.getElem?_cons_zero, Option.some.injEq, List.take_zero, List.drop_zero, List.nil_append]
  | y :: l, x, m + 1, h1, h2, h3 => by
    have h0 := h1 0 y (by omega) rfl
    unfold putI
    rw [if_pos h0, putI_pos l x m (fun j z hj hz => h1 (j + 1) z (by omega) hz) (by simpa using h2) (fun z hz => h3 z hz)]
    simp only [List.getElem?_cons_succ, List.take_succ_cons, List.drop_succ_cons, List.cons_append]
    split <;> rfl
theorem putI_there {l : List Int} {x y : Int} {m : Nat} (h1 : ∀ j y, j < m → l[j]? = some y → y < x) (hy : l[m]? = some y) (e : y = x) : putI l x = l := by
  subst e
  rw [putI_pos l y m h1 (by have := (List.getElem?_eq_some_iff.1 hy).1; omega) (fun z hz => by rw [hy] at hz; cases hz; omega), if_pos hy]
theorem putI_new {l : List Int} {x : Int} {m : Nat} (h1 : ∀ j y, j < m → l[j]? = some y → y < x) (h2 : m ≤ l.length) (h3 : ∀ y, l[m]? = some y → x < y) : putI l x = l.take m ++ x :: l.drop m := by
  rw [putI_pos l x m h1 h2 (fun y hy => by have := h3 y hy; omega), if_neg (fun e => by have := h3 x e; omega)]
theorem lt_step {l : List Int} {x z : Int} {m n : Nat} (h : ∀ j y, j < m → l[j]? = some y → y < x) (hz : l[n]? = some z) (e : n = m) (hx : z < x) : ∀ j y, j < m + 1 → l[j]? = some y → y < x := by
  intro j y hj hy
  by_cases q : j < m
  · exact h j y q hy
  · obtain rfl : j = m := by omega
    subst e
    rw [hz] at hy
    cases hy
    exact hx
theorem getA_get {l : List (Int × List Int)} {m : Nat} (h : m < l.length) : l[m]? = some (l.getD m (0, [])) := by simp [h]
def hasI (l : List Int) (x : Int) : Bool := l.any fun y => decide (y = x)
theorem idxI_has {l : List Int} {x : Int} : decide (0 ≤ idxI (eqP x) l) = hasI l x := idx_any
end Go.Eng
