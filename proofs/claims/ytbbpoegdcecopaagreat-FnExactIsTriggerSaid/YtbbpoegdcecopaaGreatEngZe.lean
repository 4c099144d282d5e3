/- Models: insertion sort, and neighbours that are equal taken out. -/
import Derived.Test.YtbbpoegdcecopaaGreatEngZd
set_option linter.unusedVariables false
set_option linter.unusedSimpArgs false
namespace Go.Eng
open Go Go.RowKit
def srtI (l q : List Int) (m : Nat) : Prop := q.Perm l ∧ q.length = l.length ∧ ∀ (p s : Nat) (x y : Int), p < s → s < m → q[p]? = some x → q[s]? = some y → x ≤ y
def insI (l r : List Int) (j m : Nat) : Prop := r.Perm l ∧ r.length = l.length ∧ j ≤ m ∧ ∀ (p s : Nat) (x y : Int), p < s → s ≤ m → s ≠ j → r[p]? = some x → r[s]? = some y → x ≤ y
theorem srt_start (l : List Int) : srtI l l 1 := ⟨List.Perm.refl _, rfl, fun p s x y h h1 => by omega⟩
theorem ins_start {l q : List Int} {m : Nat} (h : srtI l q m) : insI l q m m := ⟨h.1, h.2.1, Nat.le_refl _, fun p s x y h1 h2 h3 => h.2.2 p s x y h1 (by omega)⟩
theorem ins_done0 {l r : List Int} {j m : Nat} (h : insI l r j m) (h0 : j = 0) : srtI l r (m + 1) := ⟨h.1, h.2.1, fun p s x y h1 h2 => h.2.2.2 p s x y h1 (by omega) (by omega)⟩
theorem ins_done {l r : List Int} {j m n : Nat} {x y : Int} (h : insI l r j m) (hx : r[j]? = some x) (hy : r[n]? = some y) (hn : n = j - 1) (h0 : 0 < j) (hxy : ¬ x < y) : srtI l r (m + 1) := by
  subst hn
  refine ⟨h.1, h.2.1, fun p s u v h1 h2 hu hv => ?_⟩
  by_cases e : s = j
  · subst e
    rw [hx] at hv
    cases hv
    by_cases e2 : p = s - 1
    · subst e2
      rw [hy] at hu
      cases hu
      omega
    · have := h.2.2.2 p (s - 1) u y (by omega) (by have := h.2.2.1; omega) (by omega) hu hy
      omega
  · exact h.2.2.2 p s u v h1 (by omega) e hu hv
theorem swap_perm {r : List Int} {j n : Nat} {x y : Int} (hx : r[j]? = some x) (hy : r[n]? = some y) (hne : n ≠ j) : ((r.set j y).set n x).Perm r := by
  obtain ⟨hj, ex⟩ := List.getElem?_eq_some_iff.1 hx
  obtain ⟨hn, ey⟩ := List.getElem?_eq_some_iff.1 hy
  rw [List.perm_iff_count]
  intro b
  rw [List.count_set (by simpa using hn), List.count_set hj]
  have e1 : (r.set j y)[n]'(by simpa using hn) = y := by rw [List.getElem_set_ne (fun e => hne e.symm)]; exact ey
  rw [e1, ex]
  have hc : (if x == b then 1 else 0) ≤ r.count b := by
    split
    · rename_i h
      have : x = b := by simpa using h
      subst this
      exact List.count_pos_iff.2 (List.mem_of_getElem? hx)
    · omega
  omega
theorem ins_swap {l r : List Int} {j m n : Nat} {x y : Int} (h : insI l r j m) (hx : r[j]? = some x) (hy : r[n]? = some y) (hn : n = j - 1) (h0 : 0 < j) (hxy : x < y) : insI l ((r.set j y).set n x) (j - 1) m := by
  subst hn
  obtain ⟨hj, ex⟩ := List.getElem?_eq_some_iff.1 hx
  refine ⟨(swap_perm hx hy (by omega)).trans h.1, by simp [h.2.1], by have := h.2.2.1; omega, fun p s u v h1 h2 h3 hu hv => ?_⟩
  have hjm := h.2.2.1
  have hget : ∀ q, ((r.set j y).set (j - 1) x)[q]? = if q = j - 1 then (if q < r.length then some x else none) else if q = j then (if q < r.length then some y else none) else r[q]? := fun q => by
    rw [List.getElem?_set, List.getElem?_set]
    by_cases e1 : j - 1 = q
    · simp [e1, List.length_set]
    · by_cases e2 : j = q
      · subst e2
        simp [e1, show ¬ j = j - 1 by omega]
      · rw [if_neg e1, if_neg e2, if_neg (by omega), if_neg (by omega)]
  rw [hget] at hu hv
  have H := h.2.2.2
  rw [if_neg h3] at hv
  by_cases es : s = j
  · rw [if_pos es, if_pos (by omega)] at hv
    cases hv
    by_cases ep : p = j - 1
    · rw [if_pos ep, if_pos (by omega)] at hu
      cases hu
      omega
    · rw [if_neg ep, if_neg (by omega)] at hu
      exact H p (j - 1) u y (by omega) (by omega) (by omega) hu hy
  · rw [if_neg es] at hv
    by_cases ep : p = j - 1
    · rw [if_pos ep, if_pos (by omega)] at hu
      cases hu
      exact H j s x v (by omega) h2 es hx hv
    · rw [if_neg ep] at hu
      by_cases ep2 : p = j
      · rw [if_pos ep2, if_pos (by omega)] at hu
        cases hu
        exact H (j - 1) s y v (by omega) h2 es hy hv
      · rw [if_neg ep2] at hu
        exact H p s u v h1 h2 es hu hv
theorem srt_fin {l q : List Int} {m : Nat} (h : srtI l q m) (hm : l.length ≤ m) : q = sortI l := by
  refine sortI_of ?_ h.1
  rw [List.pairwise_iff_getElem]
  intro i j hi hj hij
  exact h.2.2 i j _ _ hij (by have := h.2.1; omega) (List.getElem?_eq_getElem hi) (List.getElem?_eq_getElem hj)
/-- Behind the k elements that are kept the list is as it was. -/
def cmpK (l c : List Int) (k j : Nat) : Prop := c.length = l.length ∧ k < j ∧ j ≤ l.length ∧ c.take k = compactI (l.take j) ∧ c.drop k = l.drop k
theorem cmp_first {l : List Int} {k : Nat} (h : compactI (l.take k) = l.take k) {x y : Int} {n : Nat} (hx : l[k]? = some x) (hy : l[n]? = some y) (hn : n = k - 1) (h1 : 1 ≤ k) (he : x ≠ y) : compactI (l.take (k + 1)) = l.take (k + 1) := by
  subst hn
  have := compactI_step (j := k - 1) hy (by rw [show k - 1 + 1 = k by omega]; exact hx)
  rw [show k - 1 + 2 = k + 1 by omega, show k - 1 + 1 = k by omega, if_neg (fun e => he e.symm), h] at this
  rw [this, List.take_add_one, hx]
  rfl
theorem cmpK_start {l : List Int} {k : Nat} (h : compactI (l.take k) = l.take k) {x y : Int} {n : Nat} (hx : l[k]? = some x) (hy : l[n]? = some y) (hn : n = k - 1) (h1 : 1 ≤ k) (he : x = y) : cmpK l l k (k + 1) := by
  subst hn
  obtain ⟨hk, _⟩ := List.getElem?_eq_some_iff.1 hx
  have := compactI_step (j := k - 1) hy (by rw [show k - 1 + 1 = k by omega]; exact hx)
  rw [show k - 1 + 2 = k + 1 by omega, show k - 1 + 1 = k by omega, if_pos he.symm, h] at this
  exact ⟨rfl, by omega, by omega, this.symm, rfl⟩
theorem drop_at {l c : List Int} {k j : Nat} (h : c.drop k = l.drop k) (hj : k ≤ j) : c[j]? = l[j]? := by
  have := congrArg (·[j - k]?) h
  simp only [List.getElem?_drop] at this
  rwa [show k + (j - k) = j by omega] at this
theorem cmpK_same {l c : List Int} {k j : Nat} (h : cmpK l c k j) {x y : Int} {n : Nat} (hx : c[j]? = some x) (hy : c[n]? = some y) (hn : n = j - 1) (he : x = y) : cmpK l c k (j + 1) := by
  subst hn
  obtain ⟨h1, h2, h3, h4, h5⟩ := h
  rw [drop_at h5 (by omega)] at hx hy
  obtain ⟨hk, _⟩ := List.getElem?_eq_some_iff.1 hx
  have := compactI_step (j := j - 1) hy (by rw [show j - 1 + 1 = j by omega]; exact hx)
  rw [show j - 1 + 2 = j + 1 by omega, show j - 1 + 1 = j by omega, if_pos he.symm] at this
  exact ⟨h1, by omega, by omega, h4.trans this.symm, h5⟩
theorem cmpK_more {l c : List Int} {k j : Nat} (h : cmpK l c k j) {x y : Int} {n : Nat} (hx : c[j]? = some x) (hy : c[n]? = some y) (hn : n = j - 1) (he : x ≠ y) : cmpK l (c.set k x) (k + 1) (j + 1) := by
  subst hn
  obtain ⟨h1, h2, h3, h4, h5⟩ := h
  have hx0 := hx
  rw [drop_at h5 (by omega)] at hx hy
  obtain ⟨hk, _⟩ := List.getElem?_eq_some_iff.1 hx
  have := compactI_step (j := j - 1) hy (by rw [show j - 1 + 1 = j by omega]; exact hx)
  rw [show j - 1 + 2 = j + 1 by omega, show j - 1 + 1 = j by omega, if_neg (fun e => he e.symm)] at this
  refine ⟨by simp [h1], by omega, by omega, ?_, ?_⟩
  · rw [this, ← h4, List.take_add_one, List.getElem?_set, if_pos rfl, if_pos (by omega), List.take_set_of_le (Nat.le_refl _)]
    rfl
  · rw [List.drop_set_of_lt (by omega)]
    have := congrArg (List.drop 1) h5
    simpa [List.drop_drop] using this
theorem cmpK_fin {l c : List Int} {k j : Nat} {d : List Int} (h : cmpK l c k j) (hj : l.length ≤ j) : (c.take k ++ d).take k = compactI l := by
  obtain ⟨h1, h2, h3, h4, h5⟩ := h
  rw [List.take_append_of_le_length (by simp; omega), List.take_take, Nat.min_self, h4, List.take_of_length_le hj]
end Go.Eng
