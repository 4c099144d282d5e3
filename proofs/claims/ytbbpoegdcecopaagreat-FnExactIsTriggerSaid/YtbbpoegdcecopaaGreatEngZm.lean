/- Models: nulls, facts, instances. -/
import Derived.Test.YtbbpoegdcecopaaGreatEngZl
set_option linter.unusedVariables false
set_option linter.unusedSimpArgs false
namespace Go.Eng
open Go Go.RowKit
def isN (v : Int) : Bool := decide (-40 ≤ v ∧ v ≤ -1)
def numN (v : Int) : Int := if -40 ≤ v ∧ v ≤ -1 then -1 - v else 0
def nulV (l : List Int) : List Int := (l.filter isN).map numN
theorem nulV_len (l : List Int) : (nulV l).length ≤ l.length := by unfold nulV; rw [List.length_map]; exact List.length_filter_le _ _
theorem nulV_zero (l : List Int) : nulV (l.take 0) = [] := rfl
theorem nulV_more {l : List Int} {n : Nat} {z : Int} (h : l[n]? = some z) (hz : decide (-40 ≤ z ∧ z ≤ -1) = true) : nulV (l.take (n + 1)) = nulV (l.take n) ++ [if -40 ≤ z ∧ z ≤ -1 then -1 - z else 0] := by
  unfold nulV
  rw [filt_more h hz, List.map_append]
  rfl
theorem nulV_same {l : List Int} {n : Nat} {z : Int} (h : l[n]? = some z) (hz : decide (-40 ≤ z ∧ z ≤ -1) = false) : nulV (l.take (n + 1)) = nulV (l.take n) := by
  unfold nulV
  rw [filt_same h hz]
theorem nulV_end {l : List Int} {n : Nat} (h : l.length ≤ n) : nulV (l.take n) = nulV l := by rw [List.take_of_length_le h]
theorem nulV_part (l : List Int) (n : Nat) : (nulV (l.take n)).length ≤ l.length := Nat.le_trans (nulV_len _) (by rw [List.length_take]; omega)
theorem nulV_app (a b : List Int) : nulV (a ++ b) = nulV a ++ nulV b := by simp [nulV]
/-- All terms, in order. -/
def flatT (l : List (Int × List Int)) : List Int := l.flatMap fun a => a.2
theorem flatT_step {l : List (Int × List Int)} {m : Nat} {z : Int × List Int} (h : l[m]? = some z) : flatT (l.take (m + 1)) = flatT (l.take m) ++ z.2 := by
  rw [List.take_add_one, h]
  simp [flatT]
theorem flatT_end {l : List (Int × List Int)} {m : Nat} (h : l.length ≤ m) : flatT (l.take m) = flatT l := by rw [List.take_of_length_le h]
theorem flatT_size (l : List (Int × List Int)) : (flatT l).length ≤ szS (fun x => x.2.length) l := by
  unfold szS flatT
  induction l with
  | nil => simp
  | cons a l ih =>
    simp only [List.flatMap_cons, List.length_append, List.map_cons, List.sum_cons, List.length_cons]
    omega
theorem flatT_part {l : List (Int × List Int)} {m : Nat} {z : Int × List Int} (h : l[m]? = some z) : (flatT (l.take m)).length + z.2.length ≤ (flatT l).length := by
  have h1 := flatT_step h
  have h2 : flatT l = flatT (l.take (m + 1)) ++ flatT (l.drop (m + 1)) := by
    unfold flatT
    rw [← List.flatMap_append, List.take_append_drop]
  rw [h2, h1]
  simp only [List.length_append]
  omega
theorem flatT_ok {l : List (Int × List Int)} (h : ∀ z ∈ l, ∀ x ∈ z.2, okI x) : ∀ x ∈ flatT l, okI x := fun x hx => by
  obtain ⟨z, h1, h2⟩ := List.mem_flatMap.1 hx
  exact h z h1 x h2
theorem setI_app (a b : List Int) : setI (a ++ setI b) = setI (a ++ b) :=
  strict_ext _ _ (setI_sorted _) (setI_sorted _) fun z => by simp only [setI_mem, List.mem_append]
theorem snoc_at {α : Type} (a : List α) {s : List α} {n : Nat} {z : α} (h : s[n]? = some z) : a ++ s.take (n + 1) = (a ++ s.take n) ++ [z] := by
  rw [List.take_add_one, h, List.append_assoc]
  rfl
def nextN (s : List Int) : Int := if s.length = 0 then 0 else IntKind.i64.wrap (s.getD (s.length - 1) 0 + 1)
theorem nextN_at {s : List Int} {n : Nat} {z : Int} (hz : s[n]? = some z) (h : n = s.length - 1) : nextN s = IntKind.i64.wrap (z + 1) := by
  have hn := (List.getElem?_eq_some_iff.1 hz).1
  unfold nextN
  rw [if_neg (by omega), ← h, List.getD_eq_getElem?_getD, hz]
  rfl
theorem nextN_none {s : List Int} (h : s.length = 0) : nextN s = 0 := by unfold nextN; rw [if_pos h]
/-! facts -/
def valOk (v : Int) : Bool := decide (-40 ≤ v ∧ v ≤ 9)
def factOk (rs : Rels) (r : Int) (ts : List Int) : Bool :=
  relsOk rs && (decide (0 ≤ r ∧ r ≤ (rs.length : Int) - 1) && ((match rs[r.toNat]? with | some x => decide (((ts.length : Nat) : Int) = x.2.1) | none => false) && !ts.any fun t => !valOk t))
section
variable {rs : Rels} {r : Int} {ts : List Int}
theorem fact_no1 (h : relsOk rs = false) : factOk rs r ts = false := by unfold factOk; rw [h]; rfl
theorem fact_no2 (h : ¬ (0 ≤ r ∧ r ≤ (rs.length : Int) - 1)) : factOk rs r ts = false := by unfold factOk; rw [decide_eq_false h]; simp
theorem fact_no3 {z : List UInt8 × Int × Bool} (hz : rs[r.toNat]? = some z) (h : ((ts.length : Nat) : Int) ≠ z.2.1) : factOk rs r ts = false := by unfold factOk; rw [hz]; simp [h]
theorem fact_yes {z : List UInt8 × Int × Bool} (h : relsOk rs = true) (h2 : 0 ≤ r ∧ r ≤ (rs.length : Int) - 1) (hz : rs[r.toNat]? = some z) (h3 : ((ts.length : Nat) : Int) = z.2.1) : factOk rs r ts = !ts.any fun t => !valOk t := by
  unfold factOk; rw [h, decide_eq_true h2, hz]; simp [h3]
theorem fact_idx (h : factOk rs r ts = true) : 0 ≤ r ∧ r < rs.length := by
  unfold factOk at h
  simp only [Bool.and_eq_true, decide_eq_true_eq] at h
  omega
theorem fact_rels (h : factOk rs r ts = true) : relsOk rs = true := by
  unfold factOk at h
  simp only [Bool.and_eq_true] at h
  exact h.1
end
def cmpI (x y : Int) : Int := if x < y then -1 else if y < x then 1 else 0
theorem cmpI_eq {x y : Int} (h : cmpI x y = 0) : x = y := by
  unfold cmpI at h
  split at h
  · omega
  · split at h
    · omega
    · omega
theorem cmpL_cmpI {a b : List Int} {m : Nat} {x y : Int} (h : a.take m = b.take m) (hx : a[m]? = some x) (hy : b[m]? = some y) (hne : cmpI x y ≠ 0) : cmpI x y = cmpL a b := by
  obtain ⟨h1, h2⟩ := cmpL_at h hx hy
  unfold cmpI at hne ⊢
  by_cases q : x < y
  · rw [if_pos q, h1 q]
  · by_cases q2 : y < x
    · rw [if_neg q, if_pos q2, h2 q2]
    · rw [if_neg q, if_neg q2] at hne
      exact absurd rfl hne
def orI : List Int → Int
  | [] => 0
  | x :: l => if x ≠ 0 then x else orI l
theorem orI_at : ∀ {l : List Int} {m : Nat} {z : Int}, (∀ j y, j < m → l[j]? = some y → y = 0) → l[m]? = some z → z ≠ 0 → orI l = z
  | [], m, z, h, hz, hn => by simp at hz
  | x :: l, 0, z, h, hz, hn => by
    have : x = z := by simpa using hz
    subst this
    rw [orI, if_pos hn]
  | x :: l, m + 1, z, h, hz, hn => by
    rw [orI, if_neg (by rw [h 0 x (by omega) rfl]; simp)]
    exact orI_at (m := m) (fun j y hj hy => h (j + 1) y (by omega) (by simpa using hy)) (by simpa using hz) hn
theorem orI_none : ∀ {l : List Int}, (∀ j y, j < l.length → l[j]? = some y → y = 0) → orI l = 0
  | [], h => rfl
  | x :: l, h => by
    rw [orI, if_neg (by rw [h 0 x (by simp) rfl]; simp)]
    exact orI_none fun j y hj hy => h (j + 1) y (by simp; omega) (by simpa using hy)
theorem zero_step {l : List Int} {m n : Nat} {z : Int} (h : ∀ j y, j < m → l[j]? = some y → y = 0) (hz : l[n]? = some z) (e : n = m) (hx : z = 0) : ∀ j y, j < m + 1 → l[j]? = some y → y = 0 := by
  subst e
  intro j y hj hy
  by_cases hjn : j < n
  · exact h j y hjn hy
  · obtain rfl : j = n := by omega
    rw [hz] at hy
    cases hy
    exact hx
def cmpF (f g : Int × List Int) : Int := if f.1 < g.1 then -1 else if g.1 < f.1 then 1 else cmpL f.2 g.2
theorem cmpF_or (f g : Int × List Int) : orI [cmpI f.1 g.1, cmpL f.2 g.2] = cmpF f g := by
  unfold orI orI orI cmpI cmpF
  by_cases h1 : f.1 < g.1
  · simp [h1]
  · by_cases h2 : g.1 < f.1
    · simp [h1, h2]
    · by_cases h3 : cmpL f.2 g.2 = 0 <;> simp [h1, h2, h3]
/-! instances -/
def instStep (rs : Rels) (l : Atoms) (j : Nat) : Bool := match l[j]? with
  | some z => factOk rs z.1 z.2 && ((decide (j = 0) || match l[j - 1]? with | some y => decide (cmpF y z < 0) | none => false) && !(srcA rs z && decide (0 < (setI (nulV z.2)).length)))
  | none => true
def instOk (rs : Rels) (l : Atoms) : Bool := decide (∀ j, j < l.length → instStep rs l j = true) && (relsOk rs && decide (l.length ≤ 30))
section
variable {rs : Rels} {l : Atoms} {m : Nat}
theorem instOk_not (hm : m < l.length) (h : instStep rs l m = false) : instOk rs l = false := by
  unfold instOk
  rw [decide_eq_false (fun q => by rw [q m hm] at h; cases h)]
  rfl
theorem instOk_end (h : ∀ j, j < m → instStep rs l j = true) (hm : l.length ≤ m) : instOk rs l = (relsOk rs && decide (l.length ≤ 30)) := by
  unfold instOk
  rw [decide_eq_true (fun j hj => h j (by omega))]
  rfl
theorem instOk_no (h : (relsOk rs && decide (l.length ≤ 30)) = false) : instOk rs l = false := by
  unfold instOk
  rw [h, Bool.and_false]
theorem instStep_at {z : Int × List Int} (hz : l[m]? = some z) : instStep rs l m = (factOk rs z.1 z.2 && ((decide (m = 0) || match l[m - 1]? with | some y => decide (cmpF y z < 0) | none => false) && !(srcA rs z && decide (0 < (setI (nulV z.2)).length)))) := by
  unfold instStep; rw [hz]
theorem instStep_bad {z : Int × List Int} (hz : l[m]? = some z) (h : factOk rs z.1 z.2 = false) : instStep rs l m = false := by
  rw [instStep_at hz, h]; rfl
theorem instStep_pos {z y : Int × List Int} {n : Nat} (hz : l[m]? = some z) (h0 : m ≠ 0) (hy : l[n]? = some y) (hn : n = m - 1) : instStep rs l m = (factOk rs z.1 z.2 && (decide (cmpF y z < 0) && !(srcA rs z && decide (0 < (setI (nulV z.2)).length)))) := by
  subst hn
  rw [instStep_at hz, hy, decide_eq_false h0]
  simp
theorem instStep_zero {z : Int × List Int} (hz : l[m]? = some z) (h0 : m = 0) : instStep rs l m = (factOk rs z.1 z.2 && !(srcA rs z && decide (0 < (setI (nulV z.2)).length))) := by
  rw [instStep_at hz, decide_eq_true h0]
  simp
end
end Go.Eng
