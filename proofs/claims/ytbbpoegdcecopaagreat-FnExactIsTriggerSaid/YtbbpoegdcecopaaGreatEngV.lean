/- Models: relations and atoms. -/
import Derived.Test.YtbbpoegdcecopaaGreatEngU
set_option linter.unusedVariables false
set_option linter.unusedSimpArgs false
namespace Go.Eng
open Go Go.RowKit
def nameOk (n : List UInt8) : Bool := match n with
  | [c] => decide (97 ≤ (c.toNat : Int) ∧ (c.toNat : Int) ≤ 122)
  | _ => false
def relOk (x : List UInt8 × Int × Bool) : Bool := nameOk x.1 && decide (1 ≤ x.2.1 ∧ x.2.1 ≤ 3)
theorem one_of {n : List UInt8} (h : ((n.length : Nat) : Int) = 1) : ∃ c, n = [c] := by
  match n, h with
  | [c], _ => exact ⟨c, rfl⟩
  | [], h => simp at h
  | _ :: _ :: _, h => simp at h; omega
theorem nameOk_not {n : List UInt8} (h : ¬ ((n.length : Nat) : Int) = 1) : nameOk n = false := by
  match n, h with
  | [c], h => exact absurd rfl h
  | [], h => rfl
  | _ :: _ :: _, h => rfl
theorem less_lo {c : UInt8} : Op.bytesLess [c] [97] = decide ((c.toNat : Int) < 97) := by
  simp only [Op.bytesLess, Bool.and_false, Bool.or_false, UInt8.lt_iff_toNat_lt]
  rw [show (97 : UInt8).toNat = 97 from rfl]
  exact decide_eq_decide.2 (by omega)
theorem less_hi {c : UInt8} : Op.bytesLess [122] [c] = decide (122 < (c.toNat : Int)) := by
  simp only [Op.bytesLess, Bool.and_false, Bool.or_false, UInt8.lt_iff_toNat_lt]
  rw [show (122 : UInt8).toNat = 122 from rfl]
  exact decide_eq_decide.2 (by omega)
def relStep (l : List (List UInt8 × Int × Bool)) (j : Nat) : Bool := match l[j]? with
  | some z => relOk z && (decide (j = 0) || match l[j - 1]? with | some y => Op.bytesLess y.1 z.1 | none => false)
  | none => true
def relsOk (l : List (List UInt8 × Int × Bool)) : Bool := decide (∀ j, j < l.length → relStep l j = true) && decide (l.length ≤ 6)
section
variable {l : List (List UInt8 × Int × Bool)} {m : Nat}
theorem relsOk_not (hm : m < l.length) (h : relStep l m = false) : relsOk l = false := by
  unfold relsOk
  rw [decide_eq_false (fun q => by rw [q m hm] at h; cases h)]
  rfl
theorem relsOk_end (h : ∀ j, j < m → relStep l j = true) (hm : l.length ≤ m) : relsOk l = decide (l.length ≤ 6) := by
  unfold relsOk
  rw [decide_eq_true (fun j hj => h j (by omega))]
  rfl
theorem relStep_at {z : List UInt8 × Int × Bool} (hz : l[m]? = some z) : relStep l m = (relOk z && (decide (m = 0) || match l[m - 1]? with | some y => Op.bytesLess y.1 z.1 | none => false)) := by
  unfold relStep; rw [hz]
theorem relStep_bad {z : List UInt8 × Int × Bool} (hz : l[m]? = some z) (h : relOk z = false) : relStep l m = false := by
  rw [relStep_at hz, h]; rfl
theorem relStep_zero {z : List UInt8 × Int × Bool} (hz : l[m]? = some z) (h : relOk z = true) (h0 : m = 0) : relStep l m = true := by
  rw [relStep_at hz, h, decide_eq_true h0]; rfl
theorem relStep_pos {z y : List UInt8 × Int × Bool} {n : Nat} {b : Bool} (hz : l[m]? = some z) (h : relOk z = true) (h0 : m ≠ 0) (hn : n = m - 1) (hy : l[n]? = some y) (hb : Op.bytesLess y.1 z.1 = b) : relStep l m = b := by
  subst hn
  rw [relStep_at hz, h, decide_eq_false h0, hy]
  simpa using hb
theorem step_all {P : Nat → Prop} (h : ∀ j, j < m → P j) (hm : P m) : ∀ j, j < m + 1 → P j := fun j hj => by
  by_cases e : j < m
  · exact h j e
  · obtain rfl : j = m := by omega
    exact hm
end
def termOk (t : Int) : Bool := decide (-10 ≤ t ∧ t ≤ 4)
/-- An atom's shape and terms. -/
def atomOk (rs : List (List UInt8 × Int × Bool)) (r : Int) (ts : List Int) : Bool :=
  relsOk rs && (decide (0 ≤ r ∧ r ≤ (rs.length : Int) - 1) && ((match rs[r.toNat]? with | some x => decide (((ts.length : Nat) : Int) = x.2.1) | none => false) && !ts.any fun t => !termOk t))
section
variable {rs : List (List UInt8 × Int × Bool)} {r : Int} {ts : List Int}
theorem atom_no1 (h : relsOk rs = false) : atomOk rs r ts = false := by unfold atomOk; rw [h]; rfl
theorem atom_no2 (h : ¬ (0 ≤ r ∧ r ≤ (rs.length : Int) - 1)) : atomOk rs r ts = false := by unfold atomOk; rw [decide_eq_false h]; simp
theorem atom_no3 {z : List UInt8 × Int × Bool} (hz : rs[r.toNat]? = some z) (h : ((ts.length : Nat) : Int) ≠ z.2.1) : atomOk rs r ts = false := by unfold atomOk; rw [hz]; simp [h]
theorem atom_yes {z : List UInt8 × Int × Bool} (h : relsOk rs = true) (h2 : 0 ≤ r ∧ r ≤ (rs.length : Int) - 1) (hz : rs[r.toNat]? = some z) (h3 : ((ts.length : Nat) : Int) = z.2.1) : atomOk rs r ts = !ts.any fun t => !termOk t := by
  unfold atomOk; rw [h, decide_eq_true h2, hz]; simp [h3]
end
end Go.Eng
