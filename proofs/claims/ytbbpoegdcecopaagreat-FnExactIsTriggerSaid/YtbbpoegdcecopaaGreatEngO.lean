/- Models: instantiation of terms. -/
import Derived.Test.YtbbpoegdcecopaaGreatEngN
set_option linter.unusedVariables false
set_option linter.unusedSimpArgs false
namespace Go.Eng
open Go Go.RowKit

def okI (x : Int) : Prop := -9223372036854775808 ≤ x ∧ x ≤ 9223372036854775807
/-- What one term is worth under a binding. -/
def inst1 (b : List Int) (t : Int) : Option Int :=
  (if 0 ≤ t then b[t.toNat]? else some (-1 - t)).bind fun v => if -40 ≤ v ∧ v ≤ 9 then some v else none
def instV (b : List Int) : List Int → Option (List Int)
  | [] => some []
  | t :: r => (inst1 b t).bind fun v => (instV b r).map (v :: ·)
theorem instV_append (b : List Int) (x y : List Int) : instV b (x ++ y) = (instV b x).bind fun u => (instV b y).map (u ++ ·) := by
  induction x with
  | nil => simp [instV]
  | cons t x ih =>
    simp only [List.cons_append, instV, ih]
    cases inst1 b t with
    | none => rfl
    | some v =>
      simp only [Option.bind_some]
      cases instV b x with
      | none => rfl
      | some u => cases instV b y <;> rfl
theorem instV_len {b x u : List Int} (h : instV b x = some u) : u.length = x.length := by
  induction x generalizing u with
  | nil => cases h; rfl
  | cons t x ih =>
    simp only [instV] at h
    obtain ⟨v, _, h⟩ := Option.bind_eq_some_iff.mp h
    obtain ⟨u', h1, rfl⟩ := Option.map_eq_some_iff.mp h
    simp [ih h1]
theorem inst_step {b ts acc : List Int} {t v : Int} {m n : Nat} (h : instV b (ts.take m) = some acc) (ht : ts[n]? = some t) (e : n = m) (hv : inst1 b t = some v) : instV b (ts.take (m + 1)) = some (acc ++ [v]) := by
  subst e
  rw [List.take_add_one, ht, instV_append, h]
  simp [instV, hv]
theorem inst_none {b ts acc : List Int} {t : Int} {m n : Nat} (h : instV b (ts.take m) = some acc) (ht : ts[n]? = some t) (e : n = m) (hv : inst1 b t = none) : instV b ts = none := by
  subst e
  have hn := (List.getElem?_eq_some_iff.1 ht).1
  rw [← List.take_append_drop n ts, instV_append, h, List.drop_eq_getElem_cons hn]
  have : ts[n] = t := (List.getElem?_eq_some_iff.1 ht).2
  simp [instV, this, hv]
theorem inst_far {b : List Int} {t : Int} (h0 : 0 ≤ t) (h : (b.length : Int) ≤ t) : inst1 b t = none := by
  unfold inst1
  rw [if_pos h0, List.getElem?_eq_none (by omega)]
  rfl
theorem inst_bad {b : List Int} {t v : Int} (h0 : 0 ≤ t) (h : b[t.toNat]? = some v) (hv : ¬ (-40 ≤ v ∧ v ≤ 9)) : inst1 b t = none := by
  unfold inst1
  rw [if_pos h0, h, Option.bind_some, if_neg hv]
theorem inst_good {b : List Int} {t v : Int} (h0 : 0 ≤ t) (h : b[t.toNat]? = some v) (hv : -40 ≤ v ∧ v ≤ 9) : inst1 b t = some v := by
  unfold inst1
  rw [if_pos h0, h, Option.bind_some, if_pos hv]
theorem inst_badn {b : List Int} {t : Int} (h0 : ¬ 0 ≤ t) (ht : -9223372036854775808 ≤ t) (hv : ¬ (-40 ≤ IntKind.i64.wrap (-1 - t) ∧ IntKind.i64.wrap (-1 - t) ≤ 9)) : inst1 b t = none := by
  rw [wr64 (by omega) (by omega)] at hv
  unfold inst1
  rw [if_neg h0, Option.bind_some, if_neg hv]
theorem inst_goodn {b : List Int} {t : Int} (h0 : ¬ 0 ≤ t) (ht : -9223372036854775808 ≤ t) (hv : -40 ≤ IntKind.i64.wrap (-1 - t) ∧ IntKind.i64.wrap (-1 - t) ≤ 9) : inst1 b t = some (IntKind.i64.wrap (-1 - t)) := by
  have e : IntKind.i64.wrap (-1 - t) = -1 - t := wr64 (by omega) (by omega)
  rw [e] at hv ⊢
  unfold inst1
  rw [if_neg h0, Option.bind_some, if_pos hv]
end Go.Eng
