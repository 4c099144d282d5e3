/- Models: dependencies. -/
import Derived.Test.YtbbpoegdcecopaaGreatEngZg
set_option linter.unusedVariables false
set_option linter.unusedSimpArgs false
namespace Go.Eng
open Go Go.RowKit
abbrev Rels := List (List UInt8 × Int × Bool)
abbrev Atoms := List (Int × List Int)
def badA (rs : Rels) : Int × List Int → Bool := fun x => !atomOk rs x.1 x.2
def srcA (rs : Rels) : Int × List Int → Bool := fun x => match rs[x.1.toNat]? with | some y => y.2.2 | none => false
def atomsOk (rs : Rels) (l : Atoms) (most : Int) : Bool := decide (1 ≤ (l.length : Int) ∧ (l.length : Int) ≤ most) && !l.any (badA rs)
def depOk (rs : Rels) (b h : Atoms) (e : Bool) (lv rv : Int) : Bool :=
  atomsOk rs b 2 && (if e = true then decide (h.length = 0) && (decide (lv < rv) && (hasI (setI (varsL b)) lv && hasI (setI (varsL b)) rv))
    else atomsOk rs h 2 && (decide (lv = 0) && (decide (rv = 0) && !h.any (srcA rs))))
theorem atomOk_rels {rs : Rels} {r : Int} {ts : List Int} (h : atomOk rs r ts = true) : relsOk rs = true ∧ 0 ≤ r ∧ r < rs.length ∧ ts.length ≤ 3 ∧ ∃ x, rs[r.toNat]? = some x ∧ (ts.length : Int) = x.2.1 := by
  unfold atomOk at h
  simp only [Bool.and_eq_true, decide_eq_true_eq] at h
  obtain ⟨h1, ⟨h2, h3⟩, h4, _⟩ := h
  cases hx : rs[r.toNat]? with
  | none => rw [hx] at h4; cases h4
  | some x =>
    rw [hx] at h4
    have h4 : ((ts.length : Nat) : Int) = x.2.1 := by simpa using h4
    refine ⟨h1, h2, by omega, ?_, x, rfl, h4⟩
    unfold relsOk at h1
    simp only [Bool.and_eq_true, decide_eq_true_eq] at h1
    have h5 := h1.1 r.toNat (by omega)
    unfold relStep at h5
    rw [hx] at h5
    simp only [Bool.and_eq_true] at h5
    have h6 := h5.1
    unfold relOk at h6
    simp only [Bool.and_eq_true, decide_eq_true_eq] at h6
    omega
theorem atomsOk_all {rs : Rels} {l : Atoms} {most : Int} (h : atomsOk rs l most = true) : 1 ≤ l.length ∧ (l.length : Int) ≤ most ∧ ∀ x ∈ l, atomOk rs x.1 x.2 = true := by
  unfold atomsOk at h
  simp only [Bool.and_eq_true, decide_eq_true_eq, Bool.not_eq_true', List.any_eq_false] at h
  refine ⟨by omega, h.1.2, fun x hx => ?_⟩
  have := h.2 x hx
  simpa [badA] using this
theorem varsL_sum (l : Atoms) (h : ∀ x ∈ l, x.2.length ≤ 3) : (varsL l).length ≤ 3 * l.length := by
  induction l with
  | nil => simp [varsL]
  | cons a l ih =>
    have h1 := ih (fun x hx => h x (List.mem_cons_of_mem _ hx))
    have h2 := h a (by simp)
    have h3 := nonneg_len a.2
    simp only [varsL, List.flatMap_cons, List.length_append, List.length_cons] at h1 ⊢
    omega
theorem vars12 {rs : Rels} {l : Atoms} (h : atomsOk rs l 2 = true) : (varsL l).length ≤ 12 := by
  obtain ⟨_, h1, h2⟩ := atomsOk_all h
  have := varsL_sum l (fun x hx => (atomOk_rels (h2 x hx)).2.2.2.1)
  omega
theorem atoms_at {rs : Rels} {l : Atoms} {most : Int} (h : atomsOk rs l most = true) {x : Int × List Int} (hx : x ∈ l) : 0 ≤ x.1 ∧ x.1 < rs.length := by
  have := atomOk_rels ((atomsOk_all h).2.2 x hx)
  exact ⟨this.2.1, this.2.2.1⟩
theorem atom_idx {rs : Rels} {r : Int} {ts : List Int} (h : atomOk rs r ts = true) : 0 ≤ r ∧ r < rs.length := ⟨(atomOk_rels h).2.1, (atomOk_rels h).2.2.1⟩
theorem srcA_at {rs : Rels} {r : Int} {ts : List Int} {x : List UInt8 × Int × Bool} (h : rs[r.toNat]? = some x) : srcA rs (r, ts) = x.2.2 := by unfold srcA; rw [h]
end Go.Eng
