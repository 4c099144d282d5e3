/- Plain laws: what restriction keeps. -/
import Derived.Test.YtjjoopbebildfaaEngZC
set_option linter.unusedVariables false
set_option linter.unusedSimpArgs false
namespace Go.Eng
open Go Go.RowKit
section
variable {rs : Rels} {fs : Atoms}
theorem src_null {f : Int × List Int} (h : instOk rs fs = true) (hf : f ∈ fs) (hs : srcA rs f = true) : nulV f.2 = [] := by
  unfold instOk at h
  simp only [Bool.and_eq_true, decide_eq_true_eq] at h
  obtain ⟨j, hj⟩ := List.getElem?_of_mem hf
  have h1 := h.1 j (List.getElem?_eq_some_iff.1 hj).1
  rw [instStep_at hj, hs] at h1
  simp only [Bool.and_eq_true, Bool.true_and, Bool.not_eq_true', decide_eq_false_iff_not] at h1
  have h2 : setI (nulV f.2) = [] := List.eq_nil_of_length_eq_zero (by omega)
  cases hn : nulV f.2 with
  | nil => rfl
  | cons x l =>
    exfalso
    have : x ∈ setI (nulV f.2) := (setI_mem _ _).2 (by rw [hn]; simp)
    rw [h2] at this
    simp at this
theorem nulV_flat : ∀ l : Atoms, nulV (flatT l) = l.flatMap fun f => nulV f.2
  | [] => rfl
  | f :: l => by
    have ih := nulV_flat l
    unfold flatT at ih ⊢
    rw [List.flatMap_cons, List.flatMap_cons, nulV_app, ih]
theorem rest_null (h : instOk rs fs = true) : (setI (nulV (flatT (rstF rs fs true)))).length = 0 := by
  have : nulV (flatT (rstF rs fs true)) = [] := by
    rw [nulV_flat, (res_yes h).2, List.flatMap_eq_nil_iff]
    intro f hf
    obtain ⟨h1, h2⟩ := List.mem_filter.1 hf
    unfold keepF at h2
    exact src_null h h1 (by simpa using h2)
  rw [this]
  rfl
theorem rest_same (h : instOk rs fs = true) : setI (nulV (flatT (rstF rs fs false))) = setI (nulV (flatT fs)) := by
  have key : ∀ l : Atoms, (∀ f ∈ l, f ∈ fs) → (l.filter (keepF rs false)).flatMap (fun f => nulV f.2) = l.flatMap fun f => nulV f.2 := by
    intro l
    induction l with
    | nil => intro _; rfl
    | cons f l ih =>
      intro hl
      have ih := ih fun g hg => hl g (List.mem_cons_of_mem _ hg)
      cases e : srcA rs f
      · have : keepF rs false f = true := by unfold keepF; rw [e]; rfl
        rw [List.filter_cons, if_pos this, List.flatMap_cons, List.flatMap_cons, ih]
      · have : ¬ keepF rs false f = true := by unfold keepF; rw [e]; decide
        rw [List.filter_cons, if_neg this, List.flatMap_cons, ih, src_null h (hl f (by simp)) e]
        rfl
  rw [nulV_flat, nulV_flat, (res_yes h).2, key fs fun _ h => h]
theorem rest_len (h : instOk rs fs = true) : (rstF rs fs true).length + (rstF rs fs false).length = fs.length := by
  rw [(res_yes (t := true) h).2, (res_yes (t := false) h).2]
  have key : ∀ l : Atoms, (l.filter (keepF rs true)).length + (l.filter (keepF rs false)).length = l.length := by
    intro l
    induction l with
    | nil => rfl
    | cons f l ih =>
      rw [List.filter_cons, List.filter_cons]
      cases e : srcA rs f
      · have h1 : keepF rs false f = true := by unfold keepF; rw [e]; rfl
        have h2 : ¬ keepF rs true f = true := by unfold keepF; rw [e]; decide
        rw [if_neg h2, if_pos h1, List.length_cons, List.length_cons]
        omega
      · have h1 : ¬ keepF rs false f = true := by unfold keepF; rw [e]; decide
        have h2 : keepF rs true f = true := by unfold keepF; rw [e]; rfl
        rw [if_pos h2, if_neg h1, List.length_cons, List.length_cons]
        omega
  exact key fs
theorem rest_sub (t : Bool) : (rstF rs fs t).all (hasF fs) = true := by
  rw [List.all_eq_true]
  intro f hf
  exact hasF_mem.2 ((rstF_sub rs fs t).subset hf)
theorem rest_off (h : instOk rs fs = false) (t : Bool) : (rstF rs fs t).length = 0 := by rw [(res_no (t := t) h).2]; rfl
end
end Go.Eng
