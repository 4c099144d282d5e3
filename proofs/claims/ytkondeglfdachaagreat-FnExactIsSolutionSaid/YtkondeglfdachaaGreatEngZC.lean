import Derived.Test.YtkondeglfdachaaGreatEngZB
set_option linter.unusedVariables false
set_option linter.unusedSimpArgs false
namespace Go.Eng
open Go Go.RowKit
def keepF (rs : Rels) (t : Bool) (f : Int × List Int) : Bool := srcA rs f == t
def rstR (rs : Rels) (fs : Atoms) : Rels := if instOk rs fs = true then rs else []
def rstF (rs : Rels) (fs : Atoms) (t : Bool) : Atoms := if instOk rs fs = true then fs.filter (keepF rs t) else []
def dlK {α : Type} (K : α → Bool) (l q : List α) (k j : Nat) : Prop := k < j ∧ j ≤ l.length ∧ q.length = l.length ∧ q.take k = (l.take j).filter K ∧ ∀ n, j ≤ n → q[n]? = l[n]?
section
variable {α : Type} {K : α → Bool} {l q : List α} {k j : Nat} {z : α}
theorem dl_none (h : idxI (fun x => !(K x)) l = -1) : l.filter K = l := by
 rw [List.filter_eq_self]
 intro x hx
 have := idx_any (p := fun x => !(K x)) (l := l)
 rw [h] at this
 have h2 : l.any (fun x => !(K x)) = false := by rw [← this]; decide
 have := (List.any_eq_false.1 h2) x hx
 simpa using this
theorem dl_idx (h : ¬ idxI (fun x => !(K x)) l = -1) : ∃ m : Nat, idxI (fun x => !(K x)) l = (m : Int) ∧ m < l.length ∧ dlK K l l m (m + 1) := by
 have hany : l.any (fun x => !(K x)) = true := by
  cases e : l.any (fun x => !(K x))
  ·exact absurd (idx_none (p := fun x => !(K x)) (l := l) (m := l.length) (fun j z _ hz => by
    have := (List.any_eq_false.1 e) z (List.mem_of_getElem? hz)
    simpa using this) rfl) h
  ·rfl
 obtain ⟨m, z, h1, h2, h3, h4⟩ := idx_spec hany
 have hlt := (List.getElem?_eq_some_iff.1 h2).1
 refine ⟨m, h1, hlt, by omega, by omega, rfl, ?_, fun n _ => rfl⟩
 rw [List.take_add_one, h2, List.filter_append]
 have h5 : (l.take m).filter K = l.take m := by
  rw [List.filter_eq_self]
  intro x hx
  obtain ⟨n, hn⟩ := List.getElem?_of_mem hx
  have hnl := (List.getElem?_eq_some_iff.1 hn).1
  rw [List.length_take] at hnl
  rw [List.getElem?_take, if_pos (by omega)] at hn
  have := h4 n x (by omega) hn
  simpa using this
 have h6 : [z].filter K = [] := by
  have : K z = false := by simpa using h3
  simp [this]
 rw [h5]
 simp [h6]
theorem dl_at (h : dlK K l q k j) (hz : q[j]? = some z) : l[j]? = some z := by rw [← h.2.2.2.2 j (Nat.le_refl _)]; exact hz
theorem dl_keep (h : dlK K l q k j) (hz : q[j]? = some z) (hk : K z = true) : dlK K l (q.set k z) (k + 1) (j + 1) := by
 have hl := dl_at h hz
 have hlt := (List.getElem?_eq_some_iff.1 hl).1
 obtain ⟨h1, h2, h3, h4, h5⟩ := h
 refine ⟨by omega, by omega, by rw [List.length_set]; exact h3, ?_, fun n hn => ?_⟩
 ·rw [List.take_add_one (l := l), hl, List.filter_append, ← h4]
  rw [List.take_add_one, List.getElem?_set_self (by omega), List.take_set_of_le (Nat.le_refl _)]
  simp [hk]
 ·rw [List.getElem?_set_ne (by omega)]
  exact h5 n (by omega)
theorem dl_skip (h : dlK K l q k j) (hz : q[j]? = some z) (hk : K z = false) : dlK K l q k (j + 1) := by
 have hl := dl_at h hz
 have hlt := (List.getElem?_eq_some_iff.1 hl).1
 obtain ⟨h1, h2, h3, h4, h5⟩ := h
 refine ⟨by omega, by omega, h3, ?_, fun n hn => h5 n (by omega)⟩
 rw [List.take_add_one (l := l), hl, List.filter_append, ← h4]
 simp [hk]
theorem dl_end (h : dlK K l q k j) (hj : l.length ≤ j) (r : List α) : (q.take k ++ r).take k = l.filter K := by
 obtain ⟨h1, h2, h3, h4, h5⟩ := h
 rw [List.take_append_of_le_length (by rw [List.length_take]; omega), List.take_take, Nat.min_self, h4, List.take_of_length_le hj]
end
theorem fact_rel {rs : Rels} {fs : Atoms} {f : Int × List Int} (h : instOk rs fs = true) (hf : f ∈ fs) : 0 ≤ f.1 ∧ f.1 < rs.length := by
 have h1 := inst_fact h hf
 unfold factOk at h1
 simp only [Bool.and_eq_true, decide_eq_true_eq] at h1
 obtain ⟨x, hx, _⟩ := factOk_len (inst_fact h hf)
 have := (List.getElem?_eq_some_iff.1 hx).1
 omega
theorem res_no {rs : Rels} {fs : Atoms} {t : Bool} (h : instOk rs fs = false) : rstR rs fs = [] ∧ rstF rs fs t = [] := by
 unfold rstR rstF
 rw [h]
 exact ⟨rfl, rfl⟩
theorem res_yes {rs : Rels} {fs : Atoms} {t : Bool} (h : instOk rs fs = true) : rstR rs fs = rs ∧ rstF rs fs t = fs.filter (keepF rs t) := by
 unfold rstR rstF
 rw [h]
 exact ⟨rfl, rfl⟩
theorem filtG_hit {α : Type} {p : α → Bool} {L : List α} {m n : Nat} {z : α} (hz : L[n]? = some z) (e : n = m) (h : p z = true) : (L.take m).filter p ++ [z] = (L.take (m + 1)).filter p := by
 subst e
 rw [List.take_add_one, hz, List.filter_append]
 simp [h]
theorem filtG_miss {α : Type} {p : α → Bool} {L : List α} {m n : Nat} {z : α} (hz : L[n]? = some z) (e : n = m) (h : p z = false) : (L.take m).filter p = (L.take (m + 1)).filter p := by
 subst e
 rw [List.take_add_one, hz, List.filter_append]
 simp [h]
theorem rstR_len (rs : Rels) (fs : Atoms) : (rstR rs fs).length ≤ rs.length := by
 unfold rstR
 split
 ·omega
 ·simp
theorem szS_sub {α : Type} {f : α → Nat} {x l : List α} (h : x.Sublist l) : szS f x ≤ szS f l := by
 have h2 : (x.map f).Sublist (l.map f) := h.map f
 have h3 := h.length_le
 have h4 : ∀ {x y : List Nat}, x.Sublist y → x.sum ≤ y.sum := by
  intro x y h
  induction h with
  | slnil => simp
  | cons a _ ih => simp only [List.sum_cons]; omega
  | cons_cons a _ ih => simp only [List.sum_cons]; omega
 have h5 := h4 h2
 unfold szS
 omega
theorem rstF_sub (rs : Rels) (fs : Atoms) (t : Bool) : (rstF rs fs t).Sublist fs := by
 unfold rstF
 split
 ·exact List.filter_sublist
 ·exact List.nil_sublist _
theorem rstF_sz (rs : Rels) (fs : Atoms) (t : Bool) : szS (fun (x : Int × (List (Int))) => (x.2).length) (rstF rs fs t) ≤ szS (fun (x : Int × (List (Int))) => (x.2).length) fs := szS_sub (rstF_sub rs fs t)
def solB (rs : Rels) (fs : Atoms) (rs2 : Rels) (fs2 : Atoms) (ds : List Dep) : Bool := (vioS rs2 fs2 ds && instOk rs fs) && (decide (rstR rs fs = rstR rs2 fs2) && decide (rstF rs fs true = rstF rs2 fs2 true))
end Go.Eng
