import Derived.Test.YthcggkagkihamaaGreatDoorEngV
set_option linter.unusedVariables false
set_option linter.unusedSimpArgs false
namespace Go.Eng
open Go Go.RowKit
def sigs5 : Rels := [([97], 2, true), ([98], 1, true), ([112], 2, false), ([113], 2, false), ([114], 1, false)]
def arS (r : Int) : Int := (sigs5.getD r.toNat ([], 0, false)).2.1
theorem sig_at {r : Int} {z : List UInt8 × Int × Bool} (h : sigs5[r.toNat]? = some z) : z.2.1 = arS r ∧ 1 ≤ z.2.1 ∧ z.2.1 ≤ 2 := by
 have h1 : arS r = z.2.1 := by unfold arS; rw [List.getD_eq_getElem?_getD, h]; rfl
 refine ⟨h1.symm, ?_⟩
 have : ∀ y ∈ sigs5, 1 ≤ y.2.1 ∧ y.2.1 ≤ 2 := by
  intro y hy
  simp only [sigs5, List.mem_cons, List.not_mem_nil, or_false] at hy
  rcases hy with rfl | rfl | rfl | rfl | rfl <;> decide
 exact this z (List.mem_of_getElem? h)
theorem arS_le {r : Int} (h : 0 ≤ r ∧ r ≤ 4) : 1 ≤ arS r ∧ arS r ≤ 2 := by
 have h1 : r.toNat < sigs5.length := by show r.toNat < 5; omega
 have := sig_at (List.getElem?_eq_getElem h1)
 omega
theorem sigs5_len : sigs5.length = 5 := rfl
def atomL (a : Int × List Int) : Prop := (-1 ≤ a.1 ∧ a.1 ≤ 5) ∧ (1 ≤ a.2.length ∧ a.2.length ≤ 2) ∧ ∀ x ∈ a.2, -11 ≤ x ∧ x ≤ 5
def depL (d : Dep) : Prop := (1 ≤ d.1.length ∧ d.1.length ≤ 2) ∧ d.2.1.length ≤ 3 ∧ (∀ a ∈ d.1, atomL a) ∧ (∀ a ∈ d.2.1, atomL a) ∧ (-20 ≤ d.2.2.2.1 ∧ d.2.2.2.1 ≤ 20) ∧ (-20 ≤ d.2.2.2.2 ∧ d.2.2.2.2 ≤ 20)
theorem mem_snoc {α : Type} {l : List α} {z : α} {p : α → Prop} (h : ∀ x ∈ l, p x) (hz : p z) : ∀ x ∈ l ++ [z], p x := by
 intro x hx
 rcases List.mem_append.1 hx with q | q
 ·exact h x q
 ·rw [List.mem_singleton.1 q]; exact hz
theorem mem_set {α : Type} {l : List α} {z : α} {n : Nat} {p : α → Prop} (h : ∀ x ∈ l, p x) (hz : p z) : ∀ x ∈ l.set n z, p x := by
 intro x hx
 rcases List.mem_or_eq_of_mem_set hx with q | q
 ·exact h x q
 ·rw [q]; exact hz
theorem mem_two {α : Type} {l : List α} {y z : α} {p : α → Prop} (h : ∀ x ∈ l, p x) (hy : p y) (hz : p z) : ∀ x ∈ l ++ [y, z], p x := by
 intro x hx
 rcases List.mem_append.1 hx with q | q
 ·exact h x q
 ·rcases List.mem_cons.1 q with q | q
  ·rw [q]; exact hy
  ·rw [List.mem_singleton.1 q]; exact hz
theorem szA_L {l : List (Int × List Int)} (h : ∀ a ∈ l, atomL a) : szS (fun (x : Int × List Int) => x.2.length) l ≤ 3 * l.length := by
 unfold szS
 induction l with
 | nil => simp
 | cons x l ih =>
  have := ih (fun a ha => h a (List.mem_cons_of_mem _ ha))
  have := (h x (by simp)).2.1
  simp only [List.length_cons, List.map_cons, List.sum_cons] at *
  omega
theorem szA_dep {d : Dep} (h : depL d) : szS (fun (x : Int × List Int) => x.2.length) d.1 ≤ 6 ∧ szS (fun (x : Int × List Int) => x.2.length) d.2.1 ≤ 9 := by
 obtain ⟨h1, h2, h3, h4, _⟩ := h
 have := szA_L h3
 have := szA_L h4
 omega
theorem vars_in {l : List (Int × List Int)} (h : ∀ a ∈ l, atomL a) : ∀ x ∈ varsL l, 0 ≤ x ∧ x ≤ 5 := by
 intro x hx
 unfold varsL nonneg at hx
 simp only [List.mem_flatMap, List.mem_filter, decide_eq_true_eq] at hx
 obtain ⟨a, ha, h1, h2⟩ := hx
 have := (h a ha).2.2 x h1
 omega
def relL (z : List UInt8 × Int × Bool) : Prop := z.1.length ≤ 2 ∧ -1 ≤ z.2.1 ∧ z.2.1 ≤ 4
theorem pick3 {x : Int} (h : x ∈ [(5 : Int), -11, 4]) : -11 ≤ x ∧ x ≤ 5 := by
 simp only [List.mem_cons, List.not_mem_nil, or_false] at h
 omega
end Go.Eng
