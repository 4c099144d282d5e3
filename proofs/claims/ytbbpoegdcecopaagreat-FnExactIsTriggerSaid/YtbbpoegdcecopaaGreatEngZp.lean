/- Models: triggers. -/
import Derived.Test.YtbbpoegdcecopaaGreatEngZo
set_option linter.unusedVariables false
set_option linter.unusedSimpArgs false
namespace Go.Eng
open Go Go.RowKit
def hasF (fs : Atoms) (f : Int × List Int) : Bool := fs.any fun x => decide (cmpF x f = 0)
def varStep (V b : List Int) (j : Nat) : Bool := match b[j]? with
  | some z => decide (z = 10) != hasI V (j : Int)
  | none => true
def varsOk (V b : List Int) : Bool := decide (∀ j, j < b.length → varStep V b j = true)
def trgStep (fs : Atoms) (b : List Int) (a : Int × List Int) : Bool := match instV b a.2 with
  | some v => hasF fs (a.1, v)
  | none => false
def trgOk (rs : Rels) (fs a0 a1 : Atoms) (a2 : Bool) (a3 a4 : Int) (b : List Int) : Bool :=
  (instOk rs fs && (depOk rs a0 a1 a2 a3 a4 && decide (b.length = 5))) && (varsOk (setI (varsL a0)) b && a0.all (trgStep fs b))
theorem vs_bad1 {z : Int} {q : Bool} (h : (decide (z ≠ 10) != q) = true) : (decide (z = 10) != q) = false := by by_cases e : z = 10 <;> cases q <;> simp_all
theorem vs_bad2 {z : Int} {q : Bool} (h : (q == decide (z = 10)) = true) : (decide (z = 10) != q) = false := by by_cases e : z = 10 <;> cases q <;> simp_all
theorem vs_ok1 {z : Int} {q : Bool} (h : (decide (z ≠ 10) != q) = false) : (decide (z = 10) != q) = true := by by_cases e : z = 10 <;> cases q <;> simp_all
theorem vs_ok2 {z : Int} {q : Bool} (h : (q == decide (z = 10)) = false) : (decide (z = 10) != q) = true := by by_cases e : z = 10 <;> cases q <;> simp_all
section
variable {V b : List Int} {m : Nat} {z : Int} {fs : Atoms} {a : Int × List Int}
theorem varStep_at (hz : b[m]? = some z) : varStep V b m = (decide (z = 10) != hasI V (m : Int)) := by unfold varStep; rw [hz]
theorem varsOk_not (hm : m < b.length) (h : varStep V b m = false) : varsOk V b = false := by
  unfold varsOk
  exact decide_eq_false fun q => by rw [q m hm] at h; cases h
theorem varsOk_end (h : ∀ j, j < m → varStep V b j = true) (hm : b.length ≤ m) : varsOk V b = true := decide_eq_true fun j hj => h j (by omega)
theorem trg_none (h : instV b a.2 = none) : trgStep fs b a = false := by unfold trgStep; rw [h]
theorem trg_some {v : List Int} (h : instV b a.2 = some v) : trgStep fs b a = hasF fs (a.1, v) := by unfold trgStep; rw [h]
theorem all_not {α : Type} {p : α → Bool} {l : List α} {x : α} {n : Nat} (hx : l[n]? = some x) (h : p x = false) : l.all p = false := by
  rw [List.all_eq_false]
  exact ⟨x, List.mem_of_getElem? hx, by simp [h]⟩
theorem all_yes {α : Type} {p : α → Bool} {l : List α} {n : Nat} (h : ∀ (j : Nat) z, j < n → l[j]? = some z → p z = true) (hn : l.length ≤ n) : l.all p = true := by
  rw [List.all_eq_true]
  intro x hx
  obtain ⟨j, hj⟩ := List.getElem?_of_mem hx
  exact h j x (by have := (List.getElem?_eq_some_iff.1 hj).1; omega) hj
theorem yes_step {α : Type} {p : α → Bool} {l : List α} {m n : Nat} {x : α} (h : ∀ (j : Nat) z, j < m → l[j]? = some z → p z = true) (hx : l[n]? = some x) (e : n = m) (hp : p x = true) : ∀ (j : Nat) z, j < m + 1 → l[j]? = some z → p z = true := by
  subst e
  intro j z hj hz
  by_cases e : j < n
  · exact h j z e hz
  · obtain rfl : j = n := by omega
    rw [hx] at hz
    cases hz
    exact hp
end
end Go.Eng
