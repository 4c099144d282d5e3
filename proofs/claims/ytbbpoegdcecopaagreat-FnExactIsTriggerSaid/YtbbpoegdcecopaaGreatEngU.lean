/- The engine, part U: sizes of lists of things, and what loops over them keep. -/
import Derived.Test.YtbbpoegdcecopaaGreatEngS
set_option linter.unusedVariables false
set_option linter.unusedSimpArgs false
namespace Go.Eng
open Go Go.RowKit
/-- What a list takes whose elements take f. -/
def szS {α : Type} (f : α → Nat) (l : List α) : Nat := l.length + (l.map f).sum
def szT {α : Type} (f : α → Nat) (l : List α) (m : Nat) : Nat := ((l.take m).map f).sum
section
variable {α : Type} {f : α → Nat} {l : List α}
theorem szT_step {m : Nat} {z : α} (h : l[m]? = some z) : szT f l (m + 1) = szT f l m + f z := by
  unfold szT
  rw [List.take_add_one, h]
  simp
theorem szT_le (m : Nat) : szT f l m + l.length ≤ szS f l := by
  unfold szT szS
  have : (l.map f).sum = ((l.take m).map f).sum + ((l.drop m).map f).sum := by rw [← List.sum_append, ← List.map_append, List.take_append_drop]
  omega
theorem szT_all {m : Nat} (h : l.length ≤ m) : szT f l m + l.length = szS f l := by
  unfold szT szS
  rw [List.take_of_length_le h]
  omega
theorem szT_zero : szT f l 0 = 0 := rfl
theorem sz_mem {z : α} (h : z ∈ l) : f z + l.length ≤ szS f l := by
  obtain ⟨m, hm⟩ := List.getElem?_of_mem h
  have h1 := szT_step (f := f) hm
  have h2 := szT_le (f := f) (l := l) (m + 1)
  omega
theorem sz_at {m : Nat} {z : α} (h : l[m]? = some z) : f z + l.length ≤ szS f l := sz_mem (List.mem_of_getElem? h)
theorem ok_at {ok : α → Prop} (h : okL ok l) {m : Nat} {z : α} (hz : l[m]? = some z) : ok z := h.2 z (List.mem_of_getElem? hz)
theorem same_at {a b : List α} {n : Nat} {x y : α} (h1 : a[n]? = some x) (h2 : b[n]? = some y) (h : x = y) : a[n]? = b[n]? := by rw [h1, h2, h]
theorem eqBo {a b : Bool} (h : a = b) : some (sc (.bool a)) = some (sc (.bool b)) := by rw [h]
theorem eqSo {a b : List UInt8} (h : a = b) : some (sc (.string (mkS a))) = some (sc (.string (mkS b))) := by rw [h]
theorem getD_get {l : List Int} {m : Nat} (h : m < l.length) : l[m]? = some (l.getD m 0) := by simp [h]
theorem vw_get {xs : List α} {n : Nat} (h : n < xs.length) : ∃ z, xs[n]? = some z := ⟨_, List.getElem?_eq_getElem h⟩
theorem sz_len : l.length ≤ szS f l := by unfold szS; omega
theorem any_false {p : α → Bool} {m : Nat} (h : ∀ j z, j < m → l[j]? = some z → p z = false) (hm : l.length ≤ m) : l.any p = false := by
  rw [List.any_eq_false]
  intro x hx
  obtain ⟨j, hj⟩ := List.getElem?_of_mem hx
  have := (List.getElem?_eq_some_iff.1 hj).1
  simp [h j x (by omega) hj]
theorem any_true {p : α → Bool} {m : Nat} {z : α} (h : l[m]? = some z) (hp : p z = true) : l.any p = true := List.any_eq_true.2 ⟨z, List.mem_of_getElem? h, hp⟩
end
/-- Where the first is, or -1. -/
def idxFrom {α : Type} (p : α → Bool) : List α → Nat → Int
  | [], _ => -1
  | x :: l, n => if p x = true then (n : Int) else idxFrom p l (n + 1)
def idxI {α : Type} (p : α → Bool) (l : List α) : Int := idxFrom p l 0
theorem idxFrom_skip {α : Type} {p : α → Bool} : ∀ (l : List α) (n m : Nat), (∀ j z, j < m → l[j]? = some z → p z = false) → m ≤ l.length → idxFrom p l n = idxFrom p (l.drop m) (n + m)
  | l, n, 0, _, _ => rfl
  | [], n, m + 1, _, h => by simp at h
  | x :: l, n, m + 1, h, hm => by
    have h0 := h 0 x (by omega) rfl
    rw [idxFrom, if_neg (by rw [h0]; exact Bool.false_ne_true), List.drop_succ_cons, idxFrom_skip l (n + 1) m (fun j z hj hz => h (j + 1) z (by omega) hz) (by simpa using hm)]
    congr 1
    omega
theorem idx_hit {α : Type} {p : α → Bool} {l : List α} {m : Nat} {z : α} (h : ∀ j z, j < m → l[j]? = some z → p z = false) (hz : l[m]? = some z) (hp : p z = true) : idxI p l = m := by
  have hm := (List.getElem?_eq_some_iff.1 hz).1
  unfold idxI
  rw [idxFrom_skip l 0 m h (by omega), List.drop_eq_getElem_cons hm, idxFrom, if_pos]
  · simp
  · have := (List.getElem?_eq_some_iff.1 hz).2
    rw [this]; exact hp
theorem idx_none {α : Type} {p : α → Bool} {l : List α} {m : Nat} (h : ∀ j z, j < m → l[j]? = some z → p z = false) (hm : l.length = m) : idxI p l = -1 := by
  unfold idxI
  rw [idxFrom_skip l 0 m h (by omega), ← hm, List.drop_length]
  rfl
theorem idx_any {α : Type} {p : α → Bool} {l : List α} : decide (0 ≤ idxI p l) = l.any p := by
  have key : ∀ (l : List α) (n : Nat), decide (0 ≤ idxFrom p l n) = l.any p := by
    intro l
    induction l with
    | nil => intro n; rfl
    | cons x l ih =>
      intro n
      rw [idxFrom, List.any_cons]
      cases hx : p x
      · rw [if_neg (by simp), ih]; rfl
      · rw [if_pos rfl]; simp
  exact key l 0
theorem no_step {α : Type} {p : α → Bool} {l : List α} {m n : Nat} {z : α} (h : ∀ j z, j < m → l[j]? = some z → p z = false) (hz : l[n]? = some z) (e : n = m) (hp : p z = false) : ∀ j z, j < m + 1 → l[j]? = some z → p z = false := by
  intro j x hj hx
  by_cases q : j < m
  · exact h j x q hx
  · obtain rfl : j = m := by omega
    subst e
    rw [hz] at hx
    cases hx
    exact hp
end Go.Eng
