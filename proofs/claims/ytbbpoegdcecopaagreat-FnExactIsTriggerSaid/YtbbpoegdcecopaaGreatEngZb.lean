/- Models: sorted lists without repetitions. -/
import Derived.Test.YtbbpoegdcecopaaGreatEngZa
set_option linter.unusedVariables false
set_option linter.unusedSimpArgs false
namespace Go.Eng
open Go Go.RowKit
/-! ### neighbours that are equal, once each -/
def compactI : List Int → List Int
  | [] => []
  | [x] => [x]
  | x :: y :: l => if x = y then compactI (y :: l) else x :: compactI (y :: l)
theorem compactI_snoc : ∀ (l : List Int) (x y : Int), compactI (l ++ [x, y]) = if x = y then compactI (l ++ [x]) else compactI (l ++ [x]) ++ [y]
  | [], x, y => by
    simp only [List.nil_append, compactI]
    split <;> simp_all
  | [a], x, y => by
    simp only [List.singleton_append, compactI]
    split <;> split <;> simp_all [compactI]
  | a :: b :: l, x, y => by
    have := compactI_snoc (b :: l) x y
    simp only [List.cons_append] at this ⊢
    simp only [compactI]
    rw [this]
    split <;> split <;> simp_all
theorem compactI_step {l : List Int} {j : Nat} {x y : Int} (h1 : l[j]? = some x) (h2 : l[j + 1]? = some y) : compactI (l.take (j + 2)) = if x = y then compactI (l.take (j + 1)) else compactI (l.take (j + 1)) ++ [y] := by
  rw [List.take_add_one, List.take_add_one, h1, h2]
  simp only [Option.toList_some, List.append_assoc, List.singleton_append]
  exact compactI_snoc _ x y
theorem compactI_len (l : List Int) : (compactI l).length ≤ l.length := by
  match l with
  | [] => simp [compactI]
  | [x] => simp [compactI]
  | x :: y :: l =>
    have := compactI_len (y :: l)
    unfold compactI
    split <;> simp_all <;> omega
theorem compactI_mem (l : List Int) (z : Int) : z ∈ compactI l ↔ z ∈ l := by
  match l with
  | [] => simp [compactI]
  | [x] => simp [compactI]
  | x :: y :: l =>
    have := compactI_mem (y :: l) z
    unfold compactI
    split
    · rename_i e
      subst e
      rw [this]
      simp
    · simp only [List.mem_cons] at this ⊢
      rw [this]
theorem compactI_sorted (l : List Int) (h : l.Pairwise (· ≤ ·)) : (compactI l).Pairwise (· < ·) := by
  match l, h with
  | [], _ => simp [compactI]
  | [x], _ => simp [compactI]
  | x :: y :: l, h =>
    have h' := List.pairwise_cons.1 h
    have := compactI_sorted (y :: l) h'.2
    unfold compactI
    split
    · exact this
    · rename_i e
      refine List.pairwise_cons.2 ⟨fun z hz => ?_, this⟩
      rw [compactI_mem] at hz
      have h1 := h'.1 y (by simp)
      rcases List.mem_cons.1 hz with rfl | hz
      · omega
      · have := (List.pairwise_cons.1 h'.2).1 z hz
        omega
/-! ### put in its place, unless it is there -/
def putI : List Int → Int → List Int
  | [], x => [x]
  | y :: l, x => if y < x then y :: putI l x else if y = x then y :: l else x :: y :: l
theorem putI_mem : ∀ (l : List Int) (x z : Int), z ∈ putI l x ↔ z = x ∨ z ∈ l
  | [], x, z => by simp [putI]
  | y :: l, x, z => by
    have := putI_mem l x z
    unfold putI
    split
    · simp only [List.mem_cons, this]
      constructor
      · rintro (h | h | h) <;> simp [h]
      · rintro (h | h | h) <;> simp [h]
    · split
      · rename_i e
        subst e
        simp
      · simp
theorem putI_sorted : ∀ (l : List Int) (x : Int), l.Pairwise (· < ·) → (putI l x).Pairwise (· < ·)
  | [], x, _ => by simp [putI]
  | y :: l, x, h => by
    have h' := List.pairwise_cons.1 h
    unfold putI
    split
    · rename_i hyx
      refine List.pairwise_cons.2 ⟨fun z hz => ?_, putI_sorted l x h'.2⟩
      rw [putI_mem] at hz
      rcases hz with rfl | hz
      · exact hyx
      · exact h'.1 z hz
    · split
      · exact h
      · refine List.pairwise_cons.2 ⟨fun z hz => ?_, h⟩
        rcases List.mem_cons.1 hz with rfl | hz
        · omega
        · have := h'.1 z hz
          omega
theorem putI_len (l : List Int) (x : Int) : (putI l x).length ≤ l.length + 1 := by
  induction l with
  | nil => simp [putI]
  | cons y l ih =>
    unfold putI
    split
    · simp; omega
    · split <;> simp
/-- A list's numbers in ascending order, each once. -/
def setI (l : List Int) : List Int := l.foldl putI []
theorem setI_snoc (l : List Int) (x : Int) : setI (l ++ [x]) = putI (setI l) x := by simp [setI]
theorem foldl_putI (l : List Int) : ∀ (b : List Int), b.Pairwise (· < ·) → ((l.foldl putI b).Pairwise (· < ·) ∧ ∀ z, z ∈ l.foldl putI b ↔ z ∈ b ∨ z ∈ l) := by
  induction l with
  | nil => intro b hb; simp [hb]
  | cons x l ih =>
    intro b hb
    obtain ⟨h1, h2⟩ := ih (putI b x) (putI_sorted b x hb)
    refine ⟨h1, fun z => ?_⟩
    show z ∈ l.foldl putI (putI b x) ↔ _
    rw [h2, putI_mem]
    simp only [List.mem_cons]
    constructor
    · rintro ((h | h) | h) <;> simp [h]
    · rintro (h | h | h) <;> simp [h]
theorem setI_sorted (l : List Int) : (setI l).Pairwise (· < ·) := (foldl_putI l [] (by simp)).1
theorem setI_mem (l : List Int) (z : Int) : z ∈ setI l ↔ z ∈ l := by
  have := (foldl_putI l [] (by simp)).2 z
  simpa [setI] using this
theorem setI_len (l : List Int) : (setI l).length ≤ l.length := by
  have key : ∀ (l b : List Int), (l.foldl putI b).length ≤ b.length + l.length := by
    intro l
    induction l with
    | nil => intro b; simp
    | cons x l ih =>
      intro b
      have h1 := ih (putI b x)
      have h2 := putI_len b x
      simp only [List.foldl_cons, List.length_cons]
      omega
  simpa [setI] using key l []
theorem strict_ext : ∀ (a b : List Int), a.Pairwise (· < ·) → b.Pairwise (· < ·) → (∀ z, z ∈ a ↔ z ∈ b) → a = b
  | [], [], _, _, _ => rfl
  | [], y :: b, _, _, h => by have := (h y).2 (by simp); simp at this
  | x :: a, [], _, _, h => by have := (h x).1 (by simp); simp at this
  | x :: a, y :: b, ha, hb, h => by
    have ha' := List.pairwise_cons.1 ha
    have hb' := List.pairwise_cons.1 hb
    have hxy : x = y := by
      rcases List.mem_cons.1 ((h x).1 (by simp)) with e | e
      · exact e
      · rcases List.mem_cons.1 ((h y).2 (by simp)) with e' | e'
        · exact e'.symm
        · have := hb'.1 x e
          have := ha'.1 y e'
          omega
    subst hxy
    rw [strict_ext a b ha'.2 hb'.2 fun z => ?_]
    have := h z
    simp only [List.mem_cons] at this
    constructor
    · intro hz
      rcases this.1 (.inr hz) with e | e
      · subst e; have := ha'.1 z hz; omega
      · exact e
    · intro hz
      rcases this.2 (.inr hz) with e | e
      · subst e; have := hb'.1 z hz; omega
      · exact e
theorem compact_set {ys xs : List Int} (hs : ys.Pairwise (· ≤ ·)) (hp : ys.Perm xs) : compactI ys = setI xs :=
  strict_ext _ _ (compactI_sorted ys hs) (setI_sorted xs) fun z => by rw [compactI_mem, setI_mem]; exact hp.mem_iff
/-! ### sorted -/
def sortI (l : List Int) : List Int := l.mergeSort (fun a b => decide (a ≤ b))
theorem sortI_perm (l : List Int) : (sortI l).Perm l := List.mergeSort_perm l _
theorem sortI_sorted (l : List Int) : (sortI l).Pairwise (· ≤ ·) := by
  have := List.pairwise_mergeSort (le := fun a b : Int => decide (a ≤ b)) (fun a b c h1 h2 => by simp at *; omega) (fun a b => by simp; omega) l
  exact this.imp (fun h => by simpa using h)
theorem sorted_perm_ext : ∀ (a b : List Int), a.Pairwise (· ≤ ·) → b.Pairwise (· ≤ ·) → a.Perm b → a = b
  | [], b, _, _, h => by rw [List.nil_perm.1 h]
  | x :: a, [], _, _, h => by simp at h
  | x :: a, y :: b, ha, hb, h => by
    have ha' := List.pairwise_cons.1 ha
    have hb' := List.pairwise_cons.1 hb
    have hxy : x = y := by
      have h1 := h.mem_iff (a := x)
      have h2 := h.mem_iff (a := y)
      simp only [List.mem_cons, true_or, true_iff, iff_true] at h1 h2
      rcases h1 with e | e
      · exact e
      · rcases h2 with e' | e'
        · exact e'.symm
        · have := hb'.1 x e
          have := ha'.1 y e'
          omega
    subst hxy
    rw [sorted_perm_ext a b ha'.2 hb'.2 ((List.perm_cons x).1 h)]
theorem sortI_of {a xs : List Int} (hs : a.Pairwise (· ≤ ·)) (hp : a.Perm xs) : a = sortI xs := sorted_perm_ext _ _ hs (sortI_sorted xs) (hp.trans (sortI_perm xs).symm)
theorem sortI_len (l : List Int) : (sortI l).length = l.length := (sortI_perm l).length_eq
theorem compact_sort (l : List Int) : compactI (sortI l) = setI l := compact_set (sortI_sorted l) (sortI_perm l)
end Go.Eng
