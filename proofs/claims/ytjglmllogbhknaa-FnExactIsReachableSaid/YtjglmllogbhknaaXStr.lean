/- The order of strings, as the walk asks of it. -/
import Derived.Calls
import GoSem.Op.String
namespace Go.Proofs.YtjglmllogbhknaaX
set_option linter.unusedVariables false
set_option linter.unusedSimpArgs false
theorem bl_irrefl : ∀ x : List UInt8, Op.bytesLess x x = false
  | [] => rfl
  | a :: x => by simp [Op.bytesLess, bl_irrefl x]
theorem bl_asymm : ∀ x y : List UInt8, Op.bytesLess x y = true → Op.bytesLess y x = false
  | x, [] => fun h => by cases x <;> simp [Op.bytesLess] at h
  | [], b :: y => fun _ => rfl
  | a :: x, b :: y => fun h => by
    simp only [Op.bytesLess, Bool.or_eq_true, Bool.and_eq_true, decide_eq_true_eq, beq_iff_eq] at h
    rcases h with h | ⟨rfl, h⟩
    · have h1 : ¬ b < a := by simp only [UInt8.lt_iff_toNat_lt] at h ⊢; omega
      have h2 : ¬ b = a := by rintro rfl; simp [UInt8.lt_iff_toNat_lt] at h
      simp [Op.bytesLess, h1, h2]
    · simp [Op.bytesLess, bl_asymm x y h, UInt8.lt_iff_toNat_lt]
theorem bl_total : ∀ x y : List UInt8, Op.bytesLess y x = false → Op.bytesLess x y = true ∨ x = y
  | [], [] => fun _ => .inr rfl
  | [], _ :: _ => fun _ => .inl rfl
  | a :: x, [] => fun h => by simp [Op.bytesLess] at h
  | a :: x, b :: y => fun h => by
    simp only [Op.bytesLess, Bool.or_eq_false_iff, decide_eq_false_iff_not] at h
    by_cases he : a = b
    · subst he
      have h2 : Op.bytesLess y x = false := by simpa using h.2
      rcases bl_total x y h2 with h3 | rfl
      · exact .inl (by simp [Op.bytesLess, h3])
      · exact .inr rfl
    · have h1 : a < b := by
        have h3 := h.1
        have h4 : a.toNat ≠ b.toNat := fun z => he (UInt8.toNat_inj.1 z)
        simp only [UInt8.lt_iff_toNat_lt] at h3 ⊢
        omega
      exact .inl (by simp [Op.bytesLess, h1])
theorem bl_neither (x y : List UInt8) (h : Op.bytesLess y x = true) : ¬ (Op.bytesLess x y = true ∨ x = y) := by
  rintro (h1 | rfl)
  · rw [bl_asymm _ _ h] at h1; cases h1
  · rw [bl_irrefl] at h; cases h
theorem bl_neitherB (x y : List UInt8) (h : Op.bytesLess y x = true) : (Op.bytesLess x y || x == y) = false := by
  have := bl_neither x y h
  simpa using this
theorem bl_totalB (x y : List UInt8) (h : Op.bytesLess y x = false) : (Op.bytesLess x y || x == y) = true := by
  have := bl_total x y h
  simpa using this
end Go.Proofs.YtjglmllogbhknaaX
