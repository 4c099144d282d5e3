/- The engine, part L: encoders and small facts. -/
import Derived.Test.YtbbpoegdcecopaaGreatEngK
set_option linter.unusedVariables false
set_option linter.unusedSimpArgs false
namespace Go.Eng
open Go Go.RowKit

theorem at_get {α : Type} {xs : List α} {n : Int} (h0 : 0 ≤ n) (h1 : n < xs.length) : ∃ z, xs[n.toNat]? = some z ∧ 0 ≤ n := ⟨xs[n.toNat]'(by omega), List.getElem?_eq_getElem (by omega), h0⟩
theorem at_lt {α : Type} {xs : List α} {n : Int} {z : α} (h0 : 0 ≤ n) (h : xs[n.toNat]? = some z) : n < xs.length := by
  have := (List.getElem?_eq_some_iff.1 h).1
  omega
theorem eqI {k : IntKind} {a b : Int} (h : a = b) : some (sc (.int k a)) = some (sc (.int k b)) := by rw [h]
theorem eqR {α : Type} {pn : Option Value} {e : Nat} {deep : Bool} {sz : Nat} {enc : α → Nat → T} {a b : List α} (h : a = b) : some (Ob.row pn e deep sz enc a) = some (Ob.row pn e deep sz enc b) := by rw [h]
theorem wr64 {x : Int} (h1 : -9223372036854775808 ≤ x) (h2 : x ≤ 9223372036854775807) : IntKind.i64.wrap x = x := by rw [IntKind.wrap_i64]; omega
theorem wrS {m : Nat} (h : m < 4611686018427387904) : IntKind.i64.wrap ((m : Int) + 1) = ((m + 1 : Nat) : Int) := by rw [wr64 (by omega) (by omega)]; rfl
theorem t_loopL {cx : Cx} {s : St} {k : List Item} {R : Ending → World → Prop} {ι : Type} {c : Code} (st : ι → St) (I : ι → Prop) (μ : ι → Nat) (x : ι) (hle : Le s (st x)) (hx : I x)
    (round : ∀ x, I x → (∀ y, μ y < μ x → I y → Wt cx (st y) (.inLoop c :: k) R) → Wt cx (st x) (.code c :: .inLoop c :: k) R) : Wt cx s (.code (.loop c) :: k) R := t_le hle (t_loop st I μ round x hx)
theorem fill_set {α : Type} {l : List α} {m : Nat} {z d : α} (h : l[m]? = some z) : (l.take m ++ List.replicate (l.length - m) d).set m z = l.take (m + 1) ++ List.replicate (l.length - (m + 1)) d := by
  have hm := (List.getElem?_eq_some_iff.1 h).1
  apply List.ext_getElem?
  intro j
  rw [List.getElem?_set]
  by_cases e : m = j
  · subst e
    rw [if_pos rfl, if_pos (by simp; omega), List.getElem?_append_left (by simp; omega), List.getElem?_take, if_pos (by omega), h]
  · rw [if_neg e]
    by_cases h1 : j < m
    · rw [List.getElem?_append_left (by simp; omega), List.getElem?_append_left (by simp; omega), List.getElem?_take, List.getElem?_take, if_pos h1, if_pos (by omega)]
    · rw [List.getElem?_append_right (by simp; omega), List.getElem?_append_right (by simp; omega)]
      simp only [List.length_take, List.getElem?_replicate]
      split <;> split <;> first | rfl | (exfalso; omega)
theorem take_same {α : Type} {a b : List α} {m : Nat} (h : a.take m = b.take m) (h2 : a[m]? = b[m]?) : a.take (m + 1) = b.take (m + 1) := by rw [List.take_add_one, List.take_add_one, h, h2]
theorem ne_at {α : Type} {a b : List α} {n : Nat} {x y : α} (h1 : a[n]? = some x) (h2 : b[n]? = some y) (h : x ≠ y) : a ≠ b := by
  rintro rfl
  rw [h1] at h2
  exact h (Option.some.inj h2)
/-- a, a + 1, ..: n numbers. -/
def seqI (a : Int) : Nat → List Int
  | 0 => []
  | n + 1 => a :: seqI (a + 1) n
theorem seqI_length (a : Int) (n : Nat) : (seqI a n).length = n := by
  induction n generalizing a with
  | zero => rfl
  | succ n ih => simp [seqI, ih]
theorem seqI_snoc (a : Int) (n : Nat) : seqI a (n + 1) = seqI a n ++ [a + n] := by
  induction n generalizing a with
  | zero => simp [seqI]
  | succ n ih =>
    rw [seqI, ih (a + 1)]
    simp [seqI]
    omega
theorem seq_set {l : List Int} {a z : Int} {m : Nat} (h : m < l.length) : (seqI a m ++ l.drop m).set m (a + m) = seqI a (m + 1) ++ l.drop (m + 1) := by
  rw [List.set_append_right _ _ (by rw [seqI_length]; exact Nat.le_refl _), seqI_length, Nat.sub_self, List.drop_eq_getElem_cons h, List.set_cons_zero, seqI_snoc, List.append_assoc]
  rfl
theorem held_step {l : List Int} {k z : Int} {m n : Nat} (h : l.take m = seqI k m) (hz : l[n]? = some z) (e : n = m) (hk : z = k + m) : l.take (m + 1) = seqI k (m + 1) := by
  subst e
  rw [List.take_add_one, h, seqI_snoc, hz, hk]
  rfl
theorem held_ne {l : List Int} {k z : Int} {m n : Nat} (h : l.take m = seqI k m) (hz : l[n]? = some z) (hne : z ≠ k + n) : l ≠ seqI k l.length := by
  intro e
  have hn := (List.getElem?_eq_some_iff.1 hz).1
  have key : ∀ (j : Nat) (k : Int) (i : Nat), i < j → (seqI k j)[i]? = some (k + i) := by
    intro j
    induction j with
    | zero => intro k i h; omega
    | succ j ih =>
      intro k i h
      cases i with
      | zero => simp [seqI]
      | succ i =>
        simp only [seqI, List.getElem?_cons_succ]
        rw [ih (k + 1) i (by omega)]
        congr 1
        omega
  rw [e, key _ k n hn] at hz
  exact hne (Option.some.inj hz).symm
theorem scB {a b : Bool} (h : a = b) : AV.c (.t none (.v (.bool a))) = .c (.t none (.v (.bool b))) := by rw [h]
theorem scD {p q : Prop} [Decidable p] [Decidable q] (h : p ↔ q) : AV.c (.t none (.v (.bool (decide p)))) = .c (.t none (.v (.bool (decide q)))) := scB (decide_eq_decide.2 h)
theorem scTrue {q : Prop} [Decidable q] (h : q) : AV.c (.t none (.v (.bool true))) = .c (.t none (.v (.bool (decide q)))) := scB (decide_eq_true h).symm
theorem scFalse {q : Prop} [Decidable q] (h : ¬ q) : AV.c (.t none (.v (.bool false))) = .c (.t none (.v (.bool (decide q)))) := scB (decide_eq_false h).symm
theorem scI {k : IntKind} {a b : Int} (h : a = b) : AV.c (.t none (.v (.int k a))) = .c (.t none (.v (.int k b))) := by rw [h]
theorem wr_lo (x : Int) : -9223372036854775808 ≤ IntKind.i64.wrap x := by rw [IntKind.wrap_i64]; omega
theorem wr_hi (x : Int) : IntKind.i64.wrap x ≤ 9223372036854775807 := by rw [IntKind.wrap_i64]; omega
/-- Numbers. -/
def encI : Int → Nat → T := fun n _ => .v (.int .i64 n)
end Go.Eng
