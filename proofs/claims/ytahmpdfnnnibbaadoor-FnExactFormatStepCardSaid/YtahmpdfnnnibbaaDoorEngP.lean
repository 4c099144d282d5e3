/- Models: texts of atoms, dependencies, positions. -/
import Derived.Test.YtahmpdfnnnibbaaDoorEngO
set_option linter.unusedVariables false
set_option linter.unusedSimpArgs false
namespace Go.Eng
open Go Go.RowKit Go.Proofs
theorem scS {a b : List UInt8} (h : a = b) : AV.c (.t none (.v (.string (mkS a)))) = .c (.t none (.v (.string (mkS b)))) := by rw [h]
theorem eqS {a b : List UInt8} (h : a = b) : some (sc (.string (mkS a))) = some (sc (.string (mkS b))) := by rw [h]
theorem joinTail_snoc {sep : List UInt8} {l : List (List UInt8)} {m : Nat} {x : List UInt8} (h : l[m]? = some x) : Lib.joinTail sep (l.take (m + 1)) = Lib.joinTail sep (l.take m) ++ (sep ++ x) := by
  unfold Lib.joinTail
  rw [List.take_add_one, h]
  simp
theorem join_step {sep : List UInt8} {l : List (List UInt8)} {m : Nat} {x : List UInt8} (h : l[m]? = some x) : Lib.join (l.take (m + 1)) sep = if m = 0 then x else Lib.join (l.take m) sep ++ sep ++ x := by
  cases l with
  | nil => simp at h
  | cons a r =>
    cases m with
    | zero =>
      obtain rfl : a = x := by simpa using h
      rw [if_pos rfl]
      simp [Lib.join_one]
    | succ k =>
      rw [if_neg (by omega), List.take_succ_cons, Lib.join_cons, joinTail_snoc (by simpa using h), List.take_succ_cons, Lib.join_cons]
      simp [List.append_assoc]
theorem joinTail_len {sep : List UInt8} {B : Nat} : ∀ {l : List (List UInt8)}, (∀ x ∈ l, x.length ≤ B) → (Lib.joinTail sep l).length ≤ (sep.length + B) * l.length
  | [], h => by simp [Lib.joinTail]
  | a :: r, h => by
    have h1 := joinTail_len (sep := sep) (l := r) fun x hx => h x (List.mem_cons_of_mem _ hx)
    have h2 := h a List.mem_cons_self
    unfold Lib.joinTail at h1 ⊢
    simp only [List.map_cons, List.flatten_cons, List.length_append, List.length_cons, Nat.mul_add] at h1 ⊢
    omega
theorem join_len {sep : List UInt8} {B : Nat} {l : List (List UInt8)} (h : ∀ x ∈ l, x.length ≤ B) : (Lib.join l sep).length ≤ (sep.length + B) * l.length := by
  cases l with
  | nil => simp [Lib.join_nil]
  | cons a r =>
    rw [Lib.join_cons, List.length_append, List.length_cons, Nat.mul_add]
    have h1 := joinTail_len (sep := sep) (l := r) fun x hx => h x (List.mem_cons_of_mem _ hx)
    have h2 := h a List.mem_cons_self
    omega
theorem digs_len1 {q : Nat} (h : q < 100) : (digs q).length ≤ 2 := by
  rcases Nat.eq_zero_or_pos q with rfl | h0
  · simp [digs]
  · rw [digs_step h0]
    rcases Nat.eq_zero_or_pos (q / 10) with h1 | h1
    · rw [h1]; simp [digs]
    · rw [digs_step h1]
      have : q / 10 / 10 = 0 := by omega
      rw [this]
      simp [digs]
theorem fmtN_len {n : Int} (h : n < 100) : (fmtN n).length ≤ 2 := by
  unfold fmtN
  split
  · simp
  · exact digs_len1 (by omega)
def fmtA (rs : Rels) (a : Int × List Int) : List UInt8 := if atomOk rs a.1 a.2 = true then (rs.getD a.1.toNat ([], 0, false)).1 ++ a.2.flatMap fmtT else []
def fmtAs (rs : Rels) (l : Atoms) : List UInt8 := Lib.join (l.map (fmtA rs)) [32]
def fmtD (rs : Rels) (d : Dep) : List UInt8 := if depOk rs d.1 d.2.1 d.2.2.1 d.2.2.2.1 d.2.2.2.2 = true then (if d.2.2.1 = true then fmtAs rs d.1 ++ [61] ++ fmtT d.2.2.2.1 ++ fmtT d.2.2.2.2 else fmtAs rs d.1 ++ [62] ++ fmtAs rs d.2.1) else []
def fmtDs (rs : Rels) (ds : List Dep) : List UInt8 := if depsOk rs ds = true then Lib.join (ds.map (fmtD rs)) [59] else []
theorem mapT_step {α β : Type} {f : α → β} {l : List α} {m : Nat} {z : α} (h : l[m]? = some z) : (l.take m).map f ++ [f z] = (l.take (m + 1)).map f := by
  rw [List.take_add_one, h]
  simp
theorem mapT_len {α : Type} {f : α → List UInt8} {B : Nat} (hf : ∀ x, (f x).length ≤ B) (l : List α) (m : Nat) (sep : List UInt8) : (Lib.join ((l.take m).map f) sep).length ≤ (sep.length + B) * l.length := by
  have h1 := join_len (sep := sep) (B := B) (l := (l.take m).map f) fun x hx => by
    obtain ⟨y, _, rfl⟩ := List.mem_map.1 hx
    exact hf y
  refine Nat.le_trans h1 (Nat.mul_le_mul_left _ ?_)
  rw [List.length_map, List.length_take]
  omega
theorem joinT_step {α : Type} {f : α → List UInt8} {l : List α} {m : Nat} {z : α} {sep : List UInt8} (h : l[m]? = some z) (hm : 0 < m) : (Lib.join ((l.take m).map f) sep ++ sep) ++ f z = Lib.join ((l.take (m + 1)).map f) sep := by
  have h1 : (l.map f)[m]? = some (f z) := by rw [List.getElem?_map, h]; rfl
  have h2 := join_step (sep := sep) h1
  rw [if_neg (by omega), ← List.map_take, ← List.map_take] at h2
  rw [h2]
theorem joinT_step0 {α : Type} {f : α → List UInt8} {l : List α} {m : Nat} {z : α} {sep : List UInt8} (h : l[m]? = some z) (hm : ¬ 0 < m) : Lib.join ((l.take m).map f) sep ++ f z = Lib.join ((l.take (m + 1)).map f) sep := by
  obtain rfl : m = 0 := by omega
  have h1 : (l.map f)[0]? = some (f z) := by rw [List.getElem?_map, h]; rfl
  have h2 := join_step (sep := sep) h1
  rw [if_pos rfl, ← List.map_take] at h2
  rw [h2]
  rfl
section
variable {rs : Rels} {a0 a1 : Atoms} {a2 : Bool} {a3 a4 : Int}
end
/-! ### positions -/
def goP : Rels → Int → List UInt8
  | [], _ => []
  | x :: r, p => if x.2.1 ≤ p then goP r (p - x.2.1) else x.1 ++ fmtN p
def posT (rs : Rels) (p : Int) : List UInt8 := if 0 ≤ p ∧ p ≤ cntP rs - 1 then goP rs p else []
section
variable {rs : Rels} {p q i : Int} {m : Nat} {z : List UInt8 × Int × Bool}
/-- What the specification has looked at: nothing fits up to here. -/
def lowP (rs : Rels) (p : Int) (m : Nat) (i : Int) : Prop := p < 0 ∨ relsOk rs = false ∨ sumA (rs.take m) + i ≤ p ∨ sumA (rs.take (m + 1)) ≤ p
end
section
variable {rs : Rels} {ds : List Dep} {m : Nat}
def fmtW (rs : Rels) (ds : List Dep) : List UInt8 := if depsOk rs ds = true then (if spcF rs ds = true then posT rs (spcE rs ds).1 ++ [62] ++ posT rs (spcE rs ds).2.1 else [111, 107]) else []
end
end Go.Eng
