/- The program's PositionIndex answers what the reference's answers, at all relations and numbers. -/
import Derived.Test.YtjglmllogbhknaaPFnExactPositionIndexo
namespace Go.Proofs.Ytjglmllogbhknaa.Pure
open Go.RowKit Go.Proofs.Ytjglmllogbhknaa.PFnExactPositionIndex Go.Proofs.YtjglmllogbhknaaX Go.Proofs.YtjglmllogbhknaaW.PrintWords Go.Proofs.YtjglmllogbhknaaW.PrintLast
set_option linter.unusedVariables false
set_option linter.unusedSimpArgs false

theorem wr_id {x : Int} (h1 : -9223372036854775808 ≤ x) (h2 : x ≤ 9223372036854775807) : wrap64 x = x := by unfold wrap64; omega
theorem wr_succ {m : Nat} (h : m < 4611686018427387904) : wrap64 ((m : Int) + 1) = ((m + 1 : Nat) : Int) := by unfold wrap64; omega
theorem wr_lo (x : Int) : -9223372036854775808 ≤ wrap64 x := by unfold wrap64; omega
theorem wr_hi (x : Int) : wrap64 x ≤ 9223372036854775807 := by unfold wrap64; omega
theorem Ev.c0 {α : Type} {g : Nat → Option α} {r : α} (h : ∀ k, g k = some r) : Ev g r := ⟨0, fun k _ => h k⟩
theorem Ev.c1 {α α1 : Type} {g : Nat → Option α} {r : α} {g1 : Nat → Option α1} {r1 : α1} (h1 : Ev g1 r1) (h : ∀ k, g1 k = some r1 → g k = some r) : Ev g r := by
  obtain ⟨K1, h1⟩ := h1
  exact ⟨K1, fun k hk => h k (h1 k (by omega))⟩
theorem Ev.c2 {α α1 α2 : Type} {g : Nat → Option α} {r : α} {g1 : Nat → Option α1} {r1 : α1} {g2 : Nat → Option α2} {r2 : α2} (h1 : Ev g1 r1) (h2 : Ev g2 r2) (h : ∀ k, g1 k = some r1 → g2 k = some r2 → g k = some r) : Ev g r := by
  obtain ⟨K1, h1⟩ := h1
  obtain ⟨K2, h2⟩ := h2
  exact ⟨max K1 K2, fun k hk => h k (h1 k (by omega)) (h2 k (by omega))⟩
theorem Ev.c3 {α α1 α2 α3 : Type} {g : Nat → Option α} {r : α} {g1 : Nat → Option α1} {r1 : α1} {g2 : Nat → Option α2} {r2 : α2} {g3 : Nat → Option α3} {r3 : α3} (h1 : Ev g1 r1) (h2 : Ev g2 r2) (h3 : Ev g3 r3) (h : ∀ k, g1 k = some r1 → g2 k = some r2 → g3 k = some r3 → g k = some r) : Ev g r := by
  obtain ⟨K1, h1⟩ := h1
  obtain ⟨K2, h2⟩ := h2
  obtain ⟨K3, h3⟩ := h3
  exact ⟨max K1 (max K2 K3), fun k hk => h k (h1 k (by omega)) (h2 k (by omega)) (h3 k (by omega))⟩
theorem Ev.c4 {α α1 α2 α3 α4 : Type} {g : Nat → Option α} {r : α} {g1 : Nat → Option α1} {r1 : α1} {g2 : Nat → Option α2} {r2 : α2} {g3 : Nat → Option α3} {r3 : α3} {g4 : Nat → Option α4} {r4 : α4} (h1 : Ev g1 r1) (h2 : Ev g2 r2) (h3 : Ev g3 r3) (h4 : Ev g4 r4) (h : ∀ k, g1 k = some r1 → g2 k = some r2 → g3 k = some r3 → g4 k = some r4 → g k = some r) : Ev g r := by
  obtain ⟨K', h'⟩ := h4
  obtain ⟨K, hK⟩ := Ev.c3 (g := fun k => if K' ≤ k then g k else some r) (r := r) h1 h2 h3 fun k a1 a2 a3 => by
    split
    · exact h k a1 a2 a3 (h' k ‹_›)
    · rfl
  refine ⟨max K K', fun k hk => ?_⟩
  have hk' : (if K' ≤ k then g k else some r) = some r := hK k (by omega)
  rwa [if_pos (by omega)] at hk'
theorem Ev.c5 {α α1 α2 α3 α4 α5 : Type} {g : Nat → Option α} {r : α} {g1 : Nat → Option α1} {r1 : α1} {g2 : Nat → Option α2} {r2 : α2} {g3 : Nat → Option α3} {r3 : α3} {g4 : Nat → Option α4} {r4 : α4} {g5 : Nat → Option α5} {r5 : α5} (h1 : Ev g1 r1) (h2 : Ev g2 r2) (h3 : Ev g3 r3) (h4 : Ev g4 r4) (h5 : Ev g5 r5) (h : ∀ k, g1 k = some r1 → g2 k = some r2 → g3 k = some r3 → g4 k = some r4 → g5 k = some r5 → g k = some r) : Ev g r := by
  obtain ⟨K', h'⟩ := h5
  obtain ⟨K, hK⟩ := Ev.c4 (g := fun k => if K' ≤ k then g k else some r) (r := r) h1 h2 h3 h4 fun k a1 a2 a3 a4 => by
    split
    · exact h k a1 a2 a3 a4 (h' k ‹_›)
    · rfl
  refine ⟨max K K', fun k hk => ?_⟩
  have hk' : (if K' ≤ k then g k else some r) = some r := hK k (by omega)
  rwa [if_pos (by omega)] at hk'
theorem Ev.c6 {α α1 α2 α3 α4 α5 α6 : Type} {g : Nat → Option α} {r : α} {g1 : Nat → Option α1} {r1 : α1} {g2 : Nat → Option α2} {r2 : α2} {g3 : Nat → Option α3} {r3 : α3} {g4 : Nat → Option α4} {r4 : α4} {g5 : Nat → Option α5} {r5 : α5} {g6 : Nat → Option α6} {r6 : α6} (h1 : Ev g1 r1) (h2 : Ev g2 r2) (h3 : Ev g3 r3) (h4 : Ev g4 r4) (h5 : Ev g5 r5) (h6 : Ev g6 r6) (h : ∀ k, g1 k = some r1 → g2 k = some r2 → g3 k = some r3 → g4 k = some r4 → g5 k = some r5 → g6 k = some r6 → g k = some r) : Ev g r := by
  obtain ⟨K', h'⟩ := h6
  obtain ⟨K, hK⟩ := Ev.c5 (g := fun k => if K' ≤ k then g k else some r) (r := r) h1 h2 h3 h4 h5 fun k a1 a2 a3 a4 a5 => by
    split
    · exact h k a1 a2 a3 a4 a5 (h' k ‹_›)
    · rfl
  refine ⟨max K K', fun k hk => ?_⟩
  have hk' : (if K' ≤ k then g k else some r) = some r := hK k (by omega)
  rwa [if_pos (by omega)] at hk'
theorem Ev.c7 {α α1 α2 α3 α4 α5 α6 α7 : Type} {g : Nat → Option α} {r : α} {g1 : Nat → Option α1} {r1 : α1} {g2 : Nat → Option α2} {r2 : α2} {g3 : Nat → Option α3} {r3 : α3} {g4 : Nat → Option α4} {r4 : α4} {g5 : Nat → Option α5} {r5 : α5} {g6 : Nat → Option α6} {r6 : α6} {g7 : Nat → Option α7} {r7 : α7} (h1 : Ev g1 r1) (h2 : Ev g2 r2) (h3 : Ev g3 r3) (h4 : Ev g4 r4) (h5 : Ev g5 r5) (h6 : Ev g6 r6) (h7 : Ev g7 r7) (h : ∀ k, g1 k = some r1 → g2 k = some r2 → g3 k = some r3 → g4 k = some r4 → g5 k = some r5 → g6 k = some r6 → g7 k = some r7 → g k = some r) : Ev g r := by
  obtain ⟨K', h'⟩ := h7
  obtain ⟨K, hK⟩ := Ev.c6 (g := fun k => if K' ≤ k then g k else some r) (r := r) h1 h2 h3 h4 h5 h6 fun k a1 a2 a3 a4 a5 a6 => by
    split
    · exact h k a1 a2 a3 a4 a5 a6 (h' k ‹_›)
    · rfl
  refine ⟨max K K', fun k hk => ?_⟩
  have hk' : (if K' ≤ k then g k else some r) = some r := hK k (by omega)
  rwa [if_pos (by omega)] at hk'
theorem Ev.c8 {α α1 α2 α3 α4 α5 α6 α7 α8 : Type} {g : Nat → Option α} {r : α} {g1 : Nat → Option α1} {r1 : α1} {g2 : Nat → Option α2} {r2 : α2} {g3 : Nat → Option α3} {r3 : α3} {g4 : Nat → Option α4} {r4 : α4} {g5 : Nat → Option α5} {r5 : α5} {g6 : Nat → Option α6} {r6 : α6} {g7 : Nat → Option α7} {r7 : α7} {g8 : Nat → Option α8} {r8 : α8} (h1 : Ev g1 r1) (h2 : Ev g2 r2) (h3 : Ev g3 r3) (h4 : Ev g4 r4) (h5 : Ev g5 r5) (h6 : Ev g6 r6) (h7 : Ev g7 r7) (h8 : Ev g8 r8) (h : ∀ k, g1 k = some r1 → g2 k = some r2 → g3 k = some r3 → g4 k = some r4 → g5 k = some r5 → g6 k = some r6 → g7 k = some r7 → g8 k = some r8 → g k = some r) : Ev g r := by
  obtain ⟨K', h'⟩ := h8
  obtain ⟨K, hK⟩ := Ev.c7 (g := fun k => if K' ≤ k then g k else some r) (r := r) h1 h2 h3 h4 h5 h6 h7 fun k a1 a2 a3 a4 a5 a6 a7 => by
    split
    · exact h k a1 a2 a3 a4 a5 a6 a7 (h' k ‹_›)
    · rfl
  refine ⟨max K K', fun k hk => ?_⟩
  have hk' : (if K' ≤ k then g k else some r) = some r := hK k (by omega)
  rwa [if_pos (by omega)] at hk'
/-- A loop's round (or a join): one step more. -/
theorem Ev.up {α : Type} {g : Nat → Option α} {r : α} (h : Ev (fun k => g (k + 1)) r) : Ev g r := by
  obtain ⟨K, h⟩ := h
  refine ⟨K + 1, fun n hn => ?_⟩
  obtain ⟨m, rfl⟩ : ∃ m, n = m + 1 := ⟨n - 1, by omega⟩
  exact h m (by omega)
theorem Ev.pos {α : Type} {c : Prop} [Decidable c] {g f : Nat → Option α} {r : α} (hc : c) (h : Ev g r) : Ev (fun k => if c then g k else f k) r := by
  simpa only [if_pos hc] using h
theorem Ev.neg {α : Type} {c : Prop} [Decidable c] {g f : Nat → Option α} {r : α} (hc : ¬ c) (h : Ev f r) : Ev (fun k => if c then g k else f k) r := by
  simpa only [if_neg hc] using h
/-- The number at place m. -/
def gi (l : List Int) (m : Nat) : Int := l.getD m 0
theorem rd_get (xs : List Int) (m : Nat) : rd xs (m : Int) = gi xs m := rfl
theorem getD_mid {α : Type} (pre rest : List α) (x d : α) : (pre ++ x :: rest).getD pre.length d = x := by simp [List.getD]
theorem rd_mid (pre rest : List Int) (x : Int) : rd (pre ++ x :: rest) (pre.length : Int) = x := getD_mid pre rest x 0
theorem set_mid {α : Type} (pre rest : List α) (x y : α) : (pre ++ x :: rest).set pre.length y = (pre ++ [y]) ++ rest := by simp [List.set_append]
/-- a, a + 1, ..: n numbers. -/
def seqI (a : Int) : Nat → List Int
  | 0 => []
  | n + 1 => a :: seqI (a + 1) n
theorem seqI_length (a : Int) (n : Nat) : (seqI a n).length = n := by
  induction n generalizing a with
  | zero => rfl
  | succ n ih => simp [seqI, ih]
theorem within_eq (n lo hi : Int) : impl_within.f n lo hi = some (decide (lo ≤ n ∧ n ≤ hi)) := by
  by_cases h : lo ≤ n <;> simp [impl_within.f, h]
theorem l1In_eq (n lo hi : Int) : spec_l1In.f n lo hi = some (decide (lo ≤ n ∧ n ≤ hi)) := by
  by_cases h : lo ≤ n <;> simp [spec_l1In.f, h]
theorem getD_pre {α : Type} (pre rest : List α) (x d : α) : (pre ++ x :: rest).getD ((pre.length : Int)).toNat d = x := getD_mid pre rest x d
theorem len_pre {α : Type} (pre rest : List α) (x : α) : (pre.length : Int) < ((pre ++ x :: rest).length : Int) := by simp; omega
theorem len_end {α : Type} (pre : List α) : ¬ ((pre.length : Int) < ((pre ++ []).length : Int)) := by simp
theorem len_snoc {α : Type} (pre : List α) (x : α) : ((pre.length + 1 : Nat) : Int) = ((pre ++ [x]).length : Int) := by simp
theorem mid_snoc {α : Type} (pre rest : List α) (x : α) : pre ++ x :: rest = (pre ++ [x]) ++ rest := by simp
def toRel (x : S95) : S97 := ⟨x.f0, x.f1, x.f2⟩
theorem toRelS_l0 : ∀ (r p : List S95) (q : List S97), q.length = r.length → p.length + r.length < 4611686018427387904 → Ev (fun k => laws_toRelationS.l0 k (p ++ r) (p.map toRel ++ q) (p.length : Int)) ((p ++ r).map toRel) := by
  intro r
  induction r with
  | nil =>
    intro p q hq hb
    obtain rfl := List.eq_nil_of_length_eq_zero hq
    exact Ev.up (Ev.c0 fun k => by simp [laws_toRelationS.l0])
  | cons x r ih =>
    intro p q hq hb
    cases q with
    | nil => simp at hq
    | cons y q =>
      simp only [List.length_cons] at hq hb
      have e := wr_succ (m := p.length) (by omega)
      have i := ih (p ++ [x]) q (by omega) (by simp; omega)
      have h2 : (p.length : Int) < ((p.map toRel ++ y :: q).length : Int) := by simp; omega
      have hx : rd_T95 (p ++ x :: r) (p.length : Int) = x := getD_pre p r x _
      have hs : ((p.map toRel ++ y :: q).set ((p.length : Int)).toNat (toRel x)) = (p ++ [x]).map toRel ++ q := by
        rw [Int.toNat_natCast]; simp [List.set_append]
      refine Ev.up (Ev.c1 i fun k h => ?_)
      simp only [laws_toRelationS.l0]
      rw [if_pos (len_pre p r x), if_pos (by omega), hx, e]
      simp only [laws_toRelation.f, Option.bind_some]
      rw [if_pos h2]
      rw [← mid_snoc, ← hs, ← len_snoc] at h
      exact h
theorem toRelS_ev (l : List S95) (h : l.length ≤ 1048576) : Ev (fun k => laws_toRelationS.f k l) (l.map toRel) := by
  refine Ev.c1 (toRelS_l0 l [] (List.replicate l.length z97) (by simp) (by simp; omega)) fun k h => ?_
  simp only [laws_toRelationS.f]
  rw [if_pos (by omega), if_pos (by omega), Int.toNat_natCast]
  simpa using h
theorem eqRel_eq (x : S97) : laws_eqRelation.f x.f0 x.f1 x.f2 x.f0 x.f1 x.f2 = some true := by simp [laws_eqRelation.f]
theorem eqRelS_l0 : ∀ (r p : List S97), p.length + r.length < 4611686018427387904 → Ev (fun k => laws_eqRelationS.l0 k (p ++ r) (p ++ r) (p.length : Int)) true := by
  intro r
  induction r with
  | nil => exact fun p hb => Ev.up (Ev.c0 fun k => by simp [laws_eqRelationS.l0])
  | cons x r ih =>
    intro p hb
    simp only [List.length_cons] at hb
    have e := wr_succ (m := p.length) (by omega)
    have i := ih (p ++ [x]) (by simp; omega)
    have hx : rd_T97 (p ++ x :: r) (p.length : Int) = x := getD_pre p r x _
    refine Ev.up (Ev.c1 i fun k h => ?_)
    simp only [laws_eqRelationS.l0]
    rw [if_pos (len_pre p r x), if_pos (by omega), if_pos (len_pre p r x), hx, eqRel_eq, e]
    rw [← mid_snoc, ← len_snoc] at h
    simpa using h
theorem eqRelS_ev (l : List S97) (h : l.length ≤ 1048576) : Ev (fun k => laws_eqRelationS.f k l l) true := by
  refine Ev.c1 (eqRelS_l0 l [] (by simp; omega)) fun k h => ?_
  simp only [laws_eqRelationS.f, if_true]
  simpa using h
def wRels (l : List S95) : Nat := (l.map fun x => x.f0.size).sum
theorem szRelS_l0 : ∀ (r p : List S95) (a : Int), 0 ≤ a → a ≤ 1048576 → (∀ x ∈ r, okS x.f0) → p.length + r.length < 9223372036854775808 → ∃ s, Ev (fun k => laws_szRelationS.l0 k (p ++ r) a (p.length : Int)) s ∧ (s < 0 ∨ (s = a - wRels r ∧ 0 ≤ s)) := by
  intro r
  induction r with
  | nil => exact fun p a h0 h1 ho hb => ⟨a, Ev.up (Ev.c0 fun k => by simp [laws_szRelationS.l0]), .inr ⟨by simp [wRels], h0⟩⟩
  | cons x r ih =>
    intro p a h0 h1 ho hb
    simp only [List.length_cons] at hb
    have e : wrap64 ((p.length : Int) + 1) = ((p.length + 1 : Nat) : Int) := by rw [wr_id (by omega) (by omega)]; omega
    have hx : rd_T95 (p ++ x :: r) (p.length : Int) = x := getD_pre p r x _
    have hn := ho x (by simp)
    unfold okS at hn
    have ew : wrap64 (a - (x.f0.size : Int)) = a - x.f0.size := wr_id (by omega) (by omega)
    by_cases hc : a - (x.f0.size : Int) < 0
    · refine ⟨-1, Ev.up (Ev.c0 fun k => ?_), .inl (by omega)⟩
      simp only [laws_szRelationS.l0]
      rw [if_pos (len_pre p r x), if_pos (by omega), hx]
      simp [laws_szRelation.f, ew, hc]
    · obtain ⟨s, i, hs⟩ := ih (p ++ [x]) (a - x.f0.size) (by omega) (by omega) (fun y hy => ho y (by simp [hy])) (by simp; omega)
      refine ⟨s, Ev.up (Ev.c1 i fun k h => ?_), ?_⟩
      · simp only [laws_szRelationS.l0]
        rw [if_pos (len_pre p r x), if_pos (by omega), hx, e]
        rw [← mid_snoc, ← len_snoc] at h
        simp only [laws_szRelation.f, ew, if_neg hc, Option.bind_some]
        exact h
      · rcases hs with hs | ⟨hs, h2⟩
        · exact .inl hs
        · refine .inr ⟨?_, h2⟩
          simp [wRels] at hs ⊢
          omega
theorem szRelS_ev (l : List S95) (a : Int) (h0 : 0 ≤ a) (h1 : a ≤ 1048576) (hl : okL ok95 l) : ∃ s, Ev (fun k => laws_szRelationS.f k l a) s ∧ (s < 0 ∨ (s = a - l.length - wRels l ∧ 0 ≤ s)) := by
  have hb := hl.1
  have ew : wrap64 (a - (l.length : Int)) = a - l.length := wr_id (by omega) (by omega)
  by_cases hc : a - (l.length : Int) < 0
  · exact ⟨-1, Ev.c0 fun k => by simp [laws_szRelationS.f, ew, hc], .inl (by omega)⟩
  · obtain ⟨s, i, hs⟩ := szRelS_l0 l [] (a - l.length) (by omega) (by omega) (fun x hx => (hl.2 x hx).1) (by simp; omega)
    refine ⟨s, Ev.c1 i fun k h => ?_, hs⟩
    simp only [laws_szRelationS.f, ew]
    rw [if_neg hc]
    exact h
/-- The relations that are valid. -/
def vRel (x : S97) : Bool := decide (x.f0.size = 1 ∧ 97 ≤ bt x.f0 0 ∧ bt x.f0 0 ≤ 122 ∧ 1 ≤ x.f1 ∧ x.f1 ≤ 3)
/-- Are the relations from place i on valid, and each name greater than the one before? -/
def vRelsAt (l : List S97) (i : Nat) : Bool := vRel (l.getD i z97) && (decide (i = 0) || Op.bytesLess (l.getD (i - 1) z97).f0.toList (l.getD i z97).f0.toList)
def vRelsFrom (l : List S97) (i : Nat) : Prop := ∀ j, j < l.length → i ≤ j → vRelsAt l j = true
instance (l : List S97) (i : Nat) : Decidable (vRelsFrom l i) := inferInstanceAs (Decidable (∀ j, j < l.length → i ≤ j → vRelsAt l j = true))
def vRels (l : List S97) : Bool := decide (vRelsFrom l 0 ∧ l.length ≤ 6)
theorem vRelsFrom_end {l : List S97} {i : Nat} (h : l.length ≤ i) : vRelsFrom l i := fun j hj hi => by omega
theorem vRelsFrom_step {l : List S97} {i : Nat} (h : i < l.length) : vRelsFrom l i ↔ vRelsAt l i = true ∧ vRelsFrom l (i + 1) := by
  constructor
  · exact fun g => ⟨g i h (Nat.le_refl _), fun j hj hi => g j hj (by omega)⟩
  · rintro ⟨g, g2⟩ j hj hi
    rcases Nat.lt_or_eq_of_le hi with hlt | rfl
    · exact g2 j hj (by omega)
    · exact g
theorem toList_one (s : ByteArray) (h : s.size = 1) : ∃ c : UInt8, s.toList = [c] ∧ bt s 0 = c.toNat := by
  have h0 : (0 : Int).toNat < s.size := by rw [h]; decide
  refine ⟨s[(0 : Int).toNat]'h0, ?_, (bt_at s 0 h0).symm⟩
  rw [ByteArray.toList_eq]
  have hl : s.data.toList.length = 1 := by rw [Array.length_toList]; exact h
  apply List.ext_getElem
  · simp [hl]
  · intro i h1 h2
    have : i = 0 := by simp at h2; omega
    subst this
    rfl
theorem iIsValidRel_eq (x : S97) : impl_IsValidRelation.f x.f0 x.f1 x.f2 = some (vRel x) := by
  unfold vRel
  by_cases h : x.f0.size = 1
  · obtain ⟨c, hc, hb⟩ := toList_one x.f0 h
    have e1 : Op.bytesLess x.f0.toList [97] = decide (c < 97) := by rw [hc]; simp [Op.bytesLess]
    have e2 : Op.bytesLess [122] x.f0.toList = decide (122 < c) := by rw [hc]; simp [Op.bytesLess]
    simp only [impl_IsValidRelation.f, e1, e2, within_eq, Option.bind_some]
    rw [if_pos (by omega), hb]
    have k1 : (c < 97) ↔ (c.toNat : Int) < 97 := by rw [UInt8.lt_iff_toNat_lt]; simp; omega
    have k2 : (122 < c) ↔ (122 : Int) < (c.toNat : Int) := by rw [UInt8.lt_iff_toNat_lt]; simp; omega
    by_cases h1 : c < 97
    · have := k1.1 h1
      simp [h1]
      omega
    · by_cases h2 : 122 < c
      · have := k2.1 h2
        simp [h1, h2]
        omega
      · have n1 : ¬ ((c.toNat : Int) < 97) := fun z => h1 (k1.2 z)
        have n2 : ¬ ((122 : Int) < (c.toNat : Int)) := fun z => h2 (k2.2 z)
        simp only [h1, h2, decide_false]
        rw [if_neg (by simp), if_neg (by simp), Option.some_inj, decide_eq_decide]
        omega
  · simp only [impl_IsValidRelation.f]
    rw [if_neg (by omega)]
    simp [h]
theorem sIsValidRel_eq (x : S97) : spec_IsValidRelation.f x.f0 x.f1 x.f2 = some (vRel x) := by
  unfold vRel
  simp only [spec_IsValidRelation.f, l1In_eq, Option.bind_some]
  by_cases h : x.f0.size = 1
  · rw [if_pos (by omega), if_pos (by omega)]
    by_cases h1 : bt x.f0 0 ≥ 97
    · by_cases h2 : bt x.f0 0 ≤ 122
      · rw [if_pos h1, if_pos h2, Option.some_inj, decide_eq_decide]
        omega
      · rw [if_pos h1, if_neg h2, Option.some_inj]
        symm
        rw [decide_eq_false_iff_not]
        omega
    · rw [if_neg h1, Option.some_inj]
      symm
      rw [decide_eq_false_iff_not]
      omega
  · rw [if_neg (by omega)]
    simp [h]
theorem sAreValidRels_l0 (l : List S97) (hb : l.length ≤ 1048576) : ∀ (d i : Nat), i + d = l.length → Ev (fun k => spec_AreValidRelations.l0 k l (i : Int)) (decide (vRelsFrom l i ∧ l.length ≤ 6)) := by
  intro d
  induction d with
  | zero =>
    intro i hi
    refine Ev.up (Ev.c0 fun k => ?_)
    simp only [spec_AreValidRelations.l0]
    rw [if_neg (by omega)]
    have := vRelsFrom_end (l := l) (i := i) (by omega)
    simp only [this, true_and]
    rw [Option.some_inj, decide_eq_decide]
    omega
  | succ d ih =>
    intro i hi
    have g := ih (i + 1) (by omega)
    have e := wr_succ (m := i) (by omega)
    have hs := vRelsFrom_step (l := l) (i := i) (by omega)
    have h1 : (i : Int) < (l.length : Int) := by omega
    have h3 : (0 : Int) ≤ (i : Int) := by omega
    have hr : rd_T97 l (i : Int) = l.getD i z97 := rfl
    refine Ev.up (Ev.c1 g fun k h => ?_)
    simp only [spec_AreValidRelations.l0]
    rw [if_pos h1, if_pos h3, hr, sIsValidRel_eq, e, h]
    simp only [Option.bind_some]
    cases hv : vRel (l.getD i z97)
    · have : vRelsAt l i = false := by unfold vRelsAt; rw [hv]; rfl
      simp [hs, this]
    · rw [if_pos rfl]
      by_cases h0 : i = 0
      · have : vRelsAt l i = true := by unfold vRelsAt; rw [hv, h0]; rfl
        rw [if_neg (by omega)]
        simp [hs, this]
      · have ew : wrap64 ((i : Int) - 1) = ((i - 1 : Nat) : Int) := by rw [wr_id (by omega) (by omega)]; omega
        have hr2 : rd_T97 l ((i - 1 : Nat) : Int) = l.getD (i - 1) z97 := rfl
        rw [if_pos (by omega), ew, if_pos (by omega), if_pos (by omega), hr2]
        have hat : vRelsAt l i = Op.bytesLess (l.getD (i - 1) z97).f0.toList (l.getD i z97).f0.toList := by
          unfold vRelsAt; rw [hv]; simp [h0]
        rw [← hat]
        cases hb2 : vRelsAt l i
        · simp [hs, hb2]
        · simp [hs, hb2]
theorem sAreValidRels_ev (l : List S97) (hb : l.length ≤ 1048576) : Ev (fun k => spec_AreValidRelations.f k l) (vRels l) :=
  Ev.c1 (sAreValidRels_l0 l hb l.length 0 (by omega)) fun k h => h
theorem iAreValidRels_l0 (l : List S97) (hb : l.length ≤ 1048576) : ∀ (d i : Nat), i + d = l.length → Ev (fun k => impl_AreValidRelations.l0 k l l (l.length : Int) (i : Int)) (decide (vRelsFrom l i ∧ l.length ≤ 6)) := by
  intro d
  induction d with
  | zero =>
    intro i hi
    refine Ev.up (Ev.c0 fun k => ?_)
    simp only [impl_AreValidRelations.l0]
    rw [if_neg (by omega)]
    have := vRelsFrom_end (l := l) (i := i) (by omega)
    simp only [this, true_and]
    rw [Option.some_inj, decide_eq_decide]
    omega
  | succ d ih =>
    intro i hi
    have g := ih (i + 1) (by omega)
    have e := wr_succ (m := i) (by omega)
    have hs := vRelsFrom_step (l := l) (i := i) (by omega)
    have h1 : (i : Int) < (l.length : Int) := by omega
    have h3 : (0 : Int) ≤ (i : Int) := by omega
    have hr : rd_T97 l (i : Int) = l.getD i z97 := rfl
    refine Ev.up (Ev.c1 g fun k h => ?_)
    simp only [impl_AreValidRelations.l0]
    rw [if_pos h1, if_pos h3, if_pos h1, hr, iIsValidRel_eq, e, h]
    simp only [Option.bind_some]
    cases hv : vRel (l.getD i z97)
    · have : vRelsAt l i = false := by unfold vRelsAt; rw [hv]; rfl
      simp [hs, this]
    · rw [if_pos rfl]
      by_cases h0 : i = 0
      · have : vRelsAt l i = true := by unfold vRelsAt; rw [hv, h0]; rfl
        rw [if_neg (by omega)]
        simp [hs, this]
      · have ew : wrap64 ((i : Int) - 1) = ((i - 1 : Nat) : Int) := by rw [wr_id (by omega) (by omega)]; omega
        have hr2 : rd_T97 l ((i - 1 : Nat) : Int) = l.getD (i - 1) z97 := rfl
        rw [if_pos (by omega), ew, if_pos (by omega), if_pos (by omega), hr2]
        have hat : vRelsAt l i = Op.bytesLess (l.getD (i - 1) z97).f0.toList (l.getD i z97).f0.toList := by
          unfold vRelsAt; rw [hv]; simp [h0]
        rw [← hat]
        cases hb2 : vRelsAt l i
        · simp [hs, hb2]
        · simp [hs, hb2]
theorem iAreValidRels_ev (l : List S97) (hb : l.length ≤ 1048576) : Ev (fun k => impl_AreValidRelations.f k l) (vRels l) :=
  Ev.c1 (iAreValidRels_l0 l hb l.length 0 (by omega)) fun k h => h
/-- The arities from place i on. -/
def sumAr (l : List S97) : Int := (l.map fun x => x.f1).sum
theorem vRels_ar {l : List S97} (h : vRels l = true) {x : S97} (hx : x ∈ l) : 1 ≤ x.f1 ∧ x.f1 ≤ 3 := by
  unfold vRels at h
  have h1 := (of_decide_eq_true h).1
  obtain ⟨i, hi, rfl⟩ := List.getElem_of_mem hx
  have h2 := h1 i hi (Nat.zero_le _)
  unfold vRelsAt at h2
  have h3 := (Bool.and_eq_true_iff.1 h2).1
  unfold vRel at h3
  have h4 := (of_decide_eq_true h3).2.2.2
  rw [List.getD_eq_getElem?_getD, List.getElem?_eq_getElem hi] at h4
  exact h4
theorem vRels_len {l : List S97} (h : vRels l = true) : l.length ≤ 6 := (of_decide_eq_true h).2
theorem sumAr_le {l : List S97} (h : ∀ x ∈ l, 1 ≤ x.f1 ∧ x.f1 ≤ 3) : 0 ≤ sumAr l ∧ sumAr l ≤ 3 * l.length := by
  induction l with
  | nil => simp [sumAr]
  | cons x l ih =>
    have h1 := h x (by simp)
    have h2 := ih (fun y hy => h y (by simp [hy]))
    simp [sumAr] at h2 ⊢
    omega
/-- The number of place i of relation r, or -1. -/
def posIndex (l : List S97) (r i : Int) : Int :=
  if vRels l = true ∧ 0 ≤ r ∧ r < l.length ∧ 0 ≤ i ∧ i < (l.getD r.toNat z97).f1 then sumAr (l.take r.toNat) + i else -1
theorem getD_mem {α : Type} {l : List α} {i : Nat} {d : α} (h : i < l.length) : l.getD i d ∈ l := by
  rw [List.getD_eq_getElem?_getD, List.getElem?_eq_getElem h]
  exact List.getElem_mem h
theorem sPositionIndex_l0 (l : List S97) (hv : vRels l = true) (r i : Int) (hr : r ≤ l.length) (hi : 0 ≤ i) (hi3 : i ≤ 3) : ∀ (m p q : List S97) (a : Int), p ++ m ++ q = l → (p.length : Int) + m.length = r → 0 ≤ a → a ≤ 3 * p.length → Ev (fun k => spec_PositionIndex.l0 k l r i a (p.length : Int)) (a + sumAr m + i) := by
  have hl := vRels_len hv
  intro m
  induction m with
  | nil =>
    intro p q a hp hpr h0 h1
    refine Ev.up (Ev.c0 fun k => ?_)
    have : (p.length : Int) ≤ 6 := by omega
    simp only [spec_PositionIndex.l0]
    rw [if_neg (by simp at hpr; omega), wr_id (by omega) (by omega)]
    simp [sumAr]
  | cons x m ih =>
    intro p q a hp hpr h0 h1
    have hx := vRels_ar hv (x := x) (by rw [← hp]; simp)
    have hpl : p.length + (m.length + 1) + q.length = l.length := by rw [← hp]; simp; omega
    have e := wr_succ (m := p.length) (by omega)
    have g := ih (p ++ [x]) q (a + x.f1) (by rw [← hp]; simp) (by simp at hpr ⊢; omega) (by omega) (by simp; omega)
    have hrd : rd_T97 l (p.length : Int) = x := by rw [← hp, List.append_assoc]; exact getD_pre p (m ++ q) x _
    refine Ev.up (Ev.c1 g fun k h => ?_)
    simp only [spec_PositionIndex.l0]
    rw [if_pos (by simp at hpr; omega), if_pos (by omega), if_pos (by omega), hrd, e, wr_id (by omega) (by omega)]
    rw [← len_snoc] at h
    rw [h]
    simp [sumAr]
    omega
theorem sPositionIndex_ev (l : List S97) (r i : Int) (hb : l.length ≤ 1048576) (hok : ∀ x ∈ l, okI x.f1) (hr : okI r) (hi : okI i) : Ev (fun k => spec_PositionIndex.f k l r i) (posIndex l r i) := by
  have e1 : wrap64 ((l.length : Int) - 1) = (l.length : Int) - 1 := wr_id (by omega) (by omega)
  unfold posIndex
  by_cases hv : vRels l = true
  · by_cases h1 : 0 ≤ r ∧ r ≤ (l.length : Int) - 1
    · have hmem := getD_mem (l := l) (i := r.toNat) (d := z97) (by omega)
      have har := vRels_ar hv hmem
      have e2 : wrap64 ((l.getD r.toNat z97).f1 - 1) = (l.getD r.toNat z97).f1 - 1 := wr_id (by omega) (by omega)
      have hrd : rd_T97 l r = l.getD r.toNat z97 := rfl
      by_cases h2 : 0 ≤ i ∧ i ≤ (l.getD r.toNat z97).f1 - 1
      · rw [if_pos ⟨hv, h1.1, by omega, h2.1, by omega⟩]
        have g := sPositionIndex_l0 l hv r i (by omega) (by omega) (by omega) (l.take r.toNat) [] (l.drop r.toNat) 0 (by simp) (by simp; omega) (by omega) (by simp)
        have g2 : Ev (fun k => spec_PositionIndex.j0 k l r i false) (0 + sumAr (l.take r.toNat) + i) := Ev.up (Ev.c1 g fun k h => by simp only [spec_PositionIndex.j0]; simpa using h)
        refine Ev.c2 (sAreValidRels_ev l hb) g2 fun k ha hg => ?_
        simp only [spec_PositionIndex.f, ha, hv, Option.bind_some, if_true, l1In_eq, e1, h1, and_self, decide_true]
        rw [if_pos (by omega), hrd, e2]
        simp only [h2, and_self, decide_true, Option.bind_some, Bool.not_true]
        rw [hg]
        simp
      · rw [if_neg (by omega)]
        have g2 : Ev (fun k => spec_PositionIndex.j0 k l r i true) (-1) := Ev.up (Ev.c0 fun k => by simp [spec_PositionIndex.j0])
        refine Ev.c2 (sAreValidRels_ev l hb) g2 fun k ha hg => ?_
        simp only [spec_PositionIndex.f, ha, hv, Option.bind_some, if_true, l1In_eq, e1, h1, and_self, decide_true]
        rw [if_pos (by omega), hrd, e2]
        simp only [h2, decide_false, Option.bind_some, Bool.not_false]
        exact hg
    · rw [if_neg (by omega)]
      have g2 : Ev (fun k => spec_PositionIndex.j0 k l r i true) (-1) := Ev.up (Ev.c0 fun k => by simp [spec_PositionIndex.j0])
      refine Ev.c2 (sAreValidRels_ev l hb) g2 fun k ha hg => ?_
      simp only [spec_PositionIndex.f, ha, hv, Option.bind_some, if_true, l1In_eq, e1, h1, decide_false]
      simpa using hg
  · rw [if_neg (fun z => hv z.1)]
    have g2 : Ev (fun k => spec_PositionIndex.j0 k l r i true) (-1) := Ev.up (Ev.c0 fun k => by simp [spec_PositionIndex.j0])
    refine Ev.c2 (sAreValidRels_ev l hb) g2 fun k ha hg => ?_
    simp only [spec_PositionIndex.f, ha, Option.bind_some, if_neg hv]
    exact hg
theorem iPositionIndex_l0 (L : List S97) (hL : L.length ≤ 6) (hok : ∀ x ∈ L, 1 ≤ x.f1 ∧ x.f1 ≤ 3) : ∀ (m p : List S97) (a : Int), p ++ m = L → 0 ≤ a → a ≤ 3 * p.length + 3 → Ev (fun k => impl_PositionIndex.l0 k a L (L.length : Int) (p.length : Int)) (a + sumAr m) := by
  intro m
  induction m with
  | nil =>
    intro p a hp h0 h1
    refine Ev.up (Ev.c0 fun k => ?_)
    simp only [impl_PositionIndex.l0]
    rw [if_neg (by rw [← hp]; simp)]
    simp [sumAr]
  | cons x m ih =>
    intro p a hp h0 h1
    have hx := hok x (by rw [← hp]; simp)
    have hpl : p.length + (m.length + 1) = L.length := by rw [← hp]; simp
    have e := wr_succ (m := p.length) (by omega)
    have g := ih (p ++ [x]) (a + x.f1) (by rw [← hp]; simp) (by omega) (by simp; omega)
    have hrd : rd_T97 L (p.length : Int) = x := by rw [← hp]; exact getD_pre p m x _
    have hlt : (p.length : Int) < (L.length : Int) := by omega
    refine Ev.up (Ev.c1 g fun k h => ?_)
    simp only [impl_PositionIndex.l0]
    rw [if_pos hlt, if_pos (by omega), if_pos hlt, hrd, e, wr_id (by omega) (by omega)]
    rw [← len_snoc] at h
    rw [h]
    simp [sumAr]
    omega
theorem iPositionIndex_ev (l : List S97) (r i : Int) (hb : l.length ≤ 1048576) (hok : ∀ x ∈ l, okI x.f1) (hr : okI r) (hi : okI i) : Ev (fun k => impl_PositionIndex.f k l r i) (posIndex l r i) := by
  have e1 : wrap64 ((l.length : Int) - 1) = (l.length : Int) - 1 := wr_id (by omega) (by omega)
  unfold posIndex
  by_cases hv : vRels l = true
  · by_cases h1 : 0 ≤ r ∧ r ≤ (l.length : Int) - 1
    · have hmem := getD_mem (l := l) (i := r.toNat) (d := z97) (by omega)
      have har := vRels_ar hv hmem
      have e2 : wrap64 ((l.getD r.toNat z97).f1 - 1) = (l.getD r.toNat z97).f1 - 1 := wr_id (by omega) (by omega)
      have hrd : rd_T97 l r = l.getD r.toNat z97 := rfl
      by_cases h2 : 0 ≤ i ∧ i ≤ (l.getD r.toNat z97).f1 - 1
      · rw [if_pos ⟨hv, h1.1, by omega, h2.1, by omega⟩]
        have hl6 := vRels_len hv
        have g := iPositionIndex_l0 (l.take r.toNat) (by simp; omega) (fun x hx => vRels_ar hv (List.mem_of_mem_take hx)) (l.take r.toNat) [] i (by simp) (by omega) (by simp; omega)
        have g2 : Ev (fun k => impl_PositionIndex.j0 k l r i false) (i + sumAr (l.take r.toNat)) := Ev.up (Ev.c1 g fun k h => by
          simp only [impl_PositionIndex.j0]
          rw [if_neg (by simp), if_pos (by omega), if_pos (by omega)]
          simpa using h)
        refine Ev.c2 (iAreValidRels_ev l hb) g2 fun k ha hg => ?_
        simp only [impl_PositionIndex.f, ha, hv, Option.bind_some, if_true, within_eq, e1, h1, and_self, decide_true]
        rw [if_pos (by omega), hrd, e2]
        simp only [h2, and_self, decide_true, Option.bind_some, Bool.not_true]
        rw [hg, Int.add_comm]
      · rw [if_neg (by omega)]
        have g2 : Ev (fun k => impl_PositionIndex.j0 k l r i true) (-1) := Ev.up (Ev.c0 fun k => by simp [impl_PositionIndex.j0])
        refine Ev.c2 (iAreValidRels_ev l hb) g2 fun k ha hg => ?_
        simp only [impl_PositionIndex.f, ha, hv, Option.bind_some, if_true, within_eq, e1, h1, and_self, decide_true]
        rw [if_pos (by omega), hrd, e2]
        simp only [h2, decide_false, Option.bind_some, Bool.not_false]
        exact hg
    · rw [if_neg (by omega)]
      have g2 : Ev (fun k => impl_PositionIndex.j0 k l r i true) (-1) := Ev.up (Ev.c0 fun k => by simp [impl_PositionIndex.j0])
      refine Ev.c2 (iAreValidRels_ev l hb) g2 fun k ha hg => ?_
      simp only [impl_PositionIndex.f, ha, hv, Option.bind_some, if_true, within_eq, e1, h1, decide_false]
      simpa using hg
  · rw [if_neg (fun z => hv z.1)]
    have g2 : Ev (fun k => impl_PositionIndex.j0 k l r i true) (-1) := Ev.up (Ev.c0 fun k => by simp [impl_PositionIndex.j0])
    refine Ev.c2 (iAreValidRels_ev l hb) g2 fun k ha hg => ?_
    simp only [impl_PositionIndex.f, ha, Option.bind_some, if_neg hv]
    exact hg
theorem FnExactPositionIndex : laws_FnExactPositionIndex.Pure := by
  intro l r i hl hr hi
  obtain ⟨s, e0, hs⟩ := szRelS_ev l 1048576 (by omega) (by omega) hl
  by_cases hn : s < 0
  · exact (Ev.c1 e0 fun k h => by simp [laws_FnExactPositionIndex.f, h, hn] : Ev (fun k => laws_FnExactPositionIndex.f k l r i) true).rounds
  · have hb : l.length ≤ 1048576 := by omega
    have hb2 : (l.map toRel).length ≤ 1048576 := by simpa using hb
    have ho : ∀ x ∈ l.map toRel, okI x.f1 := by
      intro x hx
      obtain ⟨y, hy, rfl⟩ := List.mem_map.1 hx
      exact (hl.2 y hy).2.1
    exact Ev.rounds (Ev.c5 e0 (toRelS_ev l hb) (sPositionIndex_ev _ r i hb2 ho hr hi) (iPositionIndex_ev _ r i hb2 ho hr hi) (eqRelS_ev _ hb2) fun k z a b c d => by
      simp only [laws_FnExactPositionIndex.f, z, a, b, c, d, Option.bind_some, if_neg hn, if_true])

end Go.Proofs.Ytjglmllogbhknaa.Pure
