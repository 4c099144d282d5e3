/- The program's IsValidUnionFind answers what the reference's answers, at every structure. -/
import Derived.Test.YtjglmllogbhknaaPFnExactIsValidUnionFindo
namespace Go.Proofs.Ytjglmllogbhknaa.Pure
open Go.RowKit Go.Proofs.Ytjglmllogbhknaa.PFnExactIsValidUnionFind Go.Proofs.YtjglmllogbhknaaX Go.Proofs.YtjglmllogbhknaaW.PrintWords Go.Proofs.YtjglmllogbhknaaW.PrintLast
set_option linter.unusedVariables false
set_option linter.unusedSimpArgs false

theorem wr_id {x : Int} (h1 : -9223372036854775808 ≤ x) (h2 : x ≤ 9223372036854775807) : wrap64 x = x := by unfold wrap64; omega
theorem wr_succ {m : Nat} (h : m < 4611686018427387904) : wrap64 ((m : Int) + 1) = ((m + 1 : Nat) : Int) := by unfold wrap64; omega
theorem wr_lo (x : Int) : -9223372036854775808 ≤ wrap64 x := by unfold wrap64; omega
theorem wr_hi (x : Int) : wrap64 x ≤ 9223372036854775807 := by unfold wrap64; omega
theorem Ev.c0 {α : Type} {g : Nat → Option α} {r : α} (h : ∀ k, g k = some r) : Ev g r := ⟨0, fun k _ => h k⟩
theorem Ev.c1 {α α1 : Type} {g : Nat → Option α} {r : α} {g1 : Nat → Option α1} {r1 : α1} (h1 : Ev g1 r1) (h : ∀ k, g1 k = some r1 → g k = some r) : Ev g r := by
  obtain ⟨K1, h1⟩ := h1
  exact ⟨K1, fun k hk => h k (h1 k (by omega))⟩
theorem Ev.c2 {α α1 α2 : Type} {g : Nat → Option α} {r : α} {g1 : Nat → Option α1} {r1 : α1} {g2 : Nat → Option α2} {r2 : α2} (h1 : Ev g1 r1) (h2 : Ev g2 r2) (h : ∀ k, g1 k = some r1 → g2 k = some r2 → g k = some r) : Ev g r := by
  obtain ⟨K1, h1⟩ := h1
  obtain ⟨K2, h2⟩ := h2
  exact ⟨max K1 K2, fun k hk => h k (h1 k (by omega)) (h2 k (by omega))⟩
theorem Ev.c3 {α α1 α2 α3 : Type} {g : Nat → Option α} {r : α} {g1 : Nat → Option α1} {r1 : α1} {g2 : Nat → Option α2} {r2 : α2} {g3 : Nat → Option α3} {r3 : α3} (h1 : Ev g1 r1) (h2 : Ev g2 r2) (h3 : Ev g3 r3) (h : ∀ k, g1 k = some r1 → g2 k = some r2 → g3 k = some r3 → g k = some r) : Ev g r := by
  obtain ⟨K1, h1⟩ := h1
  obtain ⟨K2, h2⟩ := h2
  obtain ⟨K3, h3⟩ := h3
  exact ⟨max K1 (max K2 K3), fun k hk => h k (h1 k (by omega)) (h2 k (by omega)) (h3 k (by omega))⟩
theorem Ev.c4 {α α1 α2 α3 α4 : Type} {g : Nat → Option α} {r : α} {g1 : Nat → Option α1} {r1 : α1} {g2 : Nat → Option α2} {r2 : α2} {g3 : Nat → Option α3} {r3 : α3} {g4 : Nat → Option α4} {r4 : α4} (h1 : Ev g1 r1) (h2 : Ev g2 r2) (h3 : Ev g3 r3) (h4 : Ev g4 r4) (h : ∀ k, g1 k = some r1 → g2 k = some r2 → g3 k = some r3 → g4 k = some r4 → g k = some r) : Ev g r := by
  obtain ⟨K', h'⟩ := h4
  obtain ⟨K, hK⟩ := Ev.c3 (g := fun k => if K' ≤ k then g k else some r) (r := r) h1 h2 h3 fun k a1 a2 a3 => by
    split
    · exact h k a1 a2 a3 (h' k ‹_›)
    · rfl
  refine ⟨max K K', fun k hk => ?_⟩
  have hk' : (if K' ≤ k then g k else some r) = some r := hK k (by omega)
  rwa [if_pos (by omega)] at hk'
theorem Ev.c5 {α α1 α2 α3 α4 α5 : Type} {g : Nat → Option α} {r : α} {g1 : Nat → Option α1} {r1 : α1} {g2 : Nat → Option α2} {r2 : α2} {g3 : Nat → Option α3} {r3 : α3} {g4 : Nat → Option α4} {r4 : α4} {g5 : Nat → Option α5} {r5 : α5} (h1 : Ev g1 r1) (h2 : Ev g2 r2) (h3 : Ev g3 r3) (h4 : Ev g4 r4) (h5 : Ev g5 r5) (h : ∀ k, g1 k = some r1 → g2 k = some r2 → g3 k = some r3 → g4 k = some r4 → g5 k = some r5 → g k = some r) : Ev g r := by
  obtain ⟨K', h'⟩ := h5
  obtain ⟨K, hK⟩ := Ev.c4 (g := fun k => if K' ≤ k then g k else some r) (r := r) h1 h2 h3 h4 fun k a1 a2 a3 a4 => by
    split
    · exact h k a1 a2 a3 a4 (h' k ‹_›)
    · rfl
  refine ⟨max K K', fun k hk => ?_⟩
  have hk' : (if K' ≤ k then g k else some r) = some r := hK k (by omega)
  rwa [if_pos (by omega)] at hk'
theorem Ev.c6 {α α1 α2 α3 α4 α5 α6 : Type} {g : Nat → Option α} {r : α} {g1 : Nat → Option α1} {r1 : α1} {g2 : Nat → Option α2} {r2 : α2} {g3 : Nat → Option α3} {r3 : α3} {g4 : Nat → Option α4} {r4 : α4} {g5 : Nat → Option α5} {r5 : α5} {g6 : Nat → Option α6} {r6 : α6} (h1 : Ev g1 r1) (h2 : Ev g2 r2) (h3 : Ev g3 r3) (h4 : Ev g4 r4) (h5 : Ev g5 r5) (h6 : Ev g6 r6) (h : ∀ k, g1 k = some r1 → g2 k = some r2 → g3 k = some r3 → g4 k = some r4 → g5 k = some r5 → g6 k = some r6 → g k = some r) : Ev g r := by
  obtain ⟨K', h'⟩ := h6
  obtain ⟨K, hK⟩ := Ev.c5 (g := fun k => if K' ≤ k then g k else some r) (r := r) h1 h2 h3 h4 h5 fun k a1 a2 a3 a4 a5 => by
    split
    · exact h k a1 a2 a3 a4 a5 (h' k ‹_›)
    · rfl
  refine ⟨max K K', fun k hk => ?_⟩
  have hk' : (if K' ≤ k then g k else some r) = some r := hK k (by omega)
  rwa [if_pos (by omega)] at hk'
theorem Ev.c7 {α α1 α2 α3 α4 α5 α6 α7 : Type} {g : Nat → Option α} {r : α} {g1 : Nat → Option α1} {r1 : α1} {g2 : Nat → Option α2} {r2 : α2} {g3 : Nat → Option α3} {r3 : α3} {g4 : Nat → Option α4} {r4 : α4} {g5 : Nat → Option α5} {r5 : α5} {g6 : Nat → Option α6} {r6 : α6} {g7 : Nat → Option α7} {r7 : α7} (h1 : Ev g1 r1) (h2 : Ev g2 r2) (h3 : Ev g3 r3) (h4 : Ev g4 r4) (h5 : Ev g5 r5) (h6 : Ev g6 r6) (h7 : Ev g7 r7) (h : ∀ k, g1 k = some r1 → g2 k = some r2 → g3 k = some r3 → g4 k = some r4 → g5 k = some r5 → g6 k = some r6 → g7 k = some r7 → g k = some r) : Ev g r := by
  obtain ⟨K', h'⟩ := h7
  obtain ⟨K, hK⟩ := Ev.c6 (g := fun k => if K' ≤ k then g k else some r) (r := r) h1 h2 h3 h4 h5 h6 fun k a1 a2 a3 a4 a5 a6 => by
    split
    · exact h k a1 a2 a3 a4 a5 a6 (h' k ‹_›)
    · rfl
  refine ⟨max K K', fun k hk => ?_⟩
  have hk' : (if K' ≤ k then g k else some r) = some r := hK k (by omega)
  rwa [if_pos (by omega)] at hk'
theorem Ev.c8 {α α1 α2 α3 α4 α5 α6 α7 α8 : Type} {g : Nat → Option α} {r : α} {g1 : Nat → Option α1} {r1 : α1} {g2 : Nat → Option α2} {r2 : α2} {g3 : Nat → Option α3} {r3 : α3} {g4 : Nat → Option α4} {r4 : α4} {g5 : Nat → Option α5} {r5 : α5} {g6 : Nat → Option α6} {r6 : α6} {g7 : Nat → Option α7} {r7 : α7} {g8 : Nat → Option α8} {r8 : α8} (h1 : Ev g1 r1) (h2 : Ev g2 r2) (h3 : Ev g3 r3) (h4 : Ev g4 r4) (h5 : Ev g5 r5) (h6 : Ev g6 r6) (h7 : Ev g7 r7) (h8 : Ev g8 r8) (h : ∀ k, g1 k = some r1 → g2 k = some r2 → g3 k = some r3 → g4 k = some r4 → g5 k = some r5 → g6 k = some r6 → g7 k = some r7 → g8 k = some r8 → g k = some r) : Ev g r := by
  obtain ⟨K', h'⟩ := h8
  obtain ⟨K, hK⟩ := Ev.c7 (g := fun k => if K' ≤ k then g k else some r) (r := r) h1 h2 h3 h4 h5 h6 h7 fun k a1 a2 a3 a4 a5 a6 a7 => by
    split
    · exact h k a1 a2 a3 a4 a5 a6 a7 (h' k ‹_›)
    · rfl
  refine ⟨max K K', fun k hk => ?_⟩
  have hk' : (if K' ≤ k then g k else some r) = some r := hK k (by omega)
  rwa [if_pos (by omega)] at hk'
/-- A loop's round (or a join): one step more. -/
theorem Ev.up {α : Type} {g : Nat → Option α} {r : α} (h : Ev (fun k => g (k + 1)) r) : Ev g r := by
  obtain ⟨K, h⟩ := h
  refine ⟨K + 1, fun n hn => ?_⟩
  obtain ⟨m, rfl⟩ : ∃ m, n = m + 1 := ⟨n - 1, by omega⟩
  exact h m (by omega)
theorem Ev.pos {α : Type} {c : Prop} [Decidable c] {g f : Nat → Option α} {r : α} (hc : c) (h : Ev g r) : Ev (fun k => if c then g k else f k) r := by
  simpa only [if_pos hc] using h
theorem Ev.neg {α : Type} {c : Prop} [Decidable c] {g f : Nat → Option α} {r : α} (hc : ¬ c) (h : Ev f r) : Ev (fun k => if c then g k else f k) r := by
  simpa only [if_neg hc] using h
/-- The number at place m. -/
def gi (l : List Int) (m : Nat) : Int := l.getD m 0
theorem rd_get (xs : List Int) (m : Nat) : rd xs (m : Int) = gi xs m := rfl
theorem getD_mid {α : Type} (pre rest : List α) (x d : α) : (pre ++ x :: rest).getD pre.length d = x := by simp [List.getD]
theorem rd_mid (pre rest : List Int) (x : Int) : rd (pre ++ x :: rest) (pre.length : Int) = x := getD_mid pre rest x 0
theorem set_mid {α : Type} (pre rest : List α) (x y : α) : (pre ++ x :: rest).set pre.length y = (pre ++ [y]) ++ rest := by simp [List.set_append]
/-- a, a + 1, ..: n numbers. -/
def seqI (a : Int) : Nat → List Int
  | 0 => []
  | n + 1 => a :: seqI (a + 1) n
theorem seqI_length (a : Int) (n : Nat) : (seqI a n).length = n := by
  induction n generalizing a with
  | zero => rfl
  | succ n ih => simp [seqI, ih]
theorem szIntS_ev (l : List Int) (a : Int) (h0 : 0 ≤ a) (h1 : a ≤ 1048576) (hl : l.length ≤ 9223372036854775807) : ∃ r, laws_szIntS.f l a = some r ∧ (r < 0 ∨ (r = a - l.length ∧ 0 ≤ r)) := by
  have e : wrap64 (a - (l.length : Int)) = a - l.length := wr_id (by omega) (by omega)
  by_cases hc : a - (l.length : Int) < 0
  · exact ⟨-1, by simp [laws_szIntS.f, e, hc], .inl (by omega)⟩
  · exact ⟨a - l.length, by simp only [laws_szIntS.f, e]; rw [if_neg hc], .inr ⟨rfl, by omega⟩⟩
theorem eqIntS_l0 : ∀ (ra rb pa pb : List Int), pa.length = pb.length → ra.length = rb.length → pa.length + ra.length < 4611686018427387904 → Ev (fun k => laws_eqIntS.l0 k (pa ++ ra) (pb ++ rb) (pa.length : Int)) (decide (ra = rb)) := by
  intro ra
  induction ra with
  | nil =>
    intro rb pa pb hp hr hb
    obtain rfl := List.eq_nil_of_length_eq_zero hr.symm
    exact Ev.up (Ev.c0 fun k => by simp [laws_eqIntS.l0])
  | cons x ra ih =>
    intro rb pa pb hp hr hb
    cases rb with
    | nil => simp at hr
    | cons y rb =>
      simp only [List.length_cons] at hr hb
      have e := wr_succ (m := pa.length) (by omega)
      have h1 : (pa.length : Int) < ((pa ++ x :: ra).length : Int) := by simp; omega
      have h2 : (pa.length : Int) < ((pb ++ y :: rb).length : Int) := by simp; omega
      have h3 : (0 : Int) ≤ (pa.length : Int) := by omega
      have h4 : rd (pb ++ y :: rb) (pa.length : Int) = y := by rw [hp]; exact rd_mid _ _ _
      by_cases hxy : x = y
      · have i := ih rb (pa ++ [x]) (pb ++ [y]) (by simp [hp]) (by omega) (by simp; omega)
        refine Ev.up (Ev.c1 i fun k h => ?_)
        simp only [List.append_assoc, List.cons_append, List.nil_append, List.length_append, List.length_cons, List.length_nil] at h
        simp only [laws_eqIntS.l0]
        rw [if_pos h1, if_pos h3, if_pos h2, rd_mid, h4, if_pos hxy, e]
        simpa [hxy] using h
      · refine Ev.up (Ev.c0 fun k => ?_)
        simp only [laws_eqIntS.l0]
        rw [if_pos h1, if_pos h3, if_pos h2, rd_mid, h4, if_neg hxy]
        simp [hxy]
theorem eqIntS_ev (a b : List Int) (h : a.length < 4611686018427387904) : Ev (fun k => laws_eqIntS.f k a b) (decide (a = b)) := by
  by_cases hl : a.length = b.length
  · refine Ev.c1 (eqIntS_l0 a b [] [] rfl hl (by simpa using h)) fun k h => ?_
    simp only [laws_eqIntS.f]
    rw [if_pos (by omega)]
    simpa using h
  · refine Ev.c0 fun k => ?_
    simp only [laws_eqIntS.f]
    rw [if_neg (by omega)]
    simp
    intro e
    exact hl (by rw [e])
theorem toIntS_l0 : ∀ (r p q : List Int), q.length = r.length → p.length + r.length < 4611686018427387904 → Ev (fun k => laws_toIntS.l0 k (p ++ r) (p ++ q) (p.length : Int)) (p ++ r) := by
  intro r
  induction r with
  | nil =>
    intro p q hq hb
    obtain rfl := List.eq_nil_of_length_eq_zero hq
    exact Ev.up (Ev.c0 fun k => by simp [laws_toIntS.l0])
  | cons x r ih =>
    intro p q hq hb
    cases q with
    | nil => simp at hq
    | cons y q =>
      simp only [List.length_cons] at hq hb
      have e := wr_succ (m := p.length) (by omega)
      have h1 : (p.length : Int) < ((p ++ x :: r).length : Int) := by simp; omega
      have h2 : (p.length : Int) < ((p ++ y :: q).length : Int) := by simp; omega
      have h3 : (0 : Int) ≤ (p.length : Int) := by omega
      have i := ih (p ++ [x]) q (by omega) (by simp; omega)
      refine Ev.up (Ev.c1 i fun k h => ?_)
      simp only [laws_toIntS.l0]
      rw [if_pos h1, if_pos h3, if_pos h2, rd_mid, e, Int.toNat_natCast, set_mid]
      simpa using h
theorem toIntS_ev (l : List Int) (h : l.length ≤ 1048576) : Ev (fun k => laws_toIntS.f k l) l := by
  refine Ev.c1 (toIntS_l0 l [] (List.replicate l.length 0) (by simp) (by simp; omega)) fun k h => ?_
  simp only [laws_toIntS.f]
  rw [if_pos (by omega), if_pos (by omega), Int.toNat_natCast]
  simpa using h
theorem within_eq (n lo hi : Int) : impl_within.f n lo hi = some (decide (lo ≤ n ∧ n ≤ hi)) := by
  by_cases h : lo ≤ n <;> simp [impl_within.f, h]
theorem l1In_eq (n lo hi : Int) : spec_l1In.f n lo hi = some (decide (lo ≤ n ∧ n ≤ hi)) := by
  by_cases h : lo ≤ n <;> simp [spec_l1In.f, h]
theorem sNullValue_eq (n : Int) (h : -9223372036854775808 < n) (h2 : n ≤ 9223372036854775807) : spec_NullValue.f n = some (-1 - n) := by
  simp only [spec_NullValue.f]
  rw [wr_id (by omega) (by omega)]
/-- Is v one of the nulls? -/
def isNul (v : Int) : Prop := -40 ≤ v ∧ v ≤ -1
instance (v : Int) : Decidable (isNul v) := inferInstanceAs (Decidable (_ ∧ _))
theorem iNullNumber_eq (v : Int) (h : okI v) : impl_NullNumber.f v = some (if isNul v then (-1 - v, true) else (0, false)) := by
  unfold okI at h
  by_cases hn : isNul v
  · have e : wrap64 (-1 - v) = -1 - v := wr_id (by omega) (by unfold isNul at hn; omega)
    have hw : 0 ≤ -1 - v ∧ -1 - v ≤ 39 := by unfold isNul at hn; omega
    rw [if_pos hn]
    simp only [impl_NullNumber.f, within_eq, e, hw, and_self, decide_true, Option.bind_some, if_true]
  · have hw : ¬ (0 ≤ wrap64 (-1 - v) ∧ wrap64 (-1 - v) ≤ 39) := by unfold isNul at hn; unfold wrap64; omega
    rw [if_neg hn]
    simp only [impl_NullNumber.f, within_eq, hw, decide_false, Option.bind_some]
    simp
theorem sNullNumber_eq (v : Int) (h : okI v) : spec_NullNumber.f v = some (if isNul v then (-1 - v, true) else (0, false)) := by
  unfold okI at h
  by_cases h0 : v ≥ 0
  · have hn : ¬ isNul v := by unfold isNul; omega
    simp [spec_NullNumber.f, h0, hn]
  · have e : wrap64 (-1 - v) = -1 - v := wr_id (by omega) (by omega)
    by_cases hn : isNul v
    · have hw : 0 ≤ -1 - v ∧ -1 - v ≤ 39 := by unfold isNul at hn; omega
      rw [if_pos hn]
      simp only [spec_NullNumber.f, if_neg h0, l1In_eq, e, hw, and_self, decide_true, Option.bind_some, if_true]
    · have hw : ¬ (0 ≤ -1 - v ∧ -1 - v ≤ 39) := by unfold isNul at hn; omega
      rw [if_neg hn]
      simp only [spec_NullNumber.f, if_neg h0, l1In_eq, e, hw, decide_false, Option.bind_some]
      simp
theorem iIsValidValue_eq (v : Int) : impl_IsValidValue.f v = some (decide (-40 ≤ v ∧ v ≤ 9)) := by
  simp only [impl_IsValidValue.f, within_eq, Option.bind_some]
theorem szUF_ev (l : List Int) (a : Int) (h0 : 0 ≤ a) (h1 : a ≤ 1048576) (hl : l.length ≤ 9223372036854775807) : ∃ r, laws_szUnionFind.f l a = some r ∧ (r < 0 ∨ (r = a - l.length ∧ 0 ≤ r)) := by
  obtain ⟨r, h, hr⟩ := szIntS_ev l a h0 h1 hl
  by_cases hn : r < 0
  · exact ⟨-1, by simp [laws_szUnionFind.f, h, hn], .inl (by omega)⟩
  · exact ⟨r, by simp [laws_szUnionFind.f, h, hn], hr⟩
theorem eqUF_ev (a b : List Int) (h : a.length < 4611686018427387904) : Ev (fun k => laws_eqUnionFind.f k a b) (decide (a = b)) :=
  Ev.c1 (eqIntS_ev a b h) fun k h => by
    simp only [laws_eqUnionFind.f, h, Option.bind_some]
    by_cases e : a = b <;> simp [e]
theorem toUF_ev (l : List Int) (h : l.length ≤ 1048576) : Ev (fun k => laws_toUnionFind.f k l) l :=
  Ev.c1 (toIntS_ev l h) fun k h => by simp [laws_toUnionFind.f, h]
/-- What is asked of the representative at place i. -/
def goodAt (l : List Int) (i : Nat) : Prop := if isNul (gi l i) then (-1 - gi l i ≤ i ∧ gi l (-1 - gi l i).toNat = gi l i) else (0 ≤ gi l i ∧ gi l i ≤ 9)
instance (l : List Int) (i : Nat) : Decidable (goodAt l i) := by unfold goodAt; infer_instance
def goodFrom (l : List Int) (i : Nat) : Prop := ∀ j, j < l.length → i ≤ j → goodAt l j
instance (l : List Int) (i : Nat) : Decidable (goodFrom l i) := inferInstanceAs (Decidable (∀ j, j < l.length → i ≤ j → goodAt l j))
def validUF (l : List Int) : Bool := decide (goodFrom l 0 ∧ l.length ≤ 40)
theorem goodFrom_end {l : List Int} {i : Nat} (h : l.length ≤ i) : goodFrom l i := fun j hj hi => by omega
theorem goodFrom_step {l : List Int} {i : Nat} (h : i < l.length) : goodFrom l i ↔ goodAt l i ∧ goodFrom l (i + 1) := by
  constructor
  · exact fun g => ⟨g i h (Nat.le_refl _), fun j hj hi => g j hj (by omega)⟩
  · rintro ⟨g, g2⟩ j hj hi
    rcases Nat.lt_or_eq_of_le hi with hlt | rfl
    · exact g2 j hj (by omega)
    · exact g
theorem getD_ok {l : List Int} (h : ∀ x ∈ l, okI x) (i : Nat) : okI (gi l i) := by
  unfold gi
  rw [List.getD_eq_getElem?_getD]
  cases e : l[i]? with
  | none => simp [okI]
  | some x => exact h x (List.mem_of_getElem? e)
theorem sIsValidUF_l0 (l : List Int) (ho : ∀ x ∈ l, okI x) (hb : l.length ≤ 1048576) : ∀ (d i : Nat), i + d = l.length → Ev (fun k => spec_IsValidUnionFind.l0 k (i : Int) l) (decide (goodFrom l i ∧ l.length ≤ 40)) := by
  intro d
  induction d with
  | zero =>
    intro i hi
    refine Ev.up (Ev.c0 fun k => ?_)
    simp only [spec_IsValidUnionFind.l0]
    rw [if_neg (by omega)]
    have := goodFrom_end (l := l) (i := i) (by omega)
    simp only [this, true_and]
    rw [Option.some_inj, decide_eq_decide]
    omega
  | succ d ih =>
    intro i hi
    have g := ih (i + 1) (by omega)
    have e := wr_succ (m := i) (by omega)
    have hs := goodFrom_step (l := l) (i := i) (by omega)
    have hv := getD_ok ho i
    have h1 : (i : Int) < (l.length : Int) := by omega
    have h3 : (0 : Int) ≤ (i : Int) := by omega
    refine Ev.up (Ev.c1 g fun k h => ?_)
    simp only [spec_IsValidUnionFind.l0]
    rw [if_pos h1, if_pos h3, rd_get, sNullNumber_eq _ hv, e, h]
    simp only [Option.bind_some]
    by_cases hn : isNul (gi l i)
    · rw [if_pos hn]
      simp only [if_true]
      have hn' := hn
      unfold isNul at hn'
      by_cases hle : -1 - gi l i > (i : Int)
      · rw [if_pos hle]
        have hg : ¬ goodAt l i := by unfold goodAt; rw [if_pos hn]; omega
        simp [hs, hg]
      · rw [if_neg hle, if_pos (by omega), if_pos (by omega), sNullValue_eq _ (by omega) (by omega)]
        simp only [Option.bind_some]
        have e2 : rd l (-1 - gi l i) = gi l (-1 - gi l i).toNat := rfl
        rw [e2]
        by_cases hr : gi l (-1 - gi l i).toNat = gi l i
        · have hg : goodAt l i := by unfold goodAt; rw [if_pos hn]; exact ⟨by omega, hr⟩
          rw [if_pos (by omega)]
          simp [hs, hg]
        · have hg : ¬ goodAt l i := by unfold goodAt; rw [if_pos hn]; exact fun q => hr q.2
          rw [if_neg (by omega)]
          simp [hs, hg]
    · rw [if_neg hn, l1In_eq]
      simp only [Option.bind_some]
      by_cases hw : 0 ≤ gi l i ∧ gi l i ≤ 9
      · have hg : goodAt l i := by unfold goodAt; rw [if_neg hn]; exact hw
        simp [hs, hg, hw]
      · have hg : ¬ goodAt l i := by unfold goodAt; rw [if_neg hn]; exact hw
        simp [hs, hg, hw]
theorem sIsValidUF_ev (l : List Int) (ho : ∀ x ∈ l, okI x) (hb : l.length ≤ 1048576) : Ev (fun k => spec_IsValidUnionFind.f k l) (validUF l) :=
  Ev.c1 (sIsValidUF_l0 l ho hb l.length 0 (by omega)) fun k h => h
theorem iIsValidUF_l0 (l : List Int) (ho : ∀ x ∈ l, okI x) (hb : l.length ≤ 1048576) : ∀ (d i : Nat), i + d = l.length → Ev (fun k => impl_IsValidUnionFind.l0 k l (l.length : Int) (i : Int) l) (decide (goodFrom l i ∧ l.length ≤ 40)) := by
  intro d
  induction d with
  | zero =>
    intro i hi
    refine Ev.up (Ev.c0 fun k => ?_)
    simp only [impl_IsValidUnionFind.l0]
    rw [if_neg (by omega)]
    have := goodFrom_end (l := l) (i := i) (by omega)
    simp only [this, true_and]
    rw [Option.some_inj, decide_eq_decide]
    omega
  | succ d ih =>
    intro i hi
    have g := ih (i + 1) (by omega)
    have e := wr_succ (m := i) (by omega)
    have hs := goodFrom_step (l := l) (i := i) (by omega)
    have hv := getD_ok ho i
    have h1 : (i : Int) < (l.length : Int) := by omega
    have h3 : (0 : Int) ≤ (i : Int) := by omega
    refine Ev.up (Ev.c1 g fun k h => ?_)
    simp only [impl_IsValidUnionFind.l0]
    rw [if_pos h1, if_pos h3, if_pos h1, rd_get, iNullNumber_eq _ hv, iIsValidValue_eq, e, h]
    simp only [Option.bind_some]
    by_cases hn : isNul (gi l i)
    · rw [if_pos hn]
      have hn' := hn
      unfold isNul at hn'
      rw [if_pos (show decide (-40 ≤ gi l i ∧ gi l i ≤ 9) = true by simp; omega)]
      simp only [if_true]
      by_cases hle : -1 - gi l i > (i : Int)
      · rw [if_pos hle]
        have hg : ¬ goodAt l i := by unfold goodAt; rw [if_pos hn]; omega
        simp [hs, hg]
      · rw [if_neg hle, if_pos (by omega), if_pos (by omega)]
        have e2 : rd l (-1 - gi l i) = gi l (-1 - gi l i).toNat := rfl
        rw [e2]
        by_cases hr : gi l (-1 - gi l i).toNat = gi l i
        · have hg : goodAt l i := by unfold goodAt; rw [if_pos hn]; exact ⟨by omega, hr⟩
          rw [if_pos hr]
          simp [hs, hg]
        · have hg : ¬ goodAt l i := by unfold goodAt; rw [if_pos hn]; exact fun q => hr q.2
          rw [if_neg hr]
          simp [hs, hg]
    · rw [if_neg hn]
      by_cases hw : 0 ≤ gi l i ∧ gi l i ≤ 9
      · have hg : goodAt l i := by unfold goodAt; rw [if_neg hn]; exact hw
        have hw2 : -40 ≤ gi l i ∧ gi l i ≤ 9 := by omega
        simp [hs, hg, hw2]
      · have hg : ¬ goodAt l i := by unfold goodAt; rw [if_neg hn]; exact hw
        have hw2 : ¬ (-40 ≤ gi l i ∧ gi l i ≤ 9) := by unfold isNul at hn; omega
        simp [hs, hg, hw2]
theorem iIsValidUF_ev (l : List Int) (ho : ∀ x ∈ l, okI x) (hb : l.length ≤ 1048576) : Ev (fun k => impl_IsValidUnionFind.f k l) (validUF l) :=
  Ev.c1 (iIsValidUF_l0 l ho hb l.length 0 (by omega)) fun k h => h
theorem FnExactIsValidUnionFind : laws_FnExactIsValidUnionFind.Pure := by
  intro l ⟨hl, ho⟩
  obtain ⟨r, h, hr⟩ := szUF_ev l 1048576 (by omega) (by omega) hl
  by_cases hn : r < 0
  · exact ⟨0, by simp [laws_FnExactIsValidUnionFind.f, h, hn]⟩
  · have hb : l.length ≤ 1048576 := by omega
    exact Ev.rounds (Ev.c4 (toUF_ev l hb) (sIsValidUF_ev l ho hb) (iIsValidUF_ev l ho hb) (eqUF_ev l l (by omega)) fun k a b c d => by
      simp [laws_FnExactIsValidUnionFind.f, h, hn, a, b, c, d])

end Go.Proofs.Ytjglmllogbhknaa.Pure
