/- The program's EqualUnionFinds answers what the reference's answers, at every two structures. -/
import Derived.Test.YtjglmllogbhknaaPFnExactEqualUnionFindso
namespace Go.Proofs.Ytjglmllogbhknaa.Pure
open Go.RowKit Go.Proofs.Ytjglmllogbhknaa.PFnExactEqualUnionFinds Go.Proofs.YtjglmllogbhknaaX Go.Proofs.YtjglmllogbhknaaW.PrintWords Go.Proofs.YtjglmllogbhknaaW.PrintLast
set_option linter.unusedVariables false
set_option linter.unusedSimpArgs false

theorem wr_id {x : Int} (h1 : -9223372036854775808 ≤ x) (h2 : x ≤ 9223372036854775807) : wrap64 x = x := by unfold wrap64; omega
theorem wr_succ {m : Nat} (h : m < 4611686018427387904) : wrap64 ((m : Int) + 1) = ((m + 1 : Nat) : Int) := by unfold wrap64; omega
theorem wr_lo (x : Int) : -9223372036854775808 ≤ wrap64 x := by unfold wrap64; omega
theorem wr_hi (x : Int) : wrap64 x ≤ 9223372036854775807 := by unfold wrap64; omega
theorem Ev.c0 {α : Type} {g : Nat → Option α} {r : α} (h : ∀ k, g k = some r) : Ev g r := ⟨0, fun k _ => h k⟩
theorem Ev.c1 {α α1 : Type} {g : Nat → Option α} {r : α} {g1 : Nat → Option α1} {r1 : α1} (h1 : Ev g1 r1) (h : ∀ k, g1 k = some r1 → g k = some r) : Ev g r := by
  obtain ⟨K1, h1⟩ := h1
  exact ⟨K1, fun k hk => h k (h1 k (by omega))⟩
theorem Ev.c2 {α α1 α2 : Type} {g : Nat → Option α} {r : α} {g1 : Nat → Option α1} {r1 : α1} {g2 : Nat → Option α2} {r2 : α2} (h1 : Ev g1 r1) (h2 : Ev g2 r2) (h : ∀ k, g1 k = some r1 → g2 k = some r2 → g k = some r) : Ev g r := by
  obtain ⟨K1, h1⟩ := h1
  obtain ⟨K2, h2⟩ := h2
  exact ⟨max K1 K2, fun k hk => h k (h1 k (by omega)) (h2 k (by omega))⟩
theorem Ev.c3 {α α1 α2 α3 : Type} {g : Nat → Option α} {r : α} {g1 : Nat → Option α1} {r1 : α1} {g2 : Nat → Option α2} {r2 : α2} {g3 : Nat → Option α3} {r3 : α3} (h1 : Ev g1 r1) (h2 : Ev g2 r2) (h3 : Ev g3 r3) (h : ∀ k, g1 k = some r1 → g2 k = some r2 → g3 k = some r3 → g k = some r) : Ev g r := by
  obtain ⟨K1, h1⟩ := h1
  obtain ⟨K2, h2⟩ := h2
  obtain ⟨K3, h3⟩ := h3
  exact ⟨max K1 (max K2 K3), fun k hk => h k (h1 k (by omega)) (h2 k (by omega)) (h3 k (by omega))⟩
theorem Ev.c4 {α α1 α2 α3 α4 : Type} {g : Nat → Option α} {r : α} {g1 : Nat → Option α1} {r1 : α1} {g2 : Nat → Option α2} {r2 : α2} {g3 : Nat → Option α3} {r3 : α3} {g4 : Nat → Option α4} {r4 : α4} (h1 : Ev g1 r1) (h2 : Ev g2 r2) (h3 : Ev g3 r3) (h4 : Ev g4 r4) (h : ∀ k, g1 k = some r1 → g2 k = some r2 → g3 k = some r3 → g4 k = some r4 → g k = some r) : Ev g r := by
  obtain ⟨K', h'⟩ := h4
  obtain ⟨K, hK⟩ := Ev.c3 (g := fun k => if K' ≤ k then g k else some r) (r := r) h1 h2 h3 fun k a1 a2 a3 => by
    split
    · exact h k a1 a2 a3 (h' k ‹_›)
    · rfl
  refine ⟨max K K', fun k hk => ?_⟩
  have hk' : (if K' ≤ k then g k else some r) = some r := hK k (by omega)
  rwa [if_pos (by omega)] at hk'
theorem Ev.c5 {α α1 α2 α3 α4 α5 : Type} {g : Nat → Option α} {r : α} {g1 : Nat → Option α1} {r1 : α1} {g2 : Nat → Option α2} {r2 : α2} {g3 : Nat → Option α3} {r3 : α3} {g4 : Nat → Option α4} {r4 : α4} {g5 : Nat → Option α5} {r5 : α5} (h1 : Ev g1 r1) (h2 : Ev g2 r2) (h3 : Ev g3 r3) (h4 : Ev g4 r4) (h5 : Ev g5 r5) (h : ∀ k, g1 k = some r1 → g2 k = some r2 → g3 k = some r3 → g4 k = some r4 → g5 k = some r5 → g k = some r) : Ev g r := by
  obtain ⟨K', h'⟩ := h5
  obtain ⟨K, hK⟩ := Ev.c4 (g := fun k => if K' ≤ k then g k else some r) (r := r) h1 h2 h3 h4 fun k a1 a2 a3 a4 => by
    split
    · exact h k a1 a2 a3 a4 (h' k ‹_›)
    · rfl
  refine ⟨max K K', fun k hk => ?_⟩
  have hk' : (if K' ≤ k then g k else some r) = some r := hK k (by omega)
  rwa [if_pos (by omega)] at hk'
theorem Ev.c6 {α α1 α2 α3 α4 α5 α6 : Type} {g : Nat → Option α} {r : α} {g1 : Nat → Option α1} {r1 : α1} {g2 : Nat → Option α2} {r2 : α2} {g3 : Nat → Option α3} {r3 : α3} {g4 : Nat → Option α4} {r4 : α4} {g5 : Nat → Option α5} {r5 : α5} {g6 : Nat → Option α6} {r6 : α6} (h1 : Ev g1 r1) (h2 : Ev g2 r2) (h3 : Ev g3 r3) (h4 : Ev g4 r4) (h5 : Ev g5 r5) (h6 : Ev g6 r6) (h : ∀ k, g1 k = some r1 → g2 k = some r2 → g3 k = some r3 → g4 k = some r4 → g5 k = some r5 → g6 k = some r6 → g k = some r) : Ev g r := by
  obtain ⟨K', h'⟩ := h6
  obtain ⟨K, hK⟩ := Ev.c5 (g := fun k => if K' ≤ k then g k else some r) (r := r) h1 h2 h3 h4 h5 fun k a1 a2 a3 a4 a5 => by
    split
    · exact h k a1 a2 a3 a4 a5 (h' k ‹_›)
    · rfl
  refine ⟨max K K', fun k hk => ?_⟩
  have hk' : (if K' ≤ k then g k else some r) = some r := hK k (by omega)
  rwa [if_pos (by omega)] at hk'
theorem Ev.c7 {α α1 α2 α3 α4 α5 α6 α7 : Type} {g : Nat → Option α} {r : α} {g1 : Nat → Option α1} {r1 : α1} {g2 : Nat → Option α2} {r2 : α2} {g3 : Nat → Option α3} {r3 : α3} {g4 : Nat → Option α4} {r4 : α4} {g5 : Nat → Option α5} {r5 : α5} {g6 : Nat → Option α6} {r6 : α6} {g7 : Nat → Option α7} {r7 : α7} (h1 : Ev g1 r1) (h2 : Ev g2 r2) (h3 : Ev g3 r3) (h4 : Ev g4 r4) (h5 : Ev g5 r5) (h6 : Ev g6 r6) (h7 : Ev g7 r7) (h : ∀ k, g1 k = some r1 → g2 k = some r2 → g3 k = some r3 → g4 k = some r4 → g5 k = some r5 → g6 k = some r6 → g7 k = some r7 → g k = some r) : Ev g r := by
  obtain ⟨K', h'⟩ := h7
  obtain ⟨K, hK⟩ := Ev.c6 (g := fun k => if K' ≤ k then g k else some r) (r := r) h1 h2 h3 h4 h5 h6 fun k a1 a2 a3 a4 a5 a6 => by
    split
    · exact h k a1 a2 a3 a4 a5 a6 (h' k ‹_›)
    · rfl
  refine ⟨max K K', fun k hk => ?_⟩
  have hk' : (if K' ≤ k then g k else some r) = some r := hK k (by omega)
  rwa [if_pos (by omega)] at hk'
theorem Ev.c8 {α α1 α2 α3 α4 α5 α6 α7 α8 : Type} {g : Nat → Option α} {r : α} {g1 : Nat → Option α1} {r1 : α1} {g2 : Nat → Option α2} {r2 : α2} {g3 : Nat → Option α3} {r3 : α3} {g4 : Nat → Option α4} {r4 : α4} {g5 : Nat → Option α5} {r5 : α5} {g6 : Nat → Option α6} {r6 : α6} {g7 : Nat → Option α7} {r7 : α7} {g8 : Nat → Option α8} {r8 : α8} (h1 : Ev g1 r1) (h2 : Ev g2 r2) (h3 : Ev g3 r3) (h4 : Ev g4 r4) (h5 : Ev g5 r5) (h6 : Ev g6 r6) (h7 : Ev g7 r7) (h8 : Ev g8 r8) (h : ∀ k, g1 k = some r1 → g2 k = some r2 → g3 k = some r3 → g4 k = some r4 → g5 k = some r5 → g6 k = some r6 → g7 k = some r7 → g8 k = some r8 → g k = some r) : Ev g r := by
  obtain ⟨K', h'⟩ := h8
  obtain ⟨K, hK⟩ := Ev.c7 (g := fun k => if K' ≤ k then g k else some r) (r := r) h1 h2 h3 h4 h5 h6 h7 fun k a1 a2 a3 a4 a5 a6 a7 => by
    split
    · exact h k a1 a2 a3 a4 a5 a6 a7 (h' k ‹_›)
    · rfl
  refine ⟨max K K', fun k hk => ?_⟩
  have hk' : (if K' ≤ k then g k else some r) = some r := hK k (by omega)
  rwa [if_pos (by omega)] at hk'
/-- A loop's round (or a join): one step more. -/
theorem Ev.up {α : Type} {g : Nat → Option α} {r : α} (h : Ev (fun k => g (k + 1)) r) : Ev g r := by
  obtain ⟨K, h⟩ := h
  refine ⟨K + 1, fun n hn => ?_⟩
  obtain ⟨m, rfl⟩ : ∃ m, n = m + 1 := ⟨n - 1, by omega⟩
  exact h m (by omega)
theorem Ev.pos {α : Type} {c : Prop} [Decidable c] {g f : Nat → Option α} {r : α} (hc : c) (h : Ev g r) : Ev (fun k => if c then g k else f k) r := by
  simpa only [if_pos hc] using h
theorem Ev.neg {α : Type} {c : Prop} [Decidable c] {g f : Nat → Option α} {r : α} (hc : ¬ c) (h : Ev f r) : Ev (fun k => if c then g k else f k) r := by
  simpa only [if_neg hc] using h
/-- The number at place m. -/
def gi (l : List Int) (m : Nat) : Int := l.getD m 0
theorem rd_get (xs : List Int) (m : Nat) : rd xs (m : Int) = gi xs m := rfl
theorem getD_mid {α : Type} (pre rest : List α) (x d : α) : (pre ++ x :: rest).getD pre.length d = x := by simp [List.getD]
theorem rd_mid (pre rest : List Int) (x : Int) : rd (pre ++ x :: rest) (pre.length : Int) = x := getD_mid pre rest x 0
theorem set_mid {α : Type} (pre rest : List α) (x y : α) : (pre ++ x :: rest).set pre.length y = (pre ++ [y]) ++ rest := by simp [List.set_append]
/-- a, a + 1, ..: n numbers. -/
def seqI (a : Int) : Nat → List Int
  | 0 => []
  | n + 1 => a :: seqI (a + 1) n
theorem seqI_length (a : Int) (n : Nat) : (seqI a n).length = n := by
  induction n generalizing a with
  | zero => rfl
  | succ n ih => simp [seqI, ih]
theorem szIntS_ev (l : List Int) (a : Int) (h0 : 0 ≤ a) (h1 : a ≤ 1048576) (hl : l.length ≤ 9223372036854775807) : ∃ r, laws_szIntS.f l a = some r ∧ (r < 0 ∨ (r = a - l.length ∧ 0 ≤ r)) := by
  have e : wrap64 (a - (l.length : Int)) = a - l.length := wr_id (by omega) (by omega)
  by_cases hc : a - (l.length : Int) < 0
  · exact ⟨-1, by simp [laws_szIntS.f, e, hc], .inl (by omega)⟩
  · exact ⟨a - l.length, by simp only [laws_szIntS.f, e]; rw [if_neg hc], .inr ⟨rfl, by omega⟩⟩
theorem eqIntS_l0 : ∀ (ra rb pa pb : List Int), pa.length = pb.length → ra.length = rb.length → pa.length + ra.length < 4611686018427387904 → Ev (fun k => laws_eqIntS.l0 k (pa ++ ra) (pb ++ rb) (pa.length : Int)) (decide (ra = rb)) := by
  intro ra
  induction ra with
  | nil =>
    intro rb pa pb hp hr hb
    obtain rfl := List.eq_nil_of_length_eq_zero hr.symm
    exact Ev.up (Ev.c0 fun k => by simp [laws_eqIntS.l0])
  | cons x ra ih =>
    intro rb pa pb hp hr hb
    cases rb with
    | nil => simp at hr
    | cons y rb =>
      simp only [List.length_cons] at hr hb
      have e := wr_succ (m := pa.length) (by omega)
      have h1 : (pa.length : Int) < ((pa ++ x :: ra).length : Int) := by simp; omega
      have h2 : (pa.length : Int) < ((pb ++ y :: rb).length : Int) := by simp; omega
      have h3 : (0 : Int) ≤ (pa.length : Int) := by omega
      have h4 : rd (pb ++ y :: rb) (pa.length : Int) = y := by rw [hp]; exact rd_mid _ _ _
      by_cases hxy : x = y
      · have i := ih rb (pa ++ [x]) (pb ++ [y]) (by simp [hp]) (by omega) (by simp; omega)
        refine Ev.up (Ev.c1 i fun k h => ?_)
        simp only [List.append_assoc, List.cons_append, List.nil_append, List.length_append, List.length_cons, List.length_nil] at h
        simp only [laws_eqIntS.l0]
        rw [if_pos h1, if_pos h3, if_pos h2, rd_mid, h4, if_pos hxy, e]
        simpa [hxy] using h
      · refine Ev.up (Ev.c0 fun k => ?_)
        simp only [laws_eqIntS.l0]
        rw [if_pos h1, if_pos h3, if_pos h2, rd_mid, h4, if_neg hxy]
        simp [hxy]
theorem eqIntS_ev (a b : List Int) (h : a.length < 4611686018427387904) : Ev (fun k => laws_eqIntS.f k a b) (decide (a = b)) := by
  by_cases hl : a.length = b.length
  · refine Ev.c1 (eqIntS_l0 a b [] [] rfl hl (by simpa using h)) fun k h => ?_
    simp only [laws_eqIntS.f]
    rw [if_pos (by omega)]
    simpa using h
  · refine Ev.c0 fun k => ?_
    simp only [laws_eqIntS.f]
    rw [if_neg (by omega)]
    simp
    intro e
    exact hl (by rw [e])
theorem toIntS_l0 : ∀ (r p q : List Int), q.length = r.length → p.length + r.length < 4611686018427387904 → Ev (fun k => laws_toIntS.l0 k (p ++ r) (p ++ q) (p.length : Int)) (p ++ r) := by
  intro r
  induction r with
  | nil =>
    intro p q hq hb
    obtain rfl := List.eq_nil_of_length_eq_zero hq
    exact Ev.up (Ev.c0 fun k => by simp [laws_toIntS.l0])
  | cons x r ih =>
    intro p q hq hb
    cases q with
    | nil => simp at hq
    | cons y q =>
      simp only [List.length_cons] at hq hb
      have e := wr_succ (m := p.length) (by omega)
      have h1 : (p.length : Int) < ((p ++ x :: r).length : Int) := by simp; omega
      have h2 : (p.length : Int) < ((p ++ y :: q).length : Int) := by simp; omega
      have h3 : (0 : Int) ≤ (p.length : Int) := by omega
      have i := ih (p ++ [x]) q (by omega) (by simp; omega)
      refine Ev.up (Ev.c1 i fun k h => ?_)
      simp only [laws_toIntS.l0]
      rw [if_pos h1, if_pos h3, if_pos h2, rd_mid, e, Int.toNat_natCast, set_mid]
      simpa using h
theorem toIntS_ev (l : List Int) (h : l.length ≤ 1048576) : Ev (fun k => laws_toIntS.f k l) l := by
  refine Ev.c1 (toIntS_l0 l [] (List.replicate l.length 0) (by simp) (by simp; omega)) fun k h => ?_
  simp only [laws_toIntS.f]
  rw [if_pos (by omega), if_pos (by omega), Int.toNat_natCast]
  simpa using h
theorem getD_pre {α : Type} (pre rest : List α) (x d : α) : (pre ++ x :: rest).getD ((pre.length : Int)).toNat d = x := getD_mid pre rest x d
theorem len_pre {α : Type} (pre rest : List α) (x : α) : (pre.length : Int) < ((pre ++ x :: rest).length : Int) := by simp; omega
theorem len_end {α : Type} (pre : List α) : ¬ ((pre.length : Int) < ((pre ++ []).length : Int)) := by simp
theorem len_snoc {α : Type} (pre : List α) (x : α) : ((pre.length + 1 : Nat) : Int) = ((pre ++ [x]).length : Int) := by simp
theorem mid_snoc {α : Type} (pre rest : List α) (x : α) : pre ++ x :: rest = (pre ++ [x]) ++ rest := by simp
/-- Lists of numbers, compared. -/
def cmpI : List Int → List Int → Int
  | [], [] => 0
  | [], _ :: _ => -1
  | _ :: _, [] => 1
  | x :: a, y :: b => if x < y then -1 else if y < x then 1 else cmpI a b
theorem cmpI_eq : ∀ a b : List Int, (cmpI a b == 0) = decide (a = b)
  | [], [] => by simp [cmpI]
  | [], _ :: _ => by simp [cmpI]
  | _ :: _, [] => by simp [cmpI]
  | x :: a, y :: b => by
    by_cases h1 : x < y
    · have : ¬ x = y := by omega
      simp [cmpI, h1, this]
    · by_cases h2 : y < x
      · have : ¬ x = y := by omega
        simp [cmpI, h1, h2, this]
      · have e : x = y := by omega
        have := cmpI_eq a b
        simp only [cmpI, if_neg h1, if_neg h2, this]
        simp [e]
theorem l4Ints_l0 : ∀ (ra rb pa pb : List Int), pa.length = pb.length → pa.length + ra.length < 4611686018427387904 → Ev (fun k => spec_l4Ints.l0 k (pa ++ ra) (pb ++ rb) (pa.length : Int)) (cmpI ra rb) := by
  intro ra
  induction ra with
  | nil =>
    intro rb pa pb hp hb
    refine Ev.up (Ev.up (Ev.c0 fun k => ?_))
    simp only [spec_l4Ints.l0]
    rw [if_neg (by simp)]
    simp only [spec_l4Ints.j1]
    rw [if_neg (by simp)]
    cases rb with
    | nil => rw [if_neg (by simp; omega), if_neg (by simp; omega)]; rfl
    | cons y rb => rw [if_pos (by simp; omega)]; rfl
  | cons x ra ih =>
    intro rb pa pb hp hb
    simp only [List.length_cons] at hb
    cases rb with
    | nil =>
      refine Ev.up (Ev.up (Ev.c0 fun k => ?_))
      simp only [spec_l4Ints.l0]
      rw [if_pos (by simp; omega)]
      simp only [spec_l4Ints.j1]
      rw [if_neg (by simp; omega), if_neg (by simp; omega), if_pos (by simp; omega)]
      rfl
    | cons y rb =>
      have e := wr_succ (m := pa.length) (by omega)
      have h2 : (pa.length : Int) < ((pb ++ y :: rb).length : Int) := by simp; omega
      have h4 : rd (pb ++ y :: rb) (pa.length : Int) = y := by rw [hp]; exact rd_mid _ _ _
      have i := ih rb (pa ++ [x]) (pb ++ [y]) (by simp [hp]) (by simp; omega)
      refine Ev.up (Ev.up (Ev.c1 i fun k h => ?_))
      simp only [spec_l4Ints.l0]
      rw [if_pos (len_pre pa ra x)]
      simp only [spec_l4Ints.j1]
      rw [if_pos (by simpa using h2), if_pos (by omega), if_pos (len_pre pa ra x), if_pos h2, rd_mid, h4, e]
      rw [← mid_snoc, ← mid_snoc, ← len_snoc] at h
      by_cases h1 : x < y
      · rw [if_pos h1]; simp [cmpI, h1]
      · by_cases h3 : x > y
        · rw [if_neg h1, if_pos h3]; simp [cmpI, h1, h3]
        · have h3' : ¬ y < x := h3
          rw [if_neg h1, if_neg h3, h]; simp [cmpI, h1, h3']
theorem l4Ints_ev (a b : List Int) (h : a.length < 4611686018427387904) : Ev (fun k => spec_l4Ints.f k a b) (cmpI a b) := by
  refine Ev.c1 (l4Ints_l0 a b [] [] rfl (by simpa using h)) fun k h => ?_
  simpa [spec_l4Ints.f] using h
theorem slEqual_l0 : ∀ (ra rb pa pb : List Int) (n : Int), n = ((pa ++ ra).length : Int) → pa.length = pb.length → ra.length = rb.length → pa.length + ra.length < 4611686018427387904 → Ev (fun k => slices_Equal_int_int.l0 k (pa ++ ra) (pb ++ rb) n (pa.length : Int)) (decide (ra = rb)) := by
  intro ra
  induction ra with
  | nil =>
    intro rb pa pb n hn hp hr hb
    obtain rfl := List.eq_nil_of_length_eq_zero hr.symm
    refine Ev.up (Ev.c0 fun k => ?_)
    simp only [slices_Equal_int_int.l0]
    rw [if_neg (by simp at hn; omega)]
    simp
  | cons x ra ih =>
    intro rb pa pb n hn hp hr hb
    cases rb with
    | nil => simp at hr
    | cons y rb =>
      simp only [List.length_cons] at hr hb
      have e := wr_succ (m := pa.length) (by omega)
      have h2 : (pa.length : Int) < ((pb ++ y :: rb).length : Int) := by simp; omega
      have h4 : rd (pb ++ y :: rb) (pa.length : Int) = y := by rw [hp]; exact rd_mid _ _ _
      have i := ih rb (pa ++ [x]) (pb ++ [y]) n (by simp at hn ⊢; omega) (by simp [hp]) (by omega) (by simp; omega)
      refine Ev.up (Ev.c1 i fun k h => ?_)
      simp only [slices_Equal_int_int.l0]
      rw [if_pos (by simp at hn; omega), if_pos (by omega), if_pos (len_pre pa ra x), if_pos h2, rd_mid, h4, e]
      rw [← mid_snoc, ← mid_snoc, ← len_snoc] at h
      by_cases hxy : x = y
      · rw [if_pos hxy, h]; simp [hxy]
      · rw [if_neg hxy]; simp [hxy]
theorem slEqual_ev (a b : List Int) (h : a.length < 4611686018427387904) : Ev (fun k => slices_Equal_int_int.f k a b) (decide (a = b)) := by
  by_cases hl : a.length = b.length
  · refine Ev.c1 (slEqual_l0 a b [] [] (a.length : Int) (by simp) rfl hl (by simpa using h)) fun k h => ?_
    simp only [slices_Equal_int_int.f]
    rw [if_pos (by omega)]
    simpa using h
  · refine Ev.c0 fun k => ?_
    simp only [slices_Equal_int_int.f]
    rw [if_neg (by omega)]
    simp
    intro e
    exact hl (by rw [e])
theorem szUF_ev (l : List Int) (a : Int) (h0 : 0 ≤ a) (h1 : a ≤ 1048576) (hl : l.length ≤ 9223372036854775807) : ∃ r, laws_szUnionFind.f l a = some r ∧ (r < 0 ∨ (r = a - l.length ∧ 0 ≤ r)) := by
  obtain ⟨r, h, hr⟩ := szIntS_ev l a h0 h1 hl
  by_cases hn : r < 0
  · exact ⟨-1, by simp [laws_szUnionFind.f, h, hn], .inl (by omega)⟩
  · exact ⟨r, by simp [laws_szUnionFind.f, h, hn], hr⟩
theorem eqUF_ev (a b : List Int) (h : a.length < 4611686018427387904) : Ev (fun k => laws_eqUnionFind.f k a b) (decide (a = b)) :=
  Ev.c1 (eqIntS_ev a b h) fun k h => by
    simp only [laws_eqUnionFind.f, h, Option.bind_some]
    by_cases e : a = b <;> simp [e]
theorem toUF_ev (l : List Int) (h : l.length ≤ 1048576) : Ev (fun k => laws_toUnionFind.f k l) l :=
  Ev.c1 (toIntS_ev l h) fun k h => by simp [laws_toUnionFind.f, h]
theorem FnExactEqualUnionFinds : laws_FnExactEqualUnionFinds.Pure := by
  intro a b ⟨hl, ho⟩ ⟨hl2, ho2⟩
  obtain ⟨r, h, hr⟩ := szUF_ev a 1048576 (by omega) (by omega) hl
  by_cases hn : r < 0
  · exact ⟨0, by simp [laws_FnExactEqualUnionFinds.f, h, hn]⟩
  · obtain ⟨r2, h2, hr2⟩ := szUF_ev b r (by omega) (by omega) hl2
    by_cases hn2 : r2 < 0
    · exact ⟨0, by simp [laws_FnExactEqualUnionFinds.f, h, hn, h2, hn2]⟩
    · have hb : a.length ≤ 1048576 := by omega
      have hb2 : b.length ≤ 1048576 := by omega
      have e1 : Ev (fun k => spec_EqualUnionFinds.f k a b) (decide (a = b)) := Ev.c1 (l4Ints_ev a b (by omega)) fun k h => by
        simp only [spec_EqualUnionFinds.f, h, Option.bind_some, cmpI_eq]
      have e2 : Ev (fun k => impl_EqualUnionFinds.f k a b) (decide (a = b)) := Ev.c1 (slEqual_ev a b (by omega)) fun k h => by
        simp only [impl_EqualUnionFinds.f, h, Option.bind_some]
      exact Ev.rounds (Ev.c6 (toUF_ev a hb) (toUF_ev b hb2) e1 e2 (eqUF_ev a a (by omega)) (eqUF_ev b b (by omega)) fun k z1 z2 z3 z4 z5 z6 => by
        simp only [laws_FnExactEqualUnionFinds.f, h, h2, if_neg hn, if_neg hn2, z1, z2, z3, z4, z5, z6, Option.bind_some, decide_true, if_true, bne_self_eq_false]
        simp)

end Go.Proofs.Ytjglmllogbhknaa.Pure
