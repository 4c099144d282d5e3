/- The program's NewUnionFind answers what the reference's answers, at every count. -/
import Derived.Test.YtjglmllogbhknaaPFnExactNewUnionFindo
namespace Go.Proofs.Ytjglmllogbhknaa.Pure
open Go.RowKit Go.Proofs.Ytjglmllogbhknaa.PFnExactNewUnionFind Go.Proofs.YtjglmllogbhknaaX Go.Proofs.YtjglmllogbhknaaW.PrintWords Go.Proofs.YtjglmllogbhknaaW.PrintLast
set_option linter.unusedVariables false
set_option linter.unusedSimpArgs false

theorem wr_id {x : Int} (h1 : -9223372036854775808 ≤ x) (h2 : x ≤ 9223372036854775807) : wrap64 x = x := by unfold wrap64; omega
theorem wr_succ {m : Nat} (h : m < 4611686018427387904) : wrap64 ((m : Int) + 1) = ((m + 1 : Nat) : Int) := by unfold wrap64; omega
theorem wr_lo (x : Int) : -9223372036854775808 ≤ wrap64 x := by unfold wrap64; omega
theorem wr_hi (x : Int) : wrap64 x ≤ 9223372036854775807 := by unfold wrap64; omega
theorem Ev.c0 {α : Type} {g : Nat → Option α} {r : α} (h : ∀ k, g k = some r) : Ev g r := ⟨0, fun k _ => h k⟩
theorem Ev.c1 {α α1 : Type} {g : Nat → Option α} {r : α} {g1 : Nat → Option α1} {r1 : α1} (h1 : Ev g1 r1) (h : ∀ k, g1 k = some r1 → g k = some r) : Ev g r := by
  obtain ⟨K1, h1⟩ := h1
  exact ⟨K1, fun k hk => h k (h1 k (by omega))⟩
theorem Ev.c2 {α α1 α2 : Type} {g : Nat → Option α} {r : α} {g1 : Nat → Option α1} {r1 : α1} {g2 : Nat → Option α2} {r2 : α2} (h1 : Ev g1 r1) (h2 : Ev g2 r2) (h : ∀ k, g1 k = some r1 → g2 k = some r2 → g k = some r) : Ev g r := by
  obtain ⟨K1, h1⟩ := h1
  obtain ⟨K2, h2⟩ := h2
  exact ⟨max K1 K2, fun k hk => h k (h1 k (by omega)) (h2 k (by omega))⟩
theorem Ev.c3 {α α1 α2 α3 : Type} {g : Nat → Option α} {r : α} {g1 : Nat → Option α1} {r1 : α1} {g2 : Nat → Option α2} {r2 : α2} {g3 : Nat → Option α3} {r3 : α3} (h1 : Ev g1 r1) (h2 : Ev g2 r2) (h3 : Ev g3 r3) (h : ∀ k, g1 k = some r1 → g2 k = some r2 → g3 k = some r3 → g k = some r) : Ev g r := by
  obtain ⟨K1, h1⟩ := h1
  obtain ⟨K2, h2⟩ := h2
  obtain ⟨K3, h3⟩ := h3
  exact ⟨max K1 (max K2 K3), fun k hk => h k (h1 k (by omega)) (h2 k (by omega)) (h3 k (by omega))⟩
theorem Ev.c4 {α α1 α2 α3 α4 : Type} {g : Nat → Option α} {r : α} {g1 : Nat → Option α1} {r1 : α1} {g2 : Nat → Option α2} {r2 : α2} {g3 : Nat → Option α3} {r3 : α3} {g4 : Nat → Option α4} {r4 : α4} (h1 : Ev g1 r1) (h2 : Ev g2 r2) (h3 : Ev g3 r3) (h4 : Ev g4 r4) (h : ∀ k, g1 k = some r1 → g2 k = some r2 → g3 k = some r3 → g4 k = some r4 → g k = some r) : Ev g r := by
  obtain ⟨K', h'⟩ := h4
  obtain ⟨K, hK⟩ := Ev.c3 (g := fun k => if K' ≤ k then g k else some r) (r := r) h1 h2 h3 fun k a1 a2 a3 => by
    split
    · exact h k a1 a2 a3 (h' k ‹_›)
    · rfl
  refine ⟨max K K', fun k hk => ?_⟩
  have hk' : (if K' ≤ k then g k else some r) = some r := hK k (by omega)
  rwa [if_pos (by omega)] at hk'
theorem Ev.c5 {α α1 α2 α3 α4 α5 : Type} {g : Nat → Option α} {r : α} {g1 : Nat → Option α1} {r1 : α1} {g2 : Nat → Option α2} {r2 : α2} {g3 : Nat → Option α3} {r3 : α3} {g4 : Nat → Option α4} {r4 : α4} {g5 : Nat → Option α5} {r5 : α5} (h1 : Ev g1 r1) (h2 : Ev g2 r2) (h3 : Ev g3 r3) (h4 : Ev g4 r4) (h5 : Ev g5 r5) (h : ∀ k, g1 k = some r1 → g2 k = some r2 → g3 k = some r3 → g4 k = some r4 → g5 k = some r5 → g k = some r) : Ev g r := by
  obtain ⟨K', h'⟩ := h5
  obtain ⟨K, hK⟩ := Ev.c4 (g := fun k => if K' ≤ k then g k else some r) (r := r) h1 h2 h3 h4 fun k a1 a2 a3 a4 => by
    split
    · exact h k a1 a2 a3 a4 (h' k ‹_›)
    · rfl
  refine ⟨max K K', fun k hk => ?_⟩
  have hk' : (if K' ≤ k then g k else some r) = some r := hK k (by omega)
  rwa [if_pos (by omega)] at hk'
theorem Ev.c6 {α α1 α2 α3 α4 α5 α6 : Type} {g : Nat → Option α} {r : α} {g1 : Nat → Option α1} {r1 : α1} {g2 : Nat → Option α2} {r2 : α2} {g3 : Nat → Option α3} {r3 : α3} {g4 : Nat → Option α4} {r4 : α4} {g5 : Nat → Option α5} {r5 : α5} {g6 : Nat → Option α6} {r6 : α6} (h1 : Ev g1 r1) (h2 : Ev g2 r2) (h3 : Ev g3 r3) (h4 : Ev g4 r4) (h5 : Ev g5 r5) (h6 : Ev g6 r6) (h : ∀ k, g1 k = some r1 → g2 k = some r2 → g3 k = some r3 → g4 k = some r4 → g5 k = some r5 → g6 k = some r6 → g k = some r) : Ev g r := by
  obtain ⟨K', h'⟩ := h6
  obtain ⟨K, hK⟩ := Ev.c5 (g := fun k => if K' ≤ k then g k else some r) (r := r) h1 h2 h3 h4 h5 fun k a1 a2 a3 a4 a5 => by
    split
    · exact h k a1 a2 a3 a4 a5 (h' k ‹_›)
    · rfl
  refine ⟨max K K', fun k hk => ?_⟩
  have hk' : (if K' ≤ k then g k else some r) = some r := hK k (by omega)
  rwa [if_pos (by omega)] at hk'
theorem Ev.c7 {α α1 α2 α3 α4 α5 α6 α7 : Type} {g : Nat → Option α} {r : α} {g1 : Nat → Option α1} {r1 : α1} {g2 : Nat → Option α2} {r2 : α2} {g3 : Nat → Option α3} {r3 : α3} {g4 : Nat → Option α4} {r4 : α4} {g5 : Nat → Option α5} {r5 : α5} {g6 : Nat → Option α6} {r6 : α6} {g7 : Nat → Option α7} {r7 : α7} (h1 : Ev g1 r1) (h2 : Ev g2 r2) (h3 : Ev g3 r3) (h4 : Ev g4 r4) (h5 : Ev g5 r5) (h6 : Ev g6 r6) (h7 : Ev g7 r7) (h : ∀ k, g1 k = some r1 → g2 k = some r2 → g3 k = some r3 → g4 k = some r4 → g5 k = some r5 → g6 k = some r6 → g7 k = some r7 → g k = some r) : Ev g r := by
  obtain ⟨K', h'⟩ := h7
  obtain ⟨K, hK⟩ := Ev.c6 (g := fun k => if K' ≤ k then g k else some r) (r := r) h1 h2 h3 h4 h5 h6 fun k a1 a2 a3 a4 a5 a6 => by
    split
    · exact h k a1 a2 a3 a4 a5 a6 (h' k ‹_›)
    · rfl
  refine ⟨max K K', fun k hk => ?_⟩
  have hk' : (if K' ≤ k then g k else some r) = some r := hK k (by omega)
  rwa [if_pos (by omega)] at hk'
theorem Ev.c8 {α α1 α2 α3 α4 α5 α6 α7 α8 : Type} {g : Nat → Option α} {r : α} {g1 : Nat → Option α1} {r1 : α1} {g2 : Nat → Option α2} {r2 : α2} {g3 : Nat → Option α3} {r3 : α3} {g4 : Nat → Option α4} {r4 : α4} {g5 : Nat → Option α5} {r5 : α5} {g6 : Nat → Option α6} {r6 : α6} {g7 : Nat → Option α7} {r7 : α7} {g8 : Nat → Option α8} {r8 : α8} (h1 : Ev g1 r1) (h2 : Ev g2 r2) (h3 : Ev g3 r3) (h4 : Ev g4 r4) (h5 : Ev g5 r5) (h6 : Ev g6 r6) (h7 : Ev g7 r7) (h8 : Ev g8 r8) (h : ∀ k, g1 k = some r1 → g2 k = some r2 → g3 k = some r3 → g4 k = some r4 → g5 k = some r5 → g6 k = some r6 → g7 k = some r7 → g8 k = some r8 → g k = some r) : Ev g r := by
  obtain ⟨K', h'⟩ := h8
  obtain ⟨K, hK⟩ := Ev.c7 (g := fun k => if K' ≤ k then g k else some r) (r := r) h1 h2 h3 h4 h5 h6 h7 fun k a1 a2 a3 a4 a5 a6 a7 => by
    split
    · exact h k a1 a2 a3 a4 a5 a6 a7 (h' k ‹_›)
    · rfl
  refine ⟨max K K', fun k hk => ?_⟩
  have hk' : (if K' ≤ k then g k else some r) = some r := hK k (by omega)
  rwa [if_pos (by omega)] at hk'
/-- A loop's round (or a join): one step more. -/
theorem Ev.up {α : Type} {g : Nat → Option α} {r : α} (h : Ev (fun k => g (k + 1)) r) : Ev g r := by
  obtain ⟨K, h⟩ := h
  refine ⟨K + 1, fun n hn => ?_⟩
  obtain ⟨m, rfl⟩ : ∃ m, n = m + 1 := ⟨n - 1, by omega⟩
  exact h m (by omega)
theorem Ev.pos {α : Type} {c : Prop} [Decidable c] {g f : Nat → Option α} {r : α} (hc : c) (h : Ev g r) : Ev (fun k => if c then g k else f k) r := by
  simpa only [if_pos hc] using h
theorem Ev.neg {α : Type} {c : Prop} [Decidable c] {g f : Nat → Option α} {r : α} (hc : ¬ c) (h : Ev f r) : Ev (fun k => if c then g k else f k) r := by
  simpa only [if_neg hc] using h
/-- The number at place m. -/
def gi (l : List Int) (m : Nat) : Int := l.getD m 0
theorem rd_get (xs : List Int) (m : Nat) : rd xs (m : Int) = gi xs m := rfl
theorem getD_mid {α : Type} (pre rest : List α) (x d : α) : (pre ++ x :: rest).getD pre.length d = x := by simp [List.getD]
theorem rd_mid (pre rest : List Int) (x : Int) : rd (pre ++ x :: rest) (pre.length : Int) = x := getD_mid pre rest x 0
theorem set_mid {α : Type} (pre rest : List α) (x y : α) : (pre ++ x :: rest).set pre.length y = (pre ++ [y]) ++ rest := by simp [List.set_append]
/-- a, a + 1, ..: n numbers. -/
def seqI (a : Int) : Nat → List Int
  | 0 => []
  | n + 1 => a :: seqI (a + 1) n
theorem seqI_length (a : Int) (n : Nat) : (seqI a n).length = n := by
  induction n generalizing a with
  | zero => rfl
  | succ n ih => simp [seqI, ih]
theorem eqIntS_l0 : ∀ (ra rb pa pb : List Int), pa.length = pb.length → ra.length = rb.length → pa.length + ra.length < 4611686018427387904 → Ev (fun k => laws_eqIntS.l0 k (pa ++ ra) (pb ++ rb) (pa.length : Int)) (decide (ra = rb)) := by
  intro ra
  induction ra with
  | nil =>
    intro rb pa pb hp hr hb
    obtain rfl := List.eq_nil_of_length_eq_zero hr.symm
    exact Ev.up (Ev.c0 fun k => by simp [laws_eqIntS.l0])
  | cons x ra ih =>
    intro rb pa pb hp hr hb
    cases rb with
    | nil => simp at hr
    | cons y rb =>
      simp only [List.length_cons] at hr hb
      have e := wr_succ (m := pa.length) (by omega)
      have h1 : (pa.length : Int) < ((pa ++ x :: ra).length : Int) := by simp; omega
      have h2 : (pa.length : Int) < ((pb ++ y :: rb).length : Int) := by simp; omega
      have h3 : (0 : Int) ≤ (pa.length : Int) := by omega
      have h4 : rd (pb ++ y :: rb) (pa.length : Int) = y := by rw [hp]; exact rd_mid _ _ _
      by_cases hxy : x = y
      · have i := ih rb (pa ++ [x]) (pb ++ [y]) (by simp [hp]) (by omega) (by simp; omega)
        refine Ev.up (Ev.c1 i fun k h => ?_)
        simp only [List.append_assoc, List.cons_append, List.nil_append, List.length_append, List.length_cons, List.length_nil] at h
        simp only [laws_eqIntS.l0]
        rw [if_pos h1, if_pos h3, if_pos h2, rd_mid, h4, if_pos hxy, e]
        simpa [hxy] using h
      · refine Ev.up (Ev.c0 fun k => ?_)
        simp only [laws_eqIntS.l0]
        rw [if_pos h1, if_pos h3, if_pos h2, rd_mid, h4, if_neg hxy]
        simp [hxy]
theorem eqIntS_ev (a b : List Int) (h : a.length < 4611686018427387904) : Ev (fun k => laws_eqIntS.f k a b) (decide (a = b)) := by
  by_cases hl : a.length = b.length
  · refine Ev.c1 (eqIntS_l0 a b [] [] rfl hl (by simpa using h)) fun k h => ?_
    simp only [laws_eqIntS.f]
    rw [if_pos (by omega)]
    simpa using h
  · refine Ev.c0 fun k => ?_
    simp only [laws_eqIntS.f]
    rw [if_neg (by omega)]
    simp
    intro e
    exact hl (by rw [e])
theorem markIntS_l0 : ∀ (r p : List Int) (a : Int), 0 ≤ a → a + r.length < 4611686018427387904 → p.length + r.length < 4611686018427387904 → Ev (fun k => laws_markIntS.l0 k (p ++ r) a (p.length : Int)) (a + r.length, p ++ seqI a r.length) := by
  intro r
  induction r with
  | nil =>
    intro p a h0 ha hb
    exact Ev.up (Ev.c0 fun k => by simp [laws_markIntS.l0, seqI])
  | cons x r ih =>
    intro p a h0 ha hb
    simp only [List.length_cons] at ha hb
    have e := wr_succ (m := p.length) (by omega)
    have e2 : wrap64 (a + 1) = a + 1 := wr_id (by omega) (by omega)
    have h1 : (p.length : Int) < ((p ++ x :: r).length : Int) := by simp; omega
    have h3 : (0 : Int) ≤ (p.length : Int) := by omega
    have i := ih (p ++ [a]) (a + 1) (by omega) (by omega) (by simp; omega)
    refine Ev.up (Ev.c1 i fun k h => ?_)
    simp only [laws_markIntS.l0]
    rw [if_pos h1, if_pos h3, e, e2, Int.toNat_natCast, set_mid]
    simp [seqI] at h ⊢
    rw [h]
    simp
    omega
theorem markIntS_ev (l : List Int) (a : Int) (h0 : 0 ≤ a) (h : a + l.length < 4611686018427387904) : Ev (fun k => laws_markIntS.f k l a) (a + l.length, seqI a l.length) := by
  refine Ev.c1 (markIntS_l0 l [] a h0 h (by simp; omega)) fun k h => ?_
  simpa [laws_markIntS.f] using h
theorem heldIntS_l0 : ∀ (n : Nat) (p : List Int) (a : Int), 0 ≤ a → a + n < 4611686018427387904 → p.length + n < 4611686018427387904 → Ev (fun k => laws_heldIntS.l0 k (p ++ seqI a n) a (p.length : Int)) (a + n) := by
  intro n
  induction n with
  | zero =>
    intro p a h0 ha hb
    exact Ev.up (Ev.c0 fun k => by simp [laws_heldIntS.l0, seqI])
  | succ n ih =>
    intro p a h0 ha hb
    have e := wr_succ (m := p.length) (by omega)
    have e2 : wrap64 (a + 1) = a + 1 := wr_id (by omega) (by omega)
    have h1 : (p.length : Int) < ((p ++ a :: seqI (a + 1) n).length : Int) := by simp; omega
    have h3 : (0 : Int) ≤ (p.length : Int) := by omega
    have i := ih (p ++ [a]) (a + 1) (by omega) (by omega) (by simp; omega)
    refine Ev.up (Ev.c1 i fun k h => ?_)
    show laws_heldIntS.l0 (k + 1) (p ++ a :: seqI (a + 1) n) a (p.length : Int) = _
    simp only [laws_heldIntS.l0]
    rw [if_pos h1, if_pos h3, rd_mid, if_pos rfl, e, e2]
    simp at h ⊢
    rw [h]
    simp
    omega
theorem heldIntS_ev (n : Nat) (a : Int) (h0 : 0 ≤ a) (h : a + n < 4611686018427387904) : Ev (fun k => laws_heldIntS.f k (seqI a n) a) (a + n) := by
  refine Ev.c1 (heldIntS_l0 n [] a h0 h (by simp; omega)) fun k h => ?_
  simpa [laws_heldIntS.f] using h
theorem within_eq (n lo hi : Int) : impl_within.f n lo hi = some (decide (lo ≤ n ∧ n ≤ hi)) := by
  by_cases h : lo ≤ n <;> simp [impl_within.f, h]
theorem l1In_eq (n lo hi : Int) : spec_l1In.f n lo hi = some (decide (lo ≤ n ∧ n ≤ hi)) := by
  by_cases h : lo ≤ n <;> simp [spec_l1In.f, h]
theorem iNullValue_eq (n : Int) (h : -9223372036854775808 < n) (h2 : n ≤ 9223372036854775807) : impl_NullValue.f n = some (-1 - n) := by
  simp only [impl_NullValue.f]
  rw [wr_id (by omega) (by omega)]
theorem sNullValue_eq (n : Int) (h : -9223372036854775808 < n) (h2 : n ≤ 9223372036854775807) : spec_NullValue.f n = some (-1 - n) := by
  simp only [spec_NullValue.f]
  rw [wr_id (by omega) (by omega)]
/-- The first n nulls, from number i on. -/
def nulls (i : Int) : Nat → List Int
  | 0 => []
  | n + 1 => (-1 - i) :: nulls (i + 1) n
theorem nulls_length (i : Int) (n : Nat) : (nulls i n).length = n := by
  induction n generalizing i with
  | zero => rfl
  | succ n ih => simp [nulls, ih]
theorem sNewUF_l0 (n : Int) (h0 : 0 ≤ n) (h40 : n ≤ 40) : ∀ (d : Nat) (i : Int) (p : List Int), 0 ≤ i → i + d = n → p.length = i.toNat → Ev (fun k => spec_NewUnionFind.l0 k n i p) (p ++ nulls i d) := by
  intro d
  induction d with
  | zero =>
    intro i p hi hd hp
    exact Ev.up (Ev.c0 fun k => by simp only [spec_NewUnionFind.l0]; rw [if_neg (by omega)]; simp [nulls])
  | succ d ih =>
    intro i p hi hd hp
    have g := ih (i + 1) (p ++ [-1 - i]) (by omega) (by omega) (by simp; omega)
    refine Ev.up (Ev.c1 g fun k h => ?_)
    simp only [spec_NewUnionFind.l0]
    rw [if_pos (by omega), l1In_eq, sNullValue_eq i (by omega) (by omega), wr_id (x := i + 1) (by omega) (by omega)]
    simp only [Option.bind_some, show (0 ≤ n ∧ n ≤ 40) from ⟨h0, h40⟩, and_self, decide_true, if_true]
    rw [if_pos (by omega), h]
    simp [nulls]
theorem iNewUF_l0 (n : Int) (h0 : 0 ≤ n) (h40 : n ≤ 40) : ∀ (d : Nat) (i : Int) (p : List Int), 0 ≤ i → i + d = n → p.length = i.toNat → Ev (fun k => impl_NewUnionFind.l0 k n i p) (p ++ nulls i d) := by
  intro d
  induction d with
  | zero =>
    intro i p hi hd hp
    exact Ev.up (Ev.c0 fun k => by simp only [impl_NewUnionFind.l0]; rw [if_neg (by omega)]; simp [nulls])
  | succ d ih =>
    intro i p hi hd hp
    have g := ih (i + 1) (p ++ [-1 - i]) (by omega) (by omega) (by simp; omega)
    refine Ev.up (Ev.c1 g fun k h => ?_)
    simp only [impl_NewUnionFind.l0]
    rw [if_pos (by omega), iNullValue_eq i (by omega) (by omega), wr_id (x := i + 1) (by omega) (by omega)]
    simp only [Option.bind_some]
    rw [if_pos (by omega), h]
    simp [nulls]
def newUF (n : Int) : List Int := if 0 ≤ n ∧ n ≤ 40 then nulls 0 n.toNat else []
theorem sNewUF_ev (n : Int) : Ev (fun k => spec_NewUnionFind.f k n) (newUF n) := by
  unfold newUF
  by_cases h : 0 ≤ n ∧ n ≤ 40
  · rw [if_pos h]
    refine Ev.c1 (sNewUF_l0 n h.1 h.2 n.toNat 0 [] (by omega) (by omega) rfl) fun k g => ?_
    simpa [spec_NewUnionFind.f] using g
  · rw [if_neg h]
    refine Ev.up (Ev.c0 fun k => ?_)
    simp only [spec_NewUnionFind.f, spec_NewUnionFind.l0, l1In_eq, h, decide_false, Option.bind_some]
    split <;> simp
theorem iNewUF_ev (n : Int) : Ev (fun k => impl_NewUnionFind.f k n) (newUF n) := by
  unfold newUF
  by_cases h : 0 ≤ n ∧ n ≤ 40
  · rw [if_pos h]
    refine Ev.c1 (iNewUF_l0 n h.1 h.2 n.toNat 0 [] (by omega) (by omega) rfl) fun k g => ?_
    simp only [impl_NewUnionFind.f, within_eq, h, and_self, decide_true, Option.bind_some, if_true]
    simpa using g
  · rw [if_neg h]
    refine Ev.c0 fun k => ?_
    simp only [impl_NewUnionFind.f, within_eq, h, decide_false, Option.bind_some]
    simp
theorem newUF_len (n : Int) : (newUF n).length ≤ 40 := by
  unfold newUF
  split
  · rw [nulls_length]; omega
  · simp
theorem FnExactNewUnionFind : laws_FnExactNewUnionFind.Pure := by
  intro n _
  have hl := newUF_len n
  have e1 := Ev.c1 (eqIntS_ev (newUF n) (newUF n) (by omega)) (g := fun k => laws_eqUnionFind.f k (newUF n) (newUF n)) (r := true) fun k h => by simp [laws_eqUnionFind.f, h]
  have e2 := Ev.c1 (markIntS_ev (newUF n) 1 (by omega) (by omega)) (g := fun k => laws_markUnionFind.f k (newUF n) 1) (r := (1 + ((newUF n).length : Int), seqI 1 (newUF n).length)) fun k h => by simp [laws_markUnionFind.f, h]
  have e3 := Ev.c1 (heldIntS_ev (newUF n).length 1 (by omega) (by omega)) (g := fun k => laws_heldUnionFind.f k (seqI 1 (newUF n).length) 1) (r := 1 + ((newUF n).length : Int)) fun k h => by
    simp only [laws_heldUnionFind.f, h, Option.bind_some]; rw [if_neg (by omega)]
  have hn : ¬ (1 + ((newUF n).length : Int) < 0) := by omega
  exact Ev.rounds (Ev.c5 (sNewUF_ev n) (iNewUF_ev n) e1 e2 e3 fun k h1 h2 h3 h4 h5 => by
    simp only [laws_FnExactNewUnionFind.f, h1, h2, h3, h4, h5, Option.bind_some, if_true, if_neg hn])

end Go.Proofs.Ytjglmllogbhknaa.Pure
