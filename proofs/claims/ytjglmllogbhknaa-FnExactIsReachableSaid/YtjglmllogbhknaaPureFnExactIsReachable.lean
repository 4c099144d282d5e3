/- The program's IsReachable answers what the reference's answers, at all numbers and edges. -/
import Derived.Test.YtjglmllogbhknaaPFnExactIsReachableo
namespace Go.Proofs.Ytjglmllogbhknaa.Pure
open Go.RowKit Go.Proofs.Ytjglmllogbhknaa.PFnExactIsReachable Go.Proofs.YtjglmllogbhknaaX Go.Proofs.YtjglmllogbhknaaW.PrintWords Go.Proofs.YtjglmllogbhknaaW.PrintLast
set_option linter.unusedVariables false
set_option linter.unusedSimpArgs false

theorem wr_id {x : Int} (h1 : -9223372036854775808 ≤ x) (h2 : x ≤ 9223372036854775807) : wrap64 x = x := by unfold wrap64; omega
theorem wr_succ {m : Nat} (h : m < 4611686018427387904) : wrap64 ((m : Int) + 1) = ((m + 1 : Nat) : Int) := by unfold wrap64; omega
theorem wr_lo (x : Int) : -9223372036854775808 ≤ wrap64 x := by unfold wrap64; omega
theorem wr_hi (x : Int) : wrap64 x ≤ 9223372036854775807 := by unfold wrap64; omega
theorem Ev.c0 {α : Type} {g : Nat → Option α} {r : α} (h : ∀ k, g k = some r) : Ev g r := ⟨0, fun k _ => h k⟩
theorem Ev.c1 {α α1 : Type} {g : Nat → Option α} {r : α} {g1 : Nat → Option α1} {r1 : α1} (h1 : Ev g1 r1) (h : ∀ k, g1 k = some r1 → g k = some r) : Ev g r := by
  obtain ⟨K1, h1⟩ := h1
  exact ⟨K1, fun k hk => h k (h1 k (by omega))⟩
theorem Ev.c2 {α α1 α2 : Type} {g : Nat → Option α} {r : α} {g1 : Nat → Option α1} {r1 : α1} {g2 : Nat → Option α2} {r2 : α2} (h1 : Ev g1 r1) (h2 : Ev g2 r2) (h : ∀ k, g1 k = some r1 → g2 k = some r2 → g k = some r) : Ev g r := by
  obtain ⟨K1, h1⟩ := h1
  obtain ⟨K2, h2⟩ := h2
  exact ⟨max K1 K2, fun k hk => h k (h1 k (by omega)) (h2 k (by omega))⟩
theorem Ev.c3 {α α1 α2 α3 : Type} {g : Nat → Option α} {r : α} {g1 : Nat → Option α1} {r1 : α1} {g2 : Nat → Option α2} {r2 : α2} {g3 : Nat → Option α3} {r3 : α3} (h1 : Ev g1 r1) (h2 : Ev g2 r2) (h3 : Ev g3 r3) (h : ∀ k, g1 k = some r1 → g2 k = some r2 → g3 k = some r3 → g k = some r) : Ev g r := by
  obtain ⟨K1, h1⟩ := h1
  obtain ⟨K2, h2⟩ := h2
  obtain ⟨K3, h3⟩ := h3
  exact ⟨max K1 (max K2 K3), fun k hk => h k (h1 k (by omega)) (h2 k (by omega)) (h3 k (by omega))⟩
theorem Ev.c4 {α α1 α2 α3 α4 : Type} {g : Nat → Option α} {r : α} {g1 : Nat → Option α1} {r1 : α1} {g2 : Nat → Option α2} {r2 : α2} {g3 : Nat → Option α3} {r3 : α3} {g4 : Nat → Option α4} {r4 : α4} (h1 : Ev g1 r1) (h2 : Ev g2 r2) (h3 : Ev g3 r3) (h4 : Ev g4 r4) (h : ∀ k, g1 k = some r1 → g2 k = some r2 → g3 k = some r3 → g4 k = some r4 → g k = some r) : Ev g r := by
  obtain ⟨K', h'⟩ := h4
  obtain ⟨K, hK⟩ := Ev.c3 (g := fun k => if K' ≤ k then g k else some r) (r := r) h1 h2 h3 fun k a1 a2 a3 => by
    split
    · exact h k a1 a2 a3 (h' k ‹_›)
    · rfl
  refine ⟨max K K', fun k hk => ?_⟩
  have hk' : (if K' ≤ k then g k else some r) = some r := hK k (by omega)
  rwa [if_pos (by omega)] at hk'
theorem Ev.c5 {α α1 α2 α3 α4 α5 : Type} {g : Nat → Option α} {r : α} {g1 : Nat → Option α1} {r1 : α1} {g2 : Nat → Option α2} {r2 : α2} {g3 : Nat → Option α3} {r3 : α3} {g4 : Nat → Option α4} {r4 : α4} {g5 : Nat → Option α5} {r5 : α5} (h1 : Ev g1 r1) (h2 : Ev g2 r2) (h3 : Ev g3 r3) (h4 : Ev g4 r4) (h5 : Ev g5 r5) (h : ∀ k, g1 k = some r1 → g2 k = some r2 → g3 k = some r3 → g4 k = some r4 → g5 k = some r5 → g k = some r) : Ev g r := by
  obtain ⟨K', h'⟩ := h5
  obtain ⟨K, hK⟩ := Ev.c4 (g := fun k => if K' ≤ k then g k else some r) (r := r) h1 h2 h3 h4 fun k a1 a2 a3 a4 => by
    split
    · exact h k a1 a2 a3 a4 (h' k ‹_›)
    · rfl
  refine ⟨max K K', fun k hk => ?_⟩
  have hk' : (if K' ≤ k then g k else some r) = some r := hK k (by omega)
  rwa [if_pos (by omega)] at hk'
theorem Ev.c6 {α α1 α2 α3 α4 α5 α6 : Type} {g : Nat → Option α} {r : α} {g1 : Nat → Option α1} {r1 : α1} {g2 : Nat → Option α2} {r2 : α2} {g3 : Nat → Option α3} {r3 : α3} {g4 : Nat → Option α4} {r4 : α4} {g5 : Nat → Option α5} {r5 : α5} {g6 : Nat → Option α6} {r6 : α6} (h1 : Ev g1 r1) (h2 : Ev g2 r2) (h3 : Ev g3 r3) (h4 : Ev g4 r4) (h5 : Ev g5 r5) (h6 : Ev g6 r6) (h : ∀ k, g1 k = some r1 → g2 k = some r2 → g3 k = some r3 → g4 k = some r4 → g5 k = some r5 → g6 k = some r6 → g k = some r) : Ev g r := by
  obtain ⟨K', h'⟩ := h6
  obtain ⟨K, hK⟩ := Ev.c5 (g := fun k => if K' ≤ k then g k else some r) (r := r) h1 h2 h3 h4 h5 fun k a1 a2 a3 a4 a5 => by
    split
    · exact h k a1 a2 a3 a4 a5 (h' k ‹_›)
    · rfl
  refine ⟨max K K', fun k hk => ?_⟩
  have hk' : (if K' ≤ k then g k else some r) = some r := hK k (by omega)
  rwa [if_pos (by omega)] at hk'
theorem Ev.c7 {α α1 α2 α3 α4 α5 α6 α7 : Type} {g : Nat → Option α} {r : α} {g1 : Nat → Option α1} {r1 : α1} {g2 : Nat → Option α2} {r2 : α2} {g3 : Nat → Option α3} {r3 : α3} {g4 : Nat → Option α4} {r4 : α4} {g5 : Nat → Option α5} {r5 : α5} {g6 : Nat → Option α6} {r6 : α6} {g7 : Nat → Option α7} {r7 : α7} (h1 : Ev g1 r1) (h2 : Ev g2 r2) (h3 : Ev g3 r3) (h4 : Ev g4 r4) (h5 : Ev g5 r5) (h6 : Ev g6 r6) (h7 : Ev g7 r7) (h : ∀ k, g1 k = some r1 → g2 k = some r2 → g3 k = some r3 → g4 k = some r4 → g5 k = some r5 → g6 k = some r6 → g7 k = some r7 → g k = some r) : Ev g r := by
  obtain ⟨K', h'⟩ := h7
  obtain ⟨K, hK⟩ := Ev.c6 (g := fun k => if K' ≤ k then g k else some r) (r := r) h1 h2 h3 h4 h5 h6 fun k a1 a2 a3 a4 a5 a6 => by
    split
    · exact h k a1 a2 a3 a4 a5 a6 (h' k ‹_›)
    · rfl
  refine ⟨max K K', fun k hk => ?_⟩
  have hk' : (if K' ≤ k then g k else some r) = some r := hK k (by omega)
  rwa [if_pos (by omega)] at hk'
theorem Ev.c8 {α α1 α2 α3 α4 α5 α6 α7 α8 : Type} {g : Nat → Option α} {r : α} {g1 : Nat → Option α1} {r1 : α1} {g2 : Nat → Option α2} {r2 : α2} {g3 : Nat → Option α3} {r3 : α3} {g4 : Nat → Option α4} {r4 : α4} {g5 : Nat → Option α5} {r5 : α5} {g6 : Nat → Option α6} {r6 : α6} {g7 : Nat → Option α7} {r7 : α7} {g8 : Nat → Option α8} {r8 : α8} (h1 : Ev g1 r1) (h2 : Ev g2 r2) (h3 : Ev g3 r3) (h4 : Ev g4 r4) (h5 : Ev g5 r5) (h6 : Ev g6 r6) (h7 : Ev g7 r7) (h8 : Ev g8 r8) (h : ∀ k, g1 k = some r1 → g2 k = some r2 → g3 k = some r3 → g4 k = some r4 → g5 k = some r5 → g6 k = some r6 → g7 k = some r7 → g8 k = some r8 → g k = some r) : Ev g r := by
  obtain ⟨K', h'⟩ := h8
  obtain ⟨K, hK⟩ := Ev.c7 (g := fun k => if K' ≤ k then g k else some r) (r := r) h1 h2 h3 h4 h5 h6 h7 fun k a1 a2 a3 a4 a5 a6 a7 => by
    split
    · exact h k a1 a2 a3 a4 a5 a6 a7 (h' k ‹_›)
    · rfl
  refine ⟨max K K', fun k hk => ?_⟩
  have hk' : (if K' ≤ k then g k else some r) = some r := hK k (by omega)
  rwa [if_pos (by omega)] at hk'
/-- A loop's round (or a join): one step more. -/
theorem Ev.up {α : Type} {g : Nat → Option α} {r : α} (h : Ev (fun k => g (k + 1)) r) : Ev g r := by
  obtain ⟨K, h⟩ := h
  refine ⟨K + 1, fun n hn => ?_⟩
  obtain ⟨m, rfl⟩ : ∃ m, n = m + 1 := ⟨n - 1, by omega⟩
  exact h m (by omega)
theorem Ev.pos {α : Type} {c : Prop} [Decidable c] {g f : Nat → Option α} {r : α} (hc : c) (h : Ev g r) : Ev (fun k => if c then g k else f k) r := by
  simpa only [if_pos hc] using h
theorem Ev.neg {α : Type} {c : Prop} [Decidable c] {g f : Nat → Option α} {r : α} (hc : ¬ c) (h : Ev f r) : Ev (fun k => if c then g k else f k) r := by
  simpa only [if_neg hc] using h
/-- The number at place m. -/
def gi (l : List Int) (m : Nat) : Int := l.getD m 0
theorem rd_get (xs : List Int) (m : Nat) : rd xs (m : Int) = gi xs m := rfl
theorem getD_mid {α : Type} (pre rest : List α) (x d : α) : (pre ++ x :: rest).getD pre.length d = x := by simp [List.getD]
theorem rd_mid (pre rest : List Int) (x : Int) : rd (pre ++ x :: rest) (pre.length : Int) = x := getD_mid pre rest x 0
theorem set_mid {α : Type} (pre rest : List α) (x y : α) : (pre ++ x :: rest).set pre.length y = (pre ++ [y]) ++ rest := by simp [List.set_append]
/-- a, a + 1, ..: n numbers. -/
def seqI (a : Int) : Nat → List Int
  | 0 => []
  | n + 1 => a :: seqI (a + 1) n
theorem seqI_length (a : Int) (n : Nat) : (seqI a n).length = n := by
  induction n generalizing a with
  | zero => rfl
  | succ n ih => simp [seqI, ih]
theorem within_eq (n lo hi : Int) : impl_within.f n lo hi = some (decide (lo ≤ n ∧ n ≤ hi)) := by
  by_cases h : lo ≤ n <;> simp [impl_within.f, h]
theorem l1In_eq (n lo hi : Int) : spec_l1In.f n lo hi = some (decide (lo ≤ n ∧ n ≤ hi)) := by
  by_cases h : lo ≤ n <;> simp [spec_l1In.f, h]
theorem getD_pre {α : Type} (pre rest : List α) (x d : α) : (pre ++ x :: rest).getD ((pre.length : Int)).toNat d = x := getD_mid pre rest x d
theorem len_pre {α : Type} (pre rest : List α) (x : α) : (pre.length : Int) < ((pre ++ x :: rest).length : Int) := by simp; omega
theorem len_end {α : Type} (pre : List α) : ¬ ((pre.length : Int) < ((pre ++ []).length : Int)) := by simp
theorem len_snoc {α : Type} (pre : List α) (x : α) : ((pre.length + 1 : Nat) : Int) = ((pre ++ [x]).length : Int) := by simp
theorem mid_snoc {α : Type} (pre rest : List α) (x : α) : pre ++ x :: rest = (pre ++ [x]) ++ rest := by simp
def toEdge (x : S88) : S86 := ⟨x.f0, x.f1, x.f2⟩
theorem toEdgeS_l0 : ∀ (r p : List S88) (q : List S86), q.length = r.length → p.length + r.length < 4611686018427387904 → Ev (fun k => laws_toPositionEdgeS.l0 k (p ++ r) (p.map toEdge ++ q) (p.length : Int)) ((p ++ r).map toEdge) := by
  intro r
  induction r with
  | nil =>
    intro p q hq hb
    obtain rfl := List.eq_nil_of_length_eq_zero hq
    exact Ev.up (Ev.c0 fun k => by simp [laws_toPositionEdgeS.l0])
  | cons x r ih =>
    intro p q hq hb
    cases q with
    | nil => simp at hq
    | cons y q =>
      simp only [List.length_cons] at hq hb
      have e := wr_succ (m := p.length) (by omega)
      have i := ih (p ++ [x]) q (by omega) (by simp; omega)
      have h2 : (p.length : Int) < ((p.map toEdge ++ y :: q).length : Int) := by simp; omega
      have hx : rd_T88 (p ++ x :: r) (p.length : Int) = x := getD_pre p r x _
      have hs : ((p.map toEdge ++ y :: q).set ((p.length : Int)).toNat (toEdge x)) = (p ++ [x]).map toEdge ++ q := by
        rw [Int.toNat_natCast]; simp [List.set_append]
      refine Ev.up (Ev.c1 i fun k h => ?_)
      simp only [laws_toPositionEdgeS.l0]
      rw [if_pos (len_pre p r x), if_pos (by omega), hx, e]
      simp only [laws_toPositionEdge.f, Option.bind_some]
      rw [if_pos h2]
      rw [← mid_snoc, ← hs, ← len_snoc] at h
      exact h
theorem toEdgeS_ev (l : List S88) (h : l.length ≤ 1048576) : Ev (fun k => laws_toPositionEdgeS.f k l) (l.map toEdge) := by
  refine Ev.c1 (toEdgeS_l0 l [] (List.replicate l.length z86) (by simp) (by simp; omega)) fun k h => ?_
  simp only [laws_toPositionEdgeS.f]
  rw [if_pos (by omega), if_pos (by omega), Int.toNat_natCast]
  simpa using h
theorem eqEdge_eq (x : S86) : laws_eqPositionEdge.f x.f0 x.f1 x.f2 x.f0 x.f1 x.f2 = some true := by simp [laws_eqPositionEdge.f]
theorem eqEdgeS_l0 : ∀ (r p : List S86), p.length + r.length < 4611686018427387904 → Ev (fun k => laws_eqPositionEdgeS.l0 k (p ++ r) (p ++ r) (p.length : Int)) true := by
  intro r
  induction r with
  | nil => exact fun p hb => Ev.up (Ev.c0 fun k => by simp [laws_eqPositionEdgeS.l0])
  | cons x r ih =>
    intro p hb
    simp only [List.length_cons] at hb
    have e := wr_succ (m := p.length) (by omega)
    have i := ih (p ++ [x]) (by simp; omega)
    have hx : rd_T86 (p ++ x :: r) (p.length : Int) = x := getD_pre p r x _
    refine Ev.up (Ev.c1 i fun k h => ?_)
    simp only [laws_eqPositionEdgeS.l0]
    rw [if_pos (len_pre p r x), if_pos (by omega), if_pos (len_pre p r x), hx, eqEdge_eq, e]
    rw [← mid_snoc, ← len_snoc] at h
    simpa using h
theorem eqEdgeS_ev (l : List S86) (h : l.length ≤ 1048576) : Ev (fun k => laws_eqPositionEdgeS.f k l l) true := by
  refine Ev.c1 (eqEdgeS_l0 l [] (by simp; omega)) fun k h => ?_
  simp only [laws_eqPositionEdgeS.f, if_true]
  simpa using h
theorem szEdgeS_ev (l : List S88) (a : Int) (h0 : 0 ≤ a) (h1 : a ≤ 1048576) (hl : l.length ≤ 9223372036854775807) : ∃ r, laws_szPositionEdgeS.f l a = some r ∧ (r < 0 ∨ (r = a - l.length ∧ 0 ≤ r)) := by
  have e : wrap64 (a - (l.length : Int)) = a - l.length := wr_id (by omega) (by omega)
  by_cases hc : a - (l.length : Int) < 0
  · exact ⟨-1, by simp [laws_szPositionEdgeS.f, e, hc], .inl (by omega)⟩
  · exact ⟨a - l.length, by simp only [laws_szPositionEdgeS.f, e]; rw [if_neg hc], .inr ⟨rfl, by omega⟩⟩
/-- One edge followed. -/
def edgeOn (n : Int) (met : List Bool) (e : S86) : Bool := decide (0 ≤ e.f0 ∧ e.f0 ≤ n - 1) && decide (0 ≤ e.f1 ∧ e.f1 ≤ n - 1) && met.getD e.f0.toNat false
def edgeStep (n : Int) (met : List Bool) (e : S86) : List Bool := if edgeOn n met e = true then met.set e.f1.toNat true else met
def reachRounds (n : Int) (es : List S86) : Nat → List Bool → List Bool
  | 0, m => m
  | d + 1, m => reachRounds n es d (es.foldl (edgeStep n) m)
def reachable (n : Int) (es : List S86) (a b : Int) : Bool :=
  decide (0 ≤ n ∧ n ≤ 30) && decide (0 ≤ a ∧ a ≤ n - 1) && decide (0 ≤ b ∧ b ≤ n - 1) && (reachRounds n es n.toNat ((List.replicate n.toNat false).set a.toNat true)).getD b.toNat false
theorem edgeStep_length (n : Int) (met : List Bool) (e : S86) : (edgeStep n met e).length = met.length := by
  unfold edgeStep; split <;> simp
theorem edgeFold_length (n : Int) (es : List S86) : ∀ met, (es.foldl (edgeStep n) met).length = met.length := by
  induction es with
  | nil => exact fun _ => rfl
  | cons e es ih => exact fun met => (ih _).trans (edgeStep_length n met e)
theorem sReach_l1 (n b i : Int) (hn : 0 ≤ n) (hn2 : n ≤ 30) (R : Bool) (es : List S86) (hes : es.length ≤ 1048576) : ∀ (r p : List S86) (met : List Bool), p ++ r = es → (met.length : Int) = n →
    Ev (fun k => spec_IsReachable.l0 k n es b (r.foldl (edgeStep n) met) (wrap64 (i + 1))) R → Ev (fun k => spec_IsReachable.l1 k n es b met i (p.length : Int)) R := by
  have e1 : wrap64 (n - 1) = n - 1 := wr_id (by omega) (by omega)
  intro r
  induction r with
  | nil =>
    intro p met hp hm h
    refine Ev.up (Ev.c1 h fun k h => ?_)
    simp only [spec_IsReachable.l1]
    rw [if_neg (by rw [← hp]; simp)]
    exact h
  | cons x r ih =>
    intro p met hp hm h
    have hpl : p.length + (r.length + 1) = es.length := by rw [← hp]; simp
    have e := wr_succ (m := p.length) (by omega)
    have hrd : rd_T86 es (p.length : Int) = x := by rw [← hp]; exact getD_pre p r x _
    have g := ih (p ++ [x]) (edgeStep n met x) (by rw [← hp]; simp) (by rw [edgeStep_length]; exact hm) h
    refine Ev.up (Ev.c1 g fun k g => ?_)
    simp only [spec_IsReachable.l1]
    rw [← len_snoc] at g
    rw [if_pos (by omega), if_pos (by omega), hrd, e, e1, l1In_eq, l1In_eq]
    simp only [Option.bind_some]
    by_cases h1 : 0 ≤ x.f0 ∧ x.f0 ≤ n - 1
    · by_cases h2 : 0 ≤ x.f1 ∧ x.f1 ≤ n - 1
      · rw [if_pos (by simpa using h1), if_pos (by simpa using h2), if_pos h1.1, if_pos (by omega)]
        have hrb : rdOf false met x.f0 = met.getD x.f0.toNat false := rfl
        rw [hrb]
        by_cases h3 : met.getD x.f0.toNat false = true
        · have : edgeStep n met x = met.set x.f1.toNat true := by
            unfold edgeStep; rw [if_pos (by unfold edgeOn; rw [h3]; simp [h1, h2])]
          rw [if_pos h3, if_pos h2.1, if_pos (by omega), ← this]
          exact g
        · have : edgeStep n met x = met := by
            unfold edgeStep; rw [if_neg (by unfold edgeOn; simp only [Bool.and_eq_true]; exact fun z => h3 z.2)]
          rw [if_neg h3]
          rw [this] at g
          exact g
      · have : edgeStep n met x = met := by
          unfold edgeStep; rw [if_neg (by unfold edgeOn; simp only [Bool.and_eq_true, decide_eq_true_eq]; exact fun z => h2 z.1.2)]
        rw [if_pos (by simpa using h1), if_neg (by simpa using h2)]
        rw [this] at g
        exact g
    · have : edgeStep n met x = met := by
        unfold edgeStep; rw [if_neg (by unfold edgeOn; simp only [Bool.and_eq_true, decide_eq_true_eq]; exact fun z => h1 z.1.1)]
      rw [if_neg (by simpa using h1)]
      rw [this] at g
      exact g
theorem sReach_l0 (n b : Int) (hn : 0 ≤ n) (hn2 : n ≤ 30) (hb : 0 ≤ b ∧ b ≤ n - 1) (es : List S86) (hes : es.length ≤ 1048576) : ∀ (d : Nat) (i : Int) (met : List Bool), 0 ≤ i → i + d = n → (met.length : Int) = n →
    Ev (fun k => spec_IsReachable.l0 k n es b met i) ((reachRounds n es d met).getD b.toNat false) := by
  intro d
  induction d with
  | zero =>
    intro i met hi hd hm
    refine Ev.up (Ev.c0 fun k => ?_)
    simp only [spec_IsReachable.l0]
    rw [if_neg (by omega), if_pos hb.1, if_pos (by omega)]
    rfl
  | succ d ih =>
    intro i met hi hd hm
    have e : wrap64 (i + 1) = i + 1 := wr_id (by omega) (by omega)
    have g := ih (i + 1) (es.foldl (edgeStep n) met) (by omega) (by omega) (by rw [edgeFold_length]; exact hm)
    have g1 := sReach_l1 n b i hn hn2 _ es hes es [] met (by simp) hm (by rw [e]; exact g)
    refine Ev.up (Ev.c1 g1 fun k h => ?_)
    simp only [spec_IsReachable.l0]
    rw [if_pos (by omega)]
    exact h
theorem sIsReachable_ev (n a b : Int) (es : List S86) (hes : es.length ≤ 1048576) (hn : okI n) : Ev (fun k => spec_IsReachable.f k n es a b) (reachable n es a b) := by
  unfold reachable
  have gT : Ev (fun k => spec_IsReachable.j0 k n es a b true) false := Ev.up (Ev.c0 fun k => by simp [spec_IsReachable.j0])
  by_cases h0 : 0 ≤ n ∧ n ≤ 30
  · have e1 : wrap64 (n - 1) = n - 1 := wr_id (by omega) (by omega)
    by_cases h1 : 0 ≤ a ∧ a ≤ n - 1
    · by_cases h2 : 0 ≤ b ∧ b ≤ n - 1
      · have g := sReach_l0 n b h0.1 h0.2 h2 es hes n.toNat 0 ((List.replicate n.toNat false).set a.toNat true) (by omega) (by omega) (by simp; omega)
        have g2 : Ev (fun k => spec_IsReachable.j0 k n es a b false) ((reachRounds n es n.toNat ((List.replicate n.toNat false).set a.toNat true)).getD b.toNat false) := Ev.up (Ev.c1 g fun k g => by
          simp only [spec_IsReachable.j0]
          rw [if_neg (by simp), if_pos h0.1, if_pos (by omega)]
          simp only [Option.bind_some]
          rw [if_pos h1.1, if_pos (by simp; omega)]
          exact g)
        refine Ev.c1 g2 fun k g2 => ?_
        simp only [spec_IsReachable.f, l1In_eq, h0, e1, h1, h2, and_self, decide_true, Option.bind_some, if_true, Bool.not_true, Bool.true_and]
        exact g2
      · refine Ev.c1 gT fun k g2 => ?_
        simp only [spec_IsReachable.f, l1In_eq, h0, e1, h1, h2, and_self, decide_true, decide_false, Option.bind_some, if_true, Bool.not_false, Bool.true_and, Bool.false_and]
        exact g2
    · refine Ev.c1 gT fun k g2 => ?_
      simp only [spec_IsReachable.f, l1In_eq, h0, e1, h1, and_self, decide_true, decide_false, Option.bind_some, if_true, Bool.true_and, Bool.false_and]
      simpa using g2
  · refine Ev.c1 gT fun k g2 => ?_
    simp only [spec_IsReachable.f, l1In_eq, h0, decide_false, Option.bind_some, Bool.false_and]
    simpa using g2
theorem iReach_l1 (n b i : Int) (hn : 0 ≤ n) (hn2 : n ≤ 30) (R : Bool) (es : List S86) (hes : es.length ≤ 1048576) : ∀ (r p : List S86) (met : List Bool), p ++ r = es → (met.length : Int) = n →
    Ev (fun k => impl_IsReachable.l0 k n es b (r.foldl (edgeStep n) met) n (wrap64 (i + 1))) R → Ev (fun k => impl_IsReachable.l1 k n es b met n i es (es.length : Int) (p.length : Int)) R := by
  have e1 : wrap64 (n - 1) = n - 1 := wr_id (by omega) (by omega)
  intro r
  induction r with
  | nil =>
    intro p met hp hm h
    refine Ev.up (Ev.c1 h fun k h => ?_)
    simp only [impl_IsReachable.l1]
    rw [if_neg (by rw [← hp]; simp)]
    exact h
  | cons x r ih =>
    intro p met hp hm h
    have hpl : p.length + (r.length + 1) = es.length := by rw [← hp]; simp
    have hlt : (p.length : Int) < (es.length : Int) := by omega
    have e := wr_succ (m := p.length) (by omega)
    have hrd : rd_T86 es (p.length : Int) = x := by rw [← hp]; exact getD_pre p r x _
    have g := ih (p ++ [x]) (edgeStep n met x) (by rw [← hp]; simp) (by rw [edgeStep_length]; exact hm) h
    refine Ev.up (Ev.c1 g fun k g => ?_)
    simp only [impl_IsReachable.l1]
    rw [← len_snoc] at g
    rw [if_pos hlt, if_pos (by omega), if_pos hlt, hrd, e, e1, within_eq, within_eq]
    simp only [Option.bind_some]
    by_cases h1 : 0 ≤ x.f0 ∧ x.f0 ≤ n - 1
    · by_cases h2 : 0 ≤ x.f1 ∧ x.f1 ≤ n - 1
      · rw [if_pos (by simpa using h1), if_pos (by simpa using h2), if_pos h1.1, if_pos (by omega)]
        have hrb : rdOf false met x.f0 = met.getD x.f0.toNat false := rfl
        rw [hrb]
        by_cases h3 : met.getD x.f0.toNat false = true
        · have : edgeStep n met x = met.set x.f1.toNat true := by
            unfold edgeStep; rw [if_pos (by unfold edgeOn; rw [h3]; simp [h1, h2])]
          rw [if_pos h3, if_pos h2.1, if_pos (by omega), ← this]
          exact g
        · have : edgeStep n met x = met := by
            unfold edgeStep; rw [if_neg (by unfold edgeOn; simp only [Bool.and_eq_true]; exact fun z => h3 z.2)]
          rw [if_neg h3]
          rw [this] at g
          exact g
      · have : edgeStep n met x = met := by
          unfold edgeStep; rw [if_neg (by unfold edgeOn; simp only [Bool.and_eq_true, decide_eq_true_eq]; exact fun z => h2 z.1.2)]
        rw [if_pos (by simpa using h1), if_neg (by simpa using h2)]
        rw [this] at g
        exact g
    · have : edgeStep n met x = met := by
        unfold edgeStep; rw [if_neg (by unfold edgeOn; simp only [Bool.and_eq_true, decide_eq_true_eq]; exact fun z => h1 z.1.1)]
      rw [if_neg (by simpa using h1)]
      rw [this] at g
      exact g
theorem iReach_l0 (n b : Int) (hn : 0 ≤ n) (hn2 : n ≤ 30) (hb : 0 ≤ b ∧ b ≤ n - 1) (es : List S86) (hes : es.length ≤ 1048576) : ∀ (d : Nat) (i : Int) (met : List Bool), 0 ≤ i → i + d = n → (met.length : Int) = n →
    Ev (fun k => impl_IsReachable.l0 k n es b met n i) ((reachRounds n es d met).getD b.toNat false) := by
  intro d
  induction d with
  | zero =>
    intro i met hi hd hm
    refine Ev.up (Ev.c0 fun k => ?_)
    simp only [impl_IsReachable.l0]
    rw [if_neg (by omega), if_pos hb.1, if_pos (by omega)]
    rfl
  | succ d ih =>
    intro i met hi hd hm
    have e : wrap64 (i + 1) = i + 1 := wr_id (by omega) (by omega)
    have g := ih (i + 1) (es.foldl (edgeStep n) met) (by omega) (by omega) (by rw [edgeFold_length]; exact hm)
    have g1 := iReach_l1 n b i hn hn2 _ es hes es [] met (by simp) hm (by rw [e]; exact g)
    refine Ev.up (Ev.c1 g1 fun k h => ?_)
    simp only [impl_IsReachable.l0]
    rw [if_pos (by omega)]
    exact h
theorem iIsReachable_ev (n a b : Int) (es : List S86) (hes : es.length ≤ 1048576) (hn : okI n) : Ev (fun k => impl_IsReachable.f k n es a b) (reachable n es a b) := by
  unfold reachable
  have gT : Ev (fun k => impl_IsReachable.j0 k n es a b true) false := Ev.up (Ev.c0 fun k => by simp [impl_IsReachable.j0])
  by_cases h0 : 0 ≤ n ∧ n ≤ 30
  · have e1 : wrap64 (n - 1) = n - 1 := wr_id (by omega) (by omega)
    by_cases h1 : 0 ≤ a ∧ a ≤ n - 1
    · by_cases h2 : 0 ≤ b ∧ b ≤ n - 1
      · have g := iReach_l0 n b h0.1 h0.2 h2 es hes n.toNat 0 ((List.replicate n.toNat false).set a.toNat true) (by omega) (by omega) (by simp; omega)
        have g2 : Ev (fun k => impl_IsReachable.j0 k n es a b false) ((reachRounds n es n.toNat ((List.replicate n.toNat false).set a.toNat true)).getD b.toNat false) := Ev.up (Ev.c1 g fun k g => by
          simp only [impl_IsReachable.j0]
          rw [if_neg (by simp), if_pos h0.1, if_pos (by omega)]
          simp only [Option.bind_some]
          rw [if_pos h1.1, if_pos (by simp; omega)]
          exact g)
        refine Ev.c1 g2 fun k g2 => ?_
        simp only [impl_IsReachable.f, within_eq, h0, e1, h1, h2, and_self, decide_true, Option.bind_some, if_true, Bool.not_true, Bool.true_and]
        exact g2
      · refine Ev.c1 gT fun k g2 => ?_
        simp only [impl_IsReachable.f, within_eq, h0, e1, h1, h2, and_self, decide_true, decide_false, Option.bind_some, if_true, Bool.not_false, Bool.true_and, Bool.false_and]
        exact g2
    · refine Ev.c1 gT fun k g2 => ?_
      simp only [impl_IsReachable.f, within_eq, h0, e1, h1, and_self, decide_true, decide_false, Option.bind_some, if_true, Bool.true_and, Bool.false_and]
      simpa using g2
  · refine Ev.c1 gT fun k g2 => ?_
    simp only [impl_IsReachable.f, within_eq, h0, decide_false, Option.bind_some, Bool.false_and]
    simpa using g2
theorem FnExactIsReachable : laws_FnExactIsReachable.Pure := by
  intro n es a b hn hes ha hb
  obtain ⟨s, h, hs⟩ := szEdgeS_ev es 1048576 (by omega) (by omega) hes.1
  by_cases hneg : s < 0
  · exact ⟨0, by simp [laws_FnExactIsReachable.f, h, hneg]⟩
  · have hb1 : es.length ≤ 1048576 := by omega
    have hb2 : (es.map toEdge).length ≤ 1048576 := by simpa using hb1
    exact Ev.rounds (Ev.c4 (toEdgeS_ev es hb1) (sIsReachable_ev n a b _ hb2 hn) (iIsReachable_ev n a b _ hb2 hn) (eqEdgeS_ev _ hb2) fun k z1 z2 z3 z4 => by
      simp only [laws_FnExactIsReachable.f, h, if_neg hneg, z1, z2, z3, z4, Option.bind_some, if_true, bne_self_eq_false]
      simp)

end Go.Proofs.Ytjglmllogbhknaa.Pure
