import Derived.Test.YthcggkagkihamaaGreatDoorEngZQ
import Derived.Lib.SplitLaws
set_option linter.unusedVariables false
set_option linter.unusedSimpArgs false
namespace Go.Eng
open Go Go.RowKit
def spl (b : UInt8) : List UInt8 → List (List UInt8)
 | [] => [[]]
 | c :: s => if c = b then [] :: spl b s else match spl b s with
  | [] => [[c]]
  | x :: xs => (c :: x) :: xs
section
variable {b : UInt8}
theorem spl_ne : ∀ s, spl b s ≠ []
 | [] => by simp [spl]
 | c :: s => by
  unfold spl
  split
  ·simp
  ·split <;> simp
theorem spl_cons {c : UInt8} {s : List UInt8} (h : c ≠ b) : ∃ x xs, spl b s = x :: xs ∧ spl b (c :: s) = (c :: x) :: xs := by
 cases e : spl b s with
 | nil => exact absurd e (spl_ne s)
 | cons x xs => exact ⟨x, xs, rfl, by rw [spl, if_neg h, e]⟩
theorem spl_no : ∀ {s : List UInt8}, b ∉ s → spl b s = [s]
 | [], _ => rfl
 | c :: s, h => by
  simp only [List.mem_cons, not_or] at h
  have ih := spl_no (s := s) h.2
  rw [spl, if_neg (Ne.symm h.1), ih]
theorem spl_app : ∀ {x : List UInt8} {s : List UInt8}, b ∉ x → spl b (x ++ b :: s) = x :: spl b s
 | [], s, _ => by simp [spl]
 | c :: x, s, h => by
  simp only [List.mem_cons, not_or] at h
  have ih := spl_app (x := x) (s := s) h.2
  rw [List.cons_append, spl, if_neg (Ne.symm h.1), ih]
theorem join2 (x y : List UInt8) (l : List (List UInt8)) : Lib.join (x :: y :: l) [b] = x ++ b :: Lib.join (y :: l) [b] := by
 rw [Lib.join_cons, Lib.join_cons]
 simp [Lib.joinTail]
theorem spl_join : ∀ {l : List (List UInt8)}, l ≠ [] → (∀ x ∈ l, b ∉ x) → spl b (Lib.join l [b]) = l
 | [], h, _ => absurd rfl h
 | [x], _, h => by rw [Lib.join_one, spl_no (h x (by simp))]
 | x :: y :: l, _, h => by
  rw [join2, spl_app (h x (by simp)), spl_join (l := y :: l) (by simp) (fun z hz => h z (List.mem_cons_of_mem _ hz))]
theorem ix_no : ∀ {s : List UInt8}, b ∉ s → Lib.index s [b] = -1
 | [], _ => rfl
 | c :: s, h => by
  simp only [List.mem_cons, not_or] at h
  have ih := ix_no (s := s) h.2
  have hp : ([b] : List UInt8).isPrefixOf (c :: s) = false := by simp [List.isPrefixOf, h.1]
  rw [Lib.index, hp, ih]
  rfl
theorem ix_at : ∀ {x s : List UInt8}, b ∉ x → Lib.index (x ++ b :: s) [b] = (x.length : Int)
 | [], s, _ => by
  rw [List.nil_append, Lib.index]
  simp [List.isPrefixOf]
 | c :: x, s, h => by
  simp only [List.mem_cons, not_or] at h
  have ih := ix_at (x := x) (s := s) h.2
  have hp : ([b] : List UInt8).isPrefixOf (c :: (x ++ b :: s)) = false := by simp [List.isPrefixOf, h.1]
  rw [List.cons_append, Lib.index, hp, ih]
  have : ¬ ((x.length : Int) == -1) = true := by
   intro e
   have := eq_of_beq e
   omega
  rw [if_neg (by decide), if_neg this, List.length_cons]
  omega
theorem cut_no {s : List UInt8} (h : b ∉ s) : Lib.cut s [b] = (s, [], false) := by
 unfold Lib.cut
 rw [ix_no h, if_neg (by omega)]
theorem cut_at {x s : List UInt8} (h : b ∉ x) : Lib.cut (x ++ b :: s) [b] = (x, s, true) := by
 unfold Lib.cut
 rw [ix_at h, if_pos (by omega)]
 simp
theorem first_of : ∀ {s : List UInt8}, b ∈ s → ∃ x r, s = x ++ b :: r ∧ b ∉ x
 | [], h => by simp at h
 | c :: s, h => by
  by_cases e : c = b
  ·exact ⟨[], s, by rw [e]; rfl, by simp⟩
  ·have h2 : b ∈ s := by
    rcases List.mem_cons.1 h with q | q
    ·exact absurd q.symm e
    ·exact q
   obtain ⟨x, r, h3, h4⟩ := first_of h2
   exact ⟨c :: x, r, by rw [h3]; rfl, by simp [h4, Ne.symm e]⟩
theorem split_spl (s : List UInt8) : Lib.split s [b] = spl b s := by
 have key : ∀ (n : Nat) (s : List UInt8), s.count b = n → Lib.splitK [b] 0 n s = spl b s := by
  intro n
  induction n with
  | zero =>
   intro s h
   rw [Lib.splitK, spl_no (List.count_eq_zero.1 h)]
  | succ n ih =>
   intro s h
   obtain ⟨x, r, h1, h2⟩ := first_of (b := b) (s := s) (List.count_pos_iff.1 (by omega))
   subst h1
   rw [Lib.splitK, ix_at h2]
   have hne : ¬ ((x.length : Int) == -1) = true := by
    intro e
    have := eq_of_beq e
    omega
   rw [if_neg hne, spl_app h2]
   have hc : r.count b = n := by
    rw [List.count_append, List.count_eq_zero.2 h2, List.count_cons_self] at h
    omega
   have ht : (x ++ b :: r).take ((x.length : Int).toNat + 0) = x := by simp
   have hd : (x ++ b :: r).drop ((x.length : Int).toNat + ([b] : List UInt8).length) = r := by simp
   rw [ht, hd, ih r hc]
 unfold Lib.split
 rw [Lib.count_one]
 exact key _ s rfl
end
def pT (c : UInt8) : Int := if 48 ≤ (c.toNat : Int) ∧ (c.toNat : Int) ≤ 57 then -1 - ((c.toNat : Int) - 48) else if 0 ≤ Lib.indexByte [120, 121, 122, 117, 118] c then Lib.indexByte [120, 121, 122, 117, 118] c else 5
def tms : List Int := [-10, -9, -8, -7, -6, -5, -4, -3, -2, -1, 0, 1, 2, 3, 4]
def tmF (s : List UInt8) : Int := (tms.find? fun t => decide (fmtT t = s)).getD 5
def tb (t : Int) : UInt8 := (fmtT t).headD 0
theorem fmtT_neg {n : Nat} (h : n ≤ 9) : fmtT (-1 - (n : Int)) = [UInt8.ofNat (48 + n)] := by
 unfold fmtT
 rw [if_neg (by omega), if_pos (by omega), show -1 - (-1 - (n : Int)) = (n : Int) by omega]
 unfold fmtN
 split
 ·rename_i h0
  have : n = 0 := by omega
  subst this
  rfl
 ·rename_i h0
  rw [show ((n : Int)).toNat = n from rfl, digs_step (by omega), Nat.div_eq_of_lt (by omega), Nat.mod_eq_of_lt (by omega)]
  simp [digs]
theorem tm_cases {t : Int} (h : -10 ≤ t ∧ t ≤ 4) : t ∈ tms := by
 unfold tms
 simp only [List.mem_cons, List.not_mem_nil, or_false]
 omega
theorem tm_all : ∀ t ∈ tms, fmtT t = [tb t] ∧ pT (tb t) = t ∧ ((48 ≤ (tb t).toNat ∧ (tb t).toNat ≤ 57) ∨ (97 ≤ (tb t).toNat ∧ (tb t).toNat ≤ 122)) := by
 have neg : ∀ n : Nat, n ≤ 9 → fmtT (-1 - (n : Int)) = [tb (-1 - (n : Int))] ∧ pT (tb (-1 - (n : Int))) = -1 - (n : Int) ∧ ((48 ≤ (tb (-1 - (n : Int))).toNat ∧ (tb (-1 - (n : Int))).toNat ≤ 57) ∨ (97 ≤ (tb (-1 - (n : Int))).toNat ∧ (tb (-1 - (n : Int))).toNat ≤ 122)) := by
  intro n hn
  have e : tb (-1 - (n : Int)) = UInt8.ofNat (48 + n) := by unfold tb; rw [fmtT_neg hn]; rfl
  have e2 : (UInt8.ofNat (48 + n)).toNat = 48 + n := by simp; omega
  refine ⟨by rw [e, fmtT_neg hn], ?_, .inl (by rw [e, e2]; omega)⟩
  rw [e]
  unfold pT
  rw [e2, if_pos (by omega)]
  omega
 intro t ht
 have hr : -10 ≤ t ∧ t ≤ 4 := by
  unfold tms at ht
  simp only [List.mem_cons, List.not_mem_nil, or_false] at ht
  omega
 by_cases h : t < 0
 ·have := neg (-1 - t).toNat (by omega)
  rw [show -1 - (((-1 - t).toNat : Nat) : Int) = t by omega] at this
  exact this
 ·have : t = 0 ∨ t = 1 ∨ t = 2 ∨ t = 3 ∨ t = 4 := by omega
  rcases this with rfl | rfl | rfl | rfl | rfl <;> decide
theorem tb_inj {t u : Int} (ht : t ∈ tms) (hu : u ∈ tms) (h : tb t = tb u) : t = u := by
 rw [← (tm_all t ht).2.1, h, (tm_all u hu).2.1]
theorem tmF_tb {t : Int} (ht : t ∈ tms) : tmF [tb t] = t := by
 unfold tmF
 have hs : ∃ u, tms.find? (fun u => decide (fmtT u = [tb t])) = some u := by
  cases e : tms.find? (fun u => decide (fmtT u = [tb t])) with
  | none =>
   rw [List.find?_eq_none] at e
   exact absurd (decide_eq_true (tm_all t ht).1) (e t ht)
  | some u => exact ⟨u, rfl⟩
 obtain ⟨u, hu⟩ := hs
 rw [hu]
 have h1 := List.mem_of_find?_eq_some hu
 have h2 : fmtT u = [tb t] := by
  have := List.find?_some (p := fun u => decide (fmtT u = [tb t])) hu
  exact of_decide_eq_true this
 rw [(tm_all u h1).1] at h2
 simp only [List.cons.injEq, and_true] at h2
 exact tb_inj h1 ht h2
end Go.Eng
