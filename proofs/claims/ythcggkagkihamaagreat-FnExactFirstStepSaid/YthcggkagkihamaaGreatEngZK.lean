import Derived.Test.YthcggkagkihamaaGreatEngZQ
set_option linter.unusedVariables false
set_option linter.unusedSimpArgs false
namespace Go.Eng
open Go Go.RowKit
theorem cmpL_neg : ∀ a b : List Int, cmpL b a = -cmpL a b
 | [], [] => rfl
 | [], _ :: _ => rfl
 | _ :: _, [] => rfl
 | x :: a, y :: b => by
  unfold cmpL
  by_cases h1 : x < y
  ·have h2 : ¬ y < x := by omega
   simp [h1, h2]
  ·by_cases h2 : y < x
   ·simp [h1, h2]
   ·simp only [h1, h2, if_false]; exact cmpL_neg a b
theorem cmpL_le : ∀ a b c : List Int, cmpL a b ≤ 0 → cmpL b c ≤ 0 → cmpL a c ≤ 0
 | [], b, [], _, _ => by simp [cmpL]
 | [], b, z :: c, _, _ => by simp [cmpL]
 | x :: a, [], c, h, _ => by simp [cmpL] at h
 | x :: a, y :: b, [], _, h => by simp [cmpL] at h
 | x :: a, y :: b, z :: c, h1, h2 => by
  unfold cmpL at h1 h2 ⊢
  split at h1
  ·split at h2
   ·rw [if_pos (by omega)]; omega
   ·split at h2
    ·omega
    ·rw [if_pos (by omega)]; omega
  ·split at h1
   ·omega
   ·split at h2
    ·rw [if_pos (by omega)]; omega
    ·split at h2
     ·omega
     ·rw [if_neg (by omega), if_neg (by omega)]
      exact cmpL_le a b c h1 h2
theorem cmpF_neg (a b : Int × List Int) : cmpF b a = -cmpF a b := by
 unfold cmpF
 by_cases h1 : a.1 < b.1
 ·have h2 : ¬ b.1 < a.1 := by omega
  simp [h1, h2]
 ·by_cases h2 : b.1 < a.1
  ·simp [h1, h2]
  ·simp only [h1, h2, if_false]; exact cmpL_neg _ _
theorem cmpF_le {a b c : Int × List Int} (h1 : cmpF a b ≤ 0) (h2 : cmpF b c ≤ 0) : cmpF a c ≤ 0 := by
 unfold cmpF at h1 h2 ⊢
 split at h1
 ·split at h2
  ·rw [if_pos (by omega)]; omega
  ·split at h2
   ·omega
   ·rw [if_pos (by omega)]; omega
 ·split at h1
  ·omega
  ·split at h2
   ·rw [if_pos (by omega)]; omega
   ·split at h2
    ·omega
    ·rw [if_neg (by omega), if_neg (by omega)]
     exact cmpL_le _ _ _ h1 h2
theorem cmpF_lt {a b c : Int × List Int} (h1 : cmpF a b < 0) (h2 : cmpF b c ≤ 0) : cmpF a c < 0 := by
 have h3 := cmpF_le (a := a) (b := b) (c := c) (by omega) h2
 rcases Int.lt_or_le (cmpF a c) 0 with h | h
 ·exact h
 ·obtain rfl := cmpF_zero.1 (show cmpF a c = 0 by omega)
  have := cmpF_neg b a
  omega
theorem cmpF_lt' {a b c : Int × List Int} (h1 : cmpF a b ≤ 0) (h2 : cmpF b c < 0) : cmpF a c < 0 := by
 have h3 := cmpF_le (a := a) (b := b) (c := c) h1 (by omega)
 rcases Int.lt_or_le (cmpF a c) 0 with h | h
 ·exact h
 ·obtain rfl := cmpF_zero.1 (show cmpF a c = 0 by omega)
  have := cmpF_neg a b
  omega
def StF (l : Atoms) : Prop := l.Pairwise fun x y => cmpF x y < 0
def SoF (l : Atoms) : Prop := l.Pairwise fun x y => cmpF x y ≤ 0
theorem stF_ext : ∀ (a b : Atoms), StF a → StF b → (∀ z, z ∈ a ↔ z ∈ b) → a = b
 | [], [], _, _, _ => rfl
 | [], y :: b, _, _, h => by have := (h y).2 (by simp); simp at this
 | x :: a, [], _, _, h => by have := (h x).1 (by simp); simp at this
 | x :: a, y :: b, ha, hb, h => by
  have ha' := List.pairwise_cons.1 ha
  have hb' := List.pairwise_cons.1 hb
  have hxy : x = y := by
   rcases List.mem_cons.1 ((h x).1 (by simp)) with e | e
   ·exact e
   ·rcases List.mem_cons.1 ((h y).2 (by simp)) with e' | e'
    ·exact e'.symm
    ·have h1 := hb'.1 x e
     have h2 := ha'.1 y e'
     have := cmpF_neg x y
     omega
  subst hxy
  have hn : ∀ l : Atoms, (∀ z ∈ l, cmpF x z < 0) → ¬ x ∈ l := fun l hl hx => by
   have := hl x hx
   rw [cmpF_refl] at this
   omega
  rw [stF_ext a b ha'.2 hb'.2 fun z => ?_]
  have := h z
  simp only [List.mem_cons] at this
  constructor
  ·intro hz
   rcases this.1 (.inr hz) with e | e
   ·subst e; exact absurd hz (hn a ha'.1)
   ·exact e
  ·intro hz
   rcases this.2 (.inr hz) with e | e
   ·subst e; exact absurd hz (hn b hb'.1)
   ·exact e
theorem soF_ext : ∀ (a b : Atoms), SoF a → SoF b → a.Perm b → a = b
 | [], b, _, _, h => (List.nil_perm.1 h).symm
 | x :: a, [], _, _, h => absurd (List.perm_nil.1 h) (by simp)
 | x :: a, y :: b, ha, hb, h => by
  have ha' := List.pairwise_cons.1 ha
  have hb' := List.pairwise_cons.1 hb
  have hxy : x = y := by
   rcases List.mem_cons.1 (h.mem_iff.1 (List.mem_cons_self)) with e | e
   ·exact e
   ·rcases List.mem_cons.1 (h.mem_iff.2 (List.mem_cons_self (a := y) (l := b))) with e' | e'
    ·exact e'.symm
    ·have h1 := hb'.1 x e
     have h2 := ha'.1 y e'
     have := cmpF_neg x y
     exact cmpF_zero.1 (by omega)
  subst hxy
  rw [soF_ext a b ha'.2 hb'.2 ((List.perm_cons x).1 h)]
def cmpT {α : Type} (q : α → α → Bool) (l : List α) : Nat → List α
 | 0 => []
 | n + 1 => cmpT q l n ++ (match l[n]? with
  | some x => (match n with
   | 0 => [x]
   | k + 1 => (match l[k]? with
    | some y => if q x y then [] else [x]
    | none => []))
  | none => [])
section
variable {α β : Type} {q : α → α → Bool} {l r : List α} {k j : Nat} {x y z : α}
theorem cmpT_hit (hx : l[j + 1]? = some x) (hy : l[j]? = some y) (h : q x y = true) : cmpT q l (j + 2) = cmpT q l (j + 1) := by
 rw [cmpT, hx]
 simp only [hy, h, if_true, List.append_nil]
theorem cmpT_miss (hx : l[j + 1]? = some x) (hy : l[j]? = some y) (h : q x y = false) : cmpT q l (j + 2) = cmpT q l (j + 1) ++ [x] := by
 rw [cmpT, hx]
 simp only [hy, h, Bool.false_eq_true, if_false]
theorem cmpT_one (hx : l[0]? = some x) : cmpT q l 1 = [x] := by
 rw [cmpT, hx]; rfl
theorem cmpT_map (f : α → β) (p : β → β → Bool) (l : List α) : ∀ n, (cmpT (fun x y => p (f x) (f y)) l n).map f = cmpT p (l.map f) n
 | 0 => rfl
 | n + 1 => by
  rw [cmpT, cmpT, List.map_append, cmpT_map f p l n, List.getElem?_map]
  congr 1
  cases hx : l[n]? with
  | none => rfl
  | some x =>
   cases n with
   | zero => rfl
   | succ k =>
    simp only [Option.map_some, List.getElem?_map]
    cases hy : l[k]? with
    | none => rfl
    | some y =>
     simp only [Option.map_some]
     split <;> rfl
theorem cmpT_sub (l : List α) : ∀ n, List.Sublist (cmpT q l n) (l.take n)
 | 0 => by simp [cmpT]
 | n + 1 => by
  rw [cmpT, List.take_add_one]
  refine List.Sublist.append (cmpT_sub l n) ?_
  cases hx : l[n]? with
  | none => simp
  | some x =>
   simp only [Option.toList_some]
   split
   ·exact List.Sublist.refl _
   ·split
    ·split
     ·exact List.nil_sublist _
     ·exact List.Sublist.refl _
    ·exact List.nil_sublist _
def cp1 (q : α → α → Bool) (l : List α) (m : Nat) : Prop := 1 ≤ m ∧ m ≤ l.length ∧ cmpT q l m = l.take m
theorem cp1_start (h : 2 ≤ l.length) : cp1 q l 1 := by
 refine ⟨Nat.le_refl _, by omega, ?_⟩
 obtain ⟨x, hx⟩ : ∃ x, l[0]? = some x := ⟨_, List.getElem?_eq_getElem (by omega)⟩
 rw [cmpT_one hx, List.take_add_one, hx]
 rfl
theorem cp1_next {n : Nat} (h : cp1 q l k) (hx : l[k]? = some x) (hy : l[n]? = some y) (hn : n + 1 = k) (hq : q x y = false) : cp1 q l (k + 1) := by
 obtain ⟨h1, h2, h3⟩ := h
 have := (List.getElem?_eq_some_iff.1 hx).1
 subst hn
 refine ⟨by omega, by omega, ?_⟩
 rw [cmpT_miss hx hy hq, h3, List.take_add_one (l := l) (i := n + 1), hx]
 rfl
theorem cp1_end (h : cp1 q l k) (hk : l.length ≤ k) : l = cmpT q l l.length := by
 obtain ⟨h1, h2, h3⟩ := h
 obtain rfl : k = l.length := by omega
 rw [h3, List.take_length]
theorem cp_short (h : l.length < 2) : l = cmpT q l l.length := by
 match l, h with
 | [], _ => rfl
 | [x], _ => rfl
def cp2 (q : α → α → Bool) (l r : List α) (k j : Nat) : Prop := 1 ≤ k ∧ k < j ∧ j ≤ l.length ∧ r.length = l.length ∧ r.take k = cmpT q l j ∧ ∀ n, k ≤ n → r[n]? = l[n]?
theorem cp2_start {n : Nat} (h : cp1 q l k) (hx : l[k]? = some x) (hy : l[n]? = some y) (hn : n + 1 = k) (hq : q x y = true) : cp2 q l l k (k + 1) := by
 obtain ⟨h1, h2, h3⟩ := h
 have := (List.getElem?_eq_some_iff.1 hx).1
 subst hn
 refine ⟨h1, by omega, by omega, rfl, ?_, fun _ _ => rfl⟩
 rw [cmpT_hit hx hy hq, h3]
theorem cp2_keep {n : Nat} (h : cp2 q l r k j) (hx : r[j]? = some x) (hy : r[n]? = some y) (hn : n + 1 = j) (hq : q x y = false) : cp2 q l (r.set k x) (k + 1) (j + 1) := by
 obtain ⟨h0, h1, h2, h3, h4, h5⟩ := h
 subst hn
 rw [h5 _ (by omega)] at hx hy
 have hlt := (List.getElem?_eq_some_iff.1 hx).1
 refine ⟨by omega, by omega, by omega, by rw [List.length_set]; exact h3, ?_, fun i hi => ?_⟩
 ·rw [cmpT_miss hx hy hq, ← h4]
  rw [List.take_add_one, List.getElem?_set_self (by omega), List.take_set_of_le (Nat.le_refl _)]
  rfl
 ·rw [List.getElem?_set_ne (by omega)]
  exact h5 i (by omega)
theorem cp2_skip {n : Nat} (h : cp2 q l r k j) (hx : r[j]? = some x) (hy : r[n]? = some y) (hn : n + 1 = j) (hq : q x y = true) : cp2 q l r k (j + 1) := by
 obtain ⟨h0, h1, h2, h3, h4, h5⟩ := h
 subst hn
 rw [h5 _ (by omega)] at hx hy
 have hlt := (List.getElem?_eq_some_iff.1 hx).1
 exact ⟨h0, by omega, by omega, h3, by rw [cmpT_hit hx hy hq, h4], h5⟩
theorem cp2_at {n : Nat} (h : cp2 q l r k j) (hz : r[n]? = some z) (hn : k ≤ n) : l[n]? = some z := by rw [← h.2.2.2.2.2 n hn]; exact hz
theorem cp2_end (h : cp2 q l r k j) (hj : l.length ≤ j) (t : List α) : (r.take k ++ t).take k = cmpT q l l.length := by
 obtain ⟨h0, h1, h2, h3, h4, h5⟩ := h
 obtain rfl : j = l.length := by omega
 rw [List.take_append_of_le_length (by rw [List.length_take]; omega), List.take_take, Nat.min_self, h4]
end
def eqF (x y : Int × List Int) : Bool := decide (cmpF x y = 0)
theorem cmpT_facts {l : Atoms} (hs : SoF l) : ∀ n, StF (cmpT eqF l n) ∧ ∀ z, z ∈ cmpT eqF l n ↔ z ∈ l.take n
 | 0 => by simp [cmpT, StF]
 | n + 1 => by
  obtain ⟨h1, h2⟩ := cmpT_facts hs n
  cases hx : l[n]? with
  | none =>
   have e : cmpT eqF l (n + 1) = cmpT eqF l n := by rw [cmpT, hx]; simp
   have := List.getElem?_eq_none_iff.1 hx
   rw [e, List.take_of_length_le (by omega)]
   rw [List.take_of_length_le (by omega)] at h2
   exact ⟨h1, h2⟩
  | some x =>
   cases n with
   | zero =>
    rw [cmpT_one hx, List.take_add_one, hx]
    simp [StF]
   | succ k =>
    have hlt := (List.getElem?_eq_some_iff.1 hx).1
    obtain ⟨y, hy⟩ : ∃ y, l[k]? = some y := ⟨_, List.getElem?_eq_getElem (by omega)⟩
    have hall : ∀ z ∈ l.take (k + 1), cmpF z y ≤ 0 := fun z hz => by
     rw [List.take_add_one, hy, List.mem_append] at hz
     rcases hz with hz | hz
     ·obtain ⟨i, hi⟩ := List.getElem?_of_mem hz
      have hi2 := (List.getElem?_eq_some_iff.1 hi).1
      rw [List.length_take] at hi2
      rw [List.getElem?_take, if_pos (by omega)] at hi
      obtain ⟨e1, rfl⟩ := List.getElem?_eq_some_iff.1 hi
      obtain ⟨e2, rfl⟩ := List.getElem?_eq_some_iff.1 hy
      exact List.pairwise_iff_getElem.1 hs i k e1 e2 (by omega)
     ·simp at hz; subst hz; rw [cmpF_refl]; omega
    have hyx : cmpF y x ≤ 0 := by
     obtain ⟨e1, rfl⟩ := List.getElem?_eq_some_iff.1 hx
     obtain ⟨e2, rfl⟩ := List.getElem?_eq_some_iff.1 hy
     exact List.pairwise_iff_getElem.1 hs k (k + 1) e2 e1 (by omega)
    have hmem : ∀ z, z ∈ l.take (k + 1 + 1) ↔ z ∈ l.take (k + 1) ∨ z = x := fun z => by
     rw [List.take_add_one (l := l) (i := k + 1), hx, List.mem_append]; simp
    cases hq : eqF x y with
    | true =>
     rw [cmpT_hit hx hy hq]
     have hxy : x = y := cmpF_zero.1 (of_decide_eq_true hq)
     refine ⟨h1, fun z => ?_⟩
     rw [hmem, h2]
     constructor
     ·exact .inl
     ·rintro (h | rfl)
      ·exact h
      ·rw [hxy, List.take_add_one, hy]; simp
    | false =>
     rw [cmpT_miss hx hy hq]
     have hne : cmpF y x < 0 := by
      have : ¬ cmpF x y = 0 := of_decide_eq_false hq
      have := cmpF_neg x y
      omega
     refine ⟨List.pairwise_append.2 ⟨h1, by simp, fun z hz w hw => ?_⟩, fun z => ?_⟩
     ·simp at hw; subst hw
      exact cmpF_lt' (hall z ((h2 z).1 hz)) hne
     ·rw [hmem, List.mem_append, h2]; simp
theorem putF_iff {fs : Atoms} {f x : Int × List Int} : x ∈ putF fs f ↔ x ∈ fs ∨ x = f := by
 constructor
 ·exact putF_mem
 ·intro h
  unfold putF
  split
  ·rename_i h0
   rcases h with h | rfl
   ·exact h
   ·have h1 := idx_any (p := fun y => decide (cmpF y x = 0)) (l := fs)
    unfold plcF at h0
    rw [decide_eq_true h0] at h1
    obtain ⟨y, hy, hq⟩ := List.any_eq_true.1 h1.symm
    rw [← cmpF_zero.1 (of_decide_eq_true hq)]
    exact hy
  ·rw [List.mem_append, List.mem_cons]
   rcases h with h | rfl
   ·rw [← List.takeWhile_append_dropWhile (p := ltF f) (l := fs), List.mem_append] at h
    rcases h with h | h
    ·exact .inl h
    ·exact .inr (.inr h)
   ·exact .inr (.inl rfl)
theorem putF_st {fs : Atoms} {f : Int × List Int} (h : StF fs) : StF (putF fs f) := by
 unfold putF
 split
 ·exact h
 ·rename_i h0
  have hnot : ¬ f ∈ fs := fun hf => by
   have h1 := idx_any (p := fun y => decide (cmpF y f = 0)) (l := fs)
   have h2 : fs.any (fun y => decide (cmpF y f = 0)) = true := List.any_eq_true.2 ⟨f, hf, decide_eq_true (cmpF_refl f)⟩
   rw [h2] at h1
   exact h0 (of_decide_eq_true h1)
  have hsp := List.takeWhile_append_dropWhile (p := ltF f) (l := fs)
  have hp : StF (fs.takeWhile (ltF f) ++ fs.dropWhile (ltF f)) := by rw [hsp]; exact h
  obtain ⟨p1, p2, p3⟩ := List.pairwise_append.1 hp
  have ht : ∀ y ∈ fs.takeWhile (ltF f), cmpF y f < 0 := fun y hy => by
   have := List.all_eq_true.1 (List.all_takeWhile (l := fs) (p := ltF f)) y hy
   exact of_decide_eq_true this
  have hd : ∀ y ∈ fs.dropWhile (ltF f), cmpF f y < 0 := fun y hy => by
   have hyf : y ∈ fs := (List.dropWhile_suffix _).subset hy
   have hne : y ≠ f := fun e => hnot (e ▸ hyf)
   cases hdw : fs.dropWhile (ltF f) with
   | nil => rw [hdw] at hy; simp at hy
   | cons a t =>
    have ha : ltF f a = false := by
     have := List.head?_dropWhile_not (ltF f) fs
     rw [hdw] at this
     simpa using this
    have ha2 : ¬ cmpF a f < 0 := of_decide_eq_false ha
    have haf : a ∈ fs := (List.dropWhile_suffix _).subset (by rw [hdw]; exact List.mem_cons_self)
    have hane : ¬ cmpF a f = 0 := fun e => hnot (cmpF_zero.1 e ▸ haf)
    have hfa : cmpF f a < 0 := by have := cmpF_neg a f; omega
    rw [hdw] at hy p2
    rcases List.mem_cons.1 hy with rfl | hy
    ·exact hfa
    ·have := (List.pairwise_cons.1 p2).1 y hy
     exact cmpF_lt hfa (by omega)
  refine List.pairwise_append.2 ⟨p1, List.pairwise_cons.2 ⟨hd, p2⟩, fun a ha b hb => ?_⟩
  rcases List.mem_cons.1 hb with rfl | hb
  ·exact ht a ha
  ·exact cmpF_lt (ht a ha) (by have := hd b hb; omega)
def putsF (fs l : Atoms) : Atoms := l.foldl putF fs
def setF (l : Atoms) : Atoms := putsF [] l
theorem putsF_snoc (fs l : Atoms) (x : Int × List Int) : putsF fs (l ++ [x]) = putF (putsF fs l) x := by simp [putsF]
theorem putsF_st : ∀ (l : Atoms) {fs : Atoms}, StF fs → StF (putsF fs l)
 | [], _, h => h
 | x :: l, _, h => putsF_st l (putF_st h)
theorem putsF_mem : ∀ (l fs : Atoms) (z : Int × List Int), z ∈ putsF fs l ↔ z ∈ fs ∨ z ∈ l
 | [], fs, z => by simp [putsF]
 | x :: l, fs, z => by
  show z ∈ putsF (putF fs x) l ↔ _
  rw [putsF_mem l, putF_iff, List.mem_cons]
  constructor
  ·rintro ((h | h) | h) <;> simp [h]
  ·rintro (h | h | h) <;> simp [h]
theorem setF_st (l : Atoms) : StF (setF l) := putsF_st l (by simp [StF])
theorem setF_mem (l : Atoms) (z : Int × List Int) : z ∈ setF l ↔ z ∈ l := by simp [setF, putsF_mem]
theorem putsF_set {fs l : Atoms} (h : StF fs) : setF (fs ++ l) = putsF fs l :=
 stF_ext _ _ (setF_st _) (putsF_st l h) fun z => by rw [setF_mem, putsF_mem, List.mem_append]
def sortF (l : Atoms) : Atoms := l.mergeSort fun x y => !decide (cmpF y x < 0)
theorem sortF_perm (l : Atoms) : (sortF l).Perm l := List.mergeSort_perm l _
theorem sortF_so (l : Atoms) : SoF (sortF l) := by
 have h := List.pairwise_mergeSort (le := fun x y => !decide (cmpF y x < 0)) (fun a b c h1 h2 => by
  have e1 := cmpF_neg a b; have e2 := cmpF_neg b c; have e3 := cmpF_neg a c
  simp only [Bool.not_eq_true', decide_eq_false_iff_not] at h1 h2 ⊢
  have := cmpF_le (a := a) (b := b) (c := c) (by omega) (by omega)
  omega) (fun a b => by
  have e1 := cmpF_neg a b
  rcases Int.lt_or_le (cmpF a b) 0 with h | h
  ·rw [decide_eq_false (by omega : ¬ cmpF b a < 0)]; rfl
  ·rw [decide_eq_false (by omega : ¬ cmpF a b < 0), Bool.or_comm]; rfl) l
 refine List.Pairwise.imp (fun {a b} h => ?_) h
 have e1 := cmpF_neg a b
 simp only [Bool.not_eq_true', decide_eq_false_iff_not] at h
 omega
theorem sortF_of {a l : Atoms} (hs : SoF a) (hp : a.Perm l) : a = sortF l := soF_ext _ _ hs (sortF_so l) (hp.trans (sortF_perm l).symm)
theorem sortF_len (l : Atoms) : (sortF l).length = l.length := (sortF_perm l).length_eq
theorem cmp_sortF (l : Atoms) : cmpT eqF (sortF l) (sortF l).length = setF l := by
 obtain ⟨h1, h2⟩ := cmpT_facts (sortF_so l) (sortF l).length
 refine stF_ext _ _ h1 (setF_st l) fun z => ?_
 rw [h2, List.take_length, setF_mem]
 exact (sortF_perm l).mem_iff
theorem szS_perm {α : Type} {f : α → Nat} {a b : List α} (h : a.Perm b) : szS f a = szS f b := by
 unfold szS
 rw [h.length_eq, (h.map f).sum_nat]
theorem setF_sz {f : Int × List Int → Nat} (l : Atoms) : szS f (setF l) ≤ szS f l := by
 rw [← cmp_sortF, ← szS_perm (sortF_perm l)]
 refine szS_sub ?_
 have := cmpT_sub (q := eqF) (sortF l) (sortF l).length
 rwa [List.take_length] at this
end Go.Eng
