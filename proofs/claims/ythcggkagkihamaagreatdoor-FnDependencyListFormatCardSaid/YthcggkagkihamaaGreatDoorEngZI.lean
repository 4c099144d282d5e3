import Derived.Test.YthcggkagkihamaaGreatDoorEngZH
set_option linter.unusedVariables false
set_option linter.unusedSimpArgs false
namespace Go.Eng
open Go Go.RowKit
theorem join_spl {b : UInt8} : ∀ s : List UInt8, Lib.join (spl b s) [b] = s
 | [] => by simp [spl, Lib.join_one]
 | c :: s => by
  have ih := join_spl (b := b) s
  by_cases e : c = b
  ·rw [spl, if_pos e]
   cases h : spl b s with
   | nil => exact absurd h (spl_ne s)
   | cons x xs =>
    rw [h] at ih
    rw [join2, ih, e]
    rfl
  ·obtain ⟨x, xs, h1, h2⟩ := spl_cons (s := s) e
   rw [h1] at ih
   rw [h2]
   cases xs with
   | nil =>
    rw [Lib.join_one] at ih ⊢
    rw [ih]
   | cons y ys =>
    rw [join2] at ih ⊢
    rw [List.cons_append, ih]
def okP (rs : Rels) (x : List UInt8) : Bool := (parD (rD rs) rs x).2
def dsP (rs : Rels) (s : List UInt8) : List Dep := (spl 59 s).map fun x => (parD (rD rs) rs x).1
theorem okP_fmt {rs : Rels} {x : List UInt8} (h : okP rs x = true) : fmtD rs (parD (rD rs) rs x).1 = x := by
 unfold okP parD at h
 unfold parD
 split at h
 ·rename_i h1
  rw [if_pos h1]
  exact h1.2
 ·cases h
theorem ds_fmt {rs : Rels} {s : List UInt8} (h : (spl 59 s).all (okP rs) = true) : Lib.join ((dsP rs s).map (fmtD rs)) [59] = s := by
 have : (dsP rs s).map (fmtD rs) = spl 59 s := by
  unfold dsP
  exact map_rt fun x hx => okP_fmt (List.all_eq_true.1 h x hx)
 rw [this]
 exact join_spl s
theorem fmtDs_iff {rs : Rels} {s : List UInt8} (hs : s ≠ []) (h : (spl 59 s).all (okP rs) = true) : fmtDs rs (dsP rs s) = s ↔ depsOk rs (dsP rs s) = true := by
 unfold fmtDs
 cases e : depsOk rs (dsP rs s)
 ·rw [if_neg (by simp)]
  exact ⟨fun h => absurd h.symm hs, fun h => by cases h⟩
 ·rw [if_pos rfl]
  exact ⟨fun _ => rfl, fun _ => ds_fmt h⟩
def parS (rs : Rels) (s : List UInt8) : List Dep × Bool := if s = [] then ([], depsOk rs []) else if (spl 59 s).all (okP rs) = true ∧ depsOk rs (dsP rs s) = true then (dsP rs s, true) else ([], false)
theorem parS_no {rs : Rels} {s : List UInt8} (hs : s ≠ []) (h : ¬ ((spl 59 s).all (okP rs) = true ∧ depsOk rs (dsP rs s) = true)) : parS rs s = ([], false) := by
 unfold parS
 rw [if_neg hs, if_neg h]
theorem parS_yes {rs : Rels} {s : List UInt8} (hs : s ≠ []) (h : (spl 59 s).all (okP rs) = true) (h2 : depsOk rs (dsP rs s) = true) : parS rs s = (dsP rs s, true) := by
 unfold parS
 rw [if_neg hs, if_pos ⟨h, h2⟩]
theorem parS_nil {rs : Rels} : parS rs [] = ([], depsOk rs []) := if_pos rfl
theorem deps_nil (rs : Rels) : depsOk rs [] = relsOk rs := by
 unfold depsOk
 cases relsOk rs <;> rfl
theorem joinB_len {b : UInt8} : ∀ {l : List (List UInt8)}, l ≠ [] → (Lib.join l [b]).length + 1 = l.length + (l.map List.length).sum
 | [], h => absurd rfl h
 | [x], _ => by rw [Lib.join_one]; simp; omega
 | x :: y :: l, _ => by
  have ih := joinB_len (b := b) (l := y :: l) (by simp)
  rw [join2]
  simp only [List.length_append, List.length_cons, List.map_cons, List.sum_cons] at ih ⊢
  omega
theorem as_len {rs : Rels} {l : Atoms} (hl : l ≠ []) (h : ∀ a ∈ l, atomOk rs a.1 a.2 = true) : szS (fun (x : Int × (List (Int))) => (x.2).length) l ≤ (fmtAs rs l).length := by
 have h1 := joinB_len (b := 32) (l := l.map (fmtA rs)) (by simpa using hl)
 have key : ∀ m : Atoms, (∀ a ∈ m, atomOk rs a.1 a.2 = true) → ((m.map (fmtA rs)).map List.length).sum = szS (fun (x : Int × (List (Int))) => (x.2).length) m := by
  intro m
  induction m with
  | nil => intro _; rfl
  | cons a m ih =>
   intro hm
   have i1 := ih fun x hx => hm x (List.mem_cons_of_mem _ hx)
   obtain ⟨c, hc, _⟩ := atom_rt (hm a (by simp))
   unfold szS at i1 ⊢
   simp only [List.map_cons, List.sum_cons, List.length_cons, hc, List.length_map] at i1 ⊢
   omega
 have h2 := key l h
 have h3 : 1 ≤ l.length := List.length_pos_iff.2 hl
 unfold fmtAs
 rw [List.length_map] at h1
 omega
theorem depF_len {rs : Rels} {d : Dep} (h : depOk rs d.1 d.2.1 d.2.2.1 d.2.2.2.1 d.2.2.2.2 = true) : szS (fun (x : Int × (List (Int))) => (x.2).length) d.1 + szS (fun (x : Int × (List (Int))) => (x.2).length) d.2.1 + 1 ≤ (fmtD rs d).length := by
 obtain ⟨b1, b2⟩ := atoms_of (dep_body h)
 have hb := as_len b1 b2
 have h0 := h
 unfold depOk at h0
 unfold fmtD
 rw [if_pos h]
 cases e : d.2.2.1
 ·rw [e, if_neg (by simp)] at h0
  simp only [Bool.and_eq_true] at h0
  obtain ⟨k1, k2⟩ := atoms_of h0.2.1
  have hk := as_len k1 k2
  rw [if_neg (by simp)]
  simp only [List.length_append, List.length_cons, List.length_nil]
  omega
 ·rw [e, if_pos rfl] at h0
  simp only [Bool.and_eq_true, decide_eq_true_eq] at h0
  have hn : d.2.1 = [] := List.eq_nil_of_length_eq_zero h0.2.1
  rw [if_pos rfl, hn, szS_nil]
  simp only [List.length_append, List.length_cons, List.length_nil]
  omega
theorem ds_sz {rs : Rels} {P : List (List UInt8)} (h : P.all (okP rs) = true) : szS (fun (x : (List (Int × (List (Int)))) × (List (Int × (List (Int)))) × Bool × Int × Int) => (szS (fun (x : Int × (List (Int))) => (x.2).length) (x.1)) + (szS (fun (x : Int × (List (Int))) => (x.2).length) (x.2.1))) (P.map fun x => (parD (rD rs) rs x).1) ≤ (P.map List.length).sum := by
 induction P with
 | nil => simp [szS]
 | cons x P ih =>
  simp only [List.all_cons, Bool.and_eq_true] at h
  have i1 := ih h.2
  have hf := okP_fmt h.1
  have hne : x ≠ [] := by
   intro e
   subst e
   have := h.1
   unfold okP parD at this
   simp at this
  have hd := depF_len (fmt_dep (by rw [hf]; exact hne))
  rw [hf] at hd
  unfold szS at i1 ⊢
  simp only [List.map_cons, List.sum_cons, List.length_cons] at i1 ⊢
  unfold szS at hd
  omega
theorem map_snoc {α β : Type} {f : α → β} {l : List α} {m : Nat} {z : α} (h : l[m]? = some z) : (l.take m).map f ++ [f z] = (l.take (m + 1)).map f := by
 rw [List.take_add_one, h, List.map_append]
 rfl
theorem all_snoc {α : Type} {p : α → Bool} {l : List α} {m : Nat} {z : α} (h : (l.take m).all p = true) (hz : l[m]? = some z) (hp : p z = true) : (l.take (m + 1)).all p = true := by
 rw [List.take_add_one, hz, List.all_append, h]
 simp [hp]
theorem ds_room {rs : Rels} {b : UInt8} {s : List UInt8} {m : Nat} (h : ((spl b s).take m).all (okP rs) = true) : szS (fun (x : (List (Int × (List (Int)))) × (List (Int × (List (Int)))) × Bool × Int × Int) => (szS (fun (x : Int × (List (Int))) => (x.2).length) (x.1)) + (szS (fun (x : Int × (List (Int))) => (x.2).length) (x.2.1))) (((spl b s).take m).map fun x => (parD (rD rs) rs x).1) ≤ s.length := by
 have h1 := ds_sz h
 have h2 := spl_sum (b := b) (s := s)
 have h3 : (((spl b s).take m).map List.length).sum ≤ ((spl b s).map List.length).sum := by
  conv => rhs; rw [← List.take_append_drop m (spl b s), List.map_append, List.sum_append]
  omega
 have h4 : 1 ≤ (spl b s).length := List.length_pos_iff.2 (spl_ne s)
 omega
section
variable {rs : Rels} {s z : List UInt8} {m : Nat}
theorem ps_rej (hs : s ≠ []) (hz : (spl (u8 59) s)[m]? = some z) (h : (parD (rD rs) rs z).2 = false) : parS rs s = ([], false) := by
 refine parS_no hs fun h2 => ?_
 have := List.all_eq_true.1 h2.1 z (List.mem_of_getElem? hz)
 unfold okP at this
 rw [h] at this
 cases this
theorem ps_no (hm : (spl (u8 59) s).length ≤ m) (h0 : s = [] → m = 0) (h : depsOk rs (((spl (u8 59) s).take m).map fun x => (parD (rD rs) rs x).1) = false) : parS rs s = ([], false) := by
 have hne : s ≠ [] := fun e => by
  have := List.length_pos_iff.2 (spl_ne (b := u8 59) s)
  have := h0 e
  omega
 rw [List.take_of_length_le hm] at h
 refine parS_no hne fun h2 => ?_
 have e : dsP rs s = (spl (u8 59) s).map fun x => (parD (rD rs) rs x).1 := rfl
 rw [← e, h2.2] at h
 cases h
theorem ps_yes (hm : (spl (u8 59) s).length ≤ m) (h0 : s = [] → m = 0) (ha : ((spl (u8 59) s).take m).all (okP rs) = true) (h : depsOk rs (((spl (u8 59) s).take m).map fun x => (parD (rD rs) rs x).1) = true) : parS rs s = (((spl (u8 59) s).take m).map fun x => (parD (rD rs) rs x).1, true) := by
 have hne : s ≠ [] := fun e => by
  have := List.length_pos_iff.2 (spl_ne (b := u8 59) s)
  have := h0 e
  omega
 rw [List.take_of_length_le hm] at h ha ⊢
 exact parS_yes hne ha h
theorem ps_nil (e : s = []) (h0 : s = [] → m = 0) : parS rs s = (((spl (u8 59) s).take m).map fun x => (parD (rD rs) rs x).1, depsOk rs (((spl (u8 59) s).take m).map fun x => (parD (rD rs) rs x).1)) := by
 have := h0 e
 subst this
 subst e
 exact parS_nil
end
theorem ps_nil_no {rs : Rels} {s : List UInt8} {m : Nat} (e : ¬ s ≠ []) (h0 : s = [] → m = 0) (h : depsOk rs (((spl (u8 59) s).take m).map fun x => (parD (rD rs) rs x).1) = false) : parS rs s = ([], false) := by
 have e : s = [] := Decidable.not_not.1 e
 rw [ps_nil e h0, h, h0 e]
 rfl
theorem ps_nil_yes {rs : Rels} {s : List UInt8} {m : Nat} (e : ¬ s ≠ []) (h0 : s = [] → m = 0) (h : depsOk rs (((spl (u8 59) s).take m).map fun x => (parD (rD rs) rs x).1) = true) : parS rs s = (((spl (u8 59) s).take m).map fun x => (parD (rD rs) rs x).1, true) := by
 rw [ps_nil (Decidable.not_not.1 e) h0, h]
def splP (p s : List UInt8) : List (List UInt8) := spl (p.headD 0) s
theorem split_pux3 {P : Program} {ρ : Go.Shelf.Ren} (L : Go.Proofs.Lays.n146 P ρ) (hi9 : (P.info? (ρ.t 9)).map (fun i => (i.zero, i.size, i.bytes)) = some (some (.string ByteArray.empty), 1, 16)) (s p : List UInt8) (hp : p.length = 1) (hs : s.length < 4294967281) :
  PuX (mxX (ρ.g 1)) P (ρ.f 146) [.c (.t none (.v (.string (mkS s)))), .c (.t none (.v (.string (mkS p))))] [(0, some (.row none (ρ.t 9) true 1 encS (splP p s)))] 1 (.c (.own 0)) := by
 match p, hp with
 | [b], _ => exact split_pux L hi9 s b hs
section
variable {rs : Rels} {s z : List UInt8} {m : Nat}
theorem qs_nil (e : s = []) : parS rs s = ([], relsOk rs) := by
 subst e
 rw [parS_nil, deps_nil]
theorem qs_rej (hs : ¬ s = []) (hz : (splP [59] s)[m]? = some z) (h : (parD (rD rs) rs z).2 = false) : parS rs s = ([], false) := ps_rej hs hz h
theorem qs_no (hs : ¬ s = []) (hm : (splP [59] s).length ≤ m) (ha : ((splP [59] s).take m).all (okP rs) = true) (h : fmtDs rs (((splP [59] s).take m).map fun x => (parD (rD rs) rs x).1) ≠ s) : parS rs s = ([], false) := by
 rw [List.take_of_length_le hm] at h ha
 have hq := fmtDs_iff (rs := rs) hs ha
 exact parS_no hs fun h2 => h (hq.2 h2.2)
theorem qs_yes (hs : ¬ s = []) (hm : (splP [59] s).length ≤ m) (ha : ((splP [59] s).take m).all (okP rs) = true) (h : fmtDs rs (((splP [59] s).take m).map fun x => (parD (rD rs) rs x).1) = s) : parS rs s = (((splP [59] s).take m).map fun x => (parD (rD rs) rs x).1, true) := by
 rw [List.take_of_length_le hm] at h ha ⊢
 have hq := fmtDs_iff (rs := rs) hs ha
 exact parS_yes hs ha (hq.1 h)
end
theorem atoms_okI {rs : Rels} {l : Atoms} {n : Int} (h : atomsOk rs l n = true) : ∀ z ∈ l, ∀ x ∈ z.2, okI x := fun z hz x hx => by
 have h2 := (atomsOk_parts h).2 z hz
 unfold atomOk at h2
 simp only [Bool.and_eq_true, Bool.not_eq_true', List.any_eq_false] at h2
 have := h2.2.2.2 x hx
 unfold termOk at this
 have : -10 ≤ x ∧ x ≤ 4 := by simpa using this
 unfold okI
 omega
theorem dep_okI {rs : Rels} {d : Dep} (h : depOk rs d.1 d.2.1 d.2.2.1 d.2.2.2.1 d.2.2.2.2 = true) : (∀ z ∈ d.1, ∀ x ∈ z.2, okI x) ∧ (∀ z ∈ d.2.1, ∀ x ∈ z.2, okI x) ∧ okI d.2.2.2.1 ∧ okI d.2.2.2.2 := by
 have hb := dep_body h
 have h0 := h
 unfold depOk at h0
 refine ⟨atoms_okI hb, ?_⟩
 cases e : d.2.2.1
 ·rw [e, if_neg (by simp)] at h0
  simp only [Bool.and_eq_true, decide_eq_true_eq] at h0
  obtain ⟨_, q1, q2, q3, _⟩ := h0
  exact ⟨atoms_okI q1, by unfold okI; omega, by unfold okI; omega⟩
 ·rw [e, if_pos rfl] at h0
  simp only [Bool.and_eq_true, decide_eq_true_eq] at h0
  obtain ⟨_, q1, _, q3, q4⟩ := h0
  have hn : d.2.1 = [] := List.eq_nil_of_length_eq_zero q1
  have v1 := var_range hb q3
  have v2 := var_range hb q4
  exact ⟨fun z hz => by rw [hn] at hz; simp at hz, by unfold okI; omega, by unfold okI; omega⟩
theorem par_okI (rs : Rels) (x : List UInt8) : (∀ z ∈ (parD (rD rs) rs x).1.1, ∀ y ∈ z.2, okI y) ∧ (∀ z ∈ (parD (rD rs) rs x).1.2.1, ∀ y ∈ z.2, okI y) ∧ okI (parD (rD rs) rs x).1.2.2.2.1 ∧ okI (parD (rD rs) rs x).1.2.2.2.2 := by
 unfold parD
 split
 ·rename_i h
  exact dep_okI (fmt_dep (by rw [h.2]; exact h.1))
 ·unfold zeroD okI
  simp
theorem ds_okI (rs : Rels) (P : List (List UInt8)) : ∀ d ∈ (P.map fun x => (parD (rD rs) rs x).1), (∀ z ∈ d.1, ∀ y ∈ z.2, okI y) ∧ (∀ z ∈ d.2.1, ∀ y ∈ z.2, okI y) ∧ okI d.2.2.2.1 ∧ okI d.2.2.2.2 := fun d hd => by
 obtain ⟨x, _, rfl⟩ := List.mem_map.1 hd
 exact par_okI rs x
section
variable {K w1 w2 b : Int} {z : Dep}
end
theorem parS_five {rs : Rels} {s : List UInt8} : (parS rs s).1.length ≤ 5 := by
 unfold parS
 split
 ·simp
 ·split
  ·rename_i h
   have h2 := h.2
   unfold depsOk at h2
   simp only [Bool.and_eq_true, decide_eq_true_eq] at h2
   exact h2.2.1
  ·simp
theorem parS_small {rs : Rels} {s : List UInt8} : ∀ d ∈ (parS rs s).1, szS (fun (y : Int × List Int) => y.2.length) d.1 ≤ 12 ∧ szS (fun (y : Int × List Int) => y.2.length) d.2.1 ≤ 12 := by
 unfold parS
 split
 ·intro d hd; simp at hd
 ·split
  ·intro d hd
   unfold dsP at hd
   obtain ⟨x, _, rfl⟩ := List.mem_map.1 hd
   exact par_small (rD rs) rs x
  ·intro d hd; simp at hd
theorem small_sum {f : Dep → Nat} {n : Nat} : ∀ {l : List Dep}, (∀ d ∈ l, f d ≤ n) → (l.map f).sum ≤ n * l.length
 | [], _ => by simp
 | d :: l, h => by
  have i1 := small_sum (l := l) fun x hx => h x (List.mem_cons_of_mem _ hx)
  have i2 := h d (by simp)
  simp only [List.map_cons, List.sum_cons, List.length_cons, Nat.mul_add, Nat.mul_one]
  omega
theorem szS_le {α : Type} {f : α → Nat} {l : List α} {n m : Nat} (h : (l.map f).sum ≤ n) (h2 : l.length ≤ m) : szS f l ≤ n + m := by
 unfold szS
 omega
theorem parS_sz {rs : Rels} {s : List UInt8} : szS (fun (x : (List (Int × (List (Int)))) × (List (Int × (List (Int)))) × Bool × Int × Int) => (szS (fun (x : Int × (List (Int))) => (x.2).length) (x.1)) + (szS (fun (x : Int × (List (Int))) => (x.2).length) (x.2.1))) (parS rs s).1 ≤ 135 :=
 Nat.le_trans (szS_le (small_sum (n := 24) fun d hd => by
  have := parS_small d hd
  omega) (parS_five (rs := rs) (s := s))) (by
   have := parS_five (rs := rs) (s := s)
   omega)
end Go.Eng
