/- Models: reachability is transitive; ranks. -/
import Derived.Test.YtjjoopbebildfaaGreatDoorEngK
set_option linter.unusedVariables false
set_option linter.unusedSimpArgs false
namespace Go.Eng
open Go Go.RowKit
/-! ### sets of positions -/
def atB (q : List Bool) (x : Int) : Bool := q.getD x.toNat false
theorem atB_set {q : List Bool} {x y : Int} (h : y.toNat < q.length) : atB (q.set y.toNat true) x = (decide (x.toNat = y.toNat) || atB q x) := by
  unfold atB
  rw [List.getD_eq_getElem?_getD, List.getD_eq_getElem?_getD, List.getElem?_set]
  by_cases e : y.toNat = x.toNat
  · rw [if_pos e, if_pos h, decide_eq_true e.symm]
    rfl
  · rw [if_neg e, decide_eq_false (fun h => e h.symm), Bool.false_or]
theorem inN_nat {n x : Int} (h : inN n x = true) : x.toNat < n.toNat := by
  have := of_decide_eq_true h
  omega
section
variable {n : Int} {es : List Edg}
/-- A set that contains with an edge's beginning its end. -/
def clos (n : Int) (es : List Edg) (T : Int → Bool) : Prop := ∀ e, e ∈ es → inN n e.1 = true → inN n e.2.1 = true → T e.1 = true → T e.2.1 = true
theorem stepE_grow {q : List Bool} {e : Edg} {x : Int} (hq : q.length = n.toNat) (h : atB q x = true) : atB (stepE n q e) x = true := by
  unfold stepE
  split
  · rename_i hh
    rw [atB_set (by rw [hq]; exact inN_nat hh.2.1), h, Bool.or_true]
  · exact h
theorem fold_grow : ∀ (es : List Edg) {q : List Bool} {x : Int}, q.length = n.toNat → atB q x = true → atB (es.foldl (stepE n) q) x = true
  | [], q, x, _, h => h
  | e :: es, q, x, hq, h => fold_grow es (by rw [stepE_len, hq]) (stepE_grow hq h)
theorem step_in {q : List Bool} {e : Edg} {T : Int → Bool} (hT : ∀ x y : Int, x.toNat = y.toNat → T x = T y) (hq : q.length = n.toNat) (hc : inN n e.1 = true → inN n e.2.1 = true → T e.1 = true → T e.2.1 = true) (h : ∀ x, atB q x = true → T x = true) {x : Int} (hx : atB (stepE n q e) x = true) : T x = true := by
  unfold stepE at hx
  split at hx
  · rename_i hh
    rw [atB_set (by rw [hq]; exact inN_nat hh.2.1), Bool.or_eq_true] at hx
    rcases hx with hx | hx
    · rw [hT x e.2.1 (of_decide_eq_true hx)]
      exact hc hh.1 hh.2.1 (h _ hh.2.2)
    · exact h x hx
  · exact h x hx
theorem fold_in {T : Int → Bool} (hT : ∀ x y : Int, x.toNat = y.toNat → T x = T y) : ∀ (es : List Edg) {q : List Bool}, q.length = n.toNat → clos n es T → (∀ x, atB q x = true → T x = true) → ∀ x, atB (es.foldl (stepE n) q) x = true → T x = true
  | [], q, _, _, h, x, hx => h x hx
  | e :: es, q, hq, hc, h, x, hx => fold_in hT es (by rw [stepE_len, hq]) (fun e' he' => hc e' (List.mem_cons_of_mem _ he')) (fun y hy => step_in hT hq (hc e List.mem_cons_self) h hy) x hx
theorem rnd_in {T : Int → Bool} (hT : ∀ x y : Int, x.toNat = y.toNat → T x = T y) (hc : clos n es T) {q : List Bool} (hq : q.length = n.toNat) (h : ∀ x, atB q x = true → T x = true) : ∀ k x, atB (rnd n es q k) x = true → T x = true
  | 0, x, hx => h x hx
  | k + 1, x, hx => fold_in hT es (by rw [rnd_len, hq]) hc (fun y hy => rnd_in hT hc hq h k y hy) x hx
theorem rnd_grow {q : List Bool} (hq : q.length = n.toNat) {x : Int} (h : atB q x = true) : ∀ k, atB (rnd n es q k) x = true
  | 0 => h
  | k + 1 => fold_grow es (by rw [rnd_len, hq]) (rnd_grow hq h k)
/-! how many -/
def cntT (q : List Bool) : Nat := (q.filter id).length
theorem cnt_le (q : List Bool) : cntT q ≤ q.length := List.length_filter_le _ _
theorem cnt_set {q : List Bool} {k : Nat} (h : k < q.length) : cntT (q.set k true) = if q[k]? = some true then cntT q else cntT q + 1 := by
  induction q generalizing k with
  | nil => simp at h
  | cons b q ih =>
    cases k with
    | zero => cases b <;> simp [cntT]
    | succ k =>
      have := ih (k := k) (by simpa using h)
      simp only [List.set_cons_succ, List.getElem?_cons_succ]
      cases b
      · simpa [cntT] using this
      · simp only [cntT, List.filter_cons, id, if_true, List.length_cons] at this ⊢
        rw [this]
        split <;> rfl
theorem stepE_cnt {q : List Bool} {e : Edg} (hq : q.length = n.toNat) : stepE n q e = q ∨ cntT (stepE n q e) = cntT q + 1 := by
  unfold stepE
  split
  · rename_i hh
    have hl : e.2.1.toNat < q.length := by rw [hq]; exact inN_nat hh.2.1
    by_cases h : q[e.2.1.toNat]? = some true
    · left
      apply List.ext_getElem?
      intro i
      rw [List.getElem?_set]
      split
      · rename_i e1
        rw [← e1, h]
      · rfl
    · right
      rw [cnt_set hl, if_neg h]
  · exact .inl rfl
theorem fold_cnt : ∀ (es : List Edg) {q : List Bool}, q.length = n.toNat → (es.foldl (stepE n) q = q ∧ ∀ e, e ∈ es → stepE n q e = q) ∨ cntT q + 1 ≤ cntT (es.foldl (stepE n) q)
  | [], q, hq => .inl ⟨rfl, fun e h => by cases h⟩
  | e :: es, q, hq => by
    rcases stepE_cnt (e := e) hq with h | h
    · rw [List.foldl_cons, h]
      rcases fold_cnt es hq with ⟨h1, h2⟩ | h1
      · exact .inl ⟨h1, fun e' he' => by rcases List.mem_cons.1 he' with rfl | h'; exact h; exact h2 e' h'⟩
      · exact .inr h1
    · right
      rw [List.foldl_cons]
      rcases fold_cnt es (q := stepE n q e) (by rw [stepE_len, hq]) with ⟨h1, _⟩ | h1
      · rw [h1]; omega
      · omega
theorem rnd_cnt {q : List Bool} (hq : q.length = n.toNat) : ∀ k, (rnd n es q (k + 1) = rnd n es q k ∧ ∀ e, e ∈ es → stepE n (rnd n es q k) e = rnd n es q k) ∨ cntT q + (k + 1) ≤ cntT (rnd n es q (k + 1))
  | 0 => fold_cnt es hq
  | k + 1 => by
    rcases rnd_cnt hq k with ⟨h1, h2⟩ | h
    · left
      refine ⟨?_, fun e he => by rw [h1]; exact h2 e he⟩
      show es.foldl (stepE n) (rnd n es q (k + 1)) = _
      rw [h1]
      exact h1
    · rcases fold_cnt (n := n) es (q := rnd n es q (k + 1)) (by rw [rnd_len, hq]) with ⟨h1, h2⟩ | h1
      · exact .inl ⟨h1, h2⟩
      · right
        show _ ≤ cntT (es.foldl (stepE n) (rnd n es q (k + 1)))
        omega
theorem clos_of_still {q : List Bool} (hq : q.length = n.toNat) (h : ∀ e, e ∈ es → stepE n q e = q) : clos n es (atB q) := fun e he h1 h2 h3 => by
  have := h e he
  unfold stepE at this
  rw [if_pos ⟨h1, h2, h3⟩] at this
  rw [← this, atB_set (by rw [hq]; exact inN_nat h2)]
  simp
theorem rnd_clos {q : List Bool} (hq : q.length = n.toNat) (h1 : 1 ≤ cntT q) : clos n es (atB (rnd n es q n.toNat)) := by
  have hl : (rnd n es q n.toNat).length = n.toNat := by rw [rnd_len, hq]
  rcases rnd_cnt (es := es) hq n.toNat with ⟨_, h⟩ | h
  · exact clos_of_still hl h
  · have := cnt_le (rnd n es q (n.toNat + 1))
    rw [rnd_len, hq] at this
    omega
theorem seen_len (n a : Int) : (seen0 n a).length = n.toNat := by unfold seen0; simp
theorem seen_at {a x : Int} (ha : inN n a = true) : atB (seen0 n a) x = decide (x.toNat = a.toNat) := by
  unfold seen0
  rw [atB_set (by simpa using inN_nat ha)]
  have : atB (List.replicate n.toNat false) x = false := by
    unfold atB
    rw [List.getD_eq_getElem?_getD, List.getElem?_replicate]
    split <;> rfl
  rw [this, Bool.or_false]
theorem seen_cnt {a : Int} (ha : inN n a = true) : 1 ≤ cntT (seen0 n a) := by
  unfold seen0
  rw [cnt_set (by simpa using inN_nat ha), if_neg (by rw [List.getElem?_replicate]; split <;> simp)]
  omega
/-- From a one comes to b. -/
def rch (n : Int) (es : List Edg) (a b : Int) : Bool := atB (rnd n es (seen0 n a) n.toNat) b
theorem rch_refl {a : Int} (ha : inN n a = true) : rch n es a a = true := rnd_grow (seen_len n a) (by rw [seen_at ha]; simp) _
theorem rch_clos {a : Int} (ha : inN n a = true) : clos n es (rch n es a) := rnd_clos (seen_len n a) (seen_cnt ha)
theorem atB_nat {q : List Bool} (x y : Int) (h : x.toNat = y.toNat) : atB q x = atB q y := by unfold atB; rw [h]
theorem rch_trans {a b c : Int} (ha : inN n a = true) (hb : inN n b = true) (h1 : rch n es a b = true) (h2 : rch n es b c = true) : rch n es a c = true :=
  rnd_in (T := rch n es a) (fun x y h => atB_nat x y h) (rch_clos ha) (seen_len n b) (fun x hx => by
    rw [seen_at hb] at hx
    rw [show rch n es a x = rch n es a b from atB_nat x b (of_decide_eq_true hx)]
    exact h1) _ c h2
theorem rch_edge {e : Edg} (he : e ∈ es) (h1 : inN n e.1 = true) (h2 : inN n e.2.1 = true) : rch n es e.1 e.2.1 = true := rch_clos h1 e he h1 h2 (rch_refl h1)
theorem reach_rch {a b : Int} (hn : 0 ≤ n ∧ n ≤ 30) (ha : inN n a = true) (hb : inN n b = true) : reachB n es a b = rch n es a b := by
  unfold reachB rch atB
  rw [decide_eq_true hn, ha, hb]
  rfl
/-! ### a bound of the ranks -/
def befo (n : Int) (es : List Edg) (v : Int) : List Nat := (List.range n.toNat).filter fun u => rch n es (u : Int) v && !rch n es v (u : Int)
def rho (n : Int) (es : List Edg) (v : Int) : Nat := (befo n es v).length
theorem rho_le (v : Int) : rho n es v ≤ n.toNat := by
  have := List.length_filter_le (fun u : Nat => rch n es (u : Int) v && !rch n es v (u : Int)) (List.range n.toNat)
  rw [List.length_range] at this
  exact this
theorem filter_sub {p q : Nat → Bool} : ∀ (l : List Nat), (∀ x, x ∈ l → p x = true → q x = true) → (l.filter p).length ≤ (l.filter q).length
  | [], _ => Nat.le_refl _
  | x :: l, h => by
    have ih := filter_sub l fun y hy => h y (List.mem_cons_of_mem _ hy)
    have hx := h x List.mem_cons_self
    cases hp : p x <;> cases hq : q x <;> simp only [List.filter_cons, hp, hq, if_true, Bool.false_eq_true, if_false, List.length_cons] <;> first | omega | (rw [hx hp] at hq; cases hq)
theorem filter_sub1 {p q : Nat → Bool} {z : Nat} : ∀ (l : List Nat), (∀ x, x ∈ l → p x = true → q x = true) → z ∈ l → p z = false → q z = true → (l.filter p).length + 1 ≤ (l.filter q).length
  | [], _, hz, _, _ => by cases hz
  | x :: l, h, hz, h1, h2 => by
    have h' := fun y hy => h y (List.mem_cons_of_mem x hy)
    have hx := h x List.mem_cons_self
    rcases List.mem_cons.1 hz with rfl | hz
    · have := filter_sub l h'
      simp only [List.filter_cons, h1, h2, if_true, Bool.false_eq_true, if_false, List.length_cons]
      omega
    · have ih := filter_sub1 l h' hz h1 h2
      cases hp : p x <;> cases hq : q x <;> simp only [List.filter_cons, hp, hq, if_true, Bool.false_eq_true, if_false, List.length_cons] <;> first | omega | (rw [hx hp] at hq; cases hq)
theorem nat_in {u : Nat} (h : u < n.toNat) : inN n (u : Int) = true := decide_eq_true (by omega)
theorem rho_edge {e : Edg} (he : e ∈ es) (h1 : inN n e.1 = true) (h2 : inN n e.2.1 = true) (hs : e.2.2 = true → rch n es e.2.1 e.1 = false) : rho n es e.1 + (if e.2.2 = true then 1 else 0) ≤ rho n es e.2.1 := by
  have hsub : ∀ x, x ∈ List.range n.toNat → (rch n es (x : Int) e.1 && !rch n es e.1 (x : Int)) = true → (rch n es (x : Int) e.2.1 && !rch n es e.2.1 (x : Int)) = true := fun x hx hp => by
    have hxn := nat_in (n := n) (List.mem_range.1 hx)
    simp only [Bool.and_eq_true, Bool.not_eq_true'] at hp ⊢
    refine ⟨rch_trans hxn h1 hp.1 (rch_edge he h1 h2), ?_⟩
    cases hc : rch n es e.2.1 (x : Int)
    · rfl
    · rw [rch_trans h1 h2 (rch_edge he h1 h2) hc] at hp
      exact absurd hp.2 (by simp)
  unfold rho befo
  split
  · rename_i hsp
    have hz : e.1.toNat ∈ List.range n.toNat := List.mem_range.2 (inN_nat h1)
    have e0 : ((e.1.toNat : Nat) : Int) = e.1 := by have := of_decide_eq_true h1; omega
    exact filter_sub1 (z := e.1.toNat) _ hsub hz (by rw [e0, rch_refl h1]; simp) (by rw [e0, rch_edge he h1 h2, hs hsp]; rfl)
  · exact filter_sub _ hsub
end
end Go.Eng
