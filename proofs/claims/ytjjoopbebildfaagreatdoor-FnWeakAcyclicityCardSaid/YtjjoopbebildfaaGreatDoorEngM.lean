/- Models: ranks of positions. -/
import Derived.Test.YtjjoopbebildfaaGreatDoorEngL
set_option linter.unusedVariables false
set_option linter.unusedSimpArgs false
namespace Go.Eng
open Go Go.RowKit
def atI (q : List Int) (x : Int) : Int := q.getD x.toNat 0
def spI (e : Edg) : Int := if e.2.2 = true then 1 else 0
def relE (q : List Int) (e : Edg) : List Int := q.set e.2.1.toNat (max (atI q e.2.1) (atI q e.1 + spI e))
def relK (es : List Edg) (q : List Int) : Nat → List Int
  | 0 => q
  | k + 1 => es.foldl relE (relK es q k)
def zerosI (n : Int) : List Int := List.replicate n.toNat 0
theorem atI_set {q : List Int} {x y v : Int} (h : y.toNat < q.length) : atI (q.set y.toNat v) x = if x.toNat = y.toNat then v else atI q x := by
  unfold atI
  rw [List.getD_eq_getElem?_getD, List.getD_eq_getElem?_getD, List.getElem?_set]
  by_cases e : y.toNat = x.toNat
  · rw [if_pos e, if_pos h, if_pos e.symm]
    rfl
  · rw [if_neg e, if_neg fun h => e h.symm]
theorem atI_nat {q : List Int} {x y : Int} (h : x.toNat = y.toNat) : atI q x = atI q y := by unfold atI; rw [h]
theorem relE_len (q : List Int) (e : Edg) : (relE q e).length = q.length := by unfold relE; simp
theorem foldR_len : ∀ (es : List Edg) (q : List Int), (es.foldl relE q).length = q.length
  | [], q => rfl
  | e :: es, q => by rw [List.foldl_cons, foldR_len es, relE_len]
theorem relK_len {es : List Edg} {q : List Int} : ∀ k, (relK es q k).length = q.length
  | 0 => rfl
  | k + 1 => by
    show (es.foldl relE (relK es q k)).length = _
    rw [foldR_len, relK_len k]
section
variable {n : Int} {es : List Edg}
def edIn (n : Int) (es : List Edg) : Prop := ∀ e, e ∈ es → inN n e.1 = true ∧ inN n e.2.1 = true
def okF (es : List Edg) (f : Int → Int) : Prop := (∀ x y : Int, x.toNat = y.toNat → f x = f y) ∧ (∀ x, 0 ≤ f x) ∧ ∀ e, e ∈ es → f e.1 + spI e ≤ f e.2.1
def leF (q : List Int) (f : Int → Int) : Prop := ∀ x, atI q x ≤ f x
theorem relE_le {q : List Int} {e : Edg} {f : Int → Int} (hf : okF es f) (he : e ∈ es) (hi : inN n e.2.1 = true) (hq : q.length = n.toNat) (h : leF q f) : leF (relE q e) f := fun x => by
  unfold relE
  rw [atI_set (by rw [hq]; exact inN_nat hi)]
  split
  · rename_i hx
    rw [hf.1 x _ hx]
    have h1 := h e.2.1
    have h2 := h e.1
    have h3 := hf.2.2 e he
    omega
  · exact h x
theorem fold_le {f : Int → Int} (hin : edIn n es) (hf : okF es f) : ∀ (r : List Edg) {q : List Int}, (∀ e, e ∈ r → e ∈ es) → q.length = n.toNat → leF q f → leF (r.foldl relE q) f
  | [], q, _, _, h => h
  | e :: r, q, hr, hq, h => fold_le hin hf r (fun e' he' => hr e' (List.mem_cons_of_mem _ he')) (by rw [relE_len, hq]) (relE_le hf (hr e List.mem_cons_self) (hin e (hr e List.mem_cons_self)).2 hq h)
theorem relK_le {f : Int → Int} (hin : edIn n es) (hf : okF es f) {q : List Int} (hq : q.length = n.toNat) (h : leF q f) : ∀ k, leF (relK es q k) f
  | 0 => h
  | k + 1 => fold_le hin hf es (fun _ h => h) (by rw [relK_len, hq]) (relK_le hin hf hq h k)
theorem relE_ge {q : List Int} {e : Edg} {x : Int} (hi : inN n e.2.1 = true) (hq : q.length = n.toNat) : atI q x ≤ atI (relE q e) x := by
  unfold relE
  rw [atI_set (by rw [hq]; exact inN_nat hi)]
  split
  · rename_i hx
    rw [atI_nat hx]
    omega
  · omega
def sumI (q : List Int) : Int := q.sum
theorem sumI_set {q : List Int} {k : Nat} {v : Int} (h : k < q.length) : sumI (q.set k v) = sumI q - q.getD k 0 + v := by
  unfold sumI
  induction q generalizing k with
  | nil => simp at h
  | cons a q ih =>
    cases k with
    | zero => simp; omega
    | succ k =>
      have := ih (k := k) (by simpa using h)
      simp only [List.set_cons_succ, List.sum_cons, List.getD_cons_succ] at this ⊢
      omega
theorem relE_same {q : List Int} {e : Edg} (h : atI q e.1 + spI e ≤ atI q e.2.1) : relE q e = q := by
  unfold relE
  rw [Int.max_eq_left h]
  apply List.ext_getElem?
  intro i
  rw [List.getElem?_set]
  split
  · rename_i e1
    split
    · rename_i hl
      rw [← e1]
      unfold atI
      rw [List.getD_eq_getElem?_getD, List.getElem?_eq_getElem hl]
      rfl
    · rename_i hl
      rw [← e1, List.getElem?_eq_none (by omega)]
  · rfl
theorem relE_sum {q : List Int} {e : Edg} (hi : inN n e.2.1 = true) (hq : q.length = n.toNat) : (relE q e = q ∧ atI q e.1 + spI e ≤ atI q e.2.1) ∨ sumI q + 1 ≤ sumI (relE q e) := by
  by_cases h : atI q e.1 + spI e ≤ atI q e.2.1
  · exact .inl ⟨relE_same h, h⟩
  · right
    unfold relE
    rw [sumI_set (by rw [hq]; exact inN_nat hi)]
    show _ ≤ sumI q - atI q e.2.1 + _
    omega
def stil (es : List Edg) (q : List Int) : Prop := ∀ e, e ∈ es → atI q e.1 + spI e ≤ atI q e.2.1
theorem foldR_sum (hin : edIn n es) : ∀ (r : List Edg) {q : List Int}, (∀ e, e ∈ r → e ∈ es) → q.length = n.toNat → (r.foldl relE q = q ∧ stil r q) ∨ sumI q + 1 ≤ sumI (r.foldl relE q)
  | [], q, _, _ => .inl ⟨rfl, fun e h => by cases h⟩
  | e :: r, q, hr, hq => by
    have hr' := fun e' he' => hr e' (List.mem_cons_of_mem e he')
    rw [List.foldl_cons]
    rcases relE_sum (hin e (hr e List.mem_cons_self)).2 hq with ⟨h, h0⟩ | h
    · rw [h]
      rcases foldR_sum hin r hr' hq with ⟨h1, h2⟩ | h1
      · exact .inl ⟨h1, fun e' he' => by rcases List.mem_cons.1 he' with rfl | h'; exact h0; exact h2 e' h'⟩
      · exact .inr h1
    · right
      rcases foldR_sum hin r hr' (q := relE q e) (by rw [relE_len, hq]) with ⟨h1, _⟩ | h1
      · rw [h1]; omega
      · omega
theorem relK_sum (hin : edIn n es) {q : List Int} (hq : q.length = n.toNat) : ∀ k, stil es (relK es q k) ∨ sumI q + ((k + 1 : Nat) : Int) ≤ sumI (relK es q (k + 1))
  | 0 => by
    rcases foldR_sum hin es (fun _ h => h) hq with ⟨_, h⟩ | h
    · exact .inl h
    · exact .inr h
  | k + 1 => by
    rcases foldR_sum hin es (q := relK es q (k + 1)) (fun _ h => h) (by rw [relK_len, hq]) with ⟨_, h⟩ | h
    · exact .inl h
    · rcases relK_sum hin hq k with h1 | h1
      · left
        have : relK es q (k + 1) = relK es q k := by
          show es.foldl relE (relK es q k) = _
          have : ∀ (r : List Edg), (∀ e, e ∈ r → e ∈ es) → r.foldl relE (relK es q k) = relK es q k := by
            intro r
            induction r with
            | nil => intro _; rfl
            | cons e r ih =>
              intro hr
              rw [List.foldl_cons, relE_same (h1 e (hr e List.mem_cons_self))]
              exact ih fun e' he' => hr e' (List.mem_cons_of_mem _ he')
          exact this es fun _ h => h
        rw [this]
        exact h1
      · right
        show _ ≤ sumI (es.foldl relE (relK es q (k + 1)))
        omega
theorem sum_le {q : List Int} {B : Int} (h : ∀ x ∈ q, x ≤ B) : sumI q ≤ B * q.length := by
  unfold sumI
  induction q with
  | nil => simp
  | cons a q ih =>
    have h1 := ih fun x hx => h x (List.mem_cons_of_mem _ hx)
    have h2 := h a List.mem_cons_self
    simp only [List.sum_cons, List.length_cons]
    rw [Int.natCast_add, Int.mul_add]
    omega
theorem mem_le {q : List Int} {f : Int → Int} {B : Int} (h : leF q f) (hB : ∀ x, f x ≤ B) : ∀ x ∈ q, x ≤ B := fun x hx => by
  obtain ⟨j, hj⟩ := List.getElem?_of_mem hx
  have h1 := h (j : Int)
  unfold atI at h1
  rw [Int.toNat_natCast, List.getD_eq_getElem?_getD, hj] at h1
  have h2 := hB (j : Int)
  simp only [Option.getD_some] at h1
  omega
/-- The ranks: so many rounds as the specification makes. -/
def rankL (n : Int) (es : List Edg) : List Int := relK es (zerosI n) (n.toNat * n.toNat)
theorem zeros_len (n : Int) : (zerosI n).length = n.toNat := by unfold zerosI; simp
theorem zeros_le {f : Int → Int} (hf : ∀ x, 0 ≤ f x) : leF (zerosI n) f := fun x => by
  have : atI (zerosI n) x = 0 := by
    unfold atI zerosI
    rw [List.getD_eq_getElem?_getD, List.getElem?_replicate]
    split <;> rfl
  rw [this]
  exact hf x
theorem zeros_sum : sumI (zerosI n) = 0 := by unfold sumI zerosI; simp
def acyc (n : Int) (es : List Edg) : Prop := ∀ e, e ∈ es → e.2.2 = true → rch n es e.2.1 e.1 = false
theorem rho_ok (hin : edIn n es) (ha : acyc n es) : okF es (fun x => (rho n es x : Int)) := by
  refine ⟨fun x y h => ?_, fun x => Int.natCast_nonneg _, fun e he => ?_⟩
  · show ((rho n es x : Nat) : Int) = ((rho n es y : Nat) : Int)
    have h1 : ∀ u : Int, rch n es u x = rch n es u y := fun u => atB_nat x y h
    have h2 : ∀ u : Int, rch n es x u = rch n es y u := fun u => by unfold rch seen0; rw [h]
    unfold rho befo
    simp only [h1, h2]
  · have := rho_edge he (hin e he).1 (hin e he).2 (ha e he)
    show ((rho n es e.1 : Nat) : Int) + spI e ≤ ((rho n es e.2.1 : Nat) : Int)
    unfold spI
    split at this <;> split <;> first | omega | contradiction
theorem rank_still (hn : 0 ≤ n) (hin : edIn n es) (ha : acyc n es) : stil es (rankL n es) := by
  rcases relK_sum hin (q := zerosI n) (zeros_len n) (n.toNat * n.toNat) with h | h
  · exact h
  · exfalso
    have hf := rho_ok hin ha
    have hB : ∀ x : Int, ((rho n es x : Nat) : Int) ≤ n := fun x => by have := rho_le (n := n) (es := es) x; omega
    have h1 := relK_le hin hf (zeros_len n) (zeros_le hf.2.1) (n.toNat * n.toNat + 1)
    have h2 := sum_le (mem_le h1 hB)
    rw [relK_len, zeros_len] at h2
    rw [zeros_sum] at h
    have h3 : n * ((n.toNat : Nat) : Int) = ((n.toNat * n.toNat : Nat) : Int) := by rw [Int.natCast_mul, Int.toNat_of_nonneg hn]
    omega
theorem rank_len : (rankL n es).length = n.toNat := by unfold rankL; rw [relK_len, zeros_len]
theorem rank_le {f : Int → Int} (hin : edIn n es) (hf : okF es f) : leF (rankL n es) f := relK_le hin hf (zeros_len n) (zeros_le hf.2.1) _
/-- Whatever is still, is below each bound, and nowhere negative, are the ranks. -/
theorem rank_eq (hn : 0 ≤ n) (hin : edIn n es) (ha : acyc n es) {q : List Int} (hq : q.length = n.toNat) (h0 : ∀ x, 0 ≤ atI q x) (hs : stil es q) (hm : ∀ f, okF es f → leF q f) : q = rankL n es := by
  have hr0 : ∀ (k : Nat) x, 0 ≤ atI (relK es (zerosI n) k) x := fun k x => by
    have key : ∀ (r : List Edg) (q : List Int), (∀ e, e ∈ r → e ∈ es) → q.length = n.toNat → (∀ x, 0 ≤ atI q x) → ∀ x, 0 ≤ atI (r.foldl relE q) x := by
      intro r
      induction r with
      | nil => exact fun q _ _ h => h
      | cons e r ih =>
        intro q hr hq h
        rw [List.foldl_cons]
        refine ih _ (fun e' he' => hr e' (List.mem_cons_of_mem _ he')) (by rw [relE_len, hq]) fun y => ?_
        have := relE_ge (x := y) (hin e (hr e List.mem_cons_self)).2 hq
        have := h y
        omega
    induction k generalizing x with
    | zero =>
      show 0 ≤ atI (zerosI n) x
      unfold atI zerosI
      rw [List.getD_eq_getElem?_getD, List.getElem?_replicate]
      split <;> simp
    | succ k ih => exact key es _ (fun _ h => h) (by rw [relK_len, zeros_len]) ih x
  have h1 := hm (atI (rankL n es)) ⟨fun x y h => atI_nat h, hr0 _, rank_still hn hin ha⟩
  have h2 := rank_le hin (f := atI q) ⟨fun x y h => atI_nat h, h0, hs⟩
  apply List.ext_getElem?
  intro i
  have e1 := h1 (i : Int)
  have e2 := h2 (i : Int)
  unfold atI at e1 e2
  rw [Int.toNat_natCast, List.getD_eq_getElem?_getD, List.getD_eq_getElem?_getD] at e1 e2
  rcases Nat.lt_or_ge i n.toNat with hl | hl
  · have hl1 : i < q.length := by rw [hq]; exact hl
    have hl2 : i < (rankL n es).length := by rw [rank_len]; exact hl
    rw [List.getElem?_eq_getElem hl1, List.getElem?_eq_getElem hl2] at e1 e2
    rw [List.getElem?_eq_getElem hl1, List.getElem?_eq_getElem hl2]
    simp only [Option.getD_some] at e1 e2
    congr 1
    omega
  · rw [List.getElem?_eq_none (by rw [hq]; exact hl), List.getElem?_eq_none (by rw [rank_len]; exact hl)]
end
/-! ### the graph's edges lie among the positions -/
section
variable {rs : Rels} {ds : List Dep}
theorem sumA_split (rs : Rels) (k : Nat) : sumA rs = sumA (rs.take k) + sumA (rs.drop k) := by
  unfold sumA
  rw [← List.sum_append, ← List.map_append, List.take_append_drop]
theorem plc_in {r v : Int} (hr : relsOk rs = true) (h0 : 0 ≤ r ∧ r < rs.length) {z : List UInt8 × Int × Bool} (hz : rs[r.toNat]? = some z) : ∀ (ts : List Int) (j : Nat), ((j + ts.length : Nat) : Int) ≤ z.2.1 → ∀ x ∈ plcA rs r v j ts, 0 ≤ x ∧ x ≤ cntP rs - 1
  | [], j, _, x, hx => by simp [plcA] at hx
  | t :: ts, j, hj, x, hx => by
    simp only [List.length_cons] at hj
    simp only [plcA, List.mem_append] at hx
    rcases hx with hx | hx
    · split at hx
      · obtain rfl : x = posIx rs r (j : Int) := by simpa using hx
        rw [posIx_yes hr (by omega) hz (by omega)]
        have hc : cntP rs = sumA rs := by unfold cntP; rw [if_pos hr]
        have h1 := sumA_split rs (r.toNat + 1)
        have h2 := sumA_step hz
        have h3 := sumA_bnd hr r.toNat
        have h4 := sum_bnd (rs.drop (r.toNat + 1)) fun x hx => (rels_ok hr).2 x (List.mem_of_mem_drop hx)
        omega
      · cases hx
    · exact plc_in hr h0 hz ts (j + 1) (by omega) x hx
theorem places_in {l : Atoms} {v : Int} (h : ∀ a ∈ l, atomOk rs a.1 a.2 = true) : ∀ x ∈ placesL rs l v, inN (cntP rs) x = true := fun x hx => by
  obtain ⟨a, ha, hx⟩ := List.mem_flatMap.1 hx
  obtain ⟨h1, h2, h3, _, z, hz, h5⟩ := atomOk_rels (h a ha)
  have := plc_in (v := v) h1 ⟨h2, h3⟩ hz a.2 0 (by omega) x hx
  exact decide_eq_true this
theorem putAll_mem {P : List Edg} : ∀ e, e ∈ putAll P → e ∈ P := by
  have key : ∀ (P q : List Edg) e, e ∈ P.foldl putE q → e ∈ q ∨ e ∈ P := by
    intro P
    induction P with
    | nil => exact fun q e h => .inl h
    | cons x P ih =>
      intro q e h
      rcases ih (putE q x) e h with h1 | h1
      · unfold putE at h1
        split at h1
        · exact .inl h1
        · rcases List.mem_append.1 h1 with h2 | h2
          · exact .inl h2
          · obtain rfl : e = x := by simpa using h2
            exact .inr List.mem_cons_self
      · exact .inr (List.mem_cons_of_mem _ h1)
  intro e h
  rcases key P [] e h with h1 | h1
  · cases h1
  · exact h1
theorem dep_atoms {d : Dep} (h : depOk rs d.1 d.2.1 d.2.2.1 d.2.2.2.1 d.2.2.2.2 = true) : (∀ a ∈ d.1, atomOk rs a.1 a.2 = true) ∧ ∀ a ∈ d.2.1, atomOk rs a.1 a.2 = true := by
  unfold depOk at h
  simp only [Bool.and_eq_true] at h
  obtain ⟨h1, h2⟩ := h
  refine ⟨(atomsOk_all h1).2.2, ?_⟩
  split at h2
  · simp only [Bool.and_eq_true, decide_eq_true_eq] at h2
    intro a ha
    have : d.2.1 = [] := by
      cases hd : d.2.1 with
      | nil => rfl
      | cons x r => rw [hd] at h2; simp at h2
    rw [this] at ha
    cases ha
  · simp only [Bool.and_eq_true] at h2
    exact (atomsOk_all h2.1).2.2
theorem graph_in (h : depsOk rs ds = true) : edIn (cntP rs) (graphL rs ds) := fun e he => by
  unfold graphL at he
  rw [if_pos h] at he
  obtain ⟨d, hd, he⟩ := List.mem_flatMap.1 (putAll_mem e he)
  have ha := dep_atoms (depsOk_at h hd)
  obtain ⟨v, _, he⟩ := List.mem_flatMap.1 he
  obtain ⟨f, hf, he⟩ := List.mem_flatMap.1 he
  have h1 := places_in ha.1 f hf
  rcases List.mem_append.1 he with he | he
  · obtain ⟨t, ht, rfl⟩ := List.mem_map.1 he
    exact ⟨h1, places_in ha.2 t ht⟩
  · obtain ⟨o, _, he⟩ := List.mem_flatMap.1 he
    obtain ⟨t, ht, rfl⟩ := List.mem_map.1 he
    exact ⟨h1, places_in ha.2 t ht⟩
theorem graph_acyc (h : depsOk rs ds = true) (hs : spcF rs ds = false) : acyc (cntP rs) (graphL rs ds) := fun e he h1 => by
  have hc := cnt_bnd rs
  have hi := graph_in h e he
  rw [← reach_rch (by omega) hi.2 hi.1]
  unfold spcF at hs
  rw [List.any_eq_false] at hs
  have := hs e he
  unfold spcP at this
  rw [h1] at this
  simpa using this
end
end Go.Eng
