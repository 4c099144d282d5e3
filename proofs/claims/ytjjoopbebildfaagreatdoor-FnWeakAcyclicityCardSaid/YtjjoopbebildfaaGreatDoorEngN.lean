/- Models: ranks, the program's loop. -/
import Derived.Test.YtjjoopbebildfaaGreatDoorEngM
set_option linter.unusedVariables false
set_option linter.unusedSimpArgs false
namespace Go.Eng
open Go Go.RowKit
abbrev waB (rs : Rels) (ds : List Dep) : Bool := !(spcF rs ds) && depsOk rs ds
def rksL (rs : Rels) (ds : List Dep) : List Int := if waB rs ds = true then rankL (cntP rs) (graphL rs ds) else []
def rkP (rs : Rels) (ds : List Dep) (p : Int) : Int := if 0 ≤ p ∧ p ≤ (rksL rs ds).length - 1 then (rksL rs ds).getD p.toNat 0 else -1
theorem wa_in {rs : Rels} {ds : List Dep} (h : waB rs ds = true) : edIn (cntP rs) (graphL rs ds) := by
  unfold waB at h
  simp only [Bool.and_eq_true] at h
  exact graph_in h.2
theorem wa_acyc {rs : Rels} {ds : List Dep} (h : waB rs ds = true) : acyc (cntP rs) (graphL rs ds) := by
  unfold waB at h
  simp only [Bool.and_eq_true, Bool.not_eq_true'] at h
  exact graph_acyc h.2 h.1
section
variable {n : Int} {es : List Edg} {q : List Int} {z : Edg} {j k : Nat} {a b : Int}
/-- What holds of the row while the program raises the ranks. -/
def rkI (n : Int) (es : List Edg) (q : List Int) : Prop := q.length = n.toNat ∧ (∀ x, 0 ≤ atI q x) ∧ ∀ f, okF es f → leF q f
theorem rk_zero (n : Int) (es : List Edg) : rkI n es (zerosI n) := ⟨zeros_len n, fun x => by
  unfold atI zerosI
  rw [List.getD_eq_getElem?_getD, List.getElem?_replicate]
  split <;> simp, fun f hf => zeros_le hf.2.1⟩
theorem rk_step (hin : edIn n es) (hz : z ∈ es) (h : rkI n es q) : rkI n es (relE q z) := by
  refine ⟨by rw [relE_len]; exact h.1, fun x => ?_, fun f hf => relE_le hf hz (hin z hz).2 h.1 (h.2.2 f hf)⟩
  have h1 := relE_ge (x := x) (hin z hz).2 h.1
  have h2 := h.2.1 x
  omega
theorem rk_take (hin : edIn n es) (h : rkI n es q) : ∀ j, rkI n es ((es.take j).foldl relE q)
  | 0 => h
  | j + 1 => by
    rw [List.take_add_one]
    cases hz : es[j]? with
    | none =>
      simp only [Option.toList_none, List.append_nil]
      exact rk_take hin h j
    | some z =>
      simp only [Option.toList_some, List.foldl_append, List.foldl_cons, List.foldl_nil]
      exact rk_step hin (List.mem_of_getElem? hz) (rk_take hin h j)
theorem rk_relK (hin : edIn n es) : ∀ k, rkI n es (relK es (zerosI n) k)
  | 0 => rk_zero n es
  | k + 1 => by
    have := rk_take hin (rk_relK hin k) es.length
    rw [List.take_length] at this
    exact this
theorem rk_le (ha : acyc n es) (hin : edIn n es) (hn : 0 ≤ n) (h : rkI n es q) (x : Int) : 0 ≤ atI q x ∧ atI q x ≤ n := by
  refine ⟨h.2.1 x, ?_⟩
  have h1 := h.2.2 _ (rho_ok hin ha) x
  have h2 := rho_le (n := n) (es := es) x
  omega
theorem rk_sum (ha : acyc n es) (hin : edIn n es) (hn : 0 ≤ n) (h : rkI n es q) : 0 ≤ sumI q ∧ sumI q ≤ ((n.toNat * n.toNat : Nat) : Int) := by
  constructor
  · unfold sumI
    have h0 : ∀ x ∈ q, 0 ≤ x := fun x hx => by
      obtain ⟨i, hi⟩ := List.getElem?_of_mem hx
      have := h.2.1 (i : Int)
      unfold atI at this
      rw [Int.toNat_natCast, List.getD_eq_getElem?_getD, hi] at this
      exact this
    clear h
    induction q with
    | nil => simp
    | cons a q ih =>
      have h1 := ih fun x hx => h0 x (List.mem_cons_of_mem _ hx)
      have h2 := h0 a List.mem_cons_self
      simp only [List.sum_cons]
      omega
  · have h2 := sum_le (q := q) (B := n) fun x hx => by
      obtain ⟨i, hi⟩ := List.getElem?_of_mem hx
      have := (rk_le ha hin hn h (i : Int)).2
      unfold atI at this
      rw [Int.toNat_natCast, List.getD_eq_getElem?_getD, hi] at this
      exact this
    rw [h.1] at h2
    have h3 : n * ((n.toNat : Nat) : Int) = ((n.toNat * n.toNat : Nat) : Int) := by rw [Int.natCast_mul, Int.toNat_of_nonneg hn]
    omega
theorem ed_at (hin : edIn n es) (hz : es[j]? = some z) (hq : q.length = n.toNat) : (0 ≤ z.1 ∧ z.1 < (q.length : Int) ∧ z.1 < n) ∧ 0 ≤ z.2.1 ∧ z.2.1 < (q.length : Int) ∧ z.2.1 < n := by
  have h := hin z (List.mem_of_getElem? hz)
  have h1 := of_decide_eq_true h.1
  have h2 := of_decide_eq_true h.2
  omega
theorem atI_get {x : Int} (h : q[x.toNat]? = some a) : atI q x = a := by unfold atI; rw [List.getD_eq_getElem?_getD, h]; rfl
theorem rk_snoc (hz : es[j]? = some z) : (es.take (j + 1)).foldl relE q = relE ((es.take j).foldl relE q) z := by
  rw [List.take_add_one, hz]
  simp only [Option.toList_some, List.foldl_append, List.foldl_cons, List.foldl_nil]
theorem rel_up {v : Int} (hz : es[j]? = some z) (h1 : ((es.take j).foldl relE q)[z.1.toNat]? = some a) (h2 : ((es.take j).foldl relE q)[z.2.1.toNat]? = some b) (hv : v = a + spI z) (h : b < v) : ((es.take j).foldl relE q).set z.2.1.toNat v = (es.take (j + 1)).foldl relE q := by
  rw [rk_snoc hz]
  show _ = ((es.take j).foldl relE q).set z.2.1.toNat (max (atI ((es.take j).foldl relE q) z.2.1) (atI ((es.take j).foldl relE q) z.1 + spI z))
  rw [atI_get h1, atI_get h2, Int.max_eq_right (by omega), hv]
theorem rel_max {v : Int} (hz : es[j]? = some z) (h1 : ((es.take j).foldl relE q)[z.1.toNat]? = some a) (h2 : ((es.take j).foldl relE q)[z.2.1.toNat]? = some b) (hv : v = max b (a + spI z)) : ((es.take j).foldl relE q).set z.2.1.toNat v = (es.take (j + 1)).foldl relE q := by
  rw [rk_snoc hz]
  show _ = ((es.take j).foldl relE q).set z.2.1.toNat (max (atI ((es.take j).foldl relE q) z.2.1) (atI ((es.take j).foldl relE q) z.1 + spI z))
  rw [atI_get h1, atI_get h2, hv]
theorem rel_no {v : Int} (hz : es[j]? = some z) (h1 : ((es.take j).foldl relE q)[z.1.toNat]? = some a) (h2 : ((es.take j).foldl relE q)[z.2.1.toNat]? = some b) (hv : v = a + spI z) (h : v ≤ b) : (es.take j).foldl relE q = (es.take (j + 1)).foldl relE q := by
  rw [rk_snoc hz, relE_same (by rw [atI_get h1, atI_get h2]; omega)]
theorem spI_yes (h : z.2.2 = true) : spI z = 1 := by unfold spI; rw [if_pos h]
theorem spI_no (h : z.2.2 = false) : spI z = 0 := by unfold spI; rw [h]; rfl
theorem sum_take (hin : edIn n es) (hq : rkI n es q) (j : Nat) : sumI q ≤ sumI ((es.take j).foldl relE q) := by
  rcases foldR_sum hin (es.take j) (fun e he => List.mem_of_mem_take he) hq.1 with ⟨h, _⟩ | h
  · rw [h]; omega
  · omega
/-- One raised rank makes the sum greater. -/
theorem chg_up {v : Int} (hin : edIn n es) (hq : rkI n es q) (hz : es[j]? = some z) (h1 : ((es.take j).foldl relE q)[z.1.toNat]? = some a) (h2 : ((es.take j).foldl relE q)[z.2.1.toNat]? = some b) (hv : v = a + spI z) (h : b < v) : true = decide (sumI q < sumI ((es.take (j + 1)).foldl relE q)) := by
  have hs := sum_take hin hq j
  rw [rk_snoc hz]
  refine (decide_eq_true ?_).symm
  rcases relE_sum (hin z (List.mem_of_getElem? hz)).2 (rk_take hin hq j).1 with ⟨_, h3⟩ | h3
  · rw [atI_get h1, atI_get h2] at h3
    omega
  · omega
theorem chg_no {v : Int} (hz : es[j]? = some z) (h1 : ((es.take j).foldl relE q)[z.1.toNat]? = some a) (h2 : ((es.take j).foldl relE q)[z.2.1.toNat]? = some b) (hv : v = a + spI z) (h : v ≤ b) : decide (sumI q < sumI ((es.take j).foldl relE q)) = decide (sumI q < sumI ((es.take (j + 1)).foldl relE q)) := by rw [← rel_no hz h1 h2 hv h]
theorem rk_v0 (h : z.2.2 = false) : a = a + spI z := by rw [spI_no h]; omega
theorem rk_v1 (ha : acyc n es) (hin : edIn n es) (hn : 0 ≤ n ∧ n ≤ 18) (hq : rkI n es q) (h1 : q[z.1.toNat]? = some a) (h : z.2.2 = true) : IntKind.i64.wrap (a + 1) = a + spI z := by
  have h2 := rk_le ha hin hn.1 hq z.1
  rw [atI_get h1] at h2
  rw [spI_yes h, wr64 (by omega) (by omega)]
theorem chg_end (hin : edIn n es) (hq : rkI n es q) (hj : es.length ≤ j) (h : decide (sumI q < sumI ((es.take j).foldl relE q)) = false) : stil es (es.foldl relE q) := by
  rw [List.take_of_length_le hj] at h
  have h1 := of_decide_eq_false h
  rcases foldR_sum hin es (fun _ h => h) hq.1 with ⟨h2, h3⟩ | h2
  · rw [h2]; exact h3
  · omega
theorem rk_next (hin : edIn n es) (hq : rkI n es q) : rkI n es (es.foldl relE q) := by
  have := rk_take hin hq es.length
  rw [List.take_length] at this
  exact this
theorem rk_stil (hin : edIn n es) (hq : rkI n es q) (h : ¬ sumI q < sumI (es.foldl relE q)) : es.foldl relE q = q ∧ stil es q := by
  rcases foldR_sum hin es (fun _ h => h) hq.1 with h1 | h1
  · exact h1
  · omega
def rkM (n : Int) (q : List Int) (c : Bool) : Nat := 2 * (n.toNat * n.toNat) - 2 * (sumI q).toNat + (if c = true then 1 else 0)
theorem rkM_lt (ha : acyc n es) (hin : edIn n es) (hn : 0 ≤ n) (hq : rkI n es q) : rkM n (es.foldl relE q) (decide (sumI q < sumI (es.foldl relE q))) < rkM n q true := by
  have h1 := rk_sum ha hin hn hq
  have h2 := rk_sum ha hin hn (rk_next hin hq)
  unfold rkM
  by_cases h : sumI q < sumI (es.foldl relE q)
  · rw [decide_eq_true h]
    simp only [if_true, Bool.false_eq_true, if_false]
    omega
  · rw [decide_eq_false h, (rk_stil hin hq h).1]
    simp only [if_true, Bool.false_eq_true, if_false]
    omega
end
theorem rks_end {rs : Rels} {ds : List Dep} {q : List Int} (h : waB rs ds = true) (hq : rkI (cntP rs) (graphL rs ds) q) (hs : stil (graphL rs ds) q) : q = rksL rs ds := by
  unfold rksL
  rw [if_pos h]
  exact rank_eq (cnt_bnd rs).1 (wa_in h) (wa_acyc h) hq.1 hq.2.1 hs hq.2.2
theorem rks_no {rs : Rels} {ds : List Dep} (h : waB rs ds = false) : [] = rksL rs ds := by unfold rksL; rw [h]; rfl
theorem rks_spec {rs : Rels} {ds : List Dep} {k : Nat} (h : waB rs ds = true) (hk : k = (cntP rs).toNat * (cntP rs).toNat) : relK (graphL rs ds) (zerosI (cntP rs)) k = rksL rs ds := by
  unfold rksL
  rw [if_pos h, hk]
  rfl
theorem rks_len (rs : Rels) (ds : List Dep) : (rksL rs ds).length ≤ 18 := by
  unfold rksL
  have := cnt_bnd rs
  split
  · rw [rank_len]
    omega
  · simp
theorem rks_mem (rs : Rels) (ds : List Dep) : ∀ x ∈ rksL rs ds, 0 ≤ x ∧ x ≤ 18 := by
  unfold rksL
  split
  · rename_i h
    intro x hx
    have hc := cnt_bnd rs
    obtain ⟨i, hi⟩ := List.getElem?_of_mem hx
    have := rk_le (wa_acyc h) (wa_in h) hc.1 (rk_relK (wa_in h) _) (i : Int) (q := rankL (cntP rs) (graphL rs ds))
    unfold atI at this
    rw [Int.toNat_natCast, List.getD_eq_getElem?_getD, hi] at this
    simp only [Option.getD_some] at this
    omega
  · intro x hx; cases hx
theorem rkP_yes {rs : Rels} {ds : List Dep} {p a : Int} (h : 0 ≤ p ∧ p ≤ (rksL rs ds).length - 1) (hz : (rksL rs ds)[p.toNat]? = some a) : a = rkP rs ds p := by
  unfold rkP
  rw [if_pos h, List.getD_eq_getElem?_getD, hz]
  rfl
theorem rkP_no {rs : Rels} {ds : List Dep} {p : Int} (h : ¬(0 ≤ p ∧ p ≤ (rksL rs ds).length - 1)) : -1 = rkP rs ds p := by
  unfold rkP
  rw [if_neg h]
theorem rks_wa {rs : Rels} {ds : List Dep} (h : waB rs ds = false) : (rksL rs ds).length = 0 := by rw [← rks_no h]; rfl
theorem tupB {b b' : Bool} (h : b = b') : AV.tup [(false, [AC.own 0]), (false, [AC.t none (T.v (Value.bool b))])] = AV.tup [(false, [AC.own 0]), (false, [AC.t none (T.v (Value.bool b'))])] := by rw [h]
def sqN (rs : Rels) : Nat := (cntP rs).toNat * (cntP rs).toNat
theorem sq_wr (rs : Rels) : IntKind.i64.wrap (cntP rs * cntP rs) = (sqN rs : Int) ∧ sqN rs ≤ 324 := by
  have h := cnt_bnd rs
  obtain ⟨k, hk⟩ : ∃ k : Nat, cntP rs = k := ⟨(cntP rs).toNat, by omega⟩
  have h2 : k * k ≤ 18 * 18 := Nat.mul_le_mul (by omega) (by omega)
  unfold sqN
  rw [hk, Int.toNat_natCast, ← Int.natCast_mul, wr64 (by omega) (by omega)]
  exact ⟨rfl, by omega⟩
end Go.Eng
