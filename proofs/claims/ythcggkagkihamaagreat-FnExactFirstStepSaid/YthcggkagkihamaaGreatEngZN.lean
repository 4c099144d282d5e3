import Derived.Test.YthcggkagkihamaaGreatEngZM
set_option linter.unusedVariables false
set_option linter.unusedSimpArgs false
namespace Go.Eng
open Go Go.RowKit
theorem szS_ap {α : Type} {f : α → Nat} (a b : List α) : szS f (a ++ b) = szS f a + szS f b := by
 unfold szS
 rw [List.length_append, List.map_append, List.sum_append]
 omega
theorem map_put {α β : Type} {f : α → β} {l : List α} {r : List β} {m : Nat} {z : α} (hz : l[m]? = some z) (hr : r.length = l.length) : ((l.take m).map f ++ r.drop m).set m (f z) = (l.take (m + 1)).map f ++ r.drop (m + 1) := by
 have hm := (List.getElem?_eq_some_iff.1 hz).1
 have hl : ((l.take m).map f).length = m := by rw [List.length_map, List.length_take]; omega
 rw [List.set_append_right _ _ (by omega), hl, Nat.sub_self, List.drop_eq_getElem_cons (by omega : m < r.length), List.set_cons_zero, List.take_add_one, hz, List.map_append]
 simp
def appF (ns vs : List Int) (f : Int × List Int) : Int × List Int := (f.1, f.2.map (appV ns vs))
theorem appF_sz (ns vs : List Int) (l : Atoms) : szS (fun (x : Int × (List (Int))) => (x.2).length) (l.map (appF ns vs)) = szS (fun (x : Int × (List (Int))) => (x.2).length) l := by
 unfold szS
 rw [List.length_map, List.map_map]
 congr 2
 exact List.map_congr_left fun x _ => by simp [appF]
def appOk (rs : Rels) (fs : Atoms) (ns vs : List Int) : Bool := subOk ns vs && instOk rs fs
def appR (rs : Rels) (fs : Atoms) (ns vs : List Int) : Rels := if appOk rs fs ns vs = true then rs else []
def appS (rs : Rels) (fs : Atoms) (ns vs : List Int) : Atoms := if appOk rs fs ns vs = true then setF (fs.map (appF ns vs)) else []
section
variable {rs : Rels} {fs : Atoms} {ns vs : List Int}
theorem app_no1 (h : subOk ns vs = false) : appR rs fs ns vs = [] ∧ appS rs fs ns vs = [] ∧ appOk rs fs ns vs = false := by
 have : appOk rs fs ns vs = false := by unfold appOk; rw [h]; rfl
 unfold appR appS
 rw [this]
 exact ⟨rfl, rfl, rfl⟩
theorem app_no2 (h : instOk rs fs = false) : appR rs fs ns vs = [] ∧ appS rs fs ns vs = [] ∧ appOk rs fs ns vs = false := by
 have : appOk rs fs ns vs = false := by unfold appOk; rw [h, Bool.and_false]
 unfold appR appS
 rw [this]
 exact ⟨rfl, rfl, rfl⟩
theorem app_yes (h : subOk ns vs = true) (h2 : instOk rs fs = true) : appR rs fs ns vs = rs ∧ appS rs fs ns vs = setF (fs.map (appF ns vs)) ∧ appOk rs fs ns vs = true := by
 have : appOk rs fs ns vs = true := by unfold appOk; rw [h, h2]; rfl
 unfold appR appS
 rw [this]
 exact ⟨rfl, rfl, rfl⟩
theorem appR_len (rs : Rels) (fs : Atoms) (ns vs : List Int) : (appR rs fs ns vs).length ≤ rs.length := by
 unfold appR
 split <;> simp
theorem appS_sz (rs : Rels) (fs : Atoms) (ns vs : List Int) : szS (fun (x : Int × (List (Int))) => (x.2).length) (appS rs fs ns vs) ≤ szS (fun (x : Int × (List (Int))) => (x.2).length) fs := by
 unfold appS
 split
 ·exact Nat.le_trans (setF_sz _) (Nat.le_of_eq (appF_sz ns vs fs))
 ·simp [szS]
theorem appV_none {v : Int} {m : Nat} (h : ∀ j y, j < m → ns[j]? = some y → y ≠ -1 - v) (hm : ns.length ≤ m) : v = appV ns vs v := by
 refine appV_no fun q => ?_
 have := idx_none (p := eqP (-1 - v)) (l := ns) (m := ns.length) (fun j z hj hz => decide_eq_false (h j z (by omega) hz)) rfl
 omega
theorem appV_off {v : Int} (h : subOk ns vs = false) : v = appV ns vs v := appV_no fun q => by rw [h] at q; exact absurd q.2.2 (by simp)
theorem appV_hit {v y z : Int} {m : Nat} (hs : subOk ns vs = true) (h : ∀ j y, j < m → ns[j]? = some y → y ≠ -1 - v) (hy : ns[m]? = some y) (he : y = -1 - v) (hz : vs[m]? = some z) : z = appV ns vs v := by
 have hi := idx_hit (p := eqP (-1 - v)) (l := ns) (m := m) (fun j z hj hz => decide_eq_false (h j z hj hz)) hy (decide_eq_true he)
 have hm := (List.getElem?_eq_some_iff.1 hy).1
 have hst : subStep ns vs m = true := by
  unfold subOk at hs
  simp only [Bool.and_eq_true, decide_eq_true_eq] at hs
  exact hs.2 m hm
 have hk : 0 ≤ y ∧ y ≤ 39 := by
  unfold subStep at hst
  rw [hy, hz] at hst
  simp only [Bool.and_eq_true, decide_eq_true_eq] at hst
  exact hst.1
 exact appV_yes (n := (m : Int)) (by omega) (by omega) hi.symm hs (by simpa using hz)
end
theorem sub_39 {ns vs : List Int} (h : subOk ns vs = true) {k : Nat} {y : Int} (hy : ns[k]? = some y) : 0 ≤ y ∧ y ≤ 39 := by
 unfold subOk at h
 simp only [Bool.and_eq_true, decide_eq_true_eq] at h
 have h1 := h.2 k (List.getElem?_eq_some_iff.1 hy).1
 unfold subStep at h1
 rw [hy] at h1
 cases hv : vs[k]? with
 | none => rw [hv] at h1; simp at h1
 | some v =>
  rw [hv] at h1
  simp only [Bool.and_eq_true, decide_eq_true_eq] at h1
  exact h1.1
theorem ne_step {l : List Int} {m n : Nat} {c z : Int} (h : ∀ j y, j < m → l[j]? = some y → y ≠ c) (hz : l[n]? = some z) (e : n = m) (hne : z ≠ c) : ∀ j y, j < m + 1 → l[j]? = some y → y ≠ c := fun j y hj hy => by
 subst e
 by_cases q : j < n
 ·exact h j y q hy
 ·obtain rfl : j = n := by omega
  rw [hz] at hy
  cases hy
  exact hne
theorem map_snoc {α β : Type} {f : α → β} {l : List α} {m : Nat} {z : α} (hz : l[m]? = some z) : (l.take m).map f ++ [f z] = (l.take (m + 1)).map f := by
 rw [List.take_add_one, hz, Option.toList_some, List.map_append]; rfl
theorem sub1_ok {x : Int} (h : okI x) : ∀ y ∈ [x], okI y := fun y hy => by
 simp only [List.mem_cons, List.not_mem_nil, or_false] at hy
 subst hy; exact h
def numI (v : Int) : Int := if -40 ≤ v ∧ v ≤ -1 then -1 - v else 0
def eqdA (a b : Int) : Int := numI (if b < a then b else a)
def eqdB (a b : Int) : Int := if a < b then b else a
def eqdN (a b : Int) : Bool := decide (0 ≤ a) && decide (0 ≤ b)
def eqdR (rs : Rels) (fs : Atoms) (a b : Int) : Rels := if eqdN a b = true then rs else appR rs fs [eqdA a b] [eqdB a b]
def eqdS (rs : Rels) (fs : Atoms) (a b : Int) : Atoms := if eqdN a b = true then fs else appS rs fs [eqdA a b] [eqdB a b]
def eqdC (a b : Int) : Int := if eqdN a b = true then 2 else 1
section
variable {rs : Rels} {fs : Atoms} {a b : Int}
theorem eqd_no (h : 0 ≤ a) (h2 : 0 ≤ b) : eqdR rs fs a b = rs ∧ eqdS rs fs a b = fs ∧ eqdC a b = 2 := by
 have : eqdN a b = true := by unfold eqdN; rw [decide_eq_true h, decide_eq_true h2]; rfl
 unfold eqdR eqdS eqdC
 rw [this]
 exact ⟨rfl, rfl, rfl⟩
theorem eqd_yes (h : ¬ (0 ≤ a ∧ 0 ≤ b)) : eqdR rs fs a b = appR rs fs [eqdA a b] [eqdB a b] ∧ eqdS rs fs a b = appS rs fs [eqdA a b] [eqdB a b] ∧ eqdC a b = 1 := by
 have : eqdN a b = false := by
  unfold eqdN
  rw [Bool.and_eq_false_iff]
  by_cases h1 : 0 ≤ a
  ·exact .inr (decide_eq_false fun h2 => h ⟨h1, h2⟩)
  ·exact .inl (decide_eq_false h1)
 unfold eqdR eqdS eqdC
 rw [this]
 exact ⟨rfl, rfl, rfl⟩
theorem eqdR_len (rs : Rels) (fs : Atoms) (a b : Int) : (eqdR rs fs a b).length ≤ rs.length := by
 unfold eqdR
 split
 ·exact Nat.le_refl _
 ·exact appR_len _ _ _ _
theorem eqdS_sz (rs : Rels) (fs : Atoms) (a b : Int) : szS (fun (x : Int × (List (Int))) => (x.2).length) (eqdS rs fs a b) ≤ szS (fun (x : Int × (List (Int))) => (x.2).length) fs := by
 unfold eqdS
 split
 ·exact Nat.le_refl _
 ·exact appS_sz _ _ _ _
end
def exN (b hs : Atoms) : List Int := selV false (setI (varsL b)) (setI (varsL hs))
def fillV : List Int → List Int → Int → List Int
 | v, [], _ => v
 | v, x :: l, k => fillV (v.set x.toNat (-1 - k)) l (k + 1)
theorem fillV_snoc : ∀ (l : List Int) (v : List Int) (k x : Int), fillV v (l ++ [x]) k = (fillV v l k).set x.toNat (-1 - (k + (l.length : Int)))
 | [], v, k, x => by simp [fillV]
 | y :: l, v, k, x => by
  rw [List.cons_append, fillV, fillV_snoc l, fillV]
  congr 1
  simp only [List.length_cons]
  omega
theorem fillV_len : ∀ (l v : List Int) (k : Int), (fillV v l k).length = v.length
 | [], _, _ => rfl
 | x :: l, v, k => by rw [fillV, fillV_len l, List.length_set]
theorem fillV_step {v l : List Int} {k x : Int} {m : Nat} (hx : l[m]? = some x) : (fillV v (l.take m) k).set x.toNat (-1 - (k + (m : Int))) = fillV v (l.take (m + 1)) k := by
 have hm := (List.getElem?_eq_some_iff.1 hx).1
 rw [List.take_add_one, hx, Option.toList_some, fillV_snoc, List.length_take, Nat.min_eq_left (by omega)]
theorem fillV_ok : ∀ (l v : List Int) (k : Int), (∀ x ∈ v, okI x) → 0 ≤ k → k + (l.length : Int) ≤ 4611686018427387904 → ∀ x ∈ fillV v l k, okI x
 | [], v, k, h, _, _ => h
 | y :: l, v, k, h, h0, hk => by
  rw [fillV]
  simp only [List.length_cons] at hk
  refine fillV_ok l _ _ (fun x hx => ?_) (by omega) (by omega)
  rcases List.mem_or_eq_of_mem_set hx with hx | rfl
  ·exact h x hx
  ·unfold okI; omega
def hdF (w : List Int) (a : Int × List Int) : Int × List Int := match instV w a.2 with
 | some q => (a.1, q)
 | none => (0, [])
theorem hdF_some {w q : List Int} {a : Int × List Int} (h : instV w a.2 = some q) : hdF w a = (a.1, q) := by unfold hdF; rw [h]
theorem hdF_none {w : List Int} {a : Int × List Int} (h : instV w a.2 = none) : hdF w a = (0, []) := by unfold hdF; rw [h]
theorem hdF_len (w : List Int) (a : Int × List Int) : (hdF w a).2.length ≤ a.2.length := by
 unfold hdF
 cases h : instV w a.2 with
 | none => simp
 | some q => simp only; rw [instV_len h]; omega
theorem hdF_sz (w : List Int) : ∀ l : Atoms, szS (fun (x : Int × (List (Int))) => (x.2).length) (l.map (hdF w)) ≤ szS (fun (x : Int × (List (Int))) => (x.2).length) l
 | [] => by simp [szS]
 | a :: l => by
  have := hdF_sz w l
  have := hdF_len w a
  unfold szS at *
  simp only [List.map_cons, List.length_cons, List.sum_cons] at *
  omega
def nnI (fs : Atoms) : Int := nextN (setI (nulV (flatT fs)))
theorem nnI_bd (fs : Atoms) : 0 ≤ nnI fs ∧ nnI fs ≤ 40 := by
 have hall : ∀ x ∈ setI (nulV (flatT fs)), 0 ≤ x ∧ x ≤ 39 := fun x hx => by
  rw [setI_mem] at hx
  unfold nulV at hx
  obtain ⟨v, hv, rfl⟩ := List.mem_map.1 hx
  rw [List.mem_filter] at hv
  have h1 : -40 ≤ v ∧ v ≤ -1 := of_decide_eq_true hv.2
  unfold numN
  rw [if_pos h1]
  omega
 unfold nnI nextN
 split
 ·omega
 ·rename_i h0
  have hlt : (setI (nulV (flatT fs))).length - 1 < (setI (nulV (flatT fs))).length := by omega
  have := hall _ (List.getElem_mem hlt)
  rw [List.getD_eq_getElem?_getD, List.getElem?_eq_getElem hlt, Option.getD_some, wr64 (by omega) (by omega)]
  omega
def tgdW (fs b hs : Atoms) (v : List Int) : List Int := fillV v (exN b hs) (nnI fs)
def tgdF (fs b hs : Atoms) (v : List Int) : Atoms := setF (fs ++ hs.map (hdF (tgdW fs b hs v)))
def tgdO (fs b hs : Atoms) (v : List Int) : Bool := decide (40 < nnI fs + ((exN b hs).length : Int)) || decide (30 < ((tgdF fs b hs v).length : Int))
theorem tgdF_sz (fs b hs : Atoms) (v : List Int) : szS (fun (x : Int × (List (Int))) => (x.2).length) (tgdF fs b hs v) ≤ szS (fun (x : Int × (List (Int))) => (x.2).length) fs + szS (fun (x : Int × (List (Int))) => (x.2).length) hs := by
 refine Nat.le_trans (setF_sz _) ?_
 rw [szS_ap]
 have := hdF_sz (tgdW fs b hs v) hs
 omega
section
variable (rs : Rels) (fs a0 a1 : Atoms) (a2 : Bool) (a3 a4 : Int) (v : List Int)
def trgR : Rels := if actOk rs fs a0 a1 a2 a3 a4 v = true ∧ a2 = true then eqdR rs fs (v.getD a3.toNat 0) (v.getD a4.toNat 0) else rs
def trgS : Atoms := if actOk rs fs a0 a1 a2 a3 a4 v = true then (if a2 = true then eqdS rs fs (v.getD a3.toNat 0) (v.getD a4.toNat 0) else if tgdO fs a0 a1 v = true then fs else tgdF fs a0 a1 v) else fs
def trgC : Int := if actOk rs fs a0 a1 a2 a3 a4 v = true then (if a2 = true then eqdC (v.getD a3.toNat 0) (v.getD a4.toNat 0) else if tgdO fs a0 a1 v = true then 3 else 1) else 0
theorem trgR_len : (trgR rs fs a0 a1 a2 a3 a4 v).length ≤ rs.length := by
 unfold trgR
 split
 ·exact eqdR_len _ _ _ _
 ·exact Nat.le_refl _
theorem trgS_sz : szS (fun (x : Int × (List (Int))) => (x.2).length) (trgS rs fs a0 a1 a2 a3 a4 v) ≤ szS (fun (x : Int × (List (Int))) => (x.2).length) fs + szS (fun (x : Int × (List (Int))) => (x.2).length) a1 := by
 unfold trgS
 split
 ·split
  ·have := eqdS_sz rs fs (v.getD a3.toNat 0) (v.getD a4.toNat 0); omega
  ·split
   ·omega
   ·exact tgdF_sz _ _ _ _
 ·omega
end
section
variable {rs : Rels} {fs a0 a1 : Atoms} {a2 : Bool} {a3 a4 : Int} {v : List Int}
theorem trg_off (h : actOk rs fs a0 a1 a2 a3 a4 v = false) : trgR rs fs a0 a1 a2 a3 a4 v = rs ∧ trgS rs fs a0 a1 a2 a3 a4 v = fs ∧ trgC rs fs a0 a1 a2 a3 a4 v = 0 := by
 unfold trgR trgS trgC
 rw [h]
 exact ⟨rfl, rfl, rfl⟩
theorem trg_eq {x y : Int} (h : actOk rs fs a0 a1 a2 a3 a4 v = true) (h2 : a2 = true) (hx : v[a3.toNat]? = some x) (hy : v[a4.toNat]? = some y) : trgR rs fs a0 a1 a2 a3 a4 v = eqdR rs fs x y ∧ trgS rs fs a0 a1 a2 a3 a4 v = eqdS rs fs x y ∧ trgC rs fs a0 a1 a2 a3 a4 v = eqdC x y := by
 unfold trgR trgS trgC
 rw [if_pos ⟨h, h2⟩, if_pos h, if_pos h2, if_pos h, if_pos h2, List.getD_eq_getElem?_getD, List.getD_eq_getElem?_getD, hx, hy]
 exact ⟨rfl, rfl, rfl⟩
theorem trg_over (h : actOk rs fs a0 a1 a2 a3 a4 v = true) (h2 : a2 = false) (h3 : tgdO fs a0 a1 v = true) : trgR rs fs a0 a1 a2 a3 a4 v = rs ∧ trgS rs fs a0 a1 a2 a3 a4 v = fs ∧ trgC rs fs a0 a1 a2 a3 a4 v = 3 := by
 unfold trgR trgS trgC
 rw [h, h2, h3]
 exact ⟨rfl, rfl, rfl⟩
theorem trg_done (h : actOk rs fs a0 a1 a2 a3 a4 v = true) (h2 : a2 = false) (h3 : tgdO fs a0 a1 v = false) : trgR rs fs a0 a1 a2 a3 a4 v = rs ∧ trgS rs fs a0 a1 a2 a3 a4 v = tgdF fs a0 a1 v ∧ trgC rs fs a0 a1 a2 a3 a4 v = 1 := by
 unfold trgR trgS trgC
 rw [h, h2, h3]
 exact ⟨rfl, rfl, rfl⟩
theorem trg_inst (h : trgOk rs fs a0 a1 a2 a3 a4 v = true) : instOk rs fs = true ∧ depOk rs a0 a1 a2 a3 a4 = true ∧ v.length = 5 := by
 unfold trgOk at h
 simp only [Bool.and_eq_true, decide_eq_true_eq] at h
 exact ⟨h.1.1, h.1.2.1, h.1.2.2⟩
theorem dep_head (h : depOk rs a0 a1 a2 a3 a4 = true) (h2 : a2 = false) : atomsOk rs a1 2 = true := by
 unfold depOk at h
 rw [h2] at h
 simp only [Bool.and_eq_true] at h
 have := h.2
 simp only [Bool.false_eq_true, if_false, Bool.and_eq_true] at this
 exact this.1
theorem exN_rng (h : actOk rs fs a0 a1 a2 a3 a4 v = true) (h2 : a2 = false) {x : Int} (hx : x ∈ exN a0 a1) : 0 ≤ x ∧ x < 5 := by
 obtain ⟨_, hd, _⟩ := trg_inst (act_trg h)
 unfold exN selV at hx
 have hx := (List.mem_filter.1 hx).1
 exact var_range (dep_head hd h2) (List.any_eq_true.2 ⟨x, hx, decide_eq_true rfl⟩)
theorem exN_len (h : actOk rs fs a0 a1 a2 a3 a4 v = true) (h2 : a2 = false) : (exN a0 a1).length ≤ 5 := by
 have hs : (exN a0 a1).Pairwise (· < ·) := (setI_sorted _).sublist List.filter_sublist
 have hb : ∀ x ∈ exN a0 a1, 0 ≤ x ∧ x < 5 := fun x hx => exN_rng h h2 hx
 have key : ∀ (l : List Int) (c : Int), l.Pairwise (· < ·) → (∀ x ∈ l, c ≤ x ∧ x < 5) → (l.length : Int) ≤ max 0 (5 - c) := by
  intro l
  induction l with
  | nil => intro c _ _; simp; omega
  | cons x l ih =>
   intro c hp hb
   have hp' := List.pairwise_cons.1 hp
   have h1 := hb x (by simp)
   have h2 := ih (x + 1) hp'.2 (fun y hy => ⟨by have := hp'.1 y hy; omega, (hb y (List.mem_cons_of_mem _ hy)).2⟩)
   simp only [List.length_cons]
   omega
 have := key _ 0 hs hb
 omega
theorem inst_st (h : instOk rs fs = true) : StF fs := by
 unfold instOk at h
 simp only [Bool.and_eq_true, decide_eq_true_eq] at h
 have hn : ∀ j y z, fs[j]? = some y → fs[j + 1]? = some z → cmpF y z < 0 := fun j y z hy hz => by
  have h1 := h.1 (j + 1) (List.getElem?_eq_some_iff.1 hz).1
  rw [instStep_at hz] at h1
  simp only [Nat.add_sub_cancel, hy, Bool.and_eq_true, Bool.or_eq_true, decide_eq_true_eq] at h1
  rcases h1.2.1 with h2 | h2
  ·omega
  ·exact h2
 refine List.pairwise_iff_getElem.2 fun i j hi hj hij => ?_
 obtain ⟨d, rfl⟩ : ∃ d, j = i + 1 + d := ⟨j - i - 1, by omega⟩
 induction d with
 | zero => exact hn i _ _ (List.getElem?_eq_getElem hi) (List.getElem?_eq_getElem hj)
 | succ d ih =>
  have h1 := ih (by omega) (by omega)
  have h2 := hn (i + 1 + d) _ _ (List.getElem?_eq_getElem (by omega)) (List.getElem?_eq_getElem hj)
  exact cmpF_lt h1 (by omega)
theorem tgdF_puts (h : instOk rs fs = true) : tgdF fs a0 a1 v = putsF fs (a1.map (hdF (tgdW fs a0 a1 v))) := putsF_set (inst_st h)
end
theorem putsF_step {fs l : Atoms} {f : Int × List Int → Int × List Int} {m : Nat} {z : Int × List Int} (hz : l[m]? = some z) : putF (putsF fs ((l.take m).map f)) (f z) = putsF fs ((l.take (m + 1)).map f) := by
 rw [List.take_add_one, hz, Option.toList_some, List.map_append, List.map_cons, List.map_nil, putsF_snoc]
theorem snoc_map {fs l : Atoms} {f : Int × List Int → Int × List Int} {m : Nat} {z : Int × List Int} (hz : l[m]? = some z) : (fs ++ (l.take m).map f) ++ [f z] = fs ++ (l.take (m + 1)).map f := by
 rw [List.take_add_one, hz, Option.toList_some, List.map_append, List.map_cons, List.map_nil, List.append_assoc]
theorem putF_sz {f : Int × List Int → Nat} (fs : Atoms) (x : Int × List Int) : szS f (putF fs x) ≤ szS f fs + (1 + f x) := by
 unfold putF
 split
 ·omega
 ·have h := congrArg (szS f) (List.takeWhile_append_dropWhile (p := ltF x) (l := fs))
  rw [szS_ap] at h ⊢
  have e : szS f (x :: fs.dropWhile (ltF x)) = 1 + f x + szS f (fs.dropWhile (ltF x)) := by
   unfold szS
   simp only [List.length_cons, List.map_cons, List.sum_cons]
   omega
  omega
theorem putsF_sz {f : Int × List Int → Nat} : ∀ (l fs : Atoms), szS f (putsF fs l) ≤ szS f fs + szS f l
 | [], fs => by simp [putsF]
 | x :: l, fs => by
  have h1 := putsF_sz (f := f) l (putF fs x)
  have h2 := putF_sz (f := f) fs x
  have e : szS f (x :: l) = 1 + f x + szS f l := by
   unfold szS
   simp only [List.length_cons, List.map_cons, List.sum_cons]
   omega
  show szS f (putsF (putF fs x) l) ≤ _
  omega
theorem szS_tk {α : Type} {f : α → Nat} {l : List α} {m : Nat} : szS f (l.take m) ≤ szS f l := szS_sub (List.take_sublist _ _)
theorem app_room {fs gs : Atoms} {ns vs : List Int} {m : Nat} (h : gs = putsF [] ((fs.take m).map (appF ns vs))) : szS (fun (x : Int × (List (Int))) => (x.2).length) gs ≤ szS (fun (x : Int × (List (Int))) => (x.2).length) fs := by
 rw [h]
 refine Nat.le_trans (putsF_sz _ _) ?_
 rw [appF_sz]
 have := szS_tk (f := fun (x : Int × (List (Int))) => (x.2).length) (l := fs) (m := m)
 have : szS (fun (x : Int × (List (Int))) => (x.2).length) ([] : Atoms) = 0 := rfl
 omega
theorem app_end {fs gs : Atoms} {ns vs : List Int} {m : Nat} (h : gs = putsF [] ((fs.take m).map (appF ns vs))) (hm : fs.length ≤ m) : gs = setF (fs.map (appF ns vs)) := by
 rw [h, List.take_of_length_le hm]; rfl
section
variable {fs gs l : Atoms} {W q : List Int} {m : Nat} {z : Int × List Int}
theorem puts_some (h : gs = putsF fs ((l.take m).map (hdF W))) (hz : l[m]? = some z) (hq : instV W z.2 = some q) : putF gs (z.1, q) = putsF fs ((l.take (m + 1)).map (hdF W)) := by
 rw [h, ← hdF_some hq]; exact putsF_step hz
theorem puts_none (h : gs = putsF fs ((l.take m).map (hdF W))) (hz : l[m]? = some z) (hq : instV W z.2 = none) : putF gs (0, []) = putsF fs ((l.take (m + 1)).map (hdF W)) := by
 rw [h, ← hdF_none hq]; exact putsF_step hz
theorem snoc_some (hz : l[m]? = some z) (hq : instV W z.2 = some q) : (fs ++ (l.take m).map (hdF W)) ++ [(z.1, q)] = fs ++ (l.take (m + 1)).map (hdF W) := by
 rw [← hdF_some hq]; exact snoc_map hz
theorem snoc_none (hz : l[m]? = some z) (hq : instV W z.2 = none) : (fs ++ (l.take m).map (hdF W)) ++ [(0, [])] = fs ++ (l.take (m + 1)).map (hdF W) := by
 rw [← hdF_none hq]; exact snoc_map hz
theorem hd_room (h : gs = putsF fs ((l.take m).map (hdF W))) : szS (fun (x : Int × (List (Int))) => (x.2).length) gs ≤ szS (fun (x : Int × (List (Int))) => (x.2).length) fs + szS (fun (x : Int × (List (Int))) => (x.2).length) l := by
 rw [h]
 refine Nat.le_trans (putsF_sz _ _) ?_
 have h1 := hdF_sz W (l.take m)
 have := szS_tk (f := fun (x : Int × (List (Int))) => (x.2).length) (l := l) (m := m)
 omega
theorem hd_room2 : szS (fun (x : Int × (List (Int))) => (x.2).length) (fs ++ (l.take m).map (hdF W)) ≤ szS (fun (x : Int × (List (Int))) => (x.2).length) fs + szS (fun (x : Int × (List (Int))) => (x.2).length) l := by
 rw [szS_ap]
 have h1 := hdF_sz W (l.take m)
 have := szS_tk (f := fun (x : Int × (List (Int))) => (x.2).length) (l := l) (m := m)
 omega
end
section
variable {fs a0 a1 : Atoms} {v : List Int}
theorem tgdO_hi (h : 40 < nnI fs + ((exN a0 a1).length : Int)) : tgdO fs a0 a1 v = true := by unfold tgdO; rw [decide_eq_true h]; rfl
theorem tgdO_len (h : 30 < ((tgdF fs a0 a1 v).length : Int)) : tgdO fs a0 a1 v = true := by unfold tgdO; rw [decide_eq_true h, Bool.or_true]
theorem tgdO_no (h : ¬ 40 < nnI fs + ((exN a0 a1).length : Int)) (h2 : ¬ 30 < ((tgdF fs a0 a1 v).length : Int)) : tgdO fs a0 a1 v = false := by unfold tgdO; rw [decide_eq_false h, decide_eq_false h2]; rfl
end
theorem hB_ok {k : Int} {z : Int × List Int} (h1 : z.1 = k) (h2 : z.2 = seqI (k + 1) z.2.length) : z = markAT k z := Prod.ext h1 h2
theorem hB_ne1 {k : Int} {z : Int × List Int} (h : ¬ z.1 = k) : ¬ z = markAT k z := fun e => h (congrArg (·.1) e)
theorem hB_ne2 {k w : Int} {z : Int × List Int} (hw : w = k + 1) (h : ¬ z.2 = seqI w z.2.length) : ¬ z = markAT k z := fun e => h (by rw [hw]; exact congrArg (·.2) e)
theorem markATS_sz' (k : Int) (l : Atoms) : szS (fun (x : Int × (List (Int))) => (x.2).length) (markATS k l) = szS (fun (x : Int × (List (Int))) => (x.2).length) l := by
 have h1 := ctA_sum (markATS k l)
 have h2 := ctA_sum l
 have h3 := markATS_sum k l
 omega
section
variable {k w w1 w2 : Int} {z : List UInt8 × Int × Bool}
theorem markR_ne1 (h : ¬ z.1 = mtx k) : ¬ z = markR k z := fun e => h (by have := congrArg (·.1) e; exact this)
theorem markR_ne2 (h : z.2.1 ≠ w) (hw : w = k + 1) : ¬ z = markR k z := fun e => h (by have := congrArg (·.2.1) e; rw [hw]; exact this)
theorem markR_ne3 (h : (z.2.2 != decide (w.tmod 3 = 0)) = true) (hw : w = k + 2) : ¬ z = markR k z := fun e => by
 have : z.2.2 = decide ((k + 2).tmod 3 = 0) := congrArg (·.2.2) e
 rw [hw, this] at h
 simp at h
theorem markR_of (h1 : ¬ z.1 ≠ mtx k) (h2 : ¬ z.2.1 ≠ w1) (h3 : (z.2.2 != decide (w2.tmod 3 = 0)) = false) (hw1 : w1 = k + 1) (hw2 : w2 = k + 2) : z = markR k z := by
 have h3 : z.2.2 = decide (w2.tmod 3 = 0) := bne_eq_false_iff_eq.1 h3
 have h1 := Decidable.not_not.1 h1
 have h2 := Decidable.not_not.1 h2
 subst hw1 hw2
 exact Prod.ext h1 (Prod.ext h2 h3)
end
theorem trgR_or (rs : Rels) (fs a0 a1 : Atoms) (a2 : Bool) (a3 a4 : Int) (v : List Int) : trgR rs fs a0 a1 a2 a3 a4 v = rs ∨ trgR rs fs a0 a1 a2 a3 a4 v = [] := by
 unfold trgR eqdR appR
 (repeat' split) <;> first | exact .inl rfl | exact .inr rfl
theorem trgR_sz {f : List UInt8 × Int × Bool → Nat} (rs : Rels) (fs a0 a1 : Atoms) (a2 : Bool) (a3 a4 : Int) (v : List Int) : szS f (trgR rs fs a0 a1 a2 a3 a4 v) ≤ szS f rs := by
 rcases trgR_or rs fs a0 a1 a2 a3 a4 v with h | h <;> rw [h]
 ·exact Nat.le_refl _
 ·simp [szS]
section
variable (rs : Rels) (fs : Atoms) (ds : List Dep)
def fstD : Dep := ds.getD (vioI rs fs ds).toNat ([], [], false, 0, 0)
def fstR : Rels := if vioOk rs fs ds = true then trgR rs fs (fstD rs fs ds).1 (fstD rs fs ds).2.1 (fstD rs fs ds).2.2.1 (fstD rs fs ds).2.2.2.1 (fstD rs fs ds).2.2.2.2 (vioB rs fs ds) else rs
def fstS : Atoms := if vioOk rs fs ds = true then trgS rs fs (fstD rs fs ds).1 (fstD rs fs ds).2.1 (fstD rs fs ds).2.2.1 (fstD rs fs ds).2.2.2.1 (fstD rs fs ds).2.2.2.2 (vioB rs fs ds) else fs
def fstC : Int := if vioOk rs fs ds = true then trgC rs fs (fstD rs fs ds).1 (fstD rs fs ds).2.1 (fstD rs fs ds).2.2.1 (fstD rs fs ds).2.2.2.1 (fstD rs fs ds).2.2.2.2 (vioB rs fs ds) else 0
end
section
variable {rs : Rels} {fs : Atoms} {ds : List Dep}
theorem fst_no (h : vioOk rs fs ds = false) : fstR rs fs ds = rs ∧ fstS rs fs ds = fs ∧ fstC rs fs ds = 0 ∧ vioI rs fs ds = 0 ∧ vioB rs fs ds = [] := by
 unfold fstR fstS fstC vioI vioB
 rw [h]
 exact ⟨rfl, rfl, rfl, rfl, rfl⟩
theorem fst_yes {z : Dep} (h : vioOk rs fs ds = true) (hz : ds[(vioI rs fs ds).toNat]? = some z) : fstR rs fs ds = trgR rs fs z.1 z.2.1 z.2.2.1 z.2.2.2.1 z.2.2.2.2 (vioB rs fs ds) ∧ fstS rs fs ds = trgS rs fs z.1 z.2.1 z.2.2.1 z.2.2.2.1 z.2.2.2.2 (vioB rs fs ds) ∧ fstC rs fs ds = trgC rs fs z.1 z.2.1 z.2.2.1 z.2.2.2.1 z.2.2.2.2 (vioB rs fs ds) := by
 have e : fstD rs fs ds = z := by unfold fstD; rw [List.getD_eq_getElem?_getD, hz]; rfl
 unfold fstR fstS fstC
 rw [if_pos h, if_pos h, if_pos h, e]
 exact ⟨rfl, rfl, rfl⟩
theorem vio_idx (h : vioOk rs fs ds = true) : 0 ≤ vioI rs fs ds ∧ vioI rs fs ds < ds.length := by
 have h1 := h
 unfold vioOk at h1
 simp only [Bool.and_eq_true] at h1
 obtain ⟨m, z, h2, h3, _, _⟩ := idx_spec h1.2.2
 unfold vioI
 rw [if_pos h, h2]
 have := (List.getElem?_eq_some_iff.1 h3).1
 omega
theorem vioB_ok (ho : ∀ z ∈ fs, ∀ x ∈ z.2, okI x) : ∀ x ∈ vioB rs fs ds, okI x := by
 unfold vioB
 split
 ·cases hc : actD rs fs (ds.getD (idxI (hotD rs fs) ds).toNat ([], [], false, 0, 0)) with
  | nil => intro x hx; simp at hx
  | cons y r =>
   have hy : y ∈ actD rs fs (ds.getD (idxI (hotD rs fs) ds).toNat ([], [], false, 0, 0)) := by rw [hc]; exact List.mem_cons_self
   exact findL_ok ho (actL_five hy).1
 ·intro x hx; simp at hx
theorem fstR_sz {f : List UInt8 × Int × Bool → Nat} (rs : Rels) (fs : Atoms) (ds : List Dep) : szS f (fstR rs fs ds) ≤ szS f rs := by
 unfold fstR
 split
 ·exact trgR_sz _ _ _ _ _ _ _ _
 ·exact Nat.le_refl _
theorem fstR_len (rs : Rels) (fs : Atoms) (ds : List Dep) : (fstR rs fs ds).length ≤ rs.length := by
 unfold fstR
 split
 ·exact trgR_len _ _ _ _ _ _ _ _
 ·exact Nat.le_refl _
theorem fstS_sz (rs : Rels) (fs : Atoms) (ds : List Dep) : szS (fun (x : Int × (List (Int))) => (x.2).length) (fstS rs fs ds) ≤ szS (fun (x : Int × (List (Int))) => (x.2).length) fs + szS (fun (x : Dep) => szS (fun (x : Int × (List (Int))) => (x.2).length) x.1 + szS (fun (x : Int × (List (Int))) => (x.2).length) x.2.1) ds := by
 unfold fstS
 split
 ·rename_i h
  have hi := vio_idx h
  have hlt : (vioI rs fs ds).toNat < ds.length := by omega
  have e : fstD rs fs ds = ds[(vioI rs fs ds).toNat] := by unfold fstD; rw [List.getD_eq_getElem?_getD, List.getElem?_eq_getElem hlt]; rfl
  refine Nat.le_trans (trgS_sz _ _ _ _ _ _ _ _) ?_
  rw [e]
  have := sz_mem (f := fun (x : Dep) => szS (fun (x : Int × (List (Int))) => (x.2).length) x.1 + szS (fun (x : Int × (List (Int))) => (x.2).length) x.2.1) (List.getElem_mem hlt)
  (try dsimp only at this)
  omega
 ·omega
end
end Go.Eng
