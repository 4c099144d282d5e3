/- Plain laws: classes, unions, substitutions. -/
import Derived.Test.YtoihempecfhicaaEngS
set_option linter.unusedVariables false
set_option linter.unusedSimpArgs false
namespace Go.Eng
open Go Go.RowKit
theorem idx_spec {α : Type} {p : α → Bool} {l : List α} (h : l.any p = true) : ∃ (m : Nat) (z : α), idxI p l = (m : Int) ∧ l[m]? = some z ∧ p z = true ∧ ∀ j z, j < m → l[j]? = some z → p z = false := by
  have key : ∀ (m : Nat), m ≤ l.length → (∀ j z, j < m → l[j]? = some z → p z = false) ∨ ∃ (q : Nat) (z : α), l[q]? = some z ∧ p z = true ∧ ∀ j z, j < q → l[j]? = some z → p z = false := by
    intro m
    induction m with
    | zero => intro _; exact .inl (fun j z h => by omega)
    | succ m ih =>
      intro hm
      rcases ih (by omega) with h1 | h1
      · cases hp : p (l[m]'(by omega))
        · exact .inl (no_step h1 (List.getElem?_eq_getElem (by omega)) rfl hp)
        · exact .inr ⟨m, _, List.getElem?_eq_getElem (by omega), hp, h1⟩
      · exact .inr h1
  rcases key l.length (Nat.le_refl _) with h1 | ⟨q, z, h1, h2, h3⟩
  · rw [any_false h1 (Nat.le_refl _)] at h
    cases h
  · exact ⟨q, z, idx_hit h3 h1 h2, h1, h2, h3⟩
theorem idx_val {l : List Int} {v : Int} (h : v ∈ l) : ∃ m : Nat, idxI (eqP v) l = (m : Int) ∧ m < l.length ∧ l[m]? = some v := by
  obtain ⟨m, z, h1, h2, h3, _⟩ := idx_spec (p := eqP v) (l := l) (List.any_eq_true.2 ⟨v, h, by simp [eqP]⟩)
  have : z = v := by simpa [eqP] using h3
  subst this
  exact ⟨m, h1, (List.getElem?_eq_some_iff.1 h2).1, h2⟩
theorem idx_neg {l : List Int} {v : Int} (h : idxI (eqP v) l < 0) : v ∉ l := fun hm => by
  obtain ⟨m, h1, _⟩ := idx_val hm
  omega
theorem filter_le {α : Type} {p q : α → Bool} : ∀ {l : List α}, (∀ x ∈ l, p x = true → q x = true) → (l.filter p).length ≤ (l.filter q).length
  | [], _ => by simp
  | x :: l, h => by
    have ih := filter_le (l := l) (fun y hy => h y (List.mem_cons_of_mem _ hy))
    have hx := h x (by simp)
    simp only [List.filter_cons]
    cases hp : p x <;> cases hq : q x <;> simp_all <;> omega
theorem filter_or {α : Type} {p q r : α → Bool} : ∀ {l : List α}, (∀ x ∈ l, r x = (p x || q x)) → (∀ x ∈ l, ¬ (p x = true ∧ q x = true)) → (l.filter r).length = (l.filter p).length + (l.filter q).length
  | [], _, _ => by simp
  | x :: l, h, h2 => by
    have ih := filter_or (l := l) (fun y hy => h y (List.mem_cons_of_mem _ hy)) (fun y hy => h2 y (List.mem_cons_of_mem _ hy))
    have hx := h x (by simp)
    have hx2 := h2 x (by simp)
    simp only [List.filter_cons, hx]
    cases hp : p x <;> cases hq : q x <;> simp_all <;> omega
theorem filter_same {α : Type} {p q : α → Bool} {l : List α} (h : ∀ x ∈ l, p x = q x) : l.filter p = l.filter q := List.filter_congr h
/-! ### classes -/
theorem zip_fst (l : List Int) (p : Int → Bool) : (l.zipIdx.filter fun x => p x.1).length = (l.filter p).length := by
  have h : (l.zipIdx.map Prod.fst) = l := by simp
  have h2 : (l.zipIdx.map Prod.fst).filter p = (l.zipIdx.filter (p ∘ Prod.fst)).map Prod.fst := List.filter_map
  rw [h] at h2
  rw [h2, List.length_map]
  rfl
theorem posI_cnt (v : Int) (l : List Int) : (posI v l).length = (l.filter (eqP v)).length := by
  unfold posI posP
  rw [List.length_map]
  exact zip_fst l (eqP v)
theorem posI_mem {v p : Int} {l : List Int} : p ∈ posI v l ↔ 0 ≤ p ∧ l[p.toNat]? = some v := by
  unfold posI posP
  rw [List.mem_map]
  constructor
  · rintro ⟨⟨z, k⟩, h1, rfl⟩
    rw [List.mem_filter] at h1
    have h2 := List.mk_mem_zipIdx_iff_getElem?.1 h1.1
    have h3 : z = v := by simpa using h1.2
    subst h3
    exact ⟨by omega, by simpa using h2⟩
  · rintro ⟨h1, h2⟩
    refine ⟨(v, p.toNat), ?_, by simp; omega⟩
    rw [List.mem_filter]
    exact ⟨List.mk_mem_zipIdx_iff_getElem?.2 h2, by simp⟩
def gdV (l : List Int) (v : Int) : Bool := decide (1 < (posI v l).length ∨ 0 ≤ v)
theorem ecs_sum (l : List Int) : ∀ (m : Nat), m ≤ l.length → ((ecs l m).map List.length).sum = (l.filter fun v => decide (idxI (eqP v) l < (m : Int)) && gdV l v).length
  | 0, _ => by
    have : (l.filter fun v => decide (idxI (eqP v) l < ((0 : Nat) : Int)) && gdV l v) = [] := by
      rw [List.filter_eq_nil_iff]
      intro v hv
      obtain ⟨m, h1, _⟩ := idx_val hv
      simp [h1]
      intro h
      omega
    rw [this]
    rfl
  | m + 1, hm => by
    have ih := ecs_sum l m (by omega)
    have hz : l[m]? = some (l[m]'(by omega)) := List.getElem?_eq_getElem (by omega)
    generalize l[m]'(by omega) = z at hz
    have hat : ∀ v ∈ l, idxI (eqP v) l = (m : Int) → v = z := fun v hv e => by
      obtain ⟨m', h1, _, h3⟩ := idx_val hv
      have : m' = m := by omega
      subst this
      rw [h3] at hz
      exact Option.some.inj hz
    by_cases h : idxI (eqP z) l = (m : Int) ∧ (1 < (posI z l).length ∨ 0 ≤ z)
    · rw [ecAt_yes hz h, List.map_append, List.sum_append, ih, filter_or (p := fun v => decide (idxI (eqP v) l < (m : Int)) && gdV l v) (q := eqP z) (r := fun v => decide (idxI (eqP v) l < ((m + 1 : Nat) : Int)) && gdV l v)]
      · simp [posI_cnt]
      · intro v hv
        by_cases e : v = z
        · subst e
          have : gdV l v = true := decide_eq_true h.2
          simp [this, eqP, h.1]
          omega
        · have h1 : idxI (eqP v) l ≠ (m : Int) := fun q => e (hat v hv q)
          have h2 : eqP z v = false := by simp [eqP, e]
          rw [h2, Bool.or_false]
          congr 1
          refine decide_eq_decide.2 ⟨fun q => by omega, fun q => by omega⟩
      · rintro v hv ⟨h1, h2⟩
        have : v = z := by simpa [eqP] using h2
        subst this
        simp [h.1] at h1
    · rw [ecAt_no hz h, ih]
      congr 1
      refine filter_same fun v hv => ?_
      by_cases e : idxI (eqP v) l = (m : Int)
      · have := hat v hv e
        subst this
        have : gdV l v = false := decide_eq_false fun q => h ⟨e, q⟩
        simp [this]
      · congr 1
        refine decide_eq_decide.2 ⟨fun q => by omega, fun q => by omega⟩
theorem ecs_all (l : List Int) : ((ecs l l.length).map List.length).sum = (l.filter (gdV l)).length := by
  rw [ecs_sum l l.length (Nat.le_refl _)]
  congr 1
  refine filter_same fun v hv => ?_
  obtain ⟨m, h1, h2, _⟩ := idx_val hv
  have : decide (idxI (eqP v) l < ((l.length : Nat) : Int)) = true := decide_eq_true (by omega)
  rw [this, Bool.true_and]
theorem ecs_most (l : List Int) : ((ecs' l).map List.length).sum ≤ l.length := by
  unfold ecs'
  split
  · rw [ecs_all]; exact List.length_filter_le _ _
  · simp
theorem uf_at {l : List Int} (h : ufOk l = true) {k : Nat} {v : Int} (hk : l[k]? = some v) : (-40 ≤ v ∧ v ≤ 9) ∧ (v < 0 → -1 - v ≤ (k : Int) ∧ l[(-1 - v).toNat]? = some v) := by
  unfold ufOk at h
  simp only [Bool.and_eq_true, decide_eq_true_eq] at h
  have h1 := h.1 k (List.getElem?_eq_some_iff.1 hk).1
  rw [ufStep_at hk] at h1
  simp only [Bool.and_eq_true, Bool.or_eq_true, decide_eq_true_eq] at h1
  exact ⟨h1.1, fun h0 => by rcases h1.2 with q | q; omega; exact q⟩
theorem pos_two {v : Int} {l : List Int} {j k : Nat} (hj : l[j]? = some v) (hk : l[k]? = some v) (hne : j ≠ k) : 1 < (posI v l).length := by
  have h1 : (j : Int) ∈ posI v l := posI_mem.2 ⟨by omega, by simpa using hj⟩
  have h2 : (k : Int) ∈ posI v l := posI_mem.2 ⟨by omega, by simpa using hk⟩
  match hp : posI v l with
  | [] => rw [hp] at h1; simp at h1
  | [x] => rw [hp] at h1 h2; simp at h1 h2; omega
  | _ :: _ :: _ => simp
theorem us_most (l : List Int) : ufOk l = true → (usN' l).length ≤ ((ecs' l).map List.length).sum := by
  intro h
  rw [ecs_good h, (us_good h).1, ecs_all]
  unfold usN usP
  rw [List.length_map, ← zip_fst l (gdV l)]
  refine filter_le fun x hx hp => ?_
  obtain ⟨v, k⟩ := x
  have hk := List.mk_mem_zipIdx_iff_getElem?.1 hx
  have hp : v ≠ -1 - (k : Int) := by simpa using hp
  obtain ⟨_, h2⟩ := uf_at h hk
  refine decide_eq_true ?_
  by_cases h0 : v < 0
  · obtain ⟨h3, h4⟩ := h2 h0
    exact .inl (pos_two h4 hk (by omega))
  · exact .inr (by omega)
/-- What a class holds: places of one value. -/
theorem ecs_in {l : List Int} {x : List Int} (h : x ∈ ecs' l) : ufOk l = true ∧ ∃ v, x = posI v l := by
  unfold ecs' at h
  split at h
  · rename_i hu
    refine ⟨hu, ?_⟩
    simp only [ecs, List.mem_flatMap] at h
    obtain ⟨k, _, hx⟩ := h
    unfold ecAt at hx
    split at hx
    · split at hx
      · simp only [List.mem_singleton] at hx
        exact ⟨_, hx⟩
      · simp at hx
    · simp at hx
  · simp at h
theorem ecs_find {l : List Int} {x : List Int} {n : Nat} {p : Int} (h : x ∈ ecs' l) (hp : x[n]? = some p) : ∃ v, (x = posI v l) ∧ findU l (-1 - p) = v := by
  obtain ⟨hu, v, rfl⟩ := ecs_in h
  have h1 := posI_mem.1 (List.mem_of_getElem? hp)
  have h2 := (List.getElem?_eq_some_iff.1 h1.2).1
  have h3 := ufOk_len hu
  refine ⟨v, rfl, ?_⟩
  exact findU_at (n := p) (by omega) (by omega) hu (by omega) h1.2
theorem ecs_same {l : List Int} {x : List Int} {n n' : Nat} {p p' : Int} (h : x ∈ ecs' l) (hp : x[n]? = some p) (hp' : x[n']? = some p') : findU l (-1 - p) = findU l (-1 - p') := by
  obtain ⟨v, h1, h2⟩ := ecs_find h hp
  obtain ⟨v', h1', h2'⟩ := ecs_find h hp'
  rw [h2, h2']
  have h3 := posI_mem.1 (by rw [← h1]; exact List.mem_of_getElem? hp)
  have h4 := posI_mem.1 (by rw [← h1']; exact List.mem_of_getElem? hp)
  rw [h3.2] at h4
  exact Option.some.inj h4.2
theorem ecs_ok {l : List Int} {x : List Int} {p : Int} (h : x ∈ ecs' l) (hp : p ∈ x) : 0 ≤ p ∧ p < 40 := by
  obtain ⟨hu, v, rfl⟩ := ecs_in h
  have h1 := posI_mem.1 hp
  have h2 := (List.getElem?_eq_some_iff.1 h1.2).1
  have h3 := ufOk_len hu
  omega
/-! ### substitutions -/
def subStep (ns vs : List Int) (j : Nat) : Bool := match ns[j]?, vs[j]? with
  | some k, some v => decide (0 ≤ k ∧ k ≤ 39) && ((decide (j = 0) || match ns[j - 1]? with | some p => decide (p < k) | none => false) && decide (-40 ≤ v ∧ v ≤ 9))
  | _, _ => false
def subOk (ns vs : List Int) : Bool := decide (ns.length = vs.length) && decide (∀ j, j < ns.length → subStep ns vs j = true)
section
variable {ns vs : List Int} {m : Nat} {k v p : Int}
theorem subStep_0 (hk : ns[m]? = some k) (hv : vs[m]? = some v) (h0 : m = 0) : subStep ns vs m = (decide (0 ≤ k ∧ k ≤ 39) && decide (-40 ≤ v ∧ v ≤ 9)) := by
  subst h0
  unfold subStep
  rw [hk, hv]
  simp
theorem subStep_n {n : Nat} (hk : ns[m]? = some k) (hv : vs[m]? = some v) (h0 : m ≠ 0) (hp : ns[n]? = some p) (hn : n = m - 1) : subStep ns vs m = (decide (0 ≤ k ∧ k ≤ 39) && (decide (p < k) && decide (-40 ≤ v ∧ v ≤ 9))) := by
  subst hn
  unfold subStep
  rw [hk, hv, hp]
  simp [h0]
theorem subStep_k (hk : ns[m]? = some k) (h : ¬ (0 ≤ k ∧ k ≤ 39)) : subStep ns vs m = false := by
  unfold subStep
  rw [hk]
  cases vs[m]? with
  | none => rfl
  | some v => simp only [decide_eq_false h, Bool.false_and]
theorem subStep_p {n : Nat} (hk : ns[m]? = some k) (h0 : m ≠ 0) (hp : ns[n]? = some p) (hn : n = m - 1) (h : ¬ p < k) : subStep ns vs m = false := by
  subst hn
  unfold subStep
  rw [hk, hp]
  cases vs[m]? with
  | none => rfl
  | some v => simp only [decide_eq_false h, decide_eq_false h0, Bool.false_or, Bool.false_and, Bool.and_false]
theorem subStep_v (hv : vs[m]? = some v) (h : ¬ (-40 ≤ v ∧ v ≤ 9)) : subStep ns vs m = false := by
  unfold subStep
  rw [hv]
  cases ns[m]? with
  | none => rfl
  | some k => simp only [decide_eq_false h, Bool.and_false]
theorem subOk_len (h : ¬ ((ns.length : Nat) : Int) = ((vs.length : Nat) : Int)) : subOk ns vs = false := by
  unfold subOk
  rw [decide_eq_false (fun e => h (by omega))]
  rfl
theorem subOk_not (hm : m < ns.length) (h : subStep ns vs m = false) : subOk ns vs = false := by
  unfold subOk
  rw [decide_eq_false (fun q : ∀ j, j < ns.length → subStep ns vs j = true => by rw [q m hm] at h; cases h)]
  simp
theorem subOk_end (hl : ns.length = vs.length) (h : ∀ j, j < m → subStep ns vs j = true) (hm : ns.length ≤ m) : subOk ns vs = true := by
  unfold subOk
  rw [decide_eq_true hl, decide_eq_true (fun j hj => h j (by omega))]
  rfl
end
def appV (ns vs : List Int) (v : Int) : Int := if (-40 ≤ v ∧ v ≤ -1) ∧ 0 ≤ idxI (eqP (-1 - v)) ns ∧ subOk ns vs = true then vs.getD (idxI (eqP (-1 - v)) ns).toNat 0 else v
theorem appV_no {ns vs : List Int} {v : Int} (h : ¬ ((-40 ≤ v ∧ v ≤ -1) ∧ 0 ≤ idxI (eqP (-1 - v)) ns ∧ subOk ns vs = true)) : v = appV ns vs v := (if_neg h).symm
theorem appV_yes {ns vs : List Int} {v n z : Int} (h : (-40 ≤ v ∧ v ≤ -1)) (h2 : 0 ≤ n) (hn : n = idxI (eqP (-1 - v)) ns) (h3 : subOk ns vs = true) (hz : vs[n.toNat]? = some z) : z = appV ns vs v := by
  subst hn
  unfold appV
  rw [if_pos ⟨h, h2, h3⟩, List.getD_eq_getElem?_getD, hz]
  rfl
theorem appV_idx {ns vs : List Int} {v k : Int} (h : (-40 ≤ v ∧ v ≤ -1)) (hk : k = -1 - v) (h2 : 0 ≤ idxI (eqP k) ns) (h3 : subOk ns vs = true) : idxI (eqP k) ns < vs.length := by
  have hm : k ∈ ns := by
    by_cases q : k ∈ ns
    · exact q
    · exfalso
      have : idxI (eqP k) ns = -1 := idx_none (m := ns.length) (fun j z _ hz => by
        unfold eqP
        refine decide_eq_false fun e => q ?_
        rw [← e]
        exact List.mem_of_getElem? hz) rfl
      omega
  obtain ⟨m, e1, e2, _⟩ := idx_val hm
  unfold subOk at h3
  simp only [Bool.and_eq_true, decide_eq_true_eq] at h3
  omega
/-! ### the substitution of a union-find -/
theorem usP_get {l : List Int} {i k : Nat} {v : Int} (h : (usP l)[i]? = some (v, k)) : l[k]? = some v ∧ v ≠ -1 - (k : Int) := by
  have h1 := List.mem_of_getElem? h
  unfold usP at h1
  rw [List.mem_filter] at h1
  exact ⟨List.mk_mem_zipIdx_iff_getElem?.1 h1.1, by simpa using h1.2⟩
theorem usP_up (l : List Int) : (usP l).Pairwise fun a b => a.2 < b.2 := by
  unfold usP
  refine List.Pairwise.filter _ ?_
  have : ∀ (l : List Int) (n : Nat), (l.zipIdx n).Pairwise fun a b => a.2 < b.2 := by
    intro l
    induction l with
    | nil => intro n; simp
    | cons x l ih =>
      intro n
      rw [List.zipIdx_cons, List.pairwise_cons]
      refine ⟨fun a ha => ?_, ih _⟩
      have := List.le_snd_of_mem_zipIdx ha
      show n < a.2
      omega
  exact this l 0
theorem us_sub {l : List Int} (h : ufOk l = true) : subOk (usN' l) (usV' l) = true := by
  rw [(us_good h).1, (us_good h).2]
  refine subOk_end (m := (usN l).length) (by simp [usN, usV]) (fun j hj => ?_) (Nat.le_refl _)
  have hj' : j < (usP l).length := by simpa [usN] using hj
  have hg : (usP l)[j]? = some ((usP l)[j]) := List.getElem?_eq_getElem hj'
  have hN : (usN l)[j]? = some (((usP l)[j]).2 : Int) := by simp [usN, hj']
  have hV : (usV l)[j]? = some (((usP l)[j]).1) := by simp [usV, hj']
  obtain ⟨g1, _⟩ := usP_get (k := ((usP l)[j]).2) (v := ((usP l)[j]).1) hg
  have hlen := ufOk_len h
  have hk := (List.getElem?_eq_some_iff.1 g1).1
  have hv := (uf_at h g1).1
  by_cases h0 : j = 0
  · rw [subStep_0 hN hV h0, decide_eq_true (by omega), decide_eq_true hv]; rfl
  · have hp' : j - 1 < (usP l).length := by omega
    have hP : (usN l)[j - 1]? = some (((usP l)[j - 1]).2 : Int) := by simp [usN, hp']
    have := List.pairwise_iff_getElem.1 (usP_up l) (j - 1) j hp' hj' (by omega)
    rw [subStep_n hN hV h0 hP rfl, decide_eq_true (by omega), decide_eq_true (by omega), decide_eq_true hv]; rfl
theorem us_app {l : List Int} (h : ufOk l = true) (v : Int) : appV (usN' l) (usV' l) v = findU l v := by
  have hs := us_sub h
  unfold appV
  rw [hs]
  rw [(us_good h).1, (us_good h).2]
  by_cases hn : -40 ≤ v ∧ v ≤ -1
  · by_cases hi : 0 ≤ idxI (eqP (-1 - v)) (usN l)
    · rw [if_pos ⟨hn, hi, rfl⟩]
      have hm : -1 - v ∈ usN l := by
        by_cases q : -1 - v ∈ usN l
        · exact q
        · exfalso
          have : idxI (eqP (-1 - v)) (usN l) = -1 := idx_none (m := (usN l).length) (fun j z _ hz => by
            unfold eqP
            refine decide_eq_false fun e => q ?_
            rw [← e]
            exact List.mem_of_getElem? hz) rfl
          omega
      obtain ⟨m, e1, e2, e3⟩ := idx_val hm
      rw [e1]
      have hj' : m < (usP l).length := by simpa [usN] using e2
      have hN : (usN l)[m]? = some (((usP l)[m]).2 : Int) := by simp [usN, hj']
      have hV : (usV l)[m]? = some (((usP l)[m]).1) := by simp [usV, hj']
      obtain ⟨g1, _⟩ := usP_get (k := ((usP l)[m]).2) (v := ((usP l)[m]).1) (List.getElem?_eq_getElem hj')
      rw [hN] at e3
      have e3 := Option.some.inj e3
      rw [List.getD_eq_getElem?_getD, Int.toNat_natCast, hV]
      have := (List.getElem?_eq_some_iff.1 g1).1
      exact (findU_at (n := (((usP l)[m]).2 : Int)) hn (by omega) h e3 (by simpa using g1)).symm
    · rw [if_neg (fun q => hi q.2.1)]
      unfold findU
      split
      · rename_i q
        have hlt : (-1 - v).toNat < l.length := by omega
        have hg : l[(-1 - v).toNat]? = some (l[(-1 - v).toNat]) := List.getElem?_eq_getElem hlt
        rw [List.getD_eq_getElem?_getD, hg]
        simp only [Option.getD_some]
        by_cases e : l[(-1 - v).toNat] = v
        · exact e.symm
        · exfalso
          have hm : (l[(-1 - v).toNat], (-1 - v).toNat) ∈ usP l := by
            unfold usP
            rw [List.mem_filter]
            refine ⟨List.mk_mem_zipIdx_iff_getElem?.2 hg, ?_⟩
            simp only [ne_eq, decide_eq_true_eq]
            omega
          have hmN : -1 - v ∈ usN l := by
            unfold usN
            rw [List.mem_map]
            exact ⟨_, hm, by simp; omega⟩
          exact idx_neg (by omega) hmN
      · rfl
  · rw [if_neg (fun q => hn q.1)]
    unfold findU
    rw [if_neg (fun q => hn q.1)]
/-! ### unions -/
theorem uni_mem {l : List Int} {a b : Int} (h : uniC l a b ≠ 2) : ufOk l = true ∧ memU l a = true ∧ memU l b = true := by
  refine ⟨?_, ?_, ?_⟩
  · cases q : ufOk l
    · exact absurd (uniC_bad (.inl q)) h
    · rfl
  · cases q : memU l a
    · exact absurd (uniC_bad (.inr (.inl q))) h
    · rfl
  · cases q : memU l b
    · exact absurd (uniC_bad (.inr (.inr q))) h
    · rfl
theorem mem_spec {l : List Int} {v : Int} (h : memU l v = true) : (-40 ≤ v ∧ v ≤ 9) ∧ (0 ≤ v ∨ -1 - v < l.length) := by
  unfold memU at h
  simpa using h
/-- What a value's representative is. -/
theorem find_spec {l : List Int} {v : Int} (h : ufOk l = true) (hm : memU l v = true) : (-40 ≤ findU l v ∧ findU l v ≤ 9) ∧ (findU l v < 0 → l[(-1 - findU l v).toNat]? = some (findU l v)) := by
  obtain ⟨h1, h2⟩ := mem_spec hm
  unfold findU
  split
  · rename_i q
    have hlt : (-1 - v).toNat < l.length := by omega
    have hg : l[(-1 - v).toNat]? = some (l[(-1 - v).toNat]) := List.getElem?_eq_getElem hlt
    rw [List.getD_eq_getElem?_getD, hg]
    simp only [Option.getD_some]
    obtain ⟨r1, r2⟩ := uf_at h hg
    exact ⟨r1, fun h0 => (r2 h0).2⟩
  · rename_i q
    exact ⟨h1, fun h0 => by rcases h2 with h2 | h2; omega; exact absurd ⟨by omega, h2, h⟩ q⟩
theorem uni_zero {l : List Int} {a b : Int} (h : uniC l a b ≠ 2) : (uniC l a b = 0) ↔ findU l a = findU l b := by
  obtain ⟨h0, h1, h2⟩ := uni_mem h
  rw [uniC_ok h0 h1 h2] at h ⊢
  split
  · simp [*]
  · rename_i e
    split <;> simp [e]
theorem uni_one {l : List Int} {a b : Int} (h : uniC l a b ≠ 2) (h1 : uniC l a b ≠ 0) : uniC l a b = 1 ∧ findU l a ≠ findU l b ∧ ¬ (0 ≤ findU l a ∧ 0 ≤ findU l b) := by
  obtain ⟨h0, h3, h2⟩ := uni_mem h
  rw [uniC_ok h0 h3 h2] at h h1 ⊢
  split
  · rename_i e; rw [if_pos e] at h1; exact absurd rfl h1
  · rename_i e
    split
    · rename_i e2; rw [if_neg e, if_pos e2] at h; exact absurd rfl h
    · rename_i e2; exact ⟨rfl, e, e2⟩
theorem rep_two {p q : Int} (h : p ≠ q) : (p < q ∧ ∀ v, repU p q v = if v = p then q else v) ∨ (q < p ∧ ∀ v, repU p q v = if v = q then p else v) := by
  unfold repU
  rcases Int.lt_or_gt_of_ne h with h1 | h1
  · exact .inl ⟨h1, fun v => by rw [if_neg (by omega : ¬ q < p), if_pos h1]⟩
  · exact .inr ⟨h1, fun v => by rw [if_pos h1, if_neg (by omega : ¬ p < q)]⟩
def rU (l : List Int) (a b : Int) (v : Int) : Int := if uniC l a b = 1 then repU (findU l a) (findU l b) v else v
theorem uniL_get {l : List Int} {a b : Int} (k : Nat) : (uniL l a b)[k]? = (l[k]?).map (rU l a b) := by
  unfold uniL
  split
  · rename_i h
    rw [List.getElem?_map]
    congr 1
    funext v
    unfold rU
    rw [if_pos h]
  · rename_i h
    have : rU l a b = id := by funext v; unfold rU; rw [if_neg h]; rfl
    rw [this]
    simp
theorem rU_cases {l : List Int} {a b : Int} (h : uniC l a b ≠ 2) (v : Int) : (rU l a b v = v) ∨ (v < 0 ∧ v < rU l a b v ∧ (rU l a b v = findU l a ∨ rU l a b v = findU l b)) := by
  unfold rU
  split
  · rename_i e
    obtain ⟨_, h2, h3⟩ := uni_one h (by omega)
    generalize findU l a = p at *
    generalize findU l b = q at *
    rcases rep_two h2 with ⟨r1, r2⟩ | ⟨r1, r2⟩
    · rw [r2]; split <;> omega
    · rw [r2]; split <;> omega
  · exact .inl rfl
/-- A representative stays one. -/
theorem rU_keep {l : List Int} {a b : Int} (h : uniC l a b ≠ 2) (v : Int) : rU l a b (rU l a b v) = rU l a b v := by
  unfold rU
  split
  · rename_i e
    obtain ⟨_, h2, h3⟩ := uni_one h (by omega)
    generalize findU l a = p at *
    generalize findU l b = q at *
    rcases rep_two h2 with ⟨r1, r2⟩ | ⟨r1, r2⟩
    · rw [r2, r2]; split <;> (try split) <;> omega
    · rw [r2, r2]; split <;> (try split) <;> omega
  · rfl
theorem rU_same {l : List Int} {a b : Int} (h : uniC l a b ≠ 2) : rU l a b (findU l a) = rU l a b (findU l b) := by
  by_cases h0 : uniC l a b = 0
  · rw [(uni_zero h).1 h0]
  · obtain ⟨h1, h2, h3⟩ := uni_one h h0
    unfold rU
    rw [if_pos h1, if_pos h1]
    generalize findU l a = p at *
    generalize findU l b = q at *
    rcases rep_two h2 with ⟨r1, r2⟩ | ⟨r1, r2⟩
    · rw [r2, r2]; split <;> split <;> omega
    · rw [r2, r2]; split <;> split <;> omega
theorem uni_ok {l : List Int} {a b : Int} (h : uniC l a b ≠ 2) : ufOk (uniL l a b) = true := by
  obtain ⟨h0, h1, h2⟩ := uni_mem h
  have hL := uni_len l a b
  rw [ufOk_end (m := (uniL l a b).length) (fun k hk => ?_) (Nat.le_refl _)]
  · rw [hL]; exact decide_eq_true (ufOk_len h0)
  · rw [hL] at hk
    have hg : l[k]? = some (l[k]) := List.getElem?_eq_getElem hk
    have hX : (uniL l a b)[k]? = some (rU l a b l[k]) := by rw [uniL_get, hg]; rfl
    obtain ⟨r1, r2⟩ := uf_at h0 hg
    have key : ∀ y, rU l a b l[k] = y → (-40 ≤ y ∧ y ≤ 9) ∧ (y < 0 → -1 - y ≤ (k : Int) ∧ l[(-1 - y).toNat]? = some y) := by
      intro y hy
      rcases rU_cases h l[k] with e | ⟨e1, e2, e3⟩
      · have : y = l[k] := by omega
        subst this
        exact ⟨r1, r2⟩
      · have f : (-40 ≤ y ∧ y ≤ 9) ∧ (y < 0 → l[(-1 - y).toNat]? = some y) := by
          rcases e3 with e3 | e3
          · have := find_spec h0 h1
            rw [← e3, hy] at this
            exact this
          · have := find_spec h0 h2
            rw [← e3, hy] at this
            exact this
        refine ⟨f.1, fun q => ⟨?_, f.2 q⟩⟩
        have := (r2 e1).1
        omega
    obtain ⟨k1, k2⟩ := key _ rfl
    rw [ufStep_at hX, decide_eq_true k1]
    by_cases hn : rU l a b l[k] < 0
    · obtain ⟨k3, k4⟩ := k2 hn
      have : (uniL l a b)[(-1 - rU l a b l[k]).toNat]? = some (rU l a b l[k]) := by
        rw [uniL_get, k4]
        simp [rU_keep h]
      rw [decide_eq_true k3, decide_eq_true this]
      simp
    · rw [decide_eq_true (by omega : 0 ≤ rU l a b l[k])]
      rfl
theorem uni_find {l : List Int} {a b : Int} (h : uniC l a b ≠ 2) {v : Int} (hv : memU l v = true) : findU (uniL l a b) v = rU l a b (findU l v) := by
  obtain ⟨h0, h1, h2⟩ := uni_mem h
  have hok := uni_ok h
  have hL := uni_len l a b
  obtain ⟨m1, m2⟩ := mem_spec hv
  by_cases hn : v < 0
  · have hlt : (-1 - v).toNat < l.length := by omega
    have hg : l[(-1 - v).toNat]? = some (l[(-1 - v).toNat]) := List.getElem?_eq_getElem hlt
    rw [findU_at (l := l) (n := -1 - v) (by omega) (by omega) h0 rfl hg]
    exact findU_at (n := -1 - v) (by omega) (by omega) hok rfl (by rw [uniL_get, hg]; rfl)
  · rw [findU_no (fun q => by omega), findU_no (fun q => by omega)]
    rcases rU_cases h v with e | ⟨e1, _⟩
    · exact e.symm
    · omega
theorem uni_ab {l : List Int} {a b : Int} (h : uniC l a b ≠ 2) : findU (uniL l a b) a = findU (uniL l a b) b := by
  obtain ⟨h0, h1, h2⟩ := uni_mem h
  rw [uni_find h h1, uni_find h h2, rU_same h]
theorem uni_v {l : List Int} {a b v : Int} (h : uniC l a b ≠ 2) (hv : v < 0) (hv2 : -(l.length : Int) ≤ v) (hl : l.length ≤ 40) : (findU l v = findU l a → findU (uniL l a b) v = findU (uniL l a b) a) ∧ (0 ≤ findU l v → findU (uniL l a b) v = findU l v) := by
  obtain ⟨h0, h1, h2⟩ := uni_mem h
  have hm : memU l v = true := memU_of (by omega) (by omega)
  refine ⟨fun e => by rw [uni_find h hm, uni_find h h1, e], fun e => ?_⟩
  rw [uni_find h hm]
  rcases rU_cases h (findU l v) with e1 | ⟨e1, _⟩
  · exact e1
  · omega
/-! ### a new union-find -/
def nulU (n : Nat) : List Int := (List.range n).map fun (k : Nat) => -1 - (k : Int)
def newU (n : Int) : List Int := if 0 ≤ n ∧ n ≤ 40 then nulU n.toNat else []
theorem nulU_len (n : Nat) : (nulU n).length = n := by simp [nulU]
theorem nulU_step {n : Nat} {x : Int} (h : x = -1 - (n : Int)) : nulU n ++ [x] = nulU (n + 1) := by
  subst h
  simp [nulU, List.range_succ]
theorem newU_end {n : Int} {m : Nat} (h : (¬ ((m : Int) < n)) ∨ ¬ (0 ≤ n ∧ n ≤ 40)) (i2 : (m : Int) ≤ n ∨ m = 0) (i3 : m = 0 ∨ (0 ≤ n ∧ n ≤ 40)) : nulU m = newU n := by
  unfold newU
  split
  · rename_i q
    congr 1
    omega
  · rename_i q
    have : m = 0 := by omega
    subst this
    rfl
theorem newU_no {n : Int} (h : ¬ (0 ≤ n ∧ n ≤ 40)) : [] = newU n := (if_neg h).symm
theorem newU_len' {n : Int} (h : 0 ≤ n ∧ n ≤ 40) : ((newU n).length : Int) = n := by
  unfold newU
  rw [if_pos h, nulU_len]
  omega
theorem newU_ok {n : Int} : ∀ x ∈ newU n, okI x := by
  intro x hx
  unfold newU at hx
  split at hx
  · have hn : n.toNat ≤ 40 := by omega
    simp only [nulU, List.mem_map, List.mem_range] at hx
    obtain ⟨k, _, rfl⟩ := hx
    unfold okI
    omega
  · simp at hx
theorem findU_ok {l : List Int} {v : Int} (h : ∀ x ∈ l, okI x) (hv : okI v) : okI (findU l v) := by
  unfold findU
  split
  · rename_i q
    have hlt : (-1 - v).toNat < l.length := by omega
    rw [List.getD_eq_getElem?_getD, List.getElem?_eq_getElem hlt]
    exact h _ (List.getElem_mem hlt)
  · exact hv
theorem uniL_ok {l : List Int} {a b : Int} (h : ∀ x ∈ l, okI x) (ha : okI a) (hb : okI b) : ∀ x ∈ uniL l a b, okI x := by
  intro x hx
  unfold uniL at hx
  split at hx
  · rw [List.mem_map] at hx
    obtain ⟨y, hy, rfl⟩ := hx
    have hp := findU_ok h ha
    have hq := findU_ok h hb
    have hy' := h y hy
    by_cases e : findU l a = findU l b
    · unfold repU
      rw [e] at hp ⊢
      simp only [Int.lt_irrefl, if_false]
      split <;> assumption
    · rcases rep_two e with ⟨_, r⟩ | ⟨_, r⟩ <;> rw [r] <;> split <;> assumption
  · exact h x hx
theorem pick5 {x : Int} (h : x ∈ [(10 : Int), -6, 0, -1, -41]) : okI x := by
  unfold okI
  simp only [List.mem_cons, List.not_mem_nil, or_false] at h
  omega
theorem set_ok {l : List Int} {n : Nat} {v : Int} (h : ∀ x ∈ l, okI x) (hv : okI v) : ∀ x ∈ l.set n v, okI x := by
  intro x hx
  rcases List.mem_or_eq_of_mem_set hx with q | q
  · exact h x q
  · rw [q]; exact hv
/-! ### bytes handed in -/
theorem op_u8 {P : Program} {t : TypeId} (ht : P.underlying t = some (.int .u8)) : Op P t 1 encU (fun _ => True) := by
  intro H en w base spare held fuel cs x h
  obtain ⟨n, rfl, _, hw⟩ := DataW.trod_int ht h
  exact ⟨n, rfl, fun j hj => ⟨_, by rw [show j = 0 by omega]; rfl, rfl, rfl⟩, trivial⟩
theorem us_ok (l : List Int) (h : ∀ x ∈ l, okI x) (hl : l.length ≤ 40) : (∀ x ∈ usN' l, okI x) ∧ ∀ x ∈ usV' l, okI x := by
  by_cases hu : ufOk l = true
  · rw [(us_good hu).1, (us_good hu).2]
    constructor
    · intro x hx
      unfold usN usP at hx
      rw [List.mem_map] at hx
      obtain ⟨⟨v, k⟩, h1, rfl⟩ := hx
      rw [List.mem_filter] at h1
      have := (List.getElem?_eq_some_iff.1 (List.mk_mem_zipIdx_iff_getElem?.1 h1.1)).1
      unfold okI
      show -9223372036854775808 ≤ (k : Int) ∧ (k : Int) ≤ 9223372036854775807
      omega
    · intro x hx
      unfold usV usP at hx
      rw [List.mem_map] at hx
      obtain ⟨⟨v, k⟩, h1, rfl⟩ := hx
      rw [List.mem_filter] at h1
      exact h _ (List.mem_of_getElem? (List.mk_mem_zipIdx_iff_getElem?.1 h1.1))
  · have := us_bad (l := l) (by simpa using hu)
    rw [this.1, this.2]
    simp
end Go.Eng
