import Derived.Test.YthcggkagkihamaaGreatEngS
set_option linter.unusedVariables false
set_option linter.unusedSimpArgs false
namespace Go.Eng
open Go Go.RowKit
theorem idx_spec {α : Type} {p : α → Bool} {l : List α} (h : l.any p = true) : ∃ (m : Nat) (z : α), idxI p l = (m : Int) ∧ l[m]? = some z ∧ p z = true ∧ ∀ j z, j < m → l[j]? = some z → p z = false := by
 have key : ∀ (m : Nat), m ≤ l.length → (∀ j z, j < m → l[j]? = some z → p z = false) ∨ ∃ (q : Nat) (z : α), l[q]? = some z ∧ p z = true ∧ ∀ j z, j < q → l[j]? = some z → p z = false := by
  intro m
  induction m with
  | zero => intro _; exact .inl (fun j z h => by omega)
  | succ m ih =>
   intro hm
   rcases ih (by omega) with h1 | h1
   ·cases hp : p (l[m]'(by omega))
    ·exact .inl (no_step h1 (List.getElem?_eq_getElem (by omega)) rfl hp)
    ·exact .inr ⟨m, _, List.getElem?_eq_getElem (by omega), hp, h1⟩
   ·exact .inr h1
 rcases key l.length (Nat.le_refl _) with h1 | ⟨q, z, h1, h2, h3⟩
 ·rw [any_false h1 (Nat.le_refl _)] at h
  cases h
 ·exact ⟨q, z, idx_hit h3 h1 h2, h1, h2, h3⟩
theorem idx_val {l : List Int} {v : Int} (h : v ∈ l) : ∃ m : Nat, idxI (eqP v) l = (m : Int) ∧ m < l.length ∧ l[m]? = some v := by
 obtain ⟨m, z, h1, h2, h3, _⟩ := idx_spec (p := eqP v) (l := l) (List.any_eq_true.2 ⟨v, h, by simp [eqP]⟩)
 have : z = v := by simpa [eqP] using h3
 subst this
 exact ⟨m, h1, (List.getElem?_eq_some_iff.1 h2).1, h2⟩
def gdV (l : List Int) (v : Int) : Bool := decide (1 < (posI v l).length ∨ 0 ≤ v)
def subStep (ns vs : List Int) (j : Nat) : Bool := match ns[j]?, vs[j]? with
 | some k, some v => decide (0 ≤ k ∧ k ≤ 39) && ((decide (j = 0) || match ns[j - 1]? with | some p => decide (p < k) | none => false) && decide (-40 ≤ v ∧ v ≤ 9))
 | _, _ => false
def subOk (ns vs : List Int) : Bool := decide (ns.length = vs.length) && decide (∀ j, j < ns.length → subStep ns vs j = true)
section
variable {ns vs : List Int} {m : Nat} {k v p : Int}
theorem subStep_0 (hk : ns[m]? = some k) (hv : vs[m]? = some v) (h0 : m = 0) : subStep ns vs m = (decide (0 ≤ k ∧ k ≤ 39) && decide (-40 ≤ v ∧ v ≤ 9)) := by
 subst h0
 unfold subStep
 rw [hk, hv]
 simp
theorem subStep_n {n : Nat} (hk : ns[m]? = some k) (hv : vs[m]? = some v) (h0 : m ≠ 0) (hp : ns[n]? = some p) (hn : n = m - 1) : subStep ns vs m = (decide (0 ≤ k ∧ k ≤ 39) && (decide (p < k) && decide (-40 ≤ v ∧ v ≤ 9))) := by
 subst hn
 unfold subStep
 rw [hk, hv, hp]
 simp [h0]
theorem subStep_k (hk : ns[m]? = some k) (h : ¬ (0 ≤ k ∧ k ≤ 39)) : subStep ns vs m = false := by
 unfold subStep
 rw [hk]
 cases vs[m]? with
 | none => rfl
 | some v => simp only [decide_eq_false h, Bool.false_and]
theorem subStep_p {n : Nat} (hk : ns[m]? = some k) (h0 : m ≠ 0) (hp : ns[n]? = some p) (hn : n = m - 1) (h : ¬ p < k) : subStep ns vs m = false := by
 subst hn
 unfold subStep
 rw [hk, hp]
 cases vs[m]? with
 | none => rfl
 | some v => simp only [decide_eq_false h, decide_eq_false h0, Bool.false_or, Bool.false_and, Bool.and_false]
theorem subStep_v (hv : vs[m]? = some v) (h : ¬ (-40 ≤ v ∧ v ≤ 9)) : subStep ns vs m = false := by
 unfold subStep
 rw [hv]
 cases ns[m]? with
 | none => rfl
 | some k => simp only [decide_eq_false h, Bool.and_false]
theorem subOk_len (h : ¬ ((ns.length : Nat) : Int) = ((vs.length : Nat) : Int)) : subOk ns vs = false := by
 unfold subOk
 rw [decide_eq_false (fun e => h (by omega))]
 rfl
theorem subOk_not (hm : m < ns.length) (h : subStep ns vs m = false) : subOk ns vs = false := by
 unfold subOk
 rw [decide_eq_false (fun q : ∀ j, j < ns.length → subStep ns vs j = true => by rw [q m hm] at h; cases h)]
 simp
theorem subOk_end (hl : ns.length = vs.length) (h : ∀ j, j < m → subStep ns vs j = true) (hm : ns.length ≤ m) : subOk ns vs = true := by
 unfold subOk
 rw [decide_eq_true hl, decide_eq_true (fun j hj => h j (by omega))]
 rfl
end
def appV (ns vs : List Int) (v : Int) : Int := if (-40 ≤ v ∧ v ≤ -1) ∧ 0 ≤ idxI (eqP (-1 - v)) ns ∧ subOk ns vs = true then vs.getD (idxI (eqP (-1 - v)) ns).toNat 0 else v
theorem appV_no {ns vs : List Int} {v : Int} (h : ¬ ((-40 ≤ v ∧ v ≤ -1) ∧ 0 ≤ idxI (eqP (-1 - v)) ns ∧ subOk ns vs = true)) : v = appV ns vs v := (if_neg h).symm
theorem appV_yes {ns vs : List Int} {v n z : Int} (h : (-40 ≤ v ∧ v ≤ -1)) (h2 : 0 ≤ n) (hn : n = idxI (eqP (-1 - v)) ns) (h3 : subOk ns vs = true) (hz : vs[n.toNat]? = some z) : z = appV ns vs v := by
 subst hn
 unfold appV
 rw [if_pos ⟨h, h2, h3⟩, List.getD_eq_getElem?_getD, hz]
 rfl
theorem appV_idx {ns vs : List Int} {v k : Int} (h : (-40 ≤ v ∧ v ≤ -1)) (hk : k = -1 - v) (h2 : 0 ≤ idxI (eqP k) ns) (h3 : subOk ns vs = true) : idxI (eqP k) ns < vs.length := by
 have hm : k ∈ ns := by
  by_cases q : k ∈ ns
  ·exact q
  ·exfalso
   have : idxI (eqP k) ns = -1 := idx_none (m := ns.length) (fun j z _ hz => by
    unfold eqP
    refine decide_eq_false fun e => q ?_
    rw [← e]
    exact List.mem_of_getElem? hz) rfl
   omega
 obtain ⟨m, e1, e2, _⟩ := idx_val hm
 unfold subOk at h3
 simp only [Bool.and_eq_true, decide_eq_true_eq] at h3
 omega
def rU (l : List Int) (a b : Int) (v : Int) : Int := if uniC l a b = 1 then repU (findU l a) (findU l b) v else v
def nulU (n : Nat) : List Int := (List.range n).map fun (k : Nat) => -1 - (k : Int)
def newU (n : Int) : List Int := if 0 ≤ n ∧ n ≤ 40 then nulU n.toNat else []
end Go.Eng
