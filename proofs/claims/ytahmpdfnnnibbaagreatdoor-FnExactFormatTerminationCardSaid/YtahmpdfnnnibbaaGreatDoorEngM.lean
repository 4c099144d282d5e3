/- Models: ranks of positions. -/
import Derived.Test.YtahmpdfnnnibbaaGreatDoorEngL
set_option linter.unusedVariables false
set_option linter.unusedSimpArgs false
namespace Go.Eng
open Go Go.RowKit
def atI (q : List Int) (x : Int) : Int := q.getD x.toNat 0
def spI (e : Edg) : Int := if e.2.2 = true then 1 else 0
def relE (q : List Int) (e : Edg) : List Int := q.set e.2.1.toNat (max (atI q e.2.1) (atI q e.1 + spI e))
def relK (es : List Edg) (q : List Int) : Nat → List Int
  | 0 => q
  | k + 1 => es.foldl relE (relK es q k)
def zerosI (n : Int) : List Int := List.replicate n.toNat 0
section
variable {n : Int} {es : List Edg}
def edIn (n : Int) (es : List Edg) : Prop := ∀ e, e ∈ es → inN n e.1 = true ∧ inN n e.2.1 = true
def okF (es : List Edg) (f : Int → Int) : Prop := (∀ x y : Int, x.toNat = y.toNat → f x = f y) ∧ (∀ x, 0 ≤ f x) ∧ ∀ e, e ∈ es → f e.1 + spI e ≤ f e.2.1
def leF (q : List Int) (f : Int → Int) : Prop := ∀ x, atI q x ≤ f x
def sumI (q : List Int) : Int := q.sum
def stil (es : List Edg) (q : List Int) : Prop := ∀ e, e ∈ es → atI q e.1 + spI e ≤ atI q e.2.1
/-- The ranks: so many rounds as the specification makes. -/
def rankL (n : Int) (es : List Edg) : List Int := relK es (zerosI n) (n.toNat * n.toNat)
def acyc (n : Int) (es : List Edg) : Prop := ∀ e, e ∈ es → e.2.2 = true → rch n es e.2.1 e.1 = false
end
/-! ### the graph's edges lie among the positions -/
section
variable {rs : Rels} {ds : List Dep}
theorem sumA_split (rs : Rels) (k : Nat) : sumA rs = sumA (rs.take k) + sumA (rs.drop k) := by
  unfold sumA
  rw [← List.sum_append, ← List.map_append, List.take_append_drop]
theorem plc_in {r v : Int} (hr : relsOk rs = true) (h0 : 0 ≤ r ∧ r < rs.length) {z : List UInt8 × Int × Bool} (hz : rs[r.toNat]? = some z) : ∀ (ts : List Int) (j : Nat), ((j + ts.length : Nat) : Int) ≤ z.2.1 → ∀ x ∈ plcA rs r v j ts, 0 ≤ x ∧ x ≤ cntP rs - 1
  | [], j, _, x, hx => by simp [plcA] at hx
  | t :: ts, j, hj, x, hx => by
    simp only [List.length_cons] at hj
    simp only [plcA, List.mem_append] at hx
    rcases hx with hx | hx
    · split at hx
      · obtain rfl : x = posIx rs r (j : Int) := by simpa using hx
        rw [posIx_yes hr (by omega) hz (by omega)]
        have hc : cntP rs = sumA rs := by unfold cntP; rw [if_pos hr]
        have h1 := sumA_split rs (r.toNat + 1)
        have h2 := sumA_step hz
        have h3 := sumA_bnd hr r.toNat
        have h4 := sum_bnd (rs.drop (r.toNat + 1)) fun x hx => (rels_ok hr).2 x (List.mem_of_mem_drop hx)
        omega
      · cases hx
    · exact plc_in hr h0 hz ts (j + 1) (by omega) x hx
theorem places_in {l : Atoms} {v : Int} (h : ∀ a ∈ l, atomOk rs a.1 a.2 = true) : ∀ x ∈ placesL rs l v, inN (cntP rs) x = true := fun x hx => by
  obtain ⟨a, ha, hx⟩ := List.mem_flatMap.1 hx
  obtain ⟨h1, h2, h3, _, z, hz, h5⟩ := atomOk_rels (h a ha)
  have := plc_in (v := v) h1 ⟨h2, h3⟩ hz a.2 0 (by omega) x hx
  exact decide_eq_true this
theorem putAll_mem {P : List Edg} : ∀ e, e ∈ putAll P → e ∈ P := by
  have key : ∀ (P q : List Edg) e, e ∈ P.foldl putE q → e ∈ q ∨ e ∈ P := by
    intro P
    induction P with
    | nil => exact fun q e h => .inl h
    | cons x P ih =>
      intro q e h
      rcases ih (putE q x) e h with h1 | h1
      · unfold putE at h1
        split at h1
        · exact .inl h1
        · rcases List.mem_append.1 h1 with h2 | h2
          · exact .inl h2
          · obtain rfl : e = x := by simpa using h2
            exact .inr List.mem_cons_self
      · exact .inr (List.mem_cons_of_mem _ h1)
  intro e h
  rcases key P [] e h with h1 | h1
  · cases h1
  · exact h1
theorem dep_atoms {d : Dep} (h : depOk rs d.1 d.2.1 d.2.2.1 d.2.2.2.1 d.2.2.2.2 = true) : (∀ a ∈ d.1, atomOk rs a.1 a.2 = true) ∧ ∀ a ∈ d.2.1, atomOk rs a.1 a.2 = true := by
  unfold depOk at h
  simp only [Bool.and_eq_true] at h
  obtain ⟨h1, h2⟩ := h
  refine ⟨(atomsOk_all h1).2.2, ?_⟩
  split at h2
  · simp only [Bool.and_eq_true, decide_eq_true_eq] at h2
    intro a ha
    have : d.2.1 = [] := by
      cases hd : d.2.1 with
      | nil => rfl
      | cons x r => rw [hd] at h2; simp at h2
    rw [this] at ha
    cases ha
  · simp only [Bool.and_eq_true] at h2
    exact (atomsOk_all h2.1).2.2
theorem graph_in (h : depsOk rs ds = true) : edIn (cntP rs) (graphL rs ds) := fun e he => by
  unfold graphL at he
  rw [if_pos h] at he
  obtain ⟨d, hd, he⟩ := List.mem_flatMap.1 (putAll_mem e he)
  have ha := dep_atoms (depsOk_at h hd)
  obtain ⟨v, _, he⟩ := List.mem_flatMap.1 he
  obtain ⟨f, hf, he⟩ := List.mem_flatMap.1 he
  have h1 := places_in ha.1 f hf
  rcases List.mem_append.1 he with he | he
  · obtain ⟨t, ht, rfl⟩ := List.mem_map.1 he
    exact ⟨h1, places_in ha.2 t ht⟩
  · obtain ⟨o, _, he⟩ := List.mem_flatMap.1 he
    obtain ⟨t, ht, rfl⟩ := List.mem_map.1 he
    exact ⟨h1, places_in ha.2 t ht⟩
end
end Go.Eng
