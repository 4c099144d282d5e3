/- The engine, part Y: an empty slice written out, as a row of the call's own; models of the union-find structure. -/
import Derived.Test.YtbbpoegdcecopaaGreatEngX
set_option linter.unusedVariables false
set_option linter.unusedSimpArgs false
namespace Go.Eng
open Go Go.RowKit
section rules
variable {cx : Cx} {s : St} {dst : Option Nat} {ty : TypeId} {pos : String} {aft : Array Edge}
theorem o_lit0 (i : Nat) {t e sz : Nat} {zs : List Value} {α : Type} (enc : α → Nat → T) (hi : s.nx = i) (hd : okd dst cx.n = true) (he : elemOf' cx.P t = some (e, sz, zs)) (hz : Nat.beq zs.length sz = true) :
    Os cx s ⟨dst, .buildSlice t 0 #[], ty, pos, aft, none⟩ ((s.obj i (.row none e true sz enc [])).sets dst (some (.c (.own i)))) true := by
  subst hi
  refine o_gen fun a w hg => ?_
  obtain ⟨E, S, hI, hT, hn, hdf⟩ := hg
  have hz := Nat.eq_of_beq_eq_true hz
  have hr := run_litS (P := cx.P) he hz 0 (#[].map fun (p : Nat × Operand) => (p.1, a.eval p.2)) #[] (by simp) w (by simp [Instr.fill])
  refine ⟨.value (.slice (some ⟨w.heap.size, 0, none⟩) 0 0), w.alloc (.cells #[].toList.toArray e (0, 0)), ?_, .inl ⟨_, rfl, ?_⟩, fun _ => Ext.alloc _ _⟩
  · simp only [execOp]
    rw [Sem.run_bind, hr]
    rfl
  · refine Gm.row hI hT hn hdf hd _ rfl ?_
    simp only [if_true]
    refine ⟨[], fun _ _ _ => False, ⟨by simp, .inr ⟨w.heap.size, 0, _, rfl, Nat.zero_le _, heap_alloc_new w _, Nat.le_refl _, by simp [maxLen], by simp, by simp⟩⟩, fun g hg => by simp only [Value.ownBlock, Option.some.injEq] at hg; exact hg.symm, fun _ _ _ h => h.elim, fun _ _ _ _ _ h => h.elim, fun b x hx => by simp at hx⟩
end rules
/-! ### union-find -/
def ufStep (l : List Int) (k : Nat) : Bool := match l[k]? with
  | some v => decide (-40 ≤ v ∧ v ≤ 9) && (decide (0 ≤ v) || (decide (-1 - v ≤ k) && decide (l[(-1 - v).toNat]? = some v)))
  | none => true
def ufOk (l : List Int) : Bool := decide (∀ k, k < l.length → ufStep l k = true) && decide (l.length ≤ 40)
section
variable {l : List Int} {m : Nat}
theorem ufOk_not (hm : m < l.length) (h : ufStep l m = false) : ufOk l = false := by
  unfold ufOk
  rw [decide_eq_false (fun q => by rw [q m hm] at h; cases h)]
  rfl
theorem ufOk_end (h : ∀ j, j < m → ufStep l j = true) (hm : l.length ≤ m) : ufOk l = decide (l.length ≤ 40) := by
  unfold ufOk
  rw [decide_eq_true (fun j hj => h j (by omega))]
  rfl
theorem ufStep_at {z : Int} (hz : l[m]? = some z) : ufStep l m = (decide (-40 ≤ z ∧ z ≤ 9) && (decide (0 ≤ z) || (decide (-1 - z ≤ m) && decide (l[(-1 - z).toNat]? = some z)))) := by
  unfold ufStep; rw [hz]
theorem ufStep_bad {z : Int} (hz : l[m]? = some z) (h : ¬ (-40 ≤ z ∧ z ≤ 9)) : ufStep l m = false := by rw [ufStep_at hz, decide_eq_false h]; rfl
theorem ufStep_const {z : Int} (hz : l[m]? = some z) (h : -40 ≤ z ∧ z ≤ 9) (h0 : 0 ≤ z) : ufStep l m = true := by rw [ufStep_at hz, decide_eq_true h, decide_eq_true h0]; rfl
theorem ufStep_far {z : Int} (hz : l[m]? = some z) (h0 : z < 0) (h1 : (m : Int) < -1 - z) : ufStep l m = false := by
  rw [ufStep_at hz, decide_eq_false (by omega : ¬ 0 ≤ z), decide_eq_false (by omega : ¬ -1 - z ≤ (m : Int))]; simp
theorem ufStep_rep {z y n : Int} (hz : l[m]? = some z) (hy : l[n.toNat]? = some y) (h : -40 ≤ z ∧ z ≤ 9) (h0 : z < 0) (h1 : -1 - z ≤ m) (hn : n = -1 - z) : ufStep l m = decide (y = z) := by
  subst hn
  rw [ufStep_at hz, decide_eq_true h, decide_eq_false (by omega : ¬ 0 ≤ z), decide_eq_true h1, hy]
  simp
end
theorem ufOk_len {l : List Int} (h : ufOk l = true) : l.length ≤ 40 := by
  unfold ufOk at h
  simp only [Bool.and_eq_true, decide_eq_true_eq] at h
  exact h.2
/-- The nulls that have another representative, with it. -/
def usP (l : List Int) : List (Int × Nat) := l.zipIdx.filter fun p => decide (p.1 ≠ -1 - (p.2 : Int))
def usN (l : List Int) : List Int := (usP l).map fun p => (p.2 : Int)
def usV (l : List Int) : List Int := (usP l).map (·.1)
theorem usP_snoc {l : List Int} {m : Nat} {z : Int} (hz : l[m]? = some z) : usP (l.take (m + 1)) = usP (l.take m) ++ if z ≠ -1 - (m : Int) then [(z, m)] else [] := by
  have hm := (List.getElem?_eq_some_iff.1 hz).1
  unfold usP
  rw [List.take_add_one, hz, List.zipIdx_append, List.filter_append]
  simp only [Option.toList_some, List.length_take, Nat.min_eq_left (by omega : m ≤ l.length), List.zipIdx_cons, List.zipIdx_nil, List.filter_cons, List.filter_nil, Nat.zero_add, decide_eq_true_eq]
theorem us_same {l : List Int} {m : Nat} {z : Int} (hz : l[m]? = some z) (h : z = -1 - (m : Int)) : usN (l.take (m + 1)) = usN (l.take m) ∧ usV (l.take (m + 1)) = usV (l.take m) := by
  unfold usN usV
  rw [usP_snoc hz, if_neg (by simpa using h)]
  simp
theorem us_more {l : List Int} {m : Nat} {z : Int} (hz : l[m]? = some z) (h : z ≠ -1 - (m : Int)) : usN (l.take (m + 1)) = usN (l.take m) ++ [(m : Int)] ∧ usV (l.take (m + 1)) = usV (l.take m) ++ [z] := by
  unfold usN usV
  rw [usP_snoc hz, if_pos h]
  simp
theorem us_len (l : List Int) : (usN l).length ≤ l.length ∧ (usV l).length ≤ l.length := by
  have : (usP l).length ≤ l.length := by
    unfold usP
    refine Nat.le_trans (List.length_filter_le _ _) ?_
    simp
  unfold usN usV
  simp [this]
def usN' (l : List Int) : List Int := if ufOk l = true then usN l else []
def usV' (l : List Int) : List Int := if ufOk l = true then usV l else []
theorem us_bad {l : List Int} (h : ufOk l = false) : usN' l = [] ∧ usV' l = [] := by simp [usN', usV', h]
theorem us_good {l : List Int} (h : ufOk l = true) : usN' l = usN l ∧ usV' l = usV l := by simp [usN', usV', h]
theorem us_nil {l : List Int} (h : l.length = 0) : usN' l = [] ∧ usV' l = [] := by
  have : l = [] := List.eq_nil_of_length_eq_zero h
  subst this
  constructor
  · unfold usN'; split <;> rfl
  · unfold usV'; split <;> rfl
theorem us_len' (l : List Int) : (usN' l).length ≤ l.length ∧ (usV' l).length ≤ l.length := by
  have := us_len l
  unfold usN' usV'
  split <;> simp_all
end Go.Eng
namespace Go.Eng
open Go Go.RowKit
/-! ### classes -/
/-- The places of v. -/
def posP (v : Int) (l : List Int) : List (Int × Nat) := l.zipIdx.filter fun p => decide (p.1 = v)
def posI (v : Int) (l : List Int) : List Int := (posP v l).map fun p => (p.2 : Int)
theorem posP_snoc {v : Int} {l : List Int} {m : Nat} {z : Int} (hz : l[m]? = some z) : posP v (l.take (m + 1)) = posP v (l.take m) ++ if z = v then [(z, m)] else [] := by
  have hm := (List.getElem?_eq_some_iff.1 hz).1
  unfold posP
  rw [List.take_add_one, hz, List.zipIdx_append, List.filter_append]
  simp only [Option.toList_some, List.length_take, Nat.min_eq_left (by omega : m ≤ l.length), List.zipIdx_cons, List.zipIdx_nil, List.filter_cons, List.filter_nil, Nat.zero_add, decide_eq_true_eq]
theorem posI_more {v : Int} {l : List Int} {m : Nat} {z : Int} (hz : l[m]? = some z) (h : z = v) : posI v (l.take (m + 1)) = posI v (l.take m) ++ [(m : Int)] := by
  unfold posI
  rw [posP_snoc hz, if_pos h]
  simp
theorem posI_same {v : Int} {l : List Int} {m : Nat} {z : Int} (hz : l[m]? = some z) (h : ¬ z = v) : posI v (l.take (m + 1)) = posI v (l.take m) := by
  unfold posI
  rw [posP_snoc hz, if_neg h]
  simp
theorem posI_len (v : Int) (l : List Int) : (posI v l).length ≤ l.length := by
  unfold posI posP
  rw [List.length_map]
  refine Nat.le_trans (List.length_filter_le _ _) ?_
  simp
def eqP (v : Int) : Int → Bool := fun x => decide (x = v)
def ecAt (l : List Int) (k : Nat) : List (List Int) := match l[k]? with
  | some v => if idxI (eqP v) l = (k : Int) ∧ (1 < (posI v l).length ∨ 0 ≤ v) then [posI v l] else []
  | none => []
def ecs (l : List Int) (m : Nat) : List (List Int) := (List.range m).flatMap (ecAt l)
def ecs' (l : List Int) : List (List Int) := if ufOk l = true then ecs l l.length else []
theorem ecs_step (l : List Int) (m : Nat) : ecs l (m + 1) = ecs l m ++ ecAt l m := by simp [ecs, List.range_succ]
theorem ecAt_no {l : List Int} {m : Nat} {z : Int} (hz : l[m]? = some z) (h : ¬ (idxI (eqP z) l = (m : Int) ∧ (1 < (posI z l).length ∨ 0 ≤ z))) : ecs l (m + 1) = ecs l m := by
  rw [ecs_step]
  unfold ecAt
  simp only [hz, if_neg h, List.append_nil]
theorem ecAt_yes {l : List Int} {m : Nat} {z : Int} (hz : l[m]? = some z) (h : idxI (eqP z) l = (m : Int) ∧ (1 < (posI z l).length ∨ 0 ≤ z)) : ecs l (m + 1) = ecs l m ++ [posI z l] := by
  rw [ecs_step]
  unfold ecAt
  simp only [hz, if_pos h]
theorem ecs_len (l : List Int) (m : Nat) : (ecs l m).length ≤ m := by
  induction m with
  | zero => simp [ecs]
  | succ m ih =>
    rw [ecs_step]
    unfold ecAt
    split
    · split <;> simp <;> omega
    · simp; omega
theorem ecs_each (l : List Int) (m : Nat) : ∀ x ∈ ecs l m, x.length ≤ l.length := by
  intro x hx
  simp only [ecs, List.mem_flatMap] at hx
  obtain ⟨k, _, hx⟩ := hx
  unfold ecAt at hx
  split at hx
  · split at hx
    · simp only [List.mem_singleton] at hx
      subst hx
      exact posI_len _ _
    · simp at hx
  · simp at hx
theorem ecs_size {l : List Int} (h : ufOk l = true) (m : Nat) (hm : m ≤ l.length) : szS List.length (ecs l m) ≤ 1640 := by
  have h0 := ufOk_len h
  have h1 := ecs_len l m
  have key : ∀ (r : List (List Int)), (∀ x ∈ r, x.length ≤ 40) → (r.map List.length).sum ≤ 40 * r.length := by
    intro r
    induction r with
    | nil => intro _; simp
    | cons x r ih =>
      intro h
      have := ih (fun y hy => h y (List.mem_cons_of_mem _ hy))
      have := h x (by simp)
      simp only [List.map_cons, List.sum_cons, List.length_cons]
      omega
  have := key (ecs l m) (fun x hx => by have := ecs_each l m x hx; omega)
  unfold szS
  omega
theorem ecs'_size (l : List Int) : szS List.length (ecs' l) ≤ 1640 := by
  unfold ecs'
  split
  · exact ecs_size (by assumption) _ (Nat.le_refl _)
  · simp [szS]
theorem ecs_bad {l : List Int} (h : ufOk l = false) : ecs' l = [] := by simp [ecs', h]
theorem ecs_good {l : List Int} (h : ufOk l = true) : ecs' l = ecs l l.length := by simp [ecs', h]
theorem ecs_nil {l : List Int} (h : l.length = 0) : ecs' l = [] := by
  have : l = [] := List.eq_nil_of_length_eq_zero h
  subst this
  unfold ecs'
  split <;> rfl
theorem ecs_end {l : List Int} {m : Nat} (h : ufOk l = true) (h1 : m ≤ l.length) (h2 : l.length ≤ m) : ecs l m = ecs' l := by
  have : m = l.length := by omega
  subst this
  exact (ecs_good h).symm
theorem ecs_fin {l : List Int} {m : Nat} (i2 : ufOk l = true ∨ m = 0) (h1 : m ≤ l.length) (h2 : ufOk l = false ∨ l.length ≤ m) : ecs l m = ecs' l := by
  rcases i2 with e | e
  · rcases h2 with h | h
    · rw [e] at h; cases h
    · exact ecs_end e h1 h
  · subst e
    rcases h2 with h | h
    · exact (ecs_bad h).symm
    · exact (ecs_nil (by omega)).symm
/-- No earlier place holds it. -/
def noneB (v : Int) (l : List Int) (n : Nat) (k : Nat) : Bool := decide (∀ j, j < n → l[j]? = some v → k ≤ j)
theorem noneB_idx {v : Int} {l : List Int} {k : Nat} (hk : l[k]? = some v) : noneB v l l.length k = decide (idxI (eqP v) l = (k : Int)) := by
  have hkl := (List.getElem?_eq_some_iff.1 hk).1
  by_cases h : ∀ j, j < l.length → l[j]? = some v → k ≤ j
  · have : idxI (eqP v) l = (k : Int) := idx_hit (fun j z hj hz => by
      unfold eqP
      refine decide_eq_false fun e => ?_
      subst e
      have := h j (by omega) hz
      omega) hk (by simp [eqP])
    unfold noneB
    rw [decide_eq_true h, decide_eq_true this]
  · have : ¬ idxI (eqP v) l = (k : Int) := fun e => h fun j hj hz => by
      have key : ∀ (m : Nat), m ≤ l.length → (∀ j z, j < m → l[j]? = some z → eqP v z = false) ∨ ∃ q, q < m ∧ idxI (eqP v) l = (q : Int) ∧ ∀ j z, j < q → l[j]? = some z → eqP v z = false := by
        intro m
        induction m with
        | zero => intro _; exact .inl (fun j z h => by omega)
        | succ m ih =>
          intro hm
          rcases ih (by omega) with h1 | ⟨q, h1, h2, h3⟩
          · cases hp : eqP v (l[m]'(by omega))
            · exact .inl (no_step h1 (List.getElem?_eq_getElem (by omega)) rfl hp)
            · exact .inr ⟨m, by omega, idx_hit h1 (List.getElem?_eq_getElem (by omega)) hp, h1⟩
          · exact .inr ⟨q, by omega, h2, h3⟩
      rcases key l.length (Nat.le_refl _) with h1 | ⟨q, _, h2, h3⟩
      · have := h1 j v hj hz
        simp [eqP] at this
      · rw [e] at h2
        have hqk : q = k := by omega
        subst hqk
        by_cases hjq : j < q
        · have := h3 j v hjq hz
          simp [eqP] at this
        · omega
    unfold noneB
    rw [decide_eq_false h, decide_eq_false this]
theorem noneB_zero {v : Int} {l : List Int} {k : Nat} : noneB v l 0 k = true := decide_eq_true fun j h => by omega
theorem noneB_same {v z : Int} {l : List Int} {n k : Nat} (hz : l[n]? = some z) (h : ¬ z = v) : noneB v l (n + 1) k = noneB v l n k := by
  unfold noneB
  refine decide_eq_decide.2 ⟨fun q j hj => q j (by omega), fun q j hj hv => ?_⟩
  by_cases e : j = n
  · subst e
    rw [hz] at hv
    cases hv
    exact absurd rfl h
  · exact q j (by omega) hv
theorem noneB_more {v z : Int} {l : List Int} {n k : Nat} (hz : l[n]? = some z) (h : z = v) : noneB v l (n + 1) k = (noneB v l n k && decide (k ≤ n)) := by
  subst h
  unfold noneB
  rw [← Bool.decide_and]
  refine decide_eq_decide.2 ⟨fun q => ⟨fun j hj => q j (by omega), q n (by omega) hz⟩, fun q j hj hv => ?_⟩
  by_cases e : j = n
  · subst e; exact q.2
  · exact q.1 j (by omega) hv
end Go.Eng
