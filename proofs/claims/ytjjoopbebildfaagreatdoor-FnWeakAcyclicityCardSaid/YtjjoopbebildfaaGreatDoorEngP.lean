/- Models: texts of atoms, dependencies, positions. -/
import Derived.Test.YtjjoopbebildfaaGreatDoorEngO
set_option linter.unusedVariables false
set_option linter.unusedSimpArgs false
namespace Go.Eng
open Go Go.RowKit Go.Proofs
theorem scS {a b : List UInt8} (h : a = b) : AV.c (.t none (.v (.string (mkS a)))) = .c (.t none (.v (.string (mkS b)))) := by rw [h]
theorem digs_len1 {q : Nat} (h : q < 100) : (digs q).length ≤ 2 := by
  rcases Nat.eq_zero_or_pos q with rfl | h0
  · simp [digs]
  · rw [digs_step h0]
    rcases Nat.eq_zero_or_pos (q / 10) with h1 | h1
    · rw [h1]; simp [digs]
    · rw [digs_step h1]
      have : q / 10 / 10 = 0 := by omega
      rw [this]
      simp [digs]
theorem fmtN_len {n : Int} (h : n < 100) : (fmtN n).length ≤ 2 := by
  unfold fmtN
  split
  · simp
  · exact digs_len1 (by omega)
theorem name_len {rs : Rels} {k : Nat} {z : List UInt8 × Int × Bool} (hr : relsOk rs = true) (hz : rs[k]? = some z) : z.1.length = 1 := by
  unfold relsOk at hr
  simp only [Bool.and_eq_true, decide_eq_true_eq] at hr
  have h1 := hr.1 k (List.getElem?_eq_some_iff.1 hz).1
  rw [relStep_at hz] at h1
  simp only [Bool.and_eq_true] at h1
  have h2 := h1.1
  unfold relOk at h2
  simp only [Bool.and_eq_true] at h2
  by_cases h3 : ((z.1.length : Nat) : Int) = 1
  · omega
  · rw [nameOk_not h3] at h2
    cases h2.1
def fmtA (rs : Rels) (a : Int × List Int) : List UInt8 := if atomOk rs a.1 a.2 = true then (rs.getD a.1.toNat ([], 0, false)).1 ++ a.2.flatMap fmtT else []
def fmtAs (rs : Rels) (l : Atoms) : List UInt8 := Lib.join (l.map (fmtA rs)) [32]
def fmtD (rs : Rels) (d : Dep) : List UInt8 := if depOk rs d.1 d.2.1 d.2.2.1 d.2.2.2.1 d.2.2.2.2 = true then (if d.2.2.1 = true then fmtAs rs d.1 ++ [61] ++ fmtT d.2.2.2.1 ++ fmtT d.2.2.2.2 else fmtAs rs d.1 ++ [62] ++ fmtAs rs d.2.1) else []
def fmtDs (rs : Rels) (ds : List Dep) : List UInt8 := if depsOk rs ds = true then Lib.join (ds.map (fmtD rs)) [59] else []
section
variable {rs : Rels} {a0 a1 : Atoms} {a2 : Bool} {a3 a4 : Int}
end
/-! ### positions -/
def goP : Rels → Int → List UInt8
  | [], _ => []
  | x :: r, p => if x.2.1 ≤ p then goP r (p - x.2.1) else x.1 ++ fmtN p
def posT (rs : Rels) (p : Int) : List UInt8 := if 0 ≤ p ∧ p ≤ cntP rs - 1 then goP rs p else []
section
variable {rs : Rels} {p q i : Int} {m : Nat} {z : List UInt8 × Int × Bool}
theorem goP_step (hz : rs[m]? = some z) (h : z.2.1 ≤ q) : goP (rs.drop m) q = goP (rs.drop (m + 1)) (q - z.2.1) := by
  obtain ⟨hm, rfl⟩ := List.getElem?_eq_some_iff.1 hz
  rw [List.drop_eq_getElem_cons hm, goP, if_pos h]
theorem goP_hit (hz : rs[m]? = some z) (h : ¬ z.2.1 ≤ q) : goP (rs.drop m) q = z.1 ++ fmtN q := by
  obtain ⟨hm, rfl⟩ := List.getElem?_eq_some_iff.1 hz
  rw [List.drop_eq_getElem_cons hm, goP, if_neg h]
theorem goP_pre (hr : relsOk rs = true) : ∀ (m : Nat) {q : Int}, m ≤ rs.length → 0 ≤ q → goP rs (sumA (rs.take m) + q) = goP (rs.drop m) q
  | 0, q, _, _ => by
    rw [show sumA (rs.take 0) + q = q by unfold sumA; simp]
    rfl
  | m + 1, q, hm, hq => by
    have hz : rs[m]? = some rs[m] := List.getElem?_eq_getElem (by omega)
    have ha := (rels_ok hr).2 _ (List.mem_of_getElem? hz)
    rw [sumA_step hz, show sumA (rs.take m) + rs[m].2.1 + q = sumA (rs.take m) + (rs[m].2.1 + q) by omega, goP_pre hr m (by omega) (by omega), goP_step hz (by omega)]
    congr 1
    omega
theorem pos_lt (h : 0 ≤ p ∧ p ≤ cntP rs - 1) (e : p = sumA (rs.take m) + q) (hq : 0 ≤ q) : relsOk rs = true ∧ m < rs.length := by
  have hr : relsOk rs = true := by
    cases hr : relsOk rs with
    | true => rfl
    | false =>
      have : cntP rs = 0 := by unfold cntP; rw [hr]; rfl
      omega
  refine ⟨hr, ?_⟩
  have hc : cntP rs = sumA rs := by unfold cntP; rw [if_pos hr]
  rcases Nat.lt_or_ge m rs.length with h1 | h1
  · exact h1
  · rw [List.take_of_length_le h1] at e
    omega
theorem posT_no (h : ¬ (0 ≤ p ∧ p ≤ cntP rs - 1)) : [] = posT rs p := by unfold posT; rw [if_neg h]
theorem posT_go (h : 0 ≤ p ∧ p ≤ cntP rs - 1) (e : p = sumA (rs.take m) + q) (hq : 0 ≤ q) (hz : rs[m]? = some z) (hh : ¬ z.2.1 ≤ q) : z.1 ++ fmtN q = posT rs p := by
  obtain ⟨hr, hm⟩ := pos_lt h e hq
  unfold posT
  rw [if_pos h, e, goP_pre hr m (by omega) hq, goP_hit hz hh]
/-- What the specification has looked at: nothing fits up to here. -/
def lowP (rs : Rels) (p : Int) (m : Nat) (i : Int) : Prop := p < 0 ∨ relsOk rs = false ∨ sumA (rs.take m) + i ≤ p ∨ sumA (rs.take (m + 1)) ≤ p
theorem low_step (hi : 0 ≤ i) (hz : rs[m]? = some z) (hp : 0 ≤ p) (h : lowP rs p m i) (hn : posIx rs (m : Int) i ≠ p) : lowP rs p m (i + 1) := by
  rcases h with h | h | h | h
  · exact .inl h
  · exact .inr (.inl h)
  · cases hr : relsOk rs with
    | false => exact .inr (.inl hr)
    | true =>
      obtain ⟨hm, _⟩ := List.getElem?_eq_some_iff.1 hz
      by_cases h1 : i ≤ z.2.1 - 1
      · rw [posIx_yes hr ⟨by omega, by omega⟩ (by rw [Int.toNat_natCast]; exact hz) ⟨hi, h1⟩, Int.toNat_natCast] at hn
        exact .inr (.inr (.inl (by omega)))
      · refine .inr (.inr (.inr ?_))
        rw [sumA_step hz]
        omega
  · exact .inr (.inr (.inr h))
theorem low_neg (h : p < 0) : lowP rs p m i := .inl h
theorem low_next (hz : rs[m]? = some z) (h : lowP rs p m 3) : lowP rs p (m + 1) 0 := by
  rcases h with h | h | h | h
  · exact .inl h
  · exact .inr (.inl h)
  · cases hr : relsOk rs with
    | false => exact .inr (.inl hr)
    | true =>
      have ha := (rels_ok hr).2 _ (List.mem_of_getElem? hz)
      refine .inr (.inr (.inl ?_))
      rw [sumA_step hz]
      omega
  · exact .inr (.inr (.inl (by omega)))
theorem low_stepm (hi : 0 ≤ i) (hm : m < rs.length) (hp : 0 ≤ p) (h : lowP rs p m i) (hn : ¬ posIx rs (m : Int) i = p) : lowP rs p m (i + 1) := low_step hi (List.getElem?_eq_getElem hm) hp h hn
theorem low_nextm (hm : m < rs.length) {i : Nat} (h : lowP rs p m (i : Int)) (hi : 3 ≤ i) (hi3 : i ≤ 3) : lowP rs p (m + 1) 0 := by
  obtain rfl : i = 3 := by omega
  exact low_next (List.getElem?_eq_getElem hm) h
theorem low_start : lowP rs p 0 0 := by
  by_cases h : p < 0
  · exact .inl h
  · refine .inr (.inr (.inl ?_))
    unfold sumA
    simp
    omega
theorem low_end (h : lowP rs p m 0) (hm : rs.length ≤ m) : [] = posT rs p := by
  refine posT_no fun ⟨h0, h1⟩ => ?_
  unfold cntP at h1
  rcases h with h | h | h | h
  · omega
  · rw [h] at h1; simp at h1; omega
  · rw [List.take_of_length_le hm] at h
    split at h1 <;> omega
  · rw [List.take_of_length_le (by omega)] at h
    split at h1 <;> omega
theorem pos_ok {r i : Int} (h : posIx rs r i = p) (hp : 0 ≤ p) : relsOk rs = true := by
  cases hr : relsOk rs with
  | true => rfl
  | false => rw [← posIx_no1 hr] at h; omega
theorem low_hit (hi : 0 ≤ i) (hp : 0 ≤ p) (hz : rs[m]? = some z) (h : posIx rs (m : Int) i = p) : z.1 ++ fmtN i = posT rs p := by
  obtain ⟨hm, _⟩ := List.getElem?_eq_some_iff.1 hz
  have hz' : rs[(m : Int).toNat]? = some z := by rw [Int.toNat_natCast]; exact hz
  cases hr : relsOk rs with
  | false => rw [← posIx_no1 hr] at h; omega
  | true =>
    by_cases h1 : i ≤ z.2.1 - 1
    · rw [posIx_yes hr ⟨by omega, by omega⟩ hz' ⟨hi, h1⟩, Int.toNat_natCast] at h
      have hc : cntP rs = sumA rs := by unfold cntP; rw [if_pos hr]
      have h3 := sumA_split rs (m + 1)
      have h4 := sum_bnd (rs.drop (m + 1)) fun x hx => (rels_ok hr).2 x (List.mem_of_mem_drop hx)
      have h5 := sumA_step hz
      exact posT_go (m := m) (q := i) ⟨hp, by omega⟩ (by omega) hi hz (by omega)
    · rw [← posIx_no3 hz' (by omega)] at h
      omega
end
section
variable {rs : Rels} {ds : List Dep} {m : Nat}
def fmtW (rs : Rels) (ds : List Dep) : List UInt8 := if depsOk rs ds = true then (if spcF rs ds = true then posT rs (spcE rs ds).1 ++ [62] ++ posT rs (spcE rs ds).2.1 else [111, 107]) else []
theorem spcE_in : (0 ≤ (spcE rs ds).1 ∧ (spcE rs ds).1 ≤ 18) ∧ 0 ≤ (spcE rs ds).2.1 ∧ (spcE rs ds).2.1 ≤ 18 := by
  have hc := cnt_bnd rs
  unfold spcE
  cases hf : (graphL rs ds).find? (spcP rs (graphL rs ds)) with
  | none => simp
  | some e =>
    have hm := List.mem_of_find?_eq_some hf
    cases hd : depsOk rs ds with
    | false =>
      unfold graphL at hm
      rw [if_neg (by simp [hd])] at hm
      cases hm
    | true =>
      have h := graph_in hd e hm
      have h1 := of_decide_eq_true h.1
      have h2 := of_decide_eq_true h.2
      simp only [Option.getD_some]
      omega
theorem posT_len (rs : Rels) (p : Int) : (posT rs p).length ≤ 3 := by
  have key : ∀ (r : Rels) (q : Int), q ≤ 20 → (∀ x ∈ r, x.1.length = 1 ∧ 1 ≤ x.2.1) → (goP r q).length ≤ 3 := by
    intro r
    induction r with
    | nil => intro q _ _; simp [goP]
    | cons x r ih =>
      intro q hq h
      have hx := h x List.mem_cons_self
      rw [goP]
      split
      · exact ih _ (by omega) fun y hy => h y (List.mem_cons_of_mem _ hy)
      · rw [List.length_append]
        have := fmtN_len (n := q) (by omega)
        omega
  unfold posT
  split
  · rename_i h
    have hc := cnt_bnd rs
    have hr : relsOk rs = true := by
      cases hr : relsOk rs with
      | true => rfl
      | false =>
        have : cntP rs = 0 := by unfold cntP; rw [hr]; rfl
        omega
    refine key rs p (by omega) fun x hx => ?_
    obtain ⟨j, hj⟩ := List.getElem?_of_mem hx
    exact ⟨name_len hr hj, ((rels_ok hr).2 x hx).1⟩
  · simp
theorem fmtW_no (h : depsOk rs ds = false) : [] = fmtW rs ds := by unfold fmtW; rw [h]; rfl
theorem fmtW_ok (h : depsOk rs ds = true) (h2 : spcF rs ds = false) : [111, 107] = fmtW rs ds := by unfold fmtW; rw [if_pos h, if_neg (by simp [h2])]
theorem fmtW_bad (h : depsOk rs ds = true) (h2 : spcF rs ds = true) : (posT rs (spcE rs ds).1 ++ [62]) ++ posT rs (spcE rs ds).2.1 = fmtW rs ds := by unfold fmtW; rw [if_pos h, if_pos h2]
end
end Go.Eng
