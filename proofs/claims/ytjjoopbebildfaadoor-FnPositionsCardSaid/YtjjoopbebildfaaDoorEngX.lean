/- Plain laws: positions, reachability. -/
import Derived.Test.YtjjoopbebildfaaDoorEngW
set_option linter.unusedVariables false
set_option linter.unusedSimpArgs false
namespace Go.Eng
open Go Go.RowKit
theorem pos_good {rs : Rels} {r i : Int} (h : 0 ≤ posIx rs r i) : relsOk rs = true ∧ (0 ≤ r ∧ r < rs.length) ∧ ∃ z, rs[r.toNat]? = some z ∧ (0 ≤ i ∧ i ≤ z.2.1 - 1) ∧ posIx rs r i = sumA (rs.take r.toNat) + i := by
  have hk : posOk rs r i = true := by
    cases q : posOk rs r i
    · unfold posIx at h
      rw [q] at h
      simp at h
    · rfl
  have hk' := hk
  unfold posOk at hk
  simp only [Bool.and_eq_true, decide_eq_true_eq] at hk
  obtain ⟨h1, h2, h3⟩ := hk
  have hlt : r.toNat < rs.length := by omega
  have hz : rs[r.toNat]? = some rs[r.toNat] := List.getElem?_eq_getElem hlt
  rw [hz] at h3
  simp only [decide_eq_true_eq] at h3
  refine ⟨h1, by omega, _, hz, h3, ?_⟩
  unfold posIx
  rw [if_pos hk']
theorem pos_txt {rs : Rels} {r i : Int} {z : List UInt8 × Int × Bool} (h : 0 ≤ posIx rs r i) (hz : rs[r.toNat]? = some z) : z.1 ++ fmtN i = posT rs (posIx rs r i) := by
  obtain ⟨h1, h2, z', _, h4, _⟩ := pos_good h
  exact low_hit (m := r.toNat) h4.1 h hz (by rw [Int.toNat_of_nonneg h2.1])
theorem reach_parts {n : Int} {es : List Edg} {a b : Int} (h : reachB n es a b = true) : (0 ≤ n ∧ n ≤ 30) ∧ inN n a = true ∧ inN n b = true := by
  unfold reachB at h
  simp only [Bool.and_eq_true, decide_eq_true_eq] at h
  exact ⟨h.1, h.2.1, h.2.2.1⟩
theorem reach_self {n : Int} {es : List Edg} {a : Int} (h : 1 ≤ n ∧ n ≤ 30) (ha : 0 ≤ a ∧ a < n) : reachB n es a a = true := by
  have hi : inN n a = true := decide_eq_true (by omega)
  rw [reach_rch (by omega) hi hi]
  exact rch_refl hi
theorem reach_step {n : Int} {es : List Edg} {a b : Int} {e : Edg} (h : reachB n es a b = true) (he : e ∈ es) (h1 : e.1 = b) (h2 : 0 ≤ e.2.1 ∧ e.2.1 < n) : reachB n es a e.2.1 = true := by
  obtain ⟨hn, ha, hb⟩ := reach_parts h
  have hi : inN n e.2.1 = true := decide_eq_true (by omega)
  subst h1
  rw [reach_rch hn ha hb] at h
  rw [reach_rch hn ha hi]
  exact rch_trans ha hb h (rch_edge he hb hi)
theorem sum_more {rs : Rels} {m : Nat} {z : List UInt8 × Int × Bool} (h : relsOk rs = true) (hz : rs[m]? = some z) : sumA (rs.take m) + z.2.1 ≤ sumA rs := by
  have h1 := sum_bnd (rs.drop (m + 1)) fun x hx => (rels_ok h).2 x (List.mem_of_mem_drop hx)
  have h2 : sumA rs = sumA (rs.take (m + 1)) + sumA (rs.drop (m + 1)) := by
    unfold sumA
    rw [← List.sum_append, ← List.map_append, List.take_append_drop]
  rw [h2, sumA_step hz]
  omega
theorem pos_cnt {rs : Rels} {r i : Int} (h : 0 ≤ posIx rs r i) : posIx rs r i < cntP rs := by
  obtain ⟨h1, h2, z, h3, h4, h5⟩ := pos_good h
  have := sum_more h1 h3
  unfold cntP
  rw [if_pos h1]
  omega
theorem pickN {x : Int} (h : x ∈ [(8 : Int), 8, 8, 4, 31, -1]) : -1 ≤ x ∧ x ≤ 31 := by
  simp only [List.mem_cons, List.not_mem_nil, or_false] at h
  omega
theorem dep6_sz {ds : List Dep} (h : ds.length ≤ 6) (hd : ∀ d ∈ ds, depL d) : szS (fun (x : (List (Int × (List (Int)))) × (List (Int × (List (Int)))) × Bool × Int × Int) => (szS (fun (x : Int × (List (Int))) => (x.2).length) (x.1)) + (szS (fun (x : Int × (List (Int))) => (x.2).length) (x.2.1))) ds ≤ 1000 := by
  have key : ∀ l : List Dep, (∀ d ∈ l, depL d) → (l.map (fun (x : (List (Int × (List (Int)))) × (List (Int × (List (Int)))) × Bool × Int × Int) => (szS (fun (x : Int × (List (Int))) => (x.2).length) (x.1)) + (szS (fun (x : Int × (List (Int))) => (x.2).length) (x.2.1)))).sum ≤ 15 * l.length := by
    intro l
    induction l with
    | nil => intro _; simp
    | cons x l ih =>
      intro h
      have h1 := ih (fun d hd => h d (List.mem_cons_of_mem _ hd))
      have h2 := szA_dep (h x (by simp))
      simp only [List.map_cons, List.sum_cons, List.length_cons]
      omega
  have := key ds hd
  unfold szS at *
  omega
end Go.Eng
