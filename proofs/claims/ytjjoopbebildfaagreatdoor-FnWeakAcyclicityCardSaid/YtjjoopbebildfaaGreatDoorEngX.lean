/- Plain laws: positions, reachability. -/
import Derived.Test.YtjjoopbebildfaaGreatDoorEngW
set_option linter.unusedVariables false
set_option linter.unusedSimpArgs false
namespace Go.Eng
open Go Go.RowKit
theorem dep6_sz {ds : List Dep} (h : ds.length ≤ 6) (hd : ∀ d ∈ ds, depL d) : szS (fun (x : (List (Int × (List (Int)))) × (List (Int × (List (Int)))) × Bool × Int × Int) => (szS (fun (x : Int × (List (Int))) => (x.2).length) (x.1)) + (szS (fun (x : Int × (List (Int))) => (x.2).length) (x.2.1))) ds ≤ 1000 := by
  have key : ∀ l : List Dep, (∀ d ∈ l, depL d) → (l.map (fun (x : (List (Int × (List (Int)))) × (List (Int × (List (Int)))) × Bool × Int × Int) => (szS (fun (x : Int × (List (Int))) => (x.2).length) (x.1)) + (szS (fun (x : Int × (List (Int))) => (x.2).length) (x.2.1)))).sum ≤ 15 * l.length := by
    intro l
    induction l with
    | nil => intro _; simp
    | cons x l ih =>
      intro h
      have h1 := ih (fun d hd => h d (List.mem_cons_of_mem _ hd))
      have h2 := szA_dep (h x (by simp))
      simp only [List.map_cons, List.sum_cons, List.length_cons]
      omega
  have := key ds hd
  unfold szS at *
  omega
/-! ### weak acyclicity -/
theorem wk_in {rs : Rels} {ds : List Dep} (h : waB rs ds = true) {k : Nat} {e : Edg} (he : (graphL rs ds)[k]? = some e) : (0 ≤ e.1 ∧ e.1 < (rksL rs ds).length) ∧ (0 ≤ e.2.1 ∧ e.2.1 < (rksL rs ds).length) := by
  have hL : (rksL rs ds).length = (cntP rs).toNat := by unfold rksL; rw [if_pos h, rank_len]
  obtain ⟨h1, h2⟩ := wa_in h e (List.mem_of_getElem? he)
  have h1 : 0 ≤ e.1 ∧ e.1 ≤ cntP rs - 1 := of_decide_eq_true h1
  have h2 : 0 ≤ e.2.1 ∧ e.2.1 ≤ cntP rs - 1 := of_decide_eq_true h2
  rw [hL]
  omega
theorem wk_rank {rs : Rels} {ds : List Dep} (h : waB rs ds = true) {k : Nat} {e : Edg} {a b : Int} (he : (graphL rs ds)[k]? = some e) (ha : (rksL rs ds)[e.1.toNat]? = some a) (hb : (rksL rs ds)[e.2.1.toNat]? = some b) : (e.2.2 = true → a + 1 ≤ b) ∧ a ≤ b ∧ rkP rs ds e.2.1 = b ∧ (0 ≤ a ∧ a ≤ 18) := by
  have hin := wk_in h he
  have hst : stil (graphL rs ds) (rksL rs ds) := by
    unfold rksL
    rw [if_pos h]
    exact rank_still (cnt_bnd rs).1 (wa_in h) (wa_acyc h)
  have h1 := hst e (List.mem_of_getElem? he)
  rw [atI_get ha, atI_get hb] at h1
  refine ⟨fun q => by rw [spI_yes q] at h1; exact h1, ?_, (rkP_yes (by omega) hb).symm, rks_mem rs ds a (List.mem_of_getElem? ha)⟩
  cases q : e.2.2
  · rw [spI_no q] at h1; omega
  · rw [spI_yes q] at h1; omega
theorem spc_true {rs : Rels} {ds : List Dep} (h : spcF rs ds = true) : (spcE rs ds).2.2 = true ∧ reachB (cntP rs) (graphL rs ds) (spcE rs ds).2.1 (spcE rs ds).1 = true := by
  unfold spcF at h
  obtain ⟨e, he⟩ := List.find?_isSome.2 (List.any_eq_true.1 h) |> Option.isSome_iff_exists.1
  have h2 := List.find?_some he
  unfold spcE
  rw [he]
  unfold spcP at h2
  simpa using h2
theorem spc_dep {rs : Rels} {ds : List Dep} (h : depsOk rs ds = false) : (graphL rs ds).length = 0 ∧ spcF rs ds = false := by
  have := graph_no h
  unfold spcF
  rw [← this]
  exact ⟨rfl, rfl⟩
end Go.Eng
