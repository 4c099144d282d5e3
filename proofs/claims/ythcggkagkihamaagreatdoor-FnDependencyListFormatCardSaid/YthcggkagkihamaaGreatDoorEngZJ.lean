import Derived.Test.YthcggkagkihamaaGreatDoorEngZI
set_option linter.unusedVariables false
set_option linter.unusedSimpArgs false
namespace Go.Eng
open Go Go.RowKit
theorem fmtD_no59 {rs : Rels} {d : Dep} (h : depOk rs d.1 d.2.1 d.2.2.1 d.2.2.2.1 d.2.2.2.2 = true) : (59 : UInt8) ∉ fmtD rs d ∧ fmtD rs d ≠ [] := by
 obtain ⟨b1, b2⟩ := atoms_of (dep_body h)
 obtain ⟨_, _, p3⟩ := as_rt b1 b2
 have n59 : (59 : UInt8) ∉ fmtAs rs d.1 := fun hm => by
  rcases p3 59 hm with q | q
  ·exact absurd q (by decide)
  ·exact (al_ne q).2.1 rfl
 have h0 := h
 unfold depOk at h0
 unfold fmtD
 rw [if_pos h]
 cases e : d.2.2.1
 ·rw [e, if_neg (by simp)] at h0
  simp only [Bool.and_eq_true] at h0
  obtain ⟨k1, k2⟩ := atoms_of h0.2.1
  obtain ⟨_, _, r3⟩ := as_rt k1 k2
  have m59 : (59 : UInt8) ∉ fmtAs rs d.2.1 := fun hm => by
   rcases r3 59 hm with q | q
   ·exact absurd q (by decide)
   ·exact (al_ne q).2.1 rfl
  rw [if_neg (by simp)]
  refine ⟨?_, by simp⟩
  simp only [List.mem_append, List.mem_singleton, not_or]
  exact ⟨⟨n59, by decide⟩, m59⟩
 ·rw [e, if_pos rfl] at h0
  simp only [Bool.and_eq_true] at h0
  have hb := dep_body h
  have v1 := var_range hb h0.2.2.2.1
  have v2 := var_range hb h0.2.2.2.2
  have t1 := tm_cases (t := d.2.2.2.1) ⟨by omega, by omega⟩
  have t2 := tm_cases (t := d.2.2.2.2) ⟨by omega, by omega⟩
  have a1 := al_ne ((tm_all _ t1).2.2 : alnum _)
  have a2 := al_ne ((tm_all _ t2).2.2 : alnum _)
  rw [if_pos rfl, (tm_all _ t1).1, (tm_all _ t2).1]
  refine ⟨?_, by simp⟩
  simp only [List.mem_append, List.mem_singleton, not_or]
  exact ⟨⟨⟨n59, by decide⟩, Ne.symm a1.2.1⟩, Ne.symm a2.2.1⟩
theorem deps_all {rs : Rels} {ds : List Dep} (h : depsOk rs ds = true) : ∀ d ∈ ds, depOk rs d.1 d.2.1 d.2.2.1 d.2.2.2.1 d.2.2.2.2 = true := fun d hd => by
 unfold depsOk at h
 simp only [Bool.and_eq_true, Bool.not_eq_true', List.any_eq_false] at h
 have := h.2.2 d hd
 unfold badD at this
 simpa using this
theorem par_rt {rs : Rels} {d : Dep} (h : depOk rs d.1 d.2.1 d.2.2.1 d.2.2.2.1 d.2.2.2.2 = true) : parD (rD rs) rs (fmtD rs d) = (d, true) := by
 have h1 := (dep_rt h).2
 have h2 := (fmtD_no59 h).2
 exact (parD_yes h2 (by rw [h1])).trans (by rw [h1])
theorem list_rt {rs : Rels} {ds : List Dep} (h : depsOk rs ds = true) : parS rs (fmtDs rs ds) = (ds, true) := by
 have hd := deps_all h
 unfold fmtDs
 rw [if_pos h]
 by_cases e : ds = []
 ·subst e
  show parS rs [] = _
  rw [parS_nil, h]
 ·have hs : spl 59 (Lib.join (ds.map (fmtD rs)) [59]) = ds.map (fmtD rs) := spl_join (by simpa using e) fun x hx => by
   obtain ⟨d, hm, rfl⟩ := List.mem_map.1 hx
   exact (fmtD_no59 (hd d hm)).1
  have hds : dsP rs (Lib.join (ds.map (fmtD rs)) [59]) = ds := by
   unfold dsP
   rw [hs]
   exact map_rt fun d hm => by rw [par_rt (hd d hm)]
  have hall : (spl 59 (Lib.join (ds.map (fmtD rs)) [59])).all (okP rs) = true := by
   rw [hs, List.all_eq_true]
   intro x hx
   obtain ⟨d, hm, rfl⟩ := List.mem_map.1 hx
   unfold okP
   rw [par_rt (hd d hm)]
  have hne : Lib.join (ds.map (fmtD rs)) [59] ≠ [] := fun e2 => by
   rw [e2] at hs
   have h1 : [([] : List UInt8)] = ds.map (fmtD rs) := hs
   have : ([] : List UInt8) ∈ ds.map (fmtD rs) := by rw [← h1]; simp
   obtain ⟨d, hm, e3⟩ := List.mem_map.1 this
   exact (fmtD_no59 (hd d hm)).2 e3
  have := parS_yes hne hall (by rw [hds]; exact h)
  rw [this, hds]
theorem par_fmt {rs : Rels} {s : List UInt8} (h : (parS rs s).2 = true) : fmtDs rs (parS rs s).1 = s := by
 by_cases e : s = []
 ·subst e
  rw [parS_nil] at h ⊢
  unfold fmtDs
  split <;> rfl
 ·unfold parS at h ⊢
  rw [if_neg e] at h ⊢
  split at h
  ·rename_i h2
   rw [if_pos h2]
   exact (fmtDs_iff e h2.1).2 h2.2
  ·cases h
section
variable {cx : Cx} {s : St}
theorem pw_subSl {t : TypeId} {x y : Operand} {k : IntKind} {b : List UInt8} {i : Int} (ht : cx.P.underlying t = some .string) (hx : s.ev x = some (sc (.string (mkS b)))) (hy : s.ev y = some (sc (.int k i))) (h0 : 0 ≤ i) (h1 : i ≤ b.length) : Pw cx s (.slice t x (some y) none none) (sc (.string (mkS (b.drop i.toNat)))) :=
 fun A w E S hI hT => by
  refine ⟨.string (mkS (b.drop i.toNat)), fun w' _ _ _ _ _ => ?_, trivial, rfl, rfl⟩
  have h3 : i ≤ ((mkS b).size : Int) := by rw [mkS_size]; exact h1
  simp only [execOp, Option.map_some, Option.map_none]
  rw [sc_den (ev_den hT hx), sc_den (ev_den hT hy), Sem.run_bind, run_sliceAt_string _ _ _ _ _ _ ht, run_slice_string_l (ht := ht) (h0 := h0) (h1 := h3), ext_mkS, mkS_size, List.take_length]
  rfl
theorem pw_subSh {t : TypeId} {x y : Operand} {k : IntKind} {b : List UInt8} {i : Int} (ht : cx.P.underlying t = some .string) (hx : s.ev x = some (sc (.string (mkS b)))) (hy : s.ev y = some (sc (.int k i))) (h0 : 0 ≤ i) (h1 : i ≤ b.length) : Pw cx s (.slice t x none (some y) none) (sc (.string (mkS (b.take i.toNat)))) :=
 fun A w E S hI hT => by
  refine ⟨.string (mkS (b.take i.toNat)), fun w' _ _ _ _ _ => ?_, trivial, rfl, rfl⟩
  have h3 : i ≤ ((mkS b).size : Int) := by rw [mkS_size]; exact h1
  simp only [execOp, Option.map_some, Option.map_none]
  rw [sc_den (ev_den hT hx), sc_den (ev_den hT hy), Sem.run_bind, run_sliceAt_string _ _ _ _ _ _ ht, run_slice_string_h (ht := ht) (h0 := h0) (h2 := h3), ext_mkS, List.drop_zero]
  rfl
end
theorem fmtDs_len {rs : Rels} {ds : List Dep} : (fmtDs rs ds).length ≤ 200 := by
 unfold fmtDs
 split
 ·rename_i h
  by_cases e : ds = []
  ·subst e; simp [Lib.join_nil]
  ·have h1 := joinB_len (b := 59) (l := ds.map (fmtD rs)) (by simpa using e)
   have h5 : ds.length ≤ 5 := by
    unfold depsOk at h
    simp only [Bool.and_eq_true, decide_eq_true_eq] at h
    exact h.2.1
   have h2 : ((ds.map (fmtD rs)).map List.length).sum ≤ 33 * ds.length := by
    rw [List.map_map]
    exact small_sum fun d _ => fmtD_len d
   rw [List.length_map] at h1
   omega
 ·simp
theorem hod_L {ds : List Dep} (h : ∀ d ∈ ds, depL d) : ∀ d ∈ ds, (∀ z ∈ d.1, ∀ x ∈ z.2, okI x) ∧ (∀ z ∈ d.2.1, ∀ x ∈ z.2, okI x) ∧ okI d.2.2.2.1 ∧ okI d.2.2.2.2 := fun d hd => by
 obtain ⟨_, _, h3, h4, h5, h6⟩ := h d hd
 exact ⟨atomL_okI h3, atomL_okI h4, by unfold okI; omega, by unfold okI; omega⟩
theorem pick_len {a b c d e x : List UInt8} {n : Nat} (h : x ∈ [a, b, c, d, e]) (ha : a.length ≤ n) (hb : b.length ≤ n) (hc : c.length ≤ n) (hd : d.length ≤ n) (he : e.length ≤ n) : x.length ≤ n := by
 simp only [List.mem_cons, List.not_mem_nil, or_false] at h
 rcases h with rfl | rfl | rfl | rfl | rfl <;> assumption
theorem parS_okI {rs : Rels} {s : List UInt8} : ∀ d ∈ (parS rs s).1, (∀ z ∈ d.1, ∀ x ∈ z.2, okI x) ∧ (∀ z ∈ d.2.1, ∀ x ∈ z.2, okI x) ∧ okI d.2.2.2.1 ∧ okI d.2.2.2.2 := by
 unfold parS
 split
 ·intro d hd; simp at hd
 ·split
  ·exact ds_okI rs (spl 59 s)
  ·intro d hd; simp at hd
end Go.Eng
