import Derived.Test.YtjjoopbebildfaaGreatEngZ
set_option linter.unusedVariables false
set_option linter.unusedSimpArgs false
namespace Go.Eng
open Go Go.RowKit
theorem fitStep_in {q b : List Int} {t v : Int} (he : exB q b) (hm : mt1 b t v) : ∃ q', fitStep q (t, v) = some q' ∧ exB q' b := by
 by_cases ht : t < 0
 ·exact ⟨q, fs_neg ht (hm.1 ht), he⟩
 ·have hb := hm.2 (by omega)
  have hlt := (List.getElem?_eq_some_iff.1 hb).1
  have hq : t.toNat < q.length := by rw [he.1]; exact hlt
  have hy : q[t.toNat]? = some q[t.toNat] := List.getElem?_eq_getElem hq
  refine ⟨q.set t.toNat v, ?_, by simp [he.1], ?_⟩
  ·unfold fitStep
   dsimp only
   rw [if_neg ht, hy]
   dsimp only
   rw [if_pos]
   by_cases e : q[t.toNat] = 10
   ·exact .inl e
   ·have := he.2 _ _ hy e
    rw [hb] at this
    cases this
    exact .inr rfl
  ·intro k y hk hy2
   by_cases e : k = t.toNat
   ·subst e
    rw [List.getElem?_set_self hq] at hk
    cases hk
    exact hb
   ·rw [List.getElem?_set_ne (Ne.symm e)] at hk
    exact he.2 k y hk hy2
theorem fitP_in : ∀ {ps : List (Int × Int)} {q b : List Int}, exB q b → (∀ t v, (t, v) ∈ ps → mt1 b t v) → (fitP q ps).2 = true ∧ exB (fitP q ps).1 b
 | [], q, b, he, _ => ⟨rfl, he⟩
 | (t, v) :: ps, q, b, he, h => by
  obtain ⟨q', h1, h2⟩ := fitStep_in he (h t v (by simp))
  unfold fitP
  rw [h1]
  exact fitP_in h2 (fun t' v' hm => h t' v' (List.mem_cons_of_mem _ hm))
theorem matchL_in {fs : Atoms} : ∀ {l : Atoms} {q b : List Int}, exB q b → (∀ a ∈ l, ∃ f ∈ fs, mtF b a f) → ∃ r ∈ matchL fs l q, exB r b
 | [], q, b, he, _ => ⟨q, by simp [matchL], he⟩
 | a :: l, q, b, he, h => by
  obtain ⟨f, hf, hm⟩ := h a (by simp)
  have hfit : (fitF a f q).2 = true ∧ exB (fitF a f q).1 b := by
   unfold fitF
   rw [if_pos hm.1]
   exact fitP_in he hm.2
  obtain ⟨r, hr, e⟩ := matchL_in (fs := fs) hfit.2 (fun a' ha' => h a' (List.mem_cons_of_mem _ ha'))
  refine ⟨r, ?_, e⟩
  unfold matchL
  refine List.mem_flatMap.2 ⟨f, hf, ?_⟩
  rw [if_pos hfit.1]
  exact hr
theorem dedL_has {L : List (List Int)} {x : List Int} (h : x ∈ L) : x ∈ dedL L := by
 have key : ∀ (l out : List (List Int)), (x ∈ out ∨ x ∈ l) → x ∈ l.foldl (fun out x => if hasR out x = true then out else out ++ [x]) out := by
  intro l
  induction l with
  | nil => intro out h; exact h.resolve_right (by simp)
  | cons y l ih =>
   intro out h
   rw [List.foldl_cons]
   refine ih _ ?_
   rcases h with h | h
   ·left
    split
    ·exact h
    ·exact List.mem_append_left _ h
   ·rcases List.mem_cons.1 h with q | q
    ·subst q
     left
     split
     ·rename_i hy
      obtain ⟨z, hz, e⟩ := List.any_eq_true.1 hy
      have e := of_decide_eq_true e
      subst e
      exact hz
     ·simp
    ·exact .inr q
 exact key L [] (.inr h)
theorem instV_mt : ∀ {ts vs b : List Int}, instV b ts = some vs → (∀ t v, (t, v) ∈ ts.zip vs → mt1 b t v ∧ -40 ≤ v ∧ v ≤ 9)
 | [], vs, b, h => by
  simp only [instV, Option.some.injEq] at h
  subst h
  intro t v h
  simp at h
 | t :: ts, vs, b, h => by
  unfold instV at h
  cases hi : inst1 b t with
  | none => rw [hi] at h; cases h
  | some w =>
   rw [hi] at h
   cases hr : instV b ts with
   | none => rw [hr] at h; cases h
   | some ws =>
    rw [hr] at h
    simp only [Option.bind_some, Option.map_some, Option.some.injEq] at h
    subst h
    intro t' v' hm
    rw [List.zip_cons_cons] at hm
    rcases List.mem_cons.1 hm with q | q
    ·cases q
     unfold inst1 at hi
     by_cases ht : 0 ≤ t
     ·rw [if_pos ht] at hi
      cases hb : b[t.toNat]? with
      | none => rw [hb] at hi; cases hi
      | some y =>
       rw [hb] at hi
       simp only [Option.bind_some] at hi
       split at hi
       ·cases hi
        exact ⟨⟨fun h0 => by omega, fun _ => hb⟩, by assumption⟩
       ·cases hi
     ·rw [if_neg ht] at hi
      simp only [Option.bind_some] at hi
      split at hi
      ·cases hi
       exact ⟨⟨fun _ => rfl, fun h0 => by omega⟩, by assumption⟩
      ·cases hi
    ·exact instV_mt hr t' v' q
theorem atomsOk_parts {rs : Rels} {l : Atoms} {n : Int} (h : atomsOk rs l n = true) : (l.length : Int) ≤ n ∧ ∀ a ∈ l, atomOk rs a.1 a.2 = true := by
 unfold atomsOk at h
 simp only [Bool.and_eq_true, decide_eq_true_eq, Bool.not_eq_true', List.any_eq_false] at h
 exact ⟨by omega, fun a ha => by
  have := h.2 a ha
  unfold badA at this
  simpa using this⟩
theorem dep_body {rs : Rels} {a0 a1 : Atoms} {a2 : Bool} {a3 a4 : Int} (h : depOk rs a0 a1 a2 a3 a4 = true) : atomsOk rs a0 2 = true := by
 unfold depOk at h
 simp only [Bool.and_eq_true] at h
 exact h.1
theorem trg_found {rs : Rels} {fs a0 a1 : Atoms} {a2 : Bool} {a3 a4 : Int} {b : List Int} (h : trgOk rs fs a0 a1 a2 a3 a4 b = true) : b ∈ findL rs fs a0 := by
 unfold trgOk at h
 simp only [Bool.and_eq_true, decide_eq_true_eq] at h
 obtain ⟨⟨h1, h2, h3⟩, h4, h5⟩ := h
 obtain ⟨p1, p2⟩ := atomsOk_parts (dep_body h2)
 have hmk : mtOk rs fs a0 = true := by
  unfold mtOk
  simp only [Bool.and_eq_true, decide_eq_true_eq, Bool.not_eq_true', List.any_eq_false]
  refine ⟨h1, by omega, fun a ha => ?_⟩
  unfold badA
  simp [p2 a ha]
 have hfv := fact_vals h1
 have hall : ∀ a ∈ a0, ∃ f ∈ fs, mtF b a f := fun a ha => by
  have := List.all_eq_true.1 h5 a ha
  unfold trgStep at this
  cases hv : instV b a.2 with
  | none => rw [hv] at this; cases this
  | some v =>
   rw [hv] at this
   exact ⟨(a.1, v), hasF_mem.1 this, rfl, fun t w hm => (instV_mt hv t w hm).1⟩
 have hfree : exB freeB b := ⟨by rw [h3]; rfl, fun k y hk hy => by
  have : y ∈ freeB := List.mem_of_getElem? hk
  unfold freeB at this
  simp at this
  exact absurd this hy⟩
 obtain ⟨r, hr, he⟩ := matchL_in (fs := fs) hfree hall
 obtain ⟨_, hrm⟩ := matchL_ex (fun f hf v hvv => by have := hfv f hf v hvv; omega) hr
 have hreq : r = b := by
  refine List.ext_getElem? fun k => ?_
  by_cases hk : k < r.length
  ·have hy : r[k]? = some r[k] := List.getElem?_eq_getElem hk
   by_cases e : r[k] = 10
   ·have hkb : k < b.length := by rw [← he.1]; exact hk
    have hz : b[k]? = some b[k] := List.getElem?_eq_getElem hkb
    rw [hy, hz]
    by_cases e2 : b[k] = 10
    ·rw [e, e2]
    ·exfalso
     have hs := of_decide_eq_true h4 k hkb
     rw [varStep_at hz, decide_eq_false e2] at hs
     have hs : hasI (setI (varsL a0)) (k : Int) = true := by simpa using hs
     unfold hasI at hs
     obtain ⟨w, hw, ew⟩ := List.any_eq_true.1 hs
     have ew : w = (k : Int) := of_decide_eq_true ew
     subst ew
     rw [setI_mem] at hw
     obtain ⟨a, ha, hn⟩ := List.mem_flatMap.1 hw
     unfold nonneg at hn
     have hn := (List.mem_filter.1 hn).1
     obtain ⟨f, hf, hm⟩ := hrm a ha
     have hl := mt_len h1 (p2 a ha) hf hm
     obtain ⟨i, hi⟩ := List.getElem?_of_mem hn
     have hil := (List.getElem?_eq_some_iff.1 hi).1
     have hzip : ((k : Int), f.2[i]'(by omega)) ∈ a.2.zip f.2 := by
      rw [List.mem_iff_getElem?]
      refine ⟨i, ?_⟩
      rw [List.getElem?_zip_eq_some]
      exact ⟨hi, List.getElem?_eq_getElem _⟩
     have h6 := (hm.2 _ _ hzip).2 (by omega)
     have h7 : r[k]? = some (f.2[i]'(by omega)) := by simpa using h6
     rw [hy] at h7
     have h8 := hfv f hf (f.2[i]'(by omega)) (List.getElem_mem _)
     simp only [Option.some.injEq] at h7
     omega
   ·rw [hy, he.2 k _ hy e]
  ·rw [List.getElem?_eq_none (by omega), List.getElem?_eq_none (by rw [← he.1]; omega)]
 subst hreq
 unfold findL
 rw [if_pos hmk]
 exact dedL_has hr
theorem act_trg {rs : Rels} {fs a0 a1 : Atoms} {a2 : Bool} {a3 a4 : Int} {b : List Int} (h : actOk rs fs a0 a1 a2 a3 a4 b = true) : trgOk rs fs a0 a1 a2 a3 a4 b = true := by
 unfold actOk at h
 simp only [Bool.and_eq_true] at h
 exact h.1
theorem actL_has {rs : Rels} {fs a0 a1 : Atoms} {a2 : Bool} {a3 a4 : Int} {b : List Int} : hasR (actL rs fs a0 a1 a2 a3 a4) b = actOk rs fs a0 a1 a2 a3 a4 b := by
 cases h : actOk rs fs a0 a1 a2 a3 a4 b
 ·unfold hasR
  rw [List.any_eq_false]
  intro y hy e
  have e := of_decide_eq_true e
  subst e
  unfold actL at hy
  split at hy
  ·have := (List.mem_filter.1 hy).2
   rw [h] at this
   cases this
  ·simp at hy
 ·unfold hasR
  rw [List.any_eq_true]
  refine ⟨b, ?_, by simp⟩
  have ht := act_trg h
  have hd : depOk rs a0 a1 a2 a3 a4 = true := by
   unfold trgOk at ht
   simp only [Bool.and_eq_true] at ht
   exact ht.1.2.1
  unfold actL
  rw [if_pos hd]
  exact List.mem_filter.2 ⟨trg_found ht, h⟩
theorem actL_ok {rs : Rels} {fs a0 a1 : Atoms} {a2 : Bool} {a3 a4 : Int} {b : List Int} (hb : b ∈ actL rs fs a0 a1 a2 a3 a4) : actOk rs fs a0 a1 a2 a3 a4 b = true := by
 unfold actL at hb
 split at hb
 ·exact (List.mem_filter.1 hb).2
 ·simp at hb
end Go.Eng
