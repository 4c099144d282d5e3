/- Plain laws: matches. -/
import Derived.Test.YtjjoopbebildfaaGreatEngY
set_option linter.unusedVariables false
set_option linter.unusedSimpArgs false
namespace Go.Eng
open Go Go.RowKit
def mt1 (r : List Int) (t v : Int) : Prop := (t < 0 → -1 - t = v) ∧ (0 ≤ t → r[t.toNat]? = some v)
def mtF (r : List Int) (a f : Int × List Int) : Prop := a.1 = f.1 ∧ ∀ t v, (t, v) ∈ a.2.zip f.2 → mt1 r t v
def exB (b r : List Int) : Prop := b.length = r.length ∧ ∀ (k : Nat) (y : Int), b[k]? = some y → y ≠ 10 → r[k]? = some y
theorem exB_refl (b : List Int) : exB b b := ⟨rfl, fun _ _ h _ => h⟩
theorem exB_trans {a b c : List Int} (h : exB a b) (h2 : exB b c) : exB a c := ⟨h.1.trans h2.1, fun k y hk hy => h2.2 k y (h.2 k y hk hy) hy⟩
theorem fitStep_ex {b b' : List Int} {t v : Int} (h : fitStep b (t, v) = some b') : exB b b' ∧ mt1 b' t v := by
  unfold fitStep at h
  dsimp only at h
  split at h
  · rename_i ht
    split at h
    · rename_i e
      cases h
      exact ⟨exB_refl _, fun _ => e, fun h0 => by omega⟩
    · cases h
  · rename_i ht
    split at h
    · rename_i y hy
      split at h
      · rename_i hv
        cases h
        have hlt := (List.getElem?_eq_some_iff.1 hy).1
        refine ⟨⟨by simp, fun k z hk hz => ?_⟩, fun h0 => by omega, fun _ => by rw [List.getElem?_set_self hlt]⟩
        by_cases e : k = t.toNat
        · subst e
          rw [hy] at hk
          cases hk
          rcases hv with hv | hv
          · exact absurd hv hz
          · rw [List.getElem?_set_self hlt, hv]
        · rw [List.getElem?_set_ne (Ne.symm e)]
          exact hk
      · cases h
    · cases h
theorem mt1_ex {b b' : List Int} {t v : Int} (h : mt1 b t v) (hv : v ≠ 10) (he : exB b b') : mt1 b' t v := ⟨h.1, fun h0 => he.2 _ _ (h.2 h0) hv⟩
theorem fitP_ex : ∀ {ps : List (Int × Int)} {b b' : List Int}, fitP b ps = (b', true) → (∀ p ∈ ps, p.2 ≠ 10) → exB b b' ∧ ∀ t v, (t, v) ∈ ps → mt1 b' t v
  | [], b, b', h, _ => by
    simp only [fitP, Prod.mk.injEq, and_true] at h
    subst h
    exact ⟨exB_refl _, fun t v h => by simp at h⟩
  | (t, v) :: ps, b, b', h, hp => by
    unfold fitP at h
    cases hs : fitStep b (t, v) with
    | none => simp only [hs, Prod.mk.injEq] at h; exact absurd h.2 (by decide)
    | some q =>
      simp only [hs] at h
      obtain ⟨e1, e2⟩ := fitP_ex h (fun p hp' => hp p (List.mem_cons_of_mem _ hp'))
      obtain ⟨s1, s2⟩ := fitStep_ex hs
      refine ⟨exB_trans s1 e1, fun t' v' hm => ?_⟩
      rcases List.mem_cons.1 hm with q | q
      · cases q
        exact mt1_ex s2 (hp (t, v) (by simp)) e1
      · exact e2 t' v' q
theorem fitF_ex {a f : Int × List Int} {b : List Int} (h : (fitF a f b).2 = true) (hv : ∀ v ∈ f.2, v ≠ 10) : exB b (fitF a f b).1 ∧ mtF (fitF a f b).1 a f := by
  unfold fitF at h ⊢
  split
  · rename_i e
    rw [if_pos e] at h
    have := fitP_ex (ps := a.2.zip f.2) (b := b) (b' := (fitP b (a.2.zip f.2)).1) (Prod.ext rfl h) (fun p hp => hv p.2 (List.of_mem_zip (a := p.1) (b := p.2) hp).2)
    exact ⟨this.1, e, this.2⟩
  · rename_i e
    rw [if_neg e] at h
    cases h
theorem mtF_ex {b b' : List Int} {a f : Int × List Int} (h : mtF b a f) (hv : ∀ v ∈ f.2, v ≠ 10) (he : exB b b') : mtF b' a f := ⟨h.1, fun t v hm => mt1_ex (h.2 t v hm) (hv v (List.of_mem_zip hm).2) he⟩
theorem matchL_ex {fs : Atoms} (hf : ∀ f ∈ fs, ∀ v ∈ f.2, v ≠ 10) : ∀ {l : Atoms} {b r : List Int}, r ∈ matchL fs l b → exB b r ∧ ∀ a ∈ l, ∃ f ∈ fs, mtF r a f
  | [], b, r, h => by
    simp only [matchL, List.mem_singleton] at h
    subst h
    exact ⟨exB_refl _, fun a ha => by simp at ha⟩
  | a :: l, b, r, h => by
    unfold matchL at h
    obtain ⟨f, hm, h⟩ := List.mem_flatMap.1 h
    split at h
    · rename_i hfit
      obtain ⟨e1, e2⟩ := matchL_ex hf (l := l) h
      obtain ⟨s1, s2⟩ := fitF_ex hfit (hf f hm)
      refine ⟨exB_trans s1 e1, fun a' ha' => ?_⟩
      rcases List.mem_cons.1 ha' with q | q
      · subst q
        exact ⟨f, hm, mtF_ex s2 (hf f hm) e1⟩
      · exact e2 a' q
    · simp at h
theorem fitStep_self {r : List Int} {t v : Int} (h : mt1 r t v) : fitStep r (t, v) = some r := by
  by_cases ht : t < 0
  · exact fs_neg ht (h.1 ht)
  · exact fs_same ht (h.2 (by omega)) rfl
theorem fitP_self : ∀ {ps : List (Int × Int)} {r : List Int}, (∀ t v, (t, v) ∈ ps → mt1 r t v) → fitP r ps = (r, true)
  | [], r, _ => rfl
  | (t, v) :: ps, r, h => by
    unfold fitP
    rw [fitStep_self (h t v (by simp))]
    exact fitP_self (fun t' v' hm => h t' v' (List.mem_cons_of_mem _ hm))
theorem fitF_self {r : List Int} {a f : Int × List Int} (h : mtF r a f) : fitF a f r = (r, true) := by
  unfold fitF
  rw [if_pos h.1]
  exact fitP_self h.2
theorem matchL_self {fs : Atoms} : ∀ {l : Atoms} {r : List Int}, (∀ a ∈ l, ∃ f ∈ fs, mtF r a f) → r ∈ matchL fs l r
  | [], r, _ => by simp [matchL]
  | a :: l, r, h => by
    obtain ⟨f, hf, hm⟩ := h a (by simp)
    unfold matchL
    refine List.mem_flatMap.2 ⟨f, hf, ?_⟩
    rw [fitF_self hm, if_pos rfl]
    exact matchL_self (fun a' ha' => h a' (List.mem_cons_of_mem _ ha'))
theorem fact_vals {rs : Rels} {fs : Atoms} (h : instOk rs fs = true) : ∀ f ∈ fs, ∀ v ∈ f.2, -40 ≤ v ∧ v ≤ 9 := fun f hf v hv => by
  have h1 := inst_fact h hf
  unfold factOk at h1
  simp only [Bool.and_eq_true, Bool.not_eq_true', List.any_eq_false] at h1
  have := h1.2.2.2 v hv
  unfold valOk at this
  simpa using this
theorem instV_of : ∀ {ts vs : List Int} {r : List Int}, ts.length = vs.length → (∀ t v, (t, v) ∈ ts.zip vs → mt1 r t v) → (∀ v ∈ vs, -40 ≤ v ∧ v ≤ 9) → instV r ts = some vs
  | [], [], r, _, _, _ => rfl
  | [], _ :: _, r, h, _, _ => by simp at h
  | _ :: _, [], r, h, _, _ => by simp at h
  | t :: ts, v :: vs, r, h, h1, h2 => by
    have ih := instV_of (ts := ts) (vs := vs) (r := r) (by simpa using h) (fun t' v' hm => h1 t' v' (by simp [hm])) (fun v' hv' => h2 v' (List.mem_cons_of_mem _ hv'))
    have hv := h2 v (by simp)
    have hm := h1 t v (by simp)
    have hi : inst1 r t = some v := by
      unfold inst1
      by_cases ht : 0 ≤ t
      · rw [if_pos ht, hm.2 ht]
        simp only [Option.bind_some]
        rw [if_pos hv]
      · rw [if_neg ht, hm.1 (by omega)]
        simp only [Option.bind_some]
        rw [if_pos hv]
    unfold instV
    rw [hi, ih]
    rfl
theorem cmpL_refl : ∀ l : List Int, cmpL l l = 0 := fun l => (cmpL_zero l l).2 rfl
theorem cmpF_refl (f : Int × List Int) : cmpF f f = 0 := by
  unfold cmpF
  rw [if_neg (by omega), if_neg (by omega), cmpL_refl]
theorem cmpF_zero {f g : Int × List Int} : cmpF f g = 0 ↔ f = g := by
  constructor
  · intro h
    unfold cmpF at h
    split at h
    · omega
    · split at h
      · omega
      · exact Prod.ext (by omega) ((cmpL_zero _ _).1 h)
  · rintro rfl
    exact cmpF_refl f
theorem hasF_mem {fs : Atoms} {f : Int × List Int} : hasF fs f = true ↔ f ∈ fs := by
  unfold hasF
  rw [List.any_eq_true]
  constructor
  · rintro ⟨x, hx, e⟩
    rw [← cmpF_zero.1 (of_decide_eq_true e)]
    exact hx
  · intro h
    exact ⟨f, h, decide_eq_true (cmpF_refl f)⟩
theorem mtOk_parts {rs : Rels} {fs l : Atoms} (h : mtOk rs fs l = true) : instOk rs fs = true ∧ l.length ≤ 3 ∧ ∀ a ∈ l, atomOk rs a.1 a.2 = true := by
  unfold mtOk at h
  simp only [Bool.and_eq_true, decide_eq_true_eq, Bool.not_eq_true', List.any_eq_false] at h
  refine ⟨h.1, h.2.1, fun a ha => ?_⟩
  have := h.2.2 a ha
  unfold badA at this
  simpa using this
theorem mt_len {rs : Rels} {fs : Atoms} {r : List Int} {a f : Int × List Int} (h : instOk rs fs = true) (ha : atomOk rs a.1 a.2 = true) (hf : f ∈ fs) (hm : mtF r a f) : a.2.length = f.2.length := by
  obtain ⟨_, _, _, _, x, hx, e1⟩ := atomOk_rels (r := a.1) (ts := a.2) ha
  obtain ⟨y, hy, e2⟩ := factOk_len (inst_fact h hf)
  rw [← hm.1, hx] at hy
  cases hy
  omega
theorem mt_inst {rs : Rels} {fs : Atoms} {r : List Int} {a f : Int × List Int} (h : instOk rs fs = true) (ha : atomOk rs a.1 a.2 = true) (hf : f ∈ fs) (hm : mtF r a f) : instV r a.2 = some f.2 ∧ hasF fs (a.1, f.2) = true := by
  refine ⟨instV_of (mt_len h ha hf hm) hm.2 (fact_vals h f hf), hasF_mem.2 ?_⟩
  rw [hm.1]
  exact hf
theorem find_facts {rs : Rels} {fs l : Atoms} {r : List Int} (hr : r ∈ findL rs fs l) : instOk rs fs = true ∧ hasE rs fs l r = true ∧ ∀ a ∈ l, ∃ v, instV r a.2 = some v ∧ hasF fs (a.1, v) = true := by
  have hk : mtOk rs fs l = true := by
    cases q : mtOk rs fs l
    · unfold findL at hr
      rw [q] at hr
      simp at hr
    · rfl
  obtain ⟨h1, h2, h3⟩ := mtOk_parts hk
  have hm := findL_mem hr
  have hv := fact_vals h1
  obtain ⟨_, h4⟩ := matchL_ex (fun f hf v hvv => by have := hv f hf v hvv; omega) hm
  refine ⟨h1, ?_, fun a ha => ?_⟩
  · unfold hasE
    rw [hk, decide_eq_true (findL_five hr), decide_eq_true (List.length_pos_of_mem (matchL_self h4))]
    rfl
  · obtain ⟨f, hf, hmt⟩ := h4 a ha
    exact ⟨f.2, mt_inst h1 (h3 a ha) hf hmt⟩
theorem dedL_nodup (L : List (List Int)) : (dedL L).Pairwise (· ≠ ·) := by
  have : ∀ (l out : List (List Int)), out.Pairwise (· ≠ ·) → (l.foldl (fun out x => if hasR out x = true then out else out ++ [x]) out).Pairwise (· ≠ ·) := by
    intro l
    induction l with
    | nil => intro out h; exact h
    | cons x l ih =>
      intro out h
      rw [List.foldl_cons]
      refine ih _ ?_
      split
      · exact h
      · rename_i hx
        rw [List.pairwise_append]
        refine ⟨h, by simp, fun a ha b hb => ?_⟩
        rw [List.mem_singleton] at hb
        subst hb
        intro e
        subst e
        exact hx (List.any_eq_true.2 ⟨a, ha, by simp⟩)
  exact this L [] (by simp)
theorem find_once {rs : Rels} {fs l : Atoms} {r : List Int} {i : Nat} (hr : (findL rs fs l)[i]? = some r) : hasR ((findL rs fs l).take i) r = false := by
  have hp : (findL rs fs l).Pairwise (· ≠ ·) := by
    unfold findL
    split
    · exact dedL_nodup _
    · simp
  obtain ⟨h1, h2⟩ := List.getElem?_eq_some_iff.1 hr
  unfold hasR
  rw [List.any_eq_false]
  intro y hy
  obtain ⟨j, hj⟩ := List.getElem?_of_mem hy
  obtain ⟨h3, h4⟩ := List.getElem?_eq_some_iff.1 hj
  rw [List.length_take] at h3
  rw [List.getElem_take] at h4
  have := List.pairwise_iff_getElem.1 hp j i (by omega) h1 (by omega)
  rw [h2, h4] at this
  simpa using this
theorem findL_sz {rs : Rels} {fs l : Atoms} : szS (fun (x : List (Int)) => (x).length) (findL rs fs l) ≤ 200000 := by
  have h := findL_len rs fs l
  have key : ∀ L : List (List Int), (∀ r ∈ L, r.length = 5) → (L.map (fun (x : List (Int)) => (x).length)).sum = 5 * L.length := by
    intro L
    induction L with
    | nil => intro _; rfl
    | cons x L ih =>
      intro hL
      have h1 := ih (fun r hr => hL r (List.mem_cons_of_mem _ hr))
      have h2 := hL x (by simp)
      simp only [List.map_cons, List.sum_cons, List.length_cons]
      omega
  have := key (findL rs fs l) (fun r hr => findL_five hr)
  unfold szS
  omega
theorem szS_part {α : Type} {f : α → Nat} {l : List α} {a b : Nat} : szS f ((l.take a).drop b) ≤ szS f l := by
  have h1 : ((l.take a).drop b).Sublist l := (List.drop_sublist _ _).trans (List.take_sublist _ _)
  have h2 : (((l.take a).drop b).map f).Sublist (l.map f) := h1.map f
  have h3 := h1.length_le
  have h4 : ∀ {x y : List Nat}, x.Sublist y → x.sum ≤ y.sum := by
    intro x y h
    induction h with
    | slnil => simp
    | cons a _ ih => simp only [List.sum_cons]; omega
    | cons_cons a _ ih => simp only [List.sum_cons]; omega
  have h5 := h4 h2
  unfold szS
  omega
theorem atom_len2 {l : Atoms} (h : ∀ a ∈ l, atomL a) : ∀ a ∈ l, a.2.length ≤ 2 := fun a ha => (h a ha).2.1.2
end Go.Eng
