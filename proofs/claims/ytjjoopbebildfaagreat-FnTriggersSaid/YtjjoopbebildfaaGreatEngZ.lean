import Derived.Test.YtjjoopbebildfaaGreatEngY
set_option linter.unusedVariables false
set_option linter.unusedSimpArgs false
namespace Go.Eng
open Go Go.RowKit
def mt1 (r : List Int) (t v : Int) : Prop := (t < 0 → -1 - t = v) ∧ (0 ≤ t → r[t.toNat]? = some v)
def mtF (r : List Int) (a f : Int × List Int) : Prop := a.1 = f.1 ∧ ∀ t v, (t, v) ∈ a.2.zip f.2 → mt1 r t v
def exB (b r : List Int) : Prop := b.length = r.length ∧ ∀ (k : Nat) (y : Int), b[k]? = some y → y ≠ 10 → r[k]? = some y
theorem exB_refl (b : List Int) : exB b b := ⟨rfl, fun _ _ h _ => h⟩
theorem exB_trans {a b c : List Int} (h : exB a b) (h2 : exB b c) : exB a c := ⟨h.1.trans h2.1, fun k y hk hy => h2.2 k y (h.2 k y hk hy) hy⟩
theorem fitStep_ex {b b' : List Int} {t v : Int} (h : fitStep b (t, v) = some b') : exB b b' ∧ mt1 b' t v := by
 unfold fitStep at h
 dsimp only at h
 split at h
 ·rename_i ht
  split at h
  ·rename_i e
   cases h
   exact ⟨exB_refl _, fun _ => e, fun h0 => by omega⟩
  ·cases h
 ·rename_i ht
  split at h
  ·rename_i y hy
   split at h
   ·rename_i hv
    cases h
    have hlt := (List.getElem?_eq_some_iff.1 hy).1
    refine ⟨⟨by simp, fun k z hk hz => ?_⟩, fun h0 => by omega, fun _ => by rw [List.getElem?_set_self hlt]⟩
    by_cases e : k = t.toNat
    ·subst e
     rw [hy] at hk
     cases hk
     rcases hv with hv | hv
     ·exact absurd hv hz
     ·rw [List.getElem?_set_self hlt, hv]
    ·rw [List.getElem?_set_ne (Ne.symm e)]
     exact hk
   ·cases h
  ·cases h
theorem mt1_ex {b b' : List Int} {t v : Int} (h : mt1 b t v) (hv : v ≠ 10) (he : exB b b') : mt1 b' t v := ⟨h.1, fun h0 => he.2 _ _ (h.2 h0) hv⟩
theorem fitP_ex : ∀ {ps : List (Int × Int)} {b b' : List Int}, fitP b ps = (b', true) → (∀ p ∈ ps, p.2 ≠ 10) → exB b b' ∧ ∀ t v, (t, v) ∈ ps → mt1 b' t v
 | [], b, b', h, _ => by
  simp only [fitP, Prod.mk.injEq, and_true] at h
  subst h
  exact ⟨exB_refl _, fun t v h => by simp at h⟩
 | (t, v) :: ps, b, b', h, hp => by
  unfold fitP at h
  cases hs : fitStep b (t, v) with
  | none => simp only [hs, Prod.mk.injEq] at h; exact absurd h.2 (by decide)
  | some q =>
   simp only [hs] at h
   obtain ⟨e1, e2⟩ := fitP_ex h (fun p hp' => hp p (List.mem_cons_of_mem _ hp'))
   obtain ⟨s1, s2⟩ := fitStep_ex hs
   refine ⟨exB_trans s1 e1, fun t' v' hm => ?_⟩
   rcases List.mem_cons.1 hm with q | q
   ·cases q
    exact mt1_ex s2 (hp (t, v) (by simp)) e1
   ·exact e2 t' v' q
theorem fitF_ex {a f : Int × List Int} {b : List Int} (h : (fitF a f b).2 = true) (hv : ∀ v ∈ f.2, v ≠ 10) : exB b (fitF a f b).1 ∧ mtF (fitF a f b).1 a f := by
 unfold fitF at h ⊢
 split
 ·rename_i e
  rw [if_pos e] at h
  have := fitP_ex (ps := a.2.zip f.2) (b := b) (b' := (fitP b (a.2.zip f.2)).1) (Prod.ext rfl h) (fun p hp => hv p.2 (List.of_mem_zip (a := p.1) (b := p.2) hp).2)
  exact ⟨this.1, e, this.2⟩
 ·rename_i e
  rw [if_neg e] at h
  cases h
theorem mtF_ex {b b' : List Int} {a f : Int × List Int} (h : mtF b a f) (hv : ∀ v ∈ f.2, v ≠ 10) (he : exB b b') : mtF b' a f := ⟨h.1, fun t v hm => mt1_ex (h.2 t v hm) (hv v (List.of_mem_zip hm).2) he⟩
theorem matchL_ex {fs : Atoms} (hf : ∀ f ∈ fs, ∀ v ∈ f.2, v ≠ 10) : ∀ {l : Atoms} {b r : List Int}, r ∈ matchL fs l b → exB b r ∧ ∀ a ∈ l, ∃ f ∈ fs, mtF r a f
 | [], b, r, h => by
  simp only [matchL, List.mem_singleton] at h
  subst h
  exact ⟨exB_refl _, fun a ha => by simp at ha⟩
 | a :: l, b, r, h => by
  unfold matchL at h
  obtain ⟨f, hm, h⟩ := List.mem_flatMap.1 h
  split at h
  ·rename_i hfit
   obtain ⟨e1, e2⟩ := matchL_ex hf (l := l) h
   obtain ⟨s1, s2⟩ := fitF_ex hfit (hf f hm)
   refine ⟨exB_trans s1 e1, fun a' ha' => ?_⟩
   rcases List.mem_cons.1 ha' with q | q
   ·subst q
    exact ⟨f, hm, mtF_ex s2 (hf f hm) e1⟩
   ·exact e2 a' q
  ·simp at h
theorem fact_vals {rs : Rels} {fs : Atoms} (h : instOk rs fs = true) : ∀ f ∈ fs, ∀ v ∈ f.2, -40 ≤ v ∧ v ≤ 9 := fun f hf v hv => by
 have h1 := inst_fact h hf
 unfold factOk at h1
 simp only [Bool.and_eq_true, Bool.not_eq_true', List.any_eq_false] at h1
 have := h1.2.2.2 v hv
 unfold valOk at this
 simpa using this
theorem cmpL_refl : ∀ l : List Int, cmpL l l = 0 := fun l => (cmpL_zero l l).2 rfl
theorem cmpF_refl (f : Int × List Int) : cmpF f f = 0 := by
 unfold cmpF
 rw [if_neg (by omega), if_neg (by omega), cmpL_refl]
theorem cmpF_zero {f g : Int × List Int} : cmpF f g = 0 ↔ f = g := by
 constructor
 ·intro h
  unfold cmpF at h
  split at h
  ·omega
  ·split at h
   ·omega
   ·exact Prod.ext (by omega) ((cmpL_zero _ _).1 h)
 ·rintro rfl
  exact cmpF_refl f
theorem hasF_mem {fs : Atoms} {f : Int × List Int} : hasF fs f = true ↔ f ∈ fs := by
 unfold hasF
 rw [List.any_eq_true]
 constructor
 ·rintro ⟨x, hx, e⟩
  rw [← cmpF_zero.1 (of_decide_eq_true e)]
  exact hx
 ·intro h
  exact ⟨f, h, decide_eq_true (cmpF_refl f)⟩
theorem mt_len {rs : Rels} {fs : Atoms} {r : List Int} {a f : Int × List Int} (h : instOk rs fs = true) (ha : atomOk rs a.1 a.2 = true) (hf : f ∈ fs) (hm : mtF r a f) : a.2.length = f.2.length := by
 obtain ⟨_, _, _, _, x, hx, e1⟩ := atomOk_rels (r := a.1) (ts := a.2) ha
 obtain ⟨y, hy, e2⟩ := factOk_len (inst_fact h hf)
 rw [← hm.1, hx] at hy
 cases hy
 omega
end Go.Eng
