import Derived.Test.YthcggkagkihamaaGreatEngX
set_option linter.unusedVariables false
set_option linter.unusedSimpArgs false
namespace Go.Eng
open Go Go.RowKit
def plcF (fs : Atoms) (f : Int × List Int) : Int := idxI (fun x => decide (cmpF x f = 0)) fs
def ltF (f : Int × List Int) : Int × List Int → Bool := fun x => decide (cmpF x f < 0)
def putF (fs : Atoms) (f : Int × List Int) : Atoms := if 0 ≤ plcF fs f then fs else fs.takeWhile (ltF f) ++ f :: fs.dropWhile (ltF f)
theorem while_at {α : Type} {p : α → Bool} : ∀ {l : List α} {m : Nat}, (∀ j y, j < m → l[j]? = some y → p y = true) → m ≤ l.length → (∀ y, l[m]? = some y → p y = false) → l.takeWhile p = l.take m ∧ l.dropWhile p = l.drop m
 | [], m, _, h, _ => by simp
 | x :: l, 0, _, _, h3 => by
  have := h3 x rfl
  simp [List.takeWhile_cons, List.dropWhile_cons, this]
 | x :: l, m + 1, h1, h2, h3 => by
  have hx := h1 0 x (by omega) rfl
  obtain ⟨e1, e2⟩ := while_at (l := l) (m := m) (fun j y hj hy => h1 (j + 1) y (by omega) hy) (by simpa using h2) (fun y hy => h3 y hy)
  simp [List.takeWhile_cons, List.dropWhile_cons, hx, e1, e2]
theorem putF_there {fs : Atoms} {f : Int × List Int} (h : 0 ≤ plcF fs f) : putF fs f = fs := if_pos h
theorem putF_new {fs : Atoms} {f : Int × List Int} {m : Nat} (h : ¬ 0 ≤ plcF fs f) (h1 : ∀ j y, j < m → fs[j]? = some y → cmpF y f < 0) (h2 : m ≤ fs.length) (h3 : ∀ y, fs[m]? = some y → ¬ cmpF y f < 0) : putF fs f = fs.take m ++ f :: fs.drop m := by
 unfold putF
 rw [if_neg h]
 obtain ⟨e1, e2⟩ := while_at (p := ltF f) (l := fs) (m := m) (fun j y hj hy => decide_eq_true (h1 j y hj hy)) h2 (fun y hy => decide_eq_false (h3 y hy))
 rw [e1, e2]
theorem ltF_step {fs : Atoms} {f z : Int × List Int} {m n : Nat} (h : ∀ j y, j < m → fs[j]? = some y → cmpF y f < 0) (hz : fs[n]? = some z) (e : n = m) (hx : cmpF z f < 0) : ∀ j y, j < m + 1 → fs[j]? = some y → cmpF y f < 0 := by
 intro j y hj hy
 by_cases q : j < m
 ·exact h j y q hy
 ·obtain rfl : j = m := by omega
  subst e
  rw [hz] at hy
  cases hy
  exact hx
theorem putF_mem {fs : Atoms} {f x : Int × List Int} (h : x ∈ putF fs f) : x ∈ fs ∨ x = f := by
 unfold putF at h
 split at h
 ·exact .inl h
 ·rcases List.mem_append.1 h with q | q
  ·exact .inl ((List.takeWhile_prefix _).subset q)
  ·rcases List.mem_cons.1 q with q | q
   ·exact .inr q
   ·exact .inl ((List.dropWhile_suffix _).subset q)
def factL (f : Int × List Int) : Prop := (-1 ≤ f.1 ∧ f.1 ≤ 5) ∧ f.2.length ≤ 3 ∧ ∀ x ∈ f.2, -256 ≤ x ∧ x ≤ 256
def instL (rs : Rels) (fs : Atoms) : Prop := rs.length ≤ 5 ∧ (∀ z ∈ rs, relL z) ∧ fs.length ≤ 11 ∧ ∀ a ∈ fs, factL a
theorem take_snoc {α : Type} {l : List α} {m : Nat} {z : α} (h : l[m]? = some z) : l.take m ++ [z] = l.take (m + 1) := by rw [List.take_add_one, h]; rfl
theorem instE {rs rs' : Rels} {fs fs' : Atoms} (h1 : rs = rs') (h2 : fs = fs') : AV.agg [.t none (.sl 3 (enS3 encS encI encB) rs), .t none (.sl 2 (enS2 encI (enSl 1 encI)) fs)] = AV.agg [.t none (.sl 3 (enS3 encS encI encB) rs'), .t none (.sl 2 (enS2 encI (enSl 1 encI)) fs')] := by rw [h1, h2]
end Go.Eng
