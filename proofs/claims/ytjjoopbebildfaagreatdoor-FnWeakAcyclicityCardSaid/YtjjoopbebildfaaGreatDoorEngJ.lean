/- Models: counts of positions, reachability, special edges on cycles, marks of edges. -/
import Derived.Test.YtjjoopbebildfaaGreatDoorEngI
set_option linter.unusedVariables false
set_option linter.unusedSimpArgs false
namespace Go.Eng
open Go Go.RowKit
def cntP (rs : Rels) : Int := if relsOk rs = true then sumA rs else 0
theorem cnt_no {rs : Rels} (h : relsOk rs = false) : 0 = cntP rs := by unfold cntP; rw [h]; rfl
theorem cnt_yes {rs : Rels} {m : Nat} (h : relsOk rs = true) (hm : rs.length ≤ m) : sumA (rs.take m) = cntP rs := by unfold cntP; rw [if_pos h, List.take_of_length_le hm]
theorem cnt_zero {rs : Rels} {m : Nat} (h : m = 0) (hx : rs.length ≤ m ∨ relsOk rs = false) : sumA (rs.take m) = cntP rs := by
  subst h
  rcases hx with hx | hx
  · have : rs = [] := List.eq_nil_of_length_eq_zero (by omega)
    subst this
    unfold cntP
    split <;> rfl
  · unfold cntP
    rw [hx]
    rfl
theorem cnt_bnd (rs : Rels) : 0 ≤ cntP rs ∧ cntP rs ≤ 18 := by
  unfold cntP
  split
  · rename_i h
    have := sumA_bnd h rs.length
    rwa [List.take_length] at this
  · omega
/-! ### reachability -/
def inN (n x : Int) : Bool := decide (0 ≤ x ∧ x ≤ n - 1)
def stepE (n : Int) (q : List Bool) (e : Edg) : List Bool := if inN n e.1 = true ∧ inN n e.2.1 = true ∧ q.getD e.1.toNat false = true then q.set e.2.1.toNat true else q
def rnd (n : Int) (es : List Edg) (q : List Bool) : Nat → List Bool
  | 0 => q
  | k + 1 => es.foldl (stepE n) (rnd n es q k)
def seen0 (n a : Int) : List Bool := (List.replicate n.toNat false).set a.toNat true
def reachB (n : Int) (es : List Edg) (a b : Int) : Bool := decide (0 ≤ n ∧ n ≤ 30) && (inN n a && (inN n b && (rnd n es (seen0 n a) n.toNat).getD b.toNat false))
section
variable {n : Int} {es : List Edg} {q : List Bool} {j : Nat} {z : Edg}
theorem stepE_len (q : List Bool) (e : Edg) : (stepE n q e).length = q.length := by unfold stepE; split <;> simp
theorem foldE_len : ∀ (es : List Edg) (q : List Bool), (es.foldl (stepE n) q).length = q.length
  | [], q => rfl
  | e :: es, q => by rw [List.foldl_cons, foldE_len es, stepE_len]
theorem rnd_len : ∀ k, (rnd n es q k).length = q.length
  | 0 => rfl
  | k + 1 => by
    show (es.foldl (stepE n) (rnd n es q k)).length = _
    rw [foldE_len, rnd_len k]
theorem stp_step (hz : es[j]? = some z) : (es.take (j + 1)).foldl (stepE n) q = stepE n ((es.take j).foldl (stepE n) q) z := by
  rw [List.take_add_one, hz, List.foldl_append]
  rfl
theorem st_hit {Q : List Bool} {x : Bool} (h1 : 0 ≤ z.1 ∧ z.1 ≤ n - 1) (h2 : 0 ≤ z.2.1 ∧ z.2.1 ≤ n - 1) (hx : Q[z.1.toNat]? = some x) (e : x = true) : Q.set z.2.1.toNat true = stepE n Q z := by
  unfold stepE
  rw [if_pos ⟨decide_eq_true h1, decide_eq_true h2, by rw [List.getD_eq_getElem?_getD, hx, e]; rfl⟩]
theorem st_no {Q : List Bool} (h : ¬ ((0 ≤ z.1 ∧ z.1 ≤ n - 1) ∧ (0 ≤ z.2.1 ∧ z.2.1 ≤ n - 1) ∧ Q.getD z.1.toNat false = true)) : Q = stepE n Q z := by
  unfold stepE
  rw [if_neg fun hh => h ⟨of_decide_eq_true hh.1, of_decide_eq_true hh.2.1, hh.2.2⟩]
theorem stp_hit {x : Bool} (hz : es[j]? = some z) (h1 : 0 ≤ z.1 ∧ z.1 ≤ n - 1) (h2 : 0 ≤ z.2.1 ∧ z.2.1 ≤ n - 1) (hx : ((es.take j).foldl (stepE n) q)[z.1.toNat]? = some x) (e : x = true) : ((es.take j).foldl (stepE n) q).set z.2.1.toNat true = (es.take (j + 1)).foldl (stepE n) q := by
  rw [stp_step hz]
  exact st_hit h1 h2 hx e
theorem stp_no1 (hz : es[j]? = some z) (h : ¬ (0 ≤ z.1 ∧ z.1 ≤ n - 1)) : (es.take j).foldl (stepE n) q = (es.take (j + 1)).foldl (stepE n) q := by
  rw [stp_step hz]
  exact st_no fun hh => h hh.1
theorem stp_no2 (hz : es[j]? = some z) (h : ¬ (0 ≤ z.2.1 ∧ z.2.1 ≤ n - 1)) : (es.take j).foldl (stepE n) q = (es.take (j + 1)).foldl (stepE n) q := by
  rw [stp_step hz]
  exact st_no fun hh => h hh.2.1
theorem stp_no3 {x : Bool} (hz : es[j]? = some z) (hx : ((es.take j).foldl (stepE n) q)[z.1.toNat]? = some x) (e : x = false) : (es.take j).foldl (stepE n) q = (es.take (j + 1)).foldl (stepE n) q := by
  rw [stp_step hz]
  refine st_no fun hh => ?_
  have := hh.2.2
  rw [List.getD_eq_getElem?_getD, hx, e] at this
  cases this
theorem reach_no {a b : Int} (h : ¬ ((0 ≤ n ∧ n ≤ 30) ∧ (0 ≤ a ∧ a ≤ n - 1) ∧ (0 ≤ b ∧ b ≤ n - 1))) : false = reachB n es a b := by
  unfold reachB inN
  cases h1 : decide (0 ≤ n ∧ n ≤ 30)
  · rfl
  · cases h2 : decide (0 ≤ a ∧ a ≤ n - 1)
    · rfl
    · cases h3 : decide (0 ≤ b ∧ b ≤ n - 1)
      · rfl
      · exact absurd ⟨of_decide_eq_true h1, of_decide_eq_true h2, of_decide_eq_true h3⟩ h
theorem reach_yes {a b : Int} {m : Nat} {x : Bool} (h1 : 0 ≤ n ∧ n ≤ 30) (h2 : 0 ≤ a ∧ a ≤ n - 1) (h3 : 0 ≤ b ∧ b ≤ n - 1) (hm : m = n.toNat) (hx : (rnd n es (seen0 n a) m)[b.toNat]? = some x) : x = reachB n es a b := by
  subst hm
  unfold reachB inN
  rw [decide_eq_true h1, decide_eq_true h2, decide_eq_true h3, List.getD_eq_getElem?_getD, hx]
  rfl
end
/-! ### special edges on cycles -/
def spcP (rs : Rels) (g : List Edg) (e : Edg) : Bool := e.2.2 && reachB (cntP rs) g e.2.1 e.1
def spcF (rs : Rels) (ds : List Dep) : Bool := (graphL rs ds).any (spcP rs (graphL rs ds))
def spcE (rs : Rels) (ds : List Dep) : Edg := ((graphL rs ds).find? (spcP rs (graphL rs ds))).getD (0, 0, false)
section
variable {rs : Rels} {ds : List Dep} {g : List Edg} {m : Nat} {z : Edg}
theorem spc_n1 (h : z.2.2 = false) : spcP rs g z = false := by unfold spcP; rw [h]; rfl
theorem spc_n2 (h : reachB (cntP rs) g z.2.1 z.1 = false) : spcP rs g z = false := by unfold spcP; rw [h]; simp
theorem spc_y (h1 : z.2.2 = true) (h2 : reachB (cntP rs) g z.2.1 z.1 = true) : spcP rs g z = true := by unfold spcP; rw [h1, h2]; rfl
theorem find_hit {α : Type} {p : α → Bool} : ∀ {l : List α} {m : Nat} {z : α}, (∀ j z, j < m → l[j]? = some z → p z = false) → l[m]? = some z → p z = true → l.find? p = some z
  | [], m, z, h, hz, hp => by simp at hz
  | x :: l, 0, z, h, hz, hp => by
    cases hz
    rw [List.find?_cons_of_pos hp]
  | x :: l, m + 1, z, h, hz, hp => by
    have hx := h 0 x (by omega) rfl
    rw [List.find?_cons_of_neg (by simp [hx])]
    exact find_hit (fun j y hj hy => h (j + 1) y (by omega) hy) hz hp
theorem find_none {α : Type} {p : α → Bool} {l : List α} {m : Nat} (h : ∀ j z, j < m → l[j]? = some z → p z = false) (hm : l.length ≤ m) : l.find? p = none := by
  rw [List.find?_eq_none]
  intro x hx
  obtain ⟨j, hj⟩ := List.getElem?_of_mem hx
  have := (List.getElem?_eq_some_iff.1 hj).1
  simp [h j x (by omega) hj]
theorem spc_hit (h : ∀ j z, j < m → (graphL rs ds)[j]? = some z → spcP rs (graphL rs ds) z = false) (hz : (graphL rs ds)[m]? = some z) (hp : spcP rs (graphL rs ds) z = true) : z = spcE rs ds ∧ true = spcF rs ds := by
  unfold spcE spcF
  rw [find_hit h hz hp, any_true hz hp]
  exact ⟨rfl, rfl⟩
theorem spc_none (h : ∀ j z, j < m → (graphL rs ds)[j]? = some z → spcP rs (graphL rs ds) z = false) (hm : (graphL rs ds).length ≤ m) : (0, 0, false) = spcE rs ds ∧ false = spcF rs ds := by
  unfold spcE spcF
  rw [find_none h hm, any_false h hm]
  exact ⟨rfl, rfl⟩
theorem tupE {x y : Edg} {f f' : Bool} (h1 : x = y) (h2 : f = f') : AV.tup [(true, [.t none (.v (.int .i64 x.1)), .t none (.v (.int .i64 x.2.1)), .t none (.v (.bool x.2.2))]), (false, [.t none (.v (.bool f))])] = .tup [(true, [.t none (.v (.int .i64 y.1)), .t none (.v (.int .i64 y.2.1)), .t none (.v (.bool y.2.2))]), (false, [.t none (.v (.bool f'))])] := by rw [h1, h2]
end
/-! ### marks of edges -/
def markE : Int → Edg → Edg := fun k _ => (k, k + 1, decide ((k + 2).tmod 3 = 0))
def markES : Int → List Edg → List Edg := mkL markE ct3
end Go.Eng
