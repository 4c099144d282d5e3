import Derived.Test.YthcggkagkihamaaGreatDoorEngO
set_option linter.unusedVariables false
set_option linter.unusedSimpArgs false
namespace Go.Eng
open Go Go.RowKit Go.Proofs
theorem scS {a b : List UInt8} (h : a = b) : AV.c (.t none (.v (.string (mkS a)))) = .c (.t none (.v (.string (mkS b)))) := by rw [h]
theorem eqS {a b : List UInt8} (h : a = b) : some (sc (.string (mkS a))) = some (sc (.string (mkS b))) := by rw [h]
theorem joinTail_snoc {sep : List UInt8} {l : List (List UInt8)} {m : Nat} {x : List UInt8} (h : l[m]? = some x) : Lib.joinTail sep (l.take (m + 1)) = Lib.joinTail sep (l.take m) ++ (sep ++ x) := by
 unfold Lib.joinTail
 rw [List.take_add_one, h]
 simp
theorem join_step {sep : List UInt8} {l : List (List UInt8)} {m : Nat} {x : List UInt8} (h : l[m]? = some x) : Lib.join (l.take (m + 1)) sep = if m = 0 then x else Lib.join (l.take m) sep ++ sep ++ x := by
 cases l with
 | nil => simp at h
 | cons a r =>
  cases m with
  | zero =>
   obtain rfl : a = x := by simpa using h
   rw [if_pos rfl]
   simp [Lib.join_one]
  | succ k =>
   rw [if_neg (by omega), List.take_succ_cons, Lib.join_cons, joinTail_snoc (by simpa using h), List.take_succ_cons, Lib.join_cons]
   simp [List.append_assoc]
theorem joinTail_len {sep : List UInt8} {B : Nat} : ∀ {l : List (List UInt8)}, (∀ x ∈ l, x.length ≤ B) → (Lib.joinTail sep l).length ≤ (sep.length + B) * l.length
 | [], h => by simp [Lib.joinTail]
 | a :: r, h => by
  have h1 := joinTail_len (sep := sep) (l := r) fun x hx => h x (List.mem_cons_of_mem _ hx)
  have h2 := h a List.mem_cons_self
  unfold Lib.joinTail at h1 ⊢
  simp only [List.map_cons, List.flatten_cons, List.length_append, List.length_cons, Nat.mul_add] at h1 ⊢
  omega
theorem join_len {sep : List UInt8} {B : Nat} {l : List (List UInt8)} (h : ∀ x ∈ l, x.length ≤ B) : (Lib.join l sep).length ≤ (sep.length + B) * l.length := by
 cases l with
 | nil => simp [Lib.join_nil]
 | cons a r =>
  rw [Lib.join_cons, List.length_append, List.length_cons, Nat.mul_add]
  have h1 := joinTail_len (sep := sep) (l := r) fun x hx => h x (List.mem_cons_of_mem _ hx)
  have h2 := h a List.mem_cons_self
  omega
theorem digs_len1 {q : Nat} (h : q < 100) : (digs q).length ≤ 2 := by
 rcases Nat.eq_zero_or_pos q with rfl | h0
 ·simp [digs]
 ·rw [digs_step h0]
  rcases Nat.eq_zero_or_pos (q / 10) with h1 | h1
  ·rw [h1]; simp [digs]
  ·rw [digs_step h1]
   have : q / 10 / 10 = 0 := by omega
   rw [this]
   simp [digs]
theorem fmtN_len {n : Int} (h : n < 100) : (fmtN n).length ≤ 2 := by
 unfold fmtN
 split
 ·simp
 ·exact digs_len1 (by omega)
theorem fmtT_len (t : Int) : (fmtT t).length ≤ 2 := by
 unfold fmtT
 split
 ·simp only [List.length_take]; omega
 ·split
  ·exact fmtN_len (by omega)
  ·simp
theorem fmtT_var {t : Int} (h : 0 ≤ t ∧ t ≤ 4) : ((([120, 121, 122, 117, 118] : List UInt8).take (IntKind.i64.wrap (t + 1)).toNat).drop t.toNat) = fmtT t := by
 rw [wr64 (by omega) (by omega), List.drop_take]
 unfold fmtT
 rw [if_pos h, show (t + 1).toNat - t.toNat = 1 by omega]
theorem fmtT_con {t : Int} (h : -10 ≤ t ∧ t ≤ -1) : fmtN (IntKind.i64.wrap (-1 - t)) = fmtT t := by
 rw [wr64 (by omega) (by omega)]
 unfold fmtT
 rw [if_neg (by omega), if_pos h]
theorem fmtT_no {t : Int} (h1 : ¬ (0 ≤ t ∧ t ≤ 4)) (h2 : ¬ (-10 ≤ t ∧ t ≤ -1)) : [] = fmtT t := by
 unfold fmtT
 rw [if_neg h1, if_neg h2]
theorem flatT_len : ∀ (l : List Int), (l.flatMap fmtT).length ≤ 2 * l.length
 | [] => by simp
 | t :: r => by
  have h1 := flatT_len r
  have h2 := fmtT_len t
  simp only [List.flatMap_cons, List.length_append, List.length_cons]
  omega
theorem fmtF_step {l : List Int} {m : Nat} {x : Int} (h : l[m]? = some x) : (l.take m).flatMap fmtT ++ fmtT x = (l.take (m + 1)).flatMap fmtT := by
 rw [List.take_add_one, h]
 simp
theorem name_len {rs : Rels} {k : Nat} {z : List UInt8 × Int × Bool} (hr : relsOk rs = true) (hz : rs[k]? = some z) : z.1.length = 1 := by
 unfold relsOk at hr
 simp only [Bool.and_eq_true, decide_eq_true_eq] at hr
 have h1 := hr.1 k (List.getElem?_eq_some_iff.1 hz).1
 rw [relStep_at hz] at h1
 simp only [Bool.and_eq_true] at h1
 have h2 := h1.1
 unfold relOk at h2
 simp only [Bool.and_eq_true] at h2
 by_cases h3 : ((z.1.length : Nat) : Int) = 1
 ·omega
 ·rw [nameOk_not h3] at h2
  cases h2.1
def fmtA (rs : Rels) (a : Int × List Int) : List UInt8 := if atomOk rs a.1 a.2 = true then (rs.getD a.1.toNat ([], 0, false)).1 ++ a.2.flatMap fmtT else []
def fmtAs (rs : Rels) (l : Atoms) : List UInt8 := Lib.join (l.map (fmtA rs)) [32]
def fmtD (rs : Rels) (d : Dep) : List UInt8 := if depOk rs d.1 d.2.1 d.2.2.1 d.2.2.2.1 d.2.2.2.2 = true then (if d.2.2.1 = true then fmtAs rs d.1 ++ [61] ++ fmtT d.2.2.2.1 ++ fmtT d.2.2.2.2 else fmtAs rs d.1 ++ [62] ++ fmtAs rs d.2.1) else []
def fmtDs (rs : Rels) (ds : List Dep) : List UInt8 := if depsOk rs ds = true then Lib.join (ds.map (fmtD rs)) [59] else []
theorem fmtA_no {rs : Rels} {r : Int} {ts : List Int} (h : atomOk rs r ts = false) : [] = fmtA rs (r, ts) := by unfold fmtA; rw [if_neg (by simp [h])]
theorem fmtA_yes {rs : Rels} {r : Int} {ts : List Int} {z : List UInt8 × Int × Bool} {m : Nat} (h : atomOk rs r ts = true) (hz : rs[r.toNat]? = some z) (hm : ts.length ≤ m) : z.1 ++ (ts.take m).flatMap fmtT = fmtA rs (r, ts) := by
 unfold fmtA
 rw [if_pos h, List.take_of_length_le hm, List.getD_eq_getElem?_getD]
 show _ = (rs[r.toNat]?.getD ([], 0, false)).1 ++ _
 rw [hz]
 rfl
theorem fmtA_len {rs : Rels} (a : Int × List Int) : (fmtA rs a).length ≤ 7 := by
 unfold fmtA
 split
 ·rename_i h
  obtain ⟨hr, h0, h1, h2, z, hz, _⟩ := atomOk_rels h
  have h3 := name_len hr hz
  have h4 := flatT_len a.2
  rw [List.getD_eq_getElem?_getD, hz, List.length_append]
  simp only [Option.getD_some]
  omega
 ·simp
theorem mapT_step {α β : Type} {f : α → β} {l : List α} {m : Nat} {z : α} (h : l[m]? = some z) : (l.take m).map f ++ [f z] = (l.take (m + 1)).map f := by
 rw [List.take_add_one, h]
 simp
theorem mapT_len {α : Type} {f : α → List UInt8} {B : Nat} (hf : ∀ x, (f x).length ≤ B) (l : List α) (m : Nat) (sep : List UInt8) : (Lib.join ((l.take m).map f) sep).length ≤ (sep.length + B) * l.length := by
 have h1 := join_len (sep := sep) (B := B) (l := (l.take m).map f) fun x hx => by
  obtain ⟨y, _, rfl⟩ := List.mem_map.1 hx
  exact hf y
 refine Nat.le_trans h1 (Nat.mul_le_mul_left _ ?_)
 rw [List.length_map, List.length_take]
 omega
theorem joinT_step {α : Type} {f : α → List UInt8} {l : List α} {m : Nat} {z : α} {sep : List UInt8} (h : l[m]? = some z) (hm : 0 < m) : (Lib.join ((l.take m).map f) sep ++ sep) ++ f z = Lib.join ((l.take (m + 1)).map f) sep := by
 have h1 : (l.map f)[m]? = some (f z) := by rw [List.getElem?_map, h]; rfl
 have h2 := join_step (sep := sep) h1
 rw [if_neg (by omega), ← List.map_take, ← List.map_take] at h2
 rw [h2]
theorem joinT_step0 {α : Type} {f : α → List UInt8} {l : List α} {m : Nat} {z : α} {sep : List UInt8} (h : l[m]? = some z) (hm : ¬ 0 < m) : Lib.join ((l.take m).map f) sep ++ f z = Lib.join ((l.take (m + 1)).map f) sep := by
 obtain rfl : m = 0 := by omega
 have h1 : (l.map f)[0]? = some (f z) := by rw [List.getElem?_map, h]; rfl
 have h2 := join_step (sep := sep) h1
 rw [if_pos rfl, ← List.map_take] at h2
 rw [h2]
 rfl
theorem fmtAs_end {rs : Rels} {l : Atoms} {m : Nat} (hm : l.length ≤ m) : Lib.join ((l.take m).map (fmtA rs)) [32] = fmtAs rs l := by unfold fmtAs; rw [List.take_of_length_le hm]
theorem fmtAs_len (rs : Rels) (l : Atoms) : (fmtAs rs l).length ≤ 8 * l.length := by
 have := mapT_len (f := fmtA rs) (fun a => fmtA_len a) l l.length [32]
 rw [fmtAs_end (Nat.le_refl _)] at this
 exact this
section
variable {rs : Rels} {a0 a1 : Atoms} {a2 : Bool} {a3 a4 : Int}
theorem fmtD_no (h : depOk rs a0 a1 a2 a3 a4 = false) : [] = fmtD rs (a0, a1, a2, a3, a4) := by unfold fmtD; rw [if_neg (by simp [h])]
theorem fmtD_egd (h : depOk rs a0 a1 a2 a3 a4 = true) (h2 : a2 = true) : ((fmtAs rs a0 ++ [61]) ++ fmtT a3) ++ fmtT a4 = fmtD rs (a0, a1, a2, a3, a4) := by unfold fmtD; rw [if_pos h, if_pos h2]
theorem fmtD_tgd (h : depOk rs a0 a1 a2 a3 a4 = true) (h2 : a2 = false) : (fmtAs rs a0 ++ [62]) ++ fmtAs rs a1 = fmtD rs (a0, a1, a2, a3, a4) := by unfold fmtD; rw [if_pos h, if_neg (by simp [h2])]
theorem dep_len (h : depOk rs a0 a1 a2 a3 a4 = true) : a0.length ≤ 2 ∧ (a2 = false → a1.length ≤ 2) := by
 unfold depOk at h
 simp only [Bool.and_eq_true] at h
 have h1 := (atomsOk_all h.1).2.1
 refine ⟨by omega, fun h2 => ?_⟩
 rw [if_neg (by simp [h2])] at h
 simp only [Bool.and_eq_true] at h
 have h3 := (atomsOk_all h.2.1).2.1
 omega
end
theorem fmtD_len {rs : Rels} (d : Dep) : (fmtD rs d).length ≤ 33 := by
 unfold fmtD
 split
 ·rename_i h
  have h1 := dep_len h
  have h2 := fmtAs_len rs d.1
  have h3 := fmtAs_len rs d.2.1
  have h4 := fmtT_len d.2.2.2.1
  have h5 := fmtT_len d.2.2.2.2
  split
  ·simp only [List.length_append, List.length_cons, List.length_nil]
   omega
  ·rename_i h6
   have h7 := h1.2 (by simpa using h6)
   simp only [List.length_append, List.length_cons, List.length_nil]
   omega
 ·simp
def goP : Rels → Int → List UInt8
 | [], _ => []
 | x :: r, p => if x.2.1 ≤ p then goP r (p - x.2.1) else x.1 ++ fmtN p
def posT (rs : Rels) (p : Int) : List UInt8 := if 0 ≤ p ∧ p ≤ cntP rs - 1 then goP rs p else []
section
variable {rs : Rels} {p q i : Int} {m : Nat} {z : List UInt8 × Int × Bool}
def lowP (rs : Rels) (p : Int) (m : Nat) (i : Int) : Prop := p < 0 ∨ relsOk rs = false ∨ sumA (rs.take m) + i ≤ p ∨ sumA (rs.take (m + 1)) ≤ p
end
section
variable {rs : Rels} {ds : List Dep} {m : Nat}
theorem fmtDs_no (h : depsOk rs ds = false) : [] = fmtDs rs ds := by unfold fmtDs; rw [h]; rfl
theorem fmtDs_yes (h : depsOk rs ds = true) (hm : ds.length ≤ m) : Lib.join ((ds.take m).map (fmtD rs)) [59] = fmtDs rs ds := by unfold fmtDs; rw [if_pos h, List.take_of_length_le hm]
theorem fmtDs_nil (h : m = 0) (hx : ds.length ≤ m ∨ depsOk rs ds = false) : Lib.join ((ds.take m).map (fmtD rs)) [59] = fmtDs rs ds := by
 subst h
 rcases hx with hx | hx
 ·obtain rfl : ds = [] := List.eq_nil_of_length_eq_zero (by omega)
  unfold fmtDs
  split <;> rfl
 ·rw [← fmtDs_no hx]
  rfl
def fmtW (rs : Rels) (ds : List Dep) : List UInt8 := if depsOk rs ds = true then (if spcF rs ds = true then posT rs (spcE rs ds).1 ++ [62] ++ posT rs (spcE rs ds).2.1 else [111, 107]) else []
end
end Go.Eng
