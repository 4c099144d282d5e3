import Derived.Test.YthcggkagkihamaaGreatDoorEngZF
set_option linter.unusedVariables false
set_option linter.unusedSimpArgs false
namespace Go.Eng
open Go Go.RowKit
def relIx (rs : Rels) (n : List UInt8) : Int := idxI (fun z => decide (z.1 = n)) rs
section
variable {rs : Rels} {i j m : Nat} {y z : List UInt8 × Int × Bool}
theorem rel_step (h : relsOk rs = true) (hz : rs[j]? = some z) : relOk z = true ∧ (j = 0 ∨ ∃ y, rs[j - 1]? = some y ∧ Op.bytesLess y.1 z.1 = true) := by
 unfold relsOk at h
 simp only [Bool.and_eq_true, decide_eq_true_eq] at h
 have h1 := h.1 j (List.getElem?_eq_some_iff.1 hz).1
 unfold relStep at h1
 rw [hz] at h1
 simp only [Bool.and_eq_true, Bool.or_eq_true, decide_eq_true_eq] at h1
 refine ⟨h1.1, h1.2.imp id fun h2 => ?_⟩
 cases e : rs[j - 1]? with
 | none => rw [e] at h2; cases h2
 | some y => rw [e] at h2; exact ⟨y, rfl, h2⟩
theorem rel_char (h : relsOk rs = true) (hz : rs[j]? = some z) : ∃ c, z.1 = [c] ∧ 97 ≤ c.toNat ∧ c.toNat ≤ 122 := by
 have h1 := (rel_step h hz).1
 unfold relOk at h1
 simp only [Bool.and_eq_true] at h1
 have h2 := h1.1
 unfold nameOk at h2
 split at h2
 ·rename_i c hc
  have := of_decide_eq_true h2
  exact ⟨c, hc, by omega, by omega⟩
 ·cases h2
theorem rel_inc (h : relsOk rs = true) : ∀ (k i : Nat) {y z : List UInt8 × Int × Bool} {c d : UInt8}, rs[i]? = some y → rs[i + k + 1]? = some z → y.1 = [c] → z.1 = [d] → c.toNat < d.toNat := by
 intro k
 induction k with
 | zero =>
  intro i y z c d hy hz hc hd
  rcases (rel_step h hz).2 with e | ⟨y', e1, e2⟩
  ·omega
  ·rw [show i + 0 + 1 - 1 = i by omega, hy] at e1
   cases e1
   rw [hc, hd] at e2
   simp only [Op.bytesLess, Bool.or_eq_true, Bool.and_eq_true, decide_eq_true_eq, beq_iff_eq] at e2
   rcases e2 with e2 | e2
   ·exact UInt8.lt_iff_toNat_lt.1 e2
   ·exact absurd e2.2 (by decide)
 | succ k ih =>
  intro i y z c d hy hz hc hd
  rcases (rel_step h hz).2 with e | ⟨y', e1, e2⟩
  ·omega
  ·rw [show i + (k + 1) + 1 - 1 = i + k + 1 by omega] at e1
   obtain ⟨q, hq, _⟩ := rel_char h e1
   have := ih i hy e1 hc hq
   rw [hq, hd] at e2
   simp only [Op.bytesLess, Bool.or_eq_true, Bool.and_eq_true, decide_eq_true_eq, beq_iff_eq] at e2
   rcases e2 with e2 | e2
   ·have := UInt8.lt_iff_toNat_lt.1 e2
    omega
   ·exact absurd e2.2 (by decide)
theorem relIx_at (h : relsOk rs = true) (hz : rs[m]? = some z) : relIx rs z.1 = m := by
 unfold relIx
 refine idx_hit (fun j y hj hy => ?_) hz (by simp)
 obtain ⟨c, hc, _⟩ := rel_char h hy
 obtain ⟨d, hd, _⟩ := rel_char h hz
 have := rel_inc h (m - j - 1) j hy (by rw [show j + (m - j - 1) + 1 = m by omega]; exact hz) hc hd
 refine decide_eq_false fun e => ?_
 rw [hc, hd] at e
 cases e
 omega
end
def pAt (rs : Rels) (x : List UInt8) : Int × List Int := (relIx rs ((if x = [] then [32] else x).take 1), ((if x = [] then [32] else x).drop 1).map pT)
def rAt (rs : Rels) (x : List UInt8) : Int × List Int := (if x = [] then -1 else relIx rs (x.take 1), (x.drop 1).map fun c => tmF [c])
def pAs (rs : Rels) (s : List UInt8) : Atoms := (spl 32 s).map (pAt rs)
def rAs (rs : Rels) (s : List UInt8) : Atoms := (spl 32 s).map (rAt rs)
def alnum (c : UInt8) : Prop := (48 ≤ c.toNat ∧ c.toNat ≤ 57) ∨ (97 ≤ c.toNat ∧ c.toNat ≤ 122)
theorem flat_tb : ∀ {ts : List Int}, (∀ t ∈ ts, t ∈ tms) → ts.flatMap fmtT = ts.map tb
 | [], _ => rfl
 | t :: ts, h => by
  rw [List.flatMap_cons, List.map_cons, flat_tb (ts := ts) (fun u hu => h u (List.mem_cons_of_mem _ hu)), (tm_all t (h t (by simp))).1]
  rfl
theorem atom_rt {rs : Rels} {a : Int × List Int} (h : atomOk rs a.1 a.2 = true) : ∃ c : UInt8, fmtA rs a = c :: a.2.map tb ∧ alnum c ∧ (∀ t ∈ a.2, t ∈ tms) ∧ relIx rs [c] = a.1 := by
 obtain ⟨h1, h2, h3, _, z, hz, _⟩ := atomOk_rels h
 obtain ⟨c, hc, c1, c2⟩ := rel_char h1 hz
 have ht : ∀ t ∈ a.2, t ∈ tms := fun t ht => by
  unfold atomOk at h
  simp only [Bool.and_eq_true, Bool.not_eq_true', List.any_eq_false] at h
  have := h.2.2.2 t ht
  unfold termOk at this
  exact tm_cases (by simpa using this)
 refine ⟨c, ?_, .inr ⟨c1, c2⟩, ht, ?_⟩
 ·unfold fmtA
  rw [if_pos h, flat_tb ht, List.getD_eq_getElem?_getD, hz]
  show z.1 ++ _ = _
  rw [hc]
  rfl
 ·rw [← hc, relIx_at h1 hz]
  omega
theorem at_rt {rs : Rels} {a : Int × List Int} (h : atomOk rs a.1 a.2 = true) : pAt rs (fmtA rs a) = a ∧ rAt rs (fmtA rs a) = a ∧ ∀ x ∈ fmtA rs a, alnum x := by
 obtain ⟨c, h1, h2, h3, h4⟩ := atom_rt h
 rw [h1]
 refine ⟨?_, ?_, fun x hx => ?_⟩
 ·unfold pAt
  rw [if_neg (by simp)]
  refine Prod.ext h4 ?_
  simp only [List.drop_succ_cons, List.drop_zero, List.map_map]
  conv => rhs; rw [← List.map_id a.2]
  exact List.map_congr_left fun t ht => (tm_all t (h3 t ht)).2.1
 ·unfold rAt
  rw [if_neg (by simp)]
  refine Prod.ext h4 ?_
  simp only [List.drop_succ_cons, List.drop_zero, List.map_map]
  conv => rhs; rw [← List.map_id a.2]
  exact List.map_congr_left fun t ht => tmF_tb (h3 t ht)
 ·rcases List.mem_cons.1 hx with q | q
  ·rw [q]; exact h2
  ·obtain ⟨t, ht, rfl⟩ := List.mem_map.1 q
   exact (tm_all t (h3 t ht)).2.2
theorem mem_join {b : UInt8} : ∀ {l : List (List UInt8)} {x : UInt8}, x ∈ Lib.join l [b] → x = b ∨ ∃ y ∈ l, x ∈ y
 | [], x, h => by simp [Lib.join_nil] at h
 | [y], x, h => by rw [Lib.join_one] at h; exact .inr ⟨y, by simp, h⟩
 | y :: z :: l, x, h => by
  rw [join2] at h
  rcases List.mem_append.1 h with q | q
  ·exact .inr ⟨y, by simp, q⟩
  ·rcases List.mem_cons.1 q with q | q
   ·exact .inl q
   ·exact (mem_join q).imp id fun ⟨w, h1, h2⟩ => ⟨w, List.mem_cons_of_mem _ h1, h2⟩
theorem al_ne {c : UInt8} (h : alnum c) : c ≠ 32 ∧ c ≠ 59 ∧ c ≠ 61 ∧ c ≠ 62 := by
 refine ⟨?_, ?_, ?_, ?_⟩ <;> rintro rfl <;> (unfold alnum at h; revert h; decide)
theorem map_rt {α β : Type} {f : α → β} {g : β → α} : ∀ {l : List α}, (∀ a ∈ l, g (f a) = a) → (l.map f).map g = l
 | [], _ => rfl
 | a :: l, h => by
  rw [List.map_cons, List.map_cons, h a (by simp), map_rt fun x hx => h x (List.mem_cons_of_mem _ hx)]
theorem as_rt {rs : Rels} {l : Atoms} (hl : l ≠ []) (h : ∀ a ∈ l, atomOk rs a.1 a.2 = true) : pAs rs (fmtAs rs l) = l ∧ rAs rs (fmtAs rs l) = l ∧ ∀ x ∈ fmtAs rs l, x = 32 ∨ alnum x := by
 have hs : spl 32 (fmtAs rs l) = l.map (fmtA rs) := by
  unfold fmtAs
  refine spl_join (by simpa using hl) fun x hx => ?_
  obtain ⟨a, ha, rfl⟩ := List.mem_map.1 hx
  intro h32
  exact (al_ne ((at_rt (h a ha)).2.2 32 h32)).1 rfl
 refine ⟨?_, ?_, fun x hx => ?_⟩
 ·unfold pAs
  rw [hs]
  exact map_rt fun a ha => (at_rt (h a ha)).1
 ·unfold rAs
  rw [hs]
  exact map_rt fun a ha => (at_rt (h a ha)).2.1
 ·unfold fmtAs at hx
  refine (mem_join hx).imp id ?_
  rintro ⟨y, hy, hxy⟩
  obtain ⟨a, ha, rfl⟩ := List.mem_map.1 hy
  exact (at_rt (h a ha)).2.2 x hxy
def zeroD : Dep := ([], [], false, 0, 0)
def pD (rs : Rels) (s : List UInt8) : Dep :=
 if (Lib.cut s [62]).2.2 = true then (pAs rs (Lib.cut s [62]).1, pAs rs (Lib.cut s [62]).2.1, false, 0, 0)
 else if (Lib.cut s [61]).2.2 = true ∧ (Lib.cut s [61]).2.1.length = 2 then (pAs rs (Lib.cut s [61]).1, [], true, pT ((Lib.cut s [61]).2.1.getD 0 0), pT ((Lib.cut s [61]).2.1.getD 1 0))
 else zeroD
def rD (rs : Rels) (s : List UInt8) : Dep :=
 if (spl 61 s).length = 2 ∧ ((spl 61 s).getD 1 []).length = 2 then (rAs rs ((spl 61 s).getD 0 []), [], true, tmF (((spl 61 s).getD 1 []).take 1), tmF (((spl 61 s).getD 1 []).drop 1))
 else if (spl 62 s).length = 2 then (rAs rs ((spl 62 s).getD 0 []), rAs rs ((spl 62 s).getD 1 []), false, 0, 0)
 else zeroD
theorem atoms_of {rs : Rels} {l : Atoms} {n : Int} (h : atomsOk rs l n = true) : l ≠ [] ∧ ∀ a ∈ l, atomOk rs a.1 a.2 = true := by
 have h2 := (atomsOk_parts h).2
 unfold atomsOk at h
 simp only [Bool.and_eq_true, decide_eq_true_eq] at h
 exact ⟨fun e => by rw [e] at h; simp at h, h2⟩
theorem dep_rt {rs : Rels} {d : Dep} (h : depOk rs d.1 d.2.1 d.2.2.1 d.2.2.2.1 d.2.2.2.2 = true) : pD rs (fmtD rs d) = d ∧ rD rs (fmtD rs d) = d := by
 obtain ⟨b, hs, e, lv, rv⟩ := d
 dsimp only at h
 have hb := dep_body h
 obtain ⟨b1, b2⟩ := atoms_of hb
 obtain ⟨p1, p2, p3⟩ := as_rt b1 b2
 have n61 : (61 : UInt8) ∉ fmtAs rs b := fun hm => by
  rcases p3 61 hm with q | q
  ·exact absurd q (by decide)
  ·exact (al_ne q).2.2.1 rfl
 have n62 : (62 : UInt8) ∉ fmtAs rs b := fun hm => by
  rcases p3 62 hm with q | q
  ·exact absurd q (by decide)
  ·exact (al_ne q).2.2.2 rfl
 cases e with
 | true =>
  have h0 := h
  unfold depOk at h0
  rw [if_pos rfl] at h0
  simp only [Bool.and_eq_true, decide_eq_true_eq] at h0
  obtain ⟨_, q1, q2, q3, q4⟩ := h0
  have hs0 : hs = [] := List.eq_nil_of_length_eq_zero q1
  subst hs0
  have v1 := var_range hb q3
  have v2 := var_range hb q4
  have t1 := tm_cases (t := lv) ⟨by omega, by omega⟩
  have t2 := tm_cases (t := rv) ⟨by omega, by omega⟩
  have hf : fmtD rs (b, [], true, lv, rv) = fmtAs rs b ++ 61 :: [tb lv, tb rv] := by
   unfold fmtD
   rw [if_pos h]
   dsimp only
   rw [if_pos rfl, (tm_all lv t1).1, (tm_all rv t2).1]
   simp
  have a1 := al_ne ((tm_all lv t1).2.2 : alnum _)
  have a2 := al_ne ((tm_all rv t2).2.2 : alnum _)
  have m62 : (62 : UInt8) ∉ fmtAs rs b ++ 61 :: [tb lv, tb rv] := by
   simp only [List.mem_append, List.mem_cons, List.not_mem_nil, or_false, not_or]
   exact ⟨n62, by decide, Ne.symm a1.2.2.2, Ne.symm a2.2.2.2⟩
  have m61 : (61 : UInt8) ∉ [tb lv, tb rv] := by
   simp only [List.mem_cons, List.not_mem_nil, or_false, not_or]
   exact ⟨Ne.symm a1.2.2.1, Ne.symm a2.2.2.1⟩
  rw [hf]
  refine ⟨?_, ?_⟩
  ·unfold pD
   rw [cut_no m62, cut_at n61]
   rw [if_neg (by simp), if_pos (by simp)]
   simp only [List.getD_cons_zero, List.getD_cons_succ, p1, (tm_all lv t1).2.1, (tm_all rv t2).2.1]
  ·unfold rD
   rw [spl_app n61, spl_no m61]
   rw [if_pos (by simp)]
   simp only [List.getD_cons_zero, List.getD_cons_succ, p2, List.take_succ_cons, List.take_zero, List.drop_succ_cons, List.drop_zero, tmF_tb t1, tmF_tb t2]
 | false =>
  have h0 := h
  unfold depOk at h0
  rw [if_neg (by simp)] at h0
  simp only [Bool.and_eq_true, decide_eq_true_eq] at h0
  obtain ⟨_, q1, q2, q3, _⟩ := h0
  subst q2 q3
  obtain ⟨k1, k2⟩ := atoms_of q1
  obtain ⟨r1, r2, r3⟩ := as_rt k1 k2
  have hf : fmtD rs (b, hs, false, 0, 0) = fmtAs rs b ++ 62 :: fmtAs rs hs := by
   unfold fmtD
   rw [if_pos h]
   dsimp only
   rw [if_neg (by simp)]
   simp
  have m61 : (61 : UInt8) ∉ fmtAs rs b ++ 62 :: fmtAs rs hs := by
   simp only [List.mem_append, List.mem_cons, not_or]
   refine ⟨n61, by decide, fun hm => ?_⟩
   rcases r3 61 hm with q | q
   ·exact absurd q (by decide)
   ·exact (al_ne q).2.2.1 rfl
  have m62 : (62 : UInt8) ∉ fmtAs rs hs := fun hm => by
   rcases r3 62 hm with q | q
   ·exact absurd q (by decide)
   ·exact (al_ne q).2.2.2 rfl
  rw [hf]
  refine ⟨?_, ?_⟩
  ·unfold pD
   rw [cut_at n62, if_pos rfl, p1, r1]
  ·unfold rD
   rw [spl_no m61, spl_app n62, spl_no m62]
   rw [if_neg (by simp), if_pos (by simp)]
   simp only [List.getD_cons_zero, List.getD_cons_succ, p2, r2]
def parD (p : List UInt8 → Dep) (rs : Rels) (s : List UInt8) : Dep × Bool := if s ≠ [] ∧ fmtD rs (p s) = s then (p s, true) else (zeroD, false)
theorem fmt_dep {rs : Rels} {d : Dep} (h : fmtD rs d ≠ []) : depOk rs d.1 d.2.1 d.2.2.1 d.2.2.2.1 d.2.2.2.2 = true := by
 cases e : depOk rs d.1 d.2.1 d.2.2.1 d.2.2.2.1 d.2.2.2.2
 ·refine absurd ?_ h
  unfold fmtD
  rw [e, if_neg (by simp)]
 ·rfl
theorem par_eq (rs : Rels) (s : List UInt8) : parD (pD rs) rs s = parD (rD rs) rs s := by
 unfold parD
 by_cases h1 : s ≠ [] ∧ fmtD rs (pD rs s) = s
 ·have hd := (dep_rt (fmt_dep (by rw [h1.2]; exact h1.1))).2
  rw [h1.2] at hd
  rw [if_pos h1, if_pos ⟨h1.1, by rw [hd]; exact h1.2⟩, hd]
 ·rw [if_neg h1]
  by_cases h2 : s ≠ [] ∧ fmtD rs (rD rs s) = s
  ·have hd := (dep_rt (fmt_dep (by rw [h2.2]; exact h2.1))).1
   rw [h2.2] at hd
   exact absurd ⟨h2.1, by rw [hd]; exact h2.2⟩ h1
  ·rw [if_neg h2]
section
variable {b c : UInt8}
theorem spl_sep : ∀ x : List UInt8, spl b (x ++ [b]) = spl b x ++ [[]]
 | [] => by simp [spl]
 | d :: x => by
  have ih := spl_sep x
  rw [List.cons_append]
  by_cases e : d = b
  ·rw [spl, if_pos e, ih, spl, if_pos e]
   rfl
  ·obtain ⟨y, ys, h1, h2⟩ := spl_cons (s := x) e
   rw [spl, if_neg e, ih, h1, h2]
   rfl
theorem spl_ch (h : c ≠ b) : ∀ {x : List UInt8} {L : List (List UInt8)} {y : List UInt8}, spl b x = L ++ [y] → spl b (x ++ [c]) = L ++ [y ++ [c]]
 | [], L, y, e => by
  have : L = [] ∧ y = [] := by
   cases L with
   | nil => simp [spl] at e; exact ⟨rfl, e⟩
   | cons z L => simp [spl] at e
  obtain ⟨rfl, rfl⟩ := this
  simp [spl, h]
 | d :: x, L, y, e => by
  rw [List.cons_append]
  by_cases q : d = b
  ·rw [spl, if_pos q] at e ⊢
   cases L with
   | nil =>
    simp only [List.nil_append, List.cons.injEq] at e
    exact absurd e.2 (spl_ne x)
   | cons z L =>
    simp only [List.cons_append, List.cons.injEq] at e ⊢
    exact ⟨e.1, spl_ch h e.2⟩
  ·obtain ⟨w, ws, h1, h2⟩ := spl_cons (s := x) q
   rw [h2] at e
   cases L with
   | nil =>
    simp only [List.nil_append, List.cons.injEq] at e
    obtain ⟨e1, e2⟩ := e
    have h3 := spl_ch h (x := x) (L := []) (y := w) (by rw [h1, e2]; rfl)
    rw [spl, if_neg q, h3, ← e1]
    rfl
   | cons z L =>
    simp only [List.cons_append, List.cons.injEq] at e
    obtain ⟨e1, e2⟩ := e
    have h3 := spl_ch h (x := x) (L := w :: L) (y := y) (by rw [h1, e2]; rfl)
    rw [spl, if_neg q, h3, ← e1]
    rfl
end
def cutK (b : UInt8) (s : List UInt8) (L : List (List UInt8)) (st m : Nat) : Prop := spl b (s.take m) = L ++ [(s.take m).drop st] ∧ st ≤ m ∧ m ≤ s.length
section
variable {b c : UInt8} {s : List UInt8} {L : List (List UInt8)} {st m : Nat}
theorem cut0 : cutK b s [] 0 0 := ⟨by simp [spl], Nat.le_refl _, Nat.zero_le _⟩
theorem cut_sep (h : cutK b s L st m) (hz : s[m]? = some c) (e : c = b) : cutK b s (L ++ [(s.take m).drop st]) (m + 1) (m + 1) := by
 obtain ⟨h1, h2, h3⟩ := h
 have hlt := (List.getElem?_eq_some_iff.1 hz).1
 subst e
 refine ⟨?_, Nat.le_refl _, hlt⟩
 rw [List.take_add_one, hz]
 simp only [Option.toList_some]
 rw [spl_sep, h1]
 congr 1
 rw [List.drop_eq_nil_of_le (by simp; omega)]
theorem cut_ch (h : cutK b s L st m) (hz : s[m]? = some c) (e : c ≠ b) : cutK b s L st (m + 1) := by
 obtain ⟨h1, h2, h3⟩ := h
 have hlt := (List.getElem?_eq_some_iff.1 hz).1
 refine ⟨?_, by omega, hlt⟩
 rw [List.take_add_one, hz]
 simp only [Option.toList_some]
 rw [spl_ch e h1, List.drop_append_of_le_length (by rw [List.length_take]; omega)]
theorem cut_end (h : cutK b s L st m) (hm : s.length ≤ m) : L ++ [s.drop st] = spl b s := by
 have h1 := h.1
 rw [List.take_of_length_le hm] at h1
 exact h1.symm
end
theorem tmF_hit {s : List UInt8} {k : Nat} (hk : k < 15) (hn : ∀ j : Nat, j < k → fmtT ((j : Int) - 10) ≠ s) (h : fmtT ((k : Int) - 10) = s) : tmF s = (k : Int) - 10 := by
 have ht : ∀ j : Nat, j < 15 → tms[j]? = some ((j : Int) - 10) := by
  intro j hj
  have : j = 0 ∨ j = 1 ∨ j = 2 ∨ j = 3 ∨ j = 4 ∨ j = 5 ∨ j = 6 ∨ j = 7 ∨ j = 8 ∨ j = 9 ∨ j = 10 ∨ j = 11 ∨ j = 12 ∨ j = 13 ∨ j = 14 := by omega
  rcases this with rfl | rfl | rfl | rfl | rfl | rfl | rfl | rfl | rfl | rfl | rfl | rfl | rfl | rfl | rfl <;> rfl
 have hl : tms.length = 15 := rfl
 unfold tmF
 have : tms.find? (fun t => decide (fmtT t = s)) = some ((k : Int) - 10) := by
  rw [List.find?_eq_some_iff_getElem]
  refine ⟨decide_eq_true h, k, by omega, ?_, fun j hj => ?_⟩
  ·have := ht k hk
   rw [List.getElem?_eq_getElem (by omega)] at this
   exact Option.some.inj this
  ·have := ht j (by omega)
   rw [List.getElem?_eq_getElem (by omega)] at this
   rw [Option.some.inj this]
   simpa using hn j hj
 rw [this]
 rfl
theorem tmF_none {s : List UInt8} {k : Nat} (hk : 15 ≤ k) (hn : ∀ j : Nat, j < k → fmtT ((j : Int) - 10) ≠ s) : tmF s = 5 := by
 unfold tmF
 have : tms.find? (fun t => decide (fmtT t = s)) = none := by
  rw [List.find?_eq_none]
  intro t ht
  unfold tms at ht
  simp only [List.mem_cons, List.not_mem_nil, or_false] at ht
  have := hn (t + 10).toNat (by omega)
  rw [show (((t + 10).toNat : Nat) : Int) - 10 = t by omega] at this
  simpa using this
 rw [this]
 rfl
theorem pD_1 {rs : Rels} {s : List UInt8} (h : (Lib.cut s [62]).2.2 = true) : pD rs s = (pAs rs (Lib.cut s [62]).1, pAs rs (Lib.cut s [62]).2.1, false, 0, 0) := if_pos h
theorem pD_2 {rs : Rels} {s : List UInt8} (h : ¬ (Lib.cut s [62]).2.2 = true) (h2 : (Lib.cut s [61]).2.2 = true ∧ (Lib.cut s [61]).2.1.length = 2) : pD rs s = (pAs rs (Lib.cut s [61]).1, [], true, pT ((Lib.cut s [61]).2.1.getD 0 0), pT ((Lib.cut s [61]).2.1.getD 1 0)) := by unfold pD; rw [if_neg h, if_pos h2]
theorem pD_3 {rs : Rels} {s : List UInt8} (h : ¬ (Lib.cut s [62]).2.2 = true) (h2 : ¬ ((Lib.cut s [61]).2.2 = true ∧ (Lib.cut s [61]).2.1.length = 2)) : pD rs s = zeroD := by unfold pD; rw [if_neg h, if_neg h2]
theorem parD_yes {p : List UInt8 → Dep} {rs : Rels} {s : List UInt8} (h : s ≠ []) (h2 : fmtD rs (p s) = s) : parD p rs s = (p s, true) := if_pos ⟨h, h2⟩
def u8 (i : Int) : UInt8 := UInt8.ofNat i.toNat
theorem u8_nat (c : UInt8) : u8 (c.toNat : Int) = c := by unfold u8; simp
theorem u8_to {i : Int} (h : 0 ≤ i ∧ i < 256) : ((u8 i).toNat : Int) = i := by unfold u8; simp; omega
theorem u8_is {c : UInt8} {i : Int} (h : (c.toNat : Int) = i) : c = u8 i := by rw [← h, u8_nat]
theorem u8_not {c : UInt8} {i : Int} (hi : 0 ≤ i ∧ i < 256) (h : ¬ (c.toNat : Int) = i) : c ≠ u8 i := fun e => h (by rw [e, u8_to hi])
theorem pT_dig {i : Int} (hi : 0 ≤ i ∧ i < 256) (h : 48 ≤ i ∧ i ≤ 57) : pT (u8 i) = -1 - (i - 48) := by unfold pT; rw [u8_to hi, if_pos h]
theorem pT_var {i : Int} (hi : 0 ≤ i ∧ i < 256) (h : ¬ (48 ≤ i ∧ i ≤ 57)) (h2 : 0 ≤ Lib.indexByte [120, 121, 122, 117, 118] (u8 i)) : pT (u8 i) = Lib.indexByte [120, 121, 122, 117, 118] (u8 i) := by unfold pT; rw [u8_to hi, if_neg h, if_pos h2]
theorem pT_no {i : Int} (hi : 0 ≤ i ∧ i < 256) (h : ¬ (48 ≤ i ∧ i ≤ 57)) (h2 : ¬ 0 ≤ Lib.indexByte [120, 121, 122, 117, 118] (u8 i)) : pT (u8 i) = 5 := by unfold pT; rw [u8_to hi, if_neg h, if_neg h2]
theorem spl_len {b : UInt8} : ∀ {s : List UInt8}, (spl b s).length ≤ s.length + 1
 | [] => by simp [spl]
 | c :: s => by
  have ih := spl_len (b := b) (s := s)
  by_cases e : c = b
  ·rw [spl, if_pos e, List.length_cons, List.length_cons]
   omega
  ·obtain ⟨x, xs, h1, h2⟩ := spl_cons (s := s) e
   rw [h1] at ih
   rw [h2, List.length_cons, List.length_cons]
   rw [List.length_cons] at ih
   omega
theorem spl_mem {b : UInt8} : ∀ {s x : List UInt8}, x ∈ spl b s → x.length ≤ s.length
 | [], x, h => by simp [spl] at h; simp [h]
 | c :: s, x, h => by
  by_cases e : c = b
  ·rw [spl, if_pos e] at h
   rcases List.mem_cons.1 h with q | q
   ·simp [q]
   ·have := spl_mem q
    rw [List.length_cons]
    omega
  ·obtain ⟨y, ys, h1, h2⟩ := spl_cons (s := s) e
   rw [h2] at h
   rcases List.mem_cons.1 h with q | q
   ·have := spl_mem (b := b) (s := s) (x := y) (by rw [h1]; simp)
    rw [q, List.length_cons, List.length_cons]
    omega
   ·have := spl_mem (b := b) (s := s) (x := x) (by rw [h1]; exact List.mem_cons_of_mem _ q)
    rw [List.length_cons]
    omega
theorem getD_some {α : Type} {l : List α} {m : Nat} {d : α} (h : m < l.length) : l[m]? = some (l.getD m d) := by
 rw [List.getD_eq_getElem?_getD, List.getElem?_eq_getElem h]
 rfl
theorem boxI {a b : Int} {r : AC} (h : a = b) : some (Ob.box [.t none (.v (.int .i64 a)), r]) = some (Ob.box [.t none (.v (.int .i64 b)), r]) := by rw [h]
theorem rd_step {rs : Rels} {P : List (List UInt8)} {m n : Nat} {x : List UInt8} (hz : P[m]? = some x) (hn : x.length ≤ n) (hn2 : n ≤ x.length) : (P.take m).map (rAt rs) ++ [(if n = 0 then -1 else relIx rs (x.take 1), ((x.take n).drop 1).map fun c => tmF [c])] = (P.take (m + 1)).map (rAt rs) := by
 have e1 : P.take (m + 1) = P.take m ++ [x] := by rw [List.take_add_one, hz]; rfl
 rw [e1, List.map_append, List.take_of_length_le hn]
 congr 1
 simp only [List.map_cons, List.map_nil]
 congr 1
 unfold rAt
 by_cases e : x = []
 ·subst e
  have h0 : n = 0 := Nat.le_zero.1 hn2
  subst h0
  simp
 ·by_cases h0 : n = 0
  ·exact absurd (List.eq_nil_of_length_eq_zero (by omega)) e
  ·rw [if_neg e, if_neg h0]
theorem rd_char {x : List UInt8} {n : Nat} (h0 : n ≠ 0) (hn : n < x.length) : ((x.take n).drop 1).map (fun c => tmF [c]) ++ [tmF ((x.take (n + 1)).drop n)] = ((x.take (n + 1)).drop 1).map fun c => tmF [c] := by
 have hz : x[n]? = some x[n] := List.getElem?_eq_getElem hn
 have e1 : x.take (n + 1) = x.take n ++ [x[n]] := by rw [List.take_add_one, hz]; rfl
 have hl : (x.take n).length = n := by rw [List.length_take]; omega
 have e2 : (x.take n ++ [x[n]]).drop 1 = (x.take n).drop 1 ++ [x[n]] := List.drop_append_of_le_length (by omega)
 have e3 : (x.take n ++ [x[n]]).drop n = [x[n]] := by
  rw [List.drop_append_of_le_length (by omega), List.drop_eq_nil_of_le (by omega)]
  rfl
 rw [e1, e2, e3, List.map_append]
 rfl
theorem rd_one {x : List UInt8} : ((x.take 1).drop 1).map (fun c => tmF [c]) = ((x.take 0).drop 1).map fun c => tmF [c] := by
 rw [List.drop_eq_nil_of_le (by rw [List.length_take]; omega)]
 rfl
theorem rd_zero {x : List UInt8} {n : Nat} (h : n = 0) : ((x.take n).drop 1).map (fun c => tmF [c]) = ((x.take (n + 1)).drop 1).map fun c => tmF [c] := by
 subst h
 exact rd_one.symm
theorem wrN {n : Nat} (h : n ≤ 4611686018427387904) : (IntKind.i64.wrap ((n : Int) + 1)).toNat = n + 1 := by
 rw [wr64 (by omega) (by omega)]
 rfl
section
variable {rs : Rels} {s z0 z1 : List UInt8}
theorem getD_is {α : Type} {l : List α} {m : Nat} {d z : α} (h : l[m]? = some z) : l.getD m d = z := by rw [List.getD_eq_getElem?_getD, h]; rfl
theorem rD_a (h1 : (spl (u8 61) s).length = 2) (k0 : (spl (u8 61) s)[0]? = some z0) (k1 : (spl (u8 61) s)[1]? = some z1) (h2 : z1.length = 2) : rD rs s = (rAs rs z0, [], true, tmF (z1.take 1), tmF (z1.drop 1)) := by
 have e : u8 61 = 61 := rfl
 rw [e] at h1 k0 k1
 unfold rD
 rw [if_pos ⟨h1, by rw [getD_is k1]; exact h2⟩, getD_is k0, getD_is k1]
theorem rD_n1 (h1 : ¬ (spl (u8 61) s).length = 2) : ¬ ((spl (u8 61) s).length = 2 ∧ ((spl (u8 61) s).getD 1 []).length = 2) := fun h => h1 h.1
theorem rD_n2 (k1 : (spl (u8 61) s)[1]? = some z1) (h2 : ¬ z1.length = 2) : ¬ ((spl (u8 61) s).length = 2 ∧ ((spl (u8 61) s).getD 1 []).length = 2) := fun h => h2 (by have := h.2; rw [getD_is k1] at this; exact this)
theorem rD_b (h : ¬ ((spl (u8 61) s).length = 2 ∧ ((spl (u8 61) s).getD 1 []).length = 2)) (h1 : (spl (u8 62) s).length = 2) (k0 : (spl (u8 62) s)[0]? = some z0) (k1 : (spl (u8 62) s)[1]? = some z1) : rD rs s = (rAs rs z0, rAs rs z1, false, 0, 0) := by
 have e : u8 61 = 61 := rfl
 have e2 : u8 62 = 62 := rfl
 rw [e] at h
 rw [e2] at h1 k0 k1
 unfold rD
 rw [if_neg h, if_pos h1, getD_is k0, getD_is k1]
theorem rD_c (h : ¬ ((spl (u8 61) s).length = 2 ∧ ((spl (u8 61) s).getD 1 []).length = 2)) (h1 : ¬ (spl (u8 62) s).length = 2) : rD rs s = ([], [], false, 0, 0) := by
 have e : u8 61 = 61 := rfl
 have e2 : u8 62 = 62 := rfl
 rw [e] at h
 rw [e2] at h1
 unfold rD
 rw [if_neg h, if_neg h1]
 rfl
theorem par_is {p : List UInt8 → Dep} {d : Dep} (hp : p s = d) : (s ≠ [] ∧ fmtD rs d = s → parD p rs s = (d, true)) ∧ (¬ (s ≠ [] ∧ fmtD rs d = s) → parD p rs s = (([], [], false, 0, 0), false)) := by
 subst hp
 exact ⟨fun h => if_pos h, fun h => if_neg h⟩
end
def pel (rs : Rels) (P : List (List UInt8)) : Nat := (P.map List.length).sum
theorem szS_map {α β : Type} {f : β → Nat} {g : α → β} {h : α → Nat} (hh : ∀ a, f (g a) ≤ h a) : ∀ l : List α, szS f (l.map g) ≤ l.length + (l.map h).sum
 | [] => by simp [szS]
 | a :: l => by
  have ih := szS_map hh l
  have := hh a
  unfold szS at ih ⊢
  simp only [List.map_cons, List.sum_cons, List.length_cons] at ih ⊢
  omega
theorem spl_sum {b : UInt8} : ∀ {s : List UInt8}, (spl b s).length + ((spl b s).map List.length).sum = s.length + 1
 | [] => by simp [spl]
 | c :: s => by
  have ih := spl_sum (b := b) (s := s)
  by_cases e : c = b
  ·rw [spl, if_pos e]
   simp only [List.length_cons, List.map_cons, List.sum_cons, List.length_nil]
   omega
  ·obtain ⟨x, xs, h1, h2⟩ := spl_cons (s := s) e
   rw [h1] at ih
   rw [h2]
   simp only [List.length_cons, List.map_cons, List.sum_cons] at ih ⊢
   omega
theorem rAs_sz {rs : Rels} {s : List UInt8} : szS (fun (x : Int × (List (Int))) => (x.2).length) (rAs rs s) ≤ s.length + 1 := by
 have h := szS_map (f := fun (x : Int × (List (Int))) => (x.2).length) (g := rAt rs) (h := List.length) (fun x => by unfold rAt; simp) (spl 32 s)
 have := spl_sum (b := 32) (s := s)
 unfold rAs
 omega
theorem pAs_sz {rs : Rels} {s : List UInt8} : szS (fun (x : Int × (List (Int))) => (x.2).length) (pAs rs s) ≤ s.length + 1 := by
 have h := szS_map (f := fun (x : Int × (List (Int))) => (x.2).length) (g := pAt rs) (h := List.length) (fun x => by unfold pAt; split <;> simp) (spl 32 s)
 have := spl_sum (b := 32) (s := s)
 unfold pAs
 omega
theorem tmF_ok (s : List UInt8) : -10 ≤ tmF s ∧ tmF s ≤ 5 := by
 unfold tmF
 cases h : tms.find? fun t => decide (fmtT t = s) with
 | none => simp
 | some t =>
  have := List.mem_of_find?_eq_some h
  unfold tms at this
  simp only [List.mem_cons, List.not_mem_nil, or_false] at this
  show -10 ≤ t ∧ t ≤ 5
  omega
theorem ixb_lt : ∀ (l : List UInt8) (c : UInt8), Lib.indexByte l c < l.length
 | [], c => by simp [Lib.indexByte]
 | b :: l, c => by
  have := ixb_lt l c
  unfold Lib.indexByte
  split
  ·simp only [List.length_cons]; omega
  ·split
   ·simp only [List.length_cons]; omega
   ·simp only [List.length_cons]; omega
theorem pT_ok (c : UInt8) : -10 ≤ pT c ∧ pT c ≤ 5 := by
 unfold pT
 have := ixb_lt [120, 121, 122, 117, 118] c
 simp only [List.length_cons, List.length_nil] at this
 split
 ·omega
 ·split
  ·omega
  ·omega
theorem rAs_ok {rs : Rels} {s : List UInt8} : ∀ z ∈ rAs rs s, ∀ x ∈ z.2, okI x := fun z hz x hx => by
 unfold rAs at hz
 obtain ⟨y, _, rfl⟩ := List.mem_map.1 hz
 unfold rAt at hx
 obtain ⟨c, _, rfl⟩ := List.mem_map.1 hx
 have := tmF_ok [c]
 unfold okI
 omega
theorem pAs_ok {rs : Rels} {s : List UInt8} : ∀ z ∈ pAs rs s, ∀ x ∈ z.2, okI x := fun z hz x hx => by
 unfold pAs at hz
 obtain ⟨y, _, rfl⟩ := List.mem_map.1 hz
 unfold pAt at hx
 obtain ⟨c, _, rfl⟩ := List.mem_map.1 hx
 have := pT_ok c
 unfold okI
 omega
theorem tmF_okI (s : List UInt8) : okI (tmF s) := by
 have := tmF_ok s
 unfold okI
 omega
theorem pT_okI (c : UInt8) : okI (pT c) := by
 have := pT_ok c
 unfold okI
 omega
theorem rAs_in {rs : Rels} {b : UInt8} {s z : List UInt8} {k : Nat} (h : (spl b s)[k]? = some z) : szS (fun (x : Int × (List (Int))) => (x.2).length) (rAs rs z) ≤ s.length + 1 := by
 have h1 := rAs_sz (rs := rs) (s := z)
 have h2 := spl_mem (List.mem_of_getElem? h)
 omega
theorem szS_nil {α : Type} {f : α → Nat} : szS f [] = 0 := rfl
theorem two_len {b : UInt8} {s z0 z1 : List UInt8} (h : (spl b s).length = 2) (k0 : (spl b s)[0]? = some z0) (k1 : (spl b s)[1]? = some z1) : z0.length + z1.length + 1 = s.length := by
 have := spl_sum (b := b) (s := s)
 match hs : spl b s, h with
 | [x, y], _ =>
  rw [hs] at k0 k1 this
  cases k0
  cases k1
  simp at this
  omega
theorem rAs_two {rs : Rels} {b : UInt8} {s z0 z1 : List UInt8} (h : (spl b s).length = 2) (k0 : (spl b s)[0]? = some z0) (k1 : (spl b s)[1]? = some z1) : szS (fun (x : Int × (List (Int))) => (x.2).length) (rAs rs z0) + szS (fun (x : Int × (List (Int))) => (x.2).length) (rAs rs z1) ≤ s.length + 1 := by
 have h1 := two_len h k0 k1
 have h2 := rAs_sz (rs := rs) (s := z0)
 have h3 := rAs_sz (rs := rs) (s := z1)
 omega
theorem atoms_small {rs : Rels} {l : Atoms} {n : Int} (h : atomsOk rs l n = true) (hn : n ≤ 3) : szS (fun (x : Int × (List (Int))) => (x.2).length) l ≤ 12 := by
 obtain ⟨h1, h2⟩ := atomsOk_parts h
 have h3 : ∀ a ∈ l, a.2.length ≤ 3 := fun a ha => (atomOk_rels (h2 a ha)).2.2.2.1
 have key : ∀ m : Atoms, (∀ a ∈ m, a.2.length ≤ 3) → (m.map (fun (x : Int × (List (Int))) => (x.2).length)).sum ≤ 3 * m.length := by
  intro m
  induction m with
  | nil => intro _; simp
  | cons a m ih =>
   intro hm
   have i1 := ih fun x hx => hm x (List.mem_cons_of_mem _ hx)
   have i2 := hm a (by simp)
   simp only [List.map_cons, List.sum_cons, List.length_cons]
   omega
 have := key l h3
 unfold szS
 omega
theorem dep_small {rs : Rels} {d : Dep} (h : depOk rs d.1 d.2.1 d.2.2.1 d.2.2.2.1 d.2.2.2.2 = true) : szS (fun (x : Int × (List (Int))) => (x.2).length) d.1 ≤ 12 ∧ szS (fun (x : Int × (List (Int))) => (x.2).length) d.2.1 ≤ 12 := by
 refine ⟨atoms_small (dep_body h) (by omega), ?_⟩
 unfold depOk at h
 simp only [Bool.and_eq_true] at h
 obtain ⟨_, h2⟩ := h
 split at h2
 ·simp only [Bool.and_eq_true, decide_eq_true_eq] at h2
  rw [List.eq_nil_of_length_eq_zero h2.1]
  simp [szS]
 ·simp only [Bool.and_eq_true] at h2
  exact atoms_small h2.1 (by omega)
theorem par_small (p : List UInt8 → Dep) (rs : Rels) (s : List UInt8) : szS (fun (x : Int × (List (Int))) => (x.2).length) (parD p rs s).1.1 ≤ 12 ∧ szS (fun (x : Int × (List (Int))) => (x.2).length) (parD p rs s).1.2.1 ≤ 12 := by
 unfold parD
 split
 ·rename_i h
  exact dep_small (fmt_dep (by rw [h.2]; exact h.1))
 ·unfold zeroD
  simp [szS]
theorem ne_len {z : List UInt8} (h : decide (z = []) = false) : 1 ≤ z.length := by
 have := of_decide_eq_false h
 cases z with
 | nil => exact absurd rfl this
 | cons a z => simp
theorem pd_char {x : List UInt8} {n : Nat} {c : UInt8} (h0 : 1 ≤ n) (hz : x[n]? = some c) : ((x.take n).drop 1).map pT ++ [pT (u8 (c.toNat : Int))] = ((x.take (n + 1)).drop 1).map pT := by
 have hn := (List.getElem?_eq_some_iff.1 hz).1
 have e1 : x.take (n + 1) = x.take n ++ [c] := by rw [List.take_add_one, hz]; rfl
 have hl : (x.take n).length = n := by rw [List.length_take]; omega
 have e2 : (x.take n ++ [c]).drop 1 = (x.take n).drop 1 ++ [c] := List.drop_append_of_le_length (by omega)
 rw [e1, e2, List.map_append, u8_nat]
 rfl
theorem pd_step {rs : Rels} {P : List (List UInt8)} {m n : Nat} {x : List UInt8} (hz : P[m]? = some x) (h : decide (x = []) = false) (hn : x.length ≤ n) : (P.take m).map (pAt rs) ++ [(relIx rs (x.take 1), ((x.take n).drop 1).map pT)] = (P.take (m + 1)).map (pAt rs) := by
 have e1 : P.take (m + 1) = P.take m ++ [x] := by rw [List.take_add_one, hz]; rfl
 rw [e1, List.map_append, List.take_of_length_le hn]
 congr 1
 unfold pAt
 simp only [List.map_cons, List.map_nil]
 rw [if_neg (of_decide_eq_false h)]
theorem pd_step0 {rs : Rels} {P : List (List UInt8)} {m n : Nat} {x : List UInt8} (hz : P[m]? = some x) (h : decide (x = []) = true) : (P.take m).map (pAt rs) ++ [(relIx rs (([32] : List UInt8).take 1), ((([32] : List UInt8).take n).drop 1).map pT)] = (P.take (m + 1)).map (pAt rs) := by
 have e1 : P.take (m + 1) = P.take m ++ [x] := by rw [List.take_add_one, hz]; rfl
 have hx : x = [] := of_decide_eq_true h
 subst hx
 have e2 : (([32] : List UInt8).take n).drop 1 = [] := List.drop_eq_nil_of_le (by rw [List.length_take]; simp; omega)
 rw [e1, List.map_append, e2]
 rfl
theorem u8_rng (c : UInt8) : 0 ≤ (c.toNat : Int) ∧ (c.toNat : Int) < 256 := by
 have := c.toNat_lt
 omega
theorem piece_len {b : UInt8} {s z : List UInt8} {k : Nat} (h : (spl b s)[k]? = some z) : z.length ≤ s.length := spl_mem (List.mem_of_getElem? h)
theorem pd_init {x : List UInt8} : [] = ((x.take 1).drop 1).map pT := by
 rw [List.drop_eq_nil_of_le (by rw [List.length_take]; omega)]
 rfl
theorem cut_len {b : UInt8} {s : List UInt8} : (Lib.cut s [b]).1.length + (Lib.cut s [b]).2.1.length ≤ s.length ∧ ((Lib.cut s [b]).2.2 = true → (Lib.cut s [b]).1.length + (Lib.cut s [b]).2.1.length + 1 = s.length) := by
 by_cases h : b ∈ s
 ·obtain ⟨x, r, rfl, hx⟩ := first_of h
  rw [cut_at hx]
  simp
  omega
 ·rw [cut_no h]
  simp
theorem pDa {rs : Rels} {s : List UInt8} {c0 c1 : UInt8} (h : (Lib.cut s [62]).2.2 = false) (g : (Lib.cut s [61]).2.2 = true) (h2 : (Lib.cut s [61]).2.1.length = 2) (k0 : (Lib.cut s [61]).2.1[0]? = some c0) (k1 : (Lib.cut s [61]).2.1[1]? = some c1) : pD rs s = (pAs rs (Lib.cut s [61]).1, [], true, pT (u8 (c0.toNat : Int)), pT (u8 (c1.toNat : Int))) := by
 rw [pD_2 (by rw [h]; decide) ⟨g, h2⟩, getD_is k0, getD_is k1, u8_nat, u8_nat]
theorem pDz {rs : Rels} {s : List UInt8} (h : (Lib.cut s [62]).2.2 = false) (g : (Lib.cut s [61]).2.2 = false ∨ ¬ (Lib.cut s [61]).2.1.length = 2) : pD rs s = ([], [], false, 0, 0) := by
 rw [pD_3 (by rw [h]; decide)]
 ·rfl
 ·rintro ⟨g1, g2⟩
  rcases g with g | g
  ·rw [g] at g1; cases g1
  ·exact g g2
end Go.Eng
