/- The engine, part I: structs compared; models: positions, the graph of positions. -/
import Derived.Test.YtjjoopbebildfaaGreatDoorEngH
import Derived.Laws.StructEq
set_option linter.unusedVariables false
set_option linter.unusedSimpArgs false
namespace Go.Eng
open Go Go.RowKit
def EqS (P : Program) (op : BinOp) (t : TypeId) (xs ys : List Value) (v : Value) : Prop :=
  v.oneCell' = true ∧ ∀ (x y : Operand) (w : World), ((do eqGuard op t x y (.agg xs.toArray) (.agg ys.toArray); binOp op t (.agg xs.toArray) (.agg ys.toArray)) : Sem Value).run P w = .ok v w
section rules
variable {cx : Cx} {s : St} {dst : Option Nat} {ty : TypeId} {pos : String} {aft : Array Edge}
theorem agg3_den {E : Nat → EE} {S : Nat → Prop} {w : World} {a b c u : Value} (h : denV E S w (.agg [.t none (.v a), .t none (.v b), .t none (.v c)]) u) : u = .agg [a, b, c].toArray := by
  obtain ⟨us, rfl, hl, h⟩ := h
  match us, hl with
  | [x, y, z], _ =>
    obtain ⟨x', e1, q1⟩ := h 0 _ rfl
    obtain ⟨y', e2, q2⟩ := h 1 _ rfl
    obtain ⟨z', e3, q3⟩ := h 2 _ rfl
    cases e1; cases e2; cases e3
    rw [q1.2.1, q2.2.1, q3.2.1]
theorem p_eqA {op : BinOp} {t yt : TypeId} {x y : Operand} {a1 a2 a3 b1 b2 b3 v : Value} (hx : s.ev x = some (.agg [.t none (.v a1), .t none (.v a2), .t none (.v a3)])) (hy : s.ev y = some (.agg [.t none (.v b1), .t none (.v b2), .t none (.v b3)])) (hv : EqS cx.P op t [a1, a2, a3] [b1, b2, b3] v) :
    Ps cx s (.binOp op t x y yt) (sc v) :=
  fun A w E S hI hT => by
    have h1 := agg3_den (ev_den hT hx)
    have h2 := agg3_den (ev_den hT hy)
    refine ⟨v, fun w' hW _ _ _ _ _ => ?_, sc_mk hv.1⟩
    simp only [execOp, h1, h2]
    rw [Sem.run_bind, hv.2]
    rfl
theorem o_eqA {op : BinOp} {t yt : TypeId} {x y : Operand} {a1 a2 a3 b1 b2 b3 v : Value} (hd : okd dst cx.n = true) (hx : s.ev x = some (.agg [.t none (.v a1), .t none (.v a2), .t none (.v a3)])) (hy : s.ev y = some (.agg [.t none (.v b1), .t none (.v b2), .t none (.v b3)])) (hv : EqS cx.P op t [a1, a2, a3] [b1, b2, b3] v) :
    Os cx s ⟨dst, .binOp op t x y yt, ty, pos, aft, none⟩ (s.sets dst (some (sc v))) true := o_value hd (p_eqA hx hy hv)
end rules
/-! ### positions -/
def sumA (l : Rels) : Int := (l.map fun x => x.2.1).sum
theorem sumA_step {l : Rels} {m : Nat} {z : List UInt8 × Int × Bool} (h : l[m]? = some z) : sumA (l.take (m + 1)) = sumA (l.take m) + z.2.1 := by
  unfold sumA
  rw [List.take_add_one, h, List.map_append, List.sum_append]
  simp
theorem rels_ok {l : Rels} (h : relsOk l = true) : l.length ≤ 6 ∧ ∀ x ∈ l, 1 ≤ x.2.1 ∧ x.2.1 ≤ 3 := by
  unfold relsOk at h
  simp only [Bool.and_eq_true, decide_eq_true_eq] at h
  refine ⟨h.2, fun x hx => ?_⟩
  obtain ⟨j, hj⟩ := List.getElem?_of_mem hx
  have h1 := h.1 j (List.getElem?_eq_some_iff.1 hj).1
  rw [relStep_at hj] at h1
  simp only [Bool.and_eq_true] at h1
  have h2 := h1.1
  unfold relOk at h2
  simp only [Bool.and_eq_true, decide_eq_true_eq] at h2
  exact h2.2
theorem sum_bnd (l : Rels) (h : ∀ x ∈ l, 1 ≤ x.2.1 ∧ x.2.1 ≤ 3) : 0 ≤ sumA l ∧ sumA l ≤ 3 * l.length := by
  unfold sumA
  induction l with
  | nil => simp
  | cons x l ih =>
    have h1 := ih fun y hy => h y (List.mem_cons_of_mem _ hy)
    have h2 := h x List.mem_cons_self
    simp only [List.map_cons, List.sum_cons, List.length_cons]
    omega
theorem sumA_bnd {l : Rels} (h : relsOk l = true) (m : Nat) : 0 ≤ sumA (l.take m) ∧ sumA (l.take m) ≤ 18 := by
  have h1 := rels_ok h
  have h2 := sum_bnd (l.take m) fun x hx => h1.2 x (List.mem_of_mem_take hx)
  rw [List.length_take] at h2
  omega
def posOk (rs : Rels) (r i : Int) : Bool := relsOk rs && (decide (0 ≤ r ∧ r ≤ (rs.length : Int) - 1) && (match rs[r.toNat]? with | some x => decide (0 ≤ i ∧ i ≤ x.2.1 - 1) | none => false))
def posIx (rs : Rels) (r i : Int) : Int := if posOk rs r i = true then sumA (rs.take r.toNat) + i else -1
section
variable {rs : Rels} {r i : Int} {z : List UInt8 × Int × Bool}
theorem posIx_no1 (h : relsOk rs = false) : -1 = posIx rs r i := by unfold posIx posOk; rw [h]; rfl
theorem posIx_no2 (h : ¬ (0 ≤ r ∧ r ≤ (rs.length : Int) - 1)) : -1 = posIx rs r i := by unfold posIx posOk; rw [decide_eq_false h]; simp
theorem posIx_no3 (hz : rs[r.toNat]? = some z) (h : ¬ (0 ≤ i ∧ i ≤ z.2.1 - 1)) : -1 = posIx rs r i := by unfold posIx posOk; rw [hz]; simp only [decide_eq_false h]; simp
theorem posIx_yes (h1 : relsOk rs = true) (h2 : 0 ≤ r ∧ r ≤ (rs.length : Int) - 1) (hz : rs[r.toNat]? = some z) (h : 0 ≤ i ∧ i ≤ z.2.1 - 1) : posIx rs r i = sumA (rs.take r.toNat) + i := by
  unfold posIx posOk
  rw [h1, decide_eq_true h2, hz]
  simp only [decide_eq_true h]
  rfl
end
theorem tk_at {α : Type} {l : List α} {a n : Nat} {z : α} (h : ((l.take a).drop 0)[n]? = some z) : l[n]? = some z := by
  rw [List.drop_zero, List.getElem?_take] at h
  split at h
  · exact h
  · cases h
def plcA (rs : Rels) (r v : Int) : Nat → List Int → List Int
  | _, [] => []
  | j, t :: ts => (if t = v then [posIx rs r (j : Int)] else []) ++ plcA rs r v (j + 1) ts
theorem plcA_snoc {rs : Rels} {r v : Int} : ∀ (ts : List Int) (j : Nat) (t : Int), plcA rs r v j (ts ++ [t]) = plcA rs r v j ts ++ (if t = v then [posIx rs r ((j + ts.length : Nat) : Int)] else [])
  | [], j, t => by simp [plcA]
  | x :: ts, j, t => by
    simp only [List.cons_append, plcA, plcA_snoc ts (j + 1) t, List.append_assoc, List.length_cons]
    rw [show j + 1 + ts.length = j + (ts.length + 1) by omega]
theorem plcA_len {rs : Rels} {r v : Int} : ∀ (ts : List Int) (j : Nat), (plcA rs r v j ts).length ≤ ts.length
  | [], j => by simp [plcA]
  | x :: ts, j => by
    have := plcA_len (rs := rs) (r := r) (v := v) ts (j + 1)
    simp only [plcA, List.length_append, List.length_cons]
    split
    · simp only [List.length_cons, List.length_nil]; omega
    · simp only [List.length_nil]; omega
def plc1 (rs : Rels) (v : Int) (a : Int × List Int) : List Int := plcA rs a.1 v 0 a.2
def placesL (rs : Rels) (l : Atoms) (v : Int) : List Int := l.flatMap (plc1 rs v)
section
variable {α β : Type} {g : α → List β} {l : List α} {m : Nat} {z : α}
theorem fm_step (h : l[m]? = some z) : (l.take (m + 1)).flatMap g = (l.take m).flatMap g ++ g z := by
  rw [List.take_add_one, h, List.flatMap_append]
  simp
theorem fm_part {x : List β} (h : l[m]? = some z) (hx : x.length ≤ (g z).length) : ((l.take m).flatMap g ++ x).length ≤ (l.flatMap g).length := by
  have h2 : l.flatMap g = (l.take (m + 1)).flatMap g ++ (l.drop (m + 1)).flatMap g := by rw [← List.flatMap_append, List.take_append_drop]
  rw [h2, fm_step h]
  simp only [List.length_append]
  omega
theorem fm_len : ((l.take m).flatMap g).length ≤ (l.flatMap g).length := by
  have h2 : l.flatMap g = (l.take m).flatMap g ++ (l.drop m).flatMap g := by rw [← List.flatMap_append, List.take_append_drop]
  rw [h2, List.length_append]
  omega
theorem fm_bnd {c : Nat} (h : ∀ x ∈ l, (g x).length ≤ c) : (l.flatMap g).length ≤ c * l.length := by
  induction l with
  | nil => simp
  | cons x l ih =>
    have h1 := ih fun y hy => h y (List.mem_cons_of_mem _ hy)
    have h2 := h x List.mem_cons_self
    simp only [List.flatMap_cons, List.length_append, List.length_cons, Nat.mul_succ]
    omega
end
section
variable {rs : Rels} {l : Atoms} {v : Int} {m n : Nat} {z : Int × List Int} {t : Int}
theorem plc_hit (ht : z.2[n]? = some t) (e : t = v) : plcA rs z.1 v 0 (z.2.take n) ++ [posIx rs z.1 (n : Int)] = plcA rs z.1 v 0 (z.2.take (n + 1)) := by
  rw [List.take_add_one, ht]
  show _ = plcA rs z.1 v 0 (z.2.take n ++ [t])
  have := (List.getElem?_eq_some_iff.1 ht).1
  rw [plcA_snoc, if_pos e, List.length_take, Nat.zero_add, Nat.min_eq_left (by omega)]
theorem plc_miss (ht : z.2[n]? = some t) (e : ¬ t = v) : plcA rs z.1 v 0 (z.2.take n) = plcA rs z.1 v 0 (z.2.take (n + 1)) := by
  rw [List.take_add_one, ht]
  show _ = plcA rs z.1 v 0 (z.2.take n ++ [t])
  rw [plcA_snoc, if_neg e, List.append_nil]
theorem plc_next (hz : l[m]? = some z) (hn : z.2.length ≤ n) : (l.take m).flatMap (plc1 rs v) ++ plcA rs z.1 v 0 (z.2.take n) = (l.take (m + 1)).flatMap (plc1 rs v) := by
  rw [fm_step hz, List.take_of_length_le hn]
  rfl
theorem plc_room (hz : l[m]? = some z) : ((l.take m).flatMap (plc1 rs v)).length + (plcA rs z.1 v 0 (z.2.take n)).length ≤ szS (fun (x : Int × List Int) => x.2.length) l := by
  have h1 := fm_part (g := fun (x : Int × List Int) => x.2) (l := l) (m := m) (z := z) (x := []) hz (by simp)
  have h2 : ((l.take m).flatMap (plc1 rs v)).length + (plcA rs z.1 v 0 (z.2.take n)).length ≤ (l.map fun x => x.2.length).sum := by
    have a1 : ∀ l : Atoms, (l.flatMap (plc1 rs v)).length ≤ (l.map fun x => x.2.length).sum := by
      intro l
      induction l with
      | nil => simp
      | cons x l ih =>
        have := plcA_len (rs := rs) (r := x.1) (v := v) x.2 0
        simp only [List.flatMap_cons, List.length_append, List.map_cons, List.sum_cons, plc1]
        omega
    have a2 := a1 (l.take m)
    have a3 := plcA_len (rs := rs) (r := z.1) (v := v) (z.2.take n) 0
    rw [List.length_take] at a3
    have a4 := szT_step (f := fun (x : Int × List Int) => x.2.length) hz
    have a5 := szT_sum (f := fun (x : Int × List Int) => x.2.length) (l := l) (m + 1)
    unfold szT at a4 a5
    omega
  unfold szS
  omega
theorem places_len (rs : Rels) (l : Atoms) (v : Int) : (placesL rs l v).length ≤ (l.map fun x => x.2.length).sum := by
  unfold placesL
  induction l with
  | nil => simp
  | cons x l ih =>
    have := plcA_len (rs := rs) (r := x.1) (v := v) x.2 0
    simp only [List.flatMap_cons, List.length_append, List.map_cons, List.sum_cons, plc1]
    omega
end
/-! ### edges -/
abbrev Edg := Int × Int × Bool
def putE (q : List Edg) (x : Edg) : List Edg := if (q.any fun y => decide (y = x)) = true then q else q ++ [x]
def putAll (P : List Edg) : List Edg := P.foldl putE []
def addL (f : Int) (sp : Bool) (q : List Edg) (tos : List Int) : List Edg := tos.foldl (fun q t => putE q (f, t, sp)) q
theorem addL_snoc {f : Int} {sp : Bool} {q : List Edg} {tos : List Int} {n : Nat} {t : Int} (ht : tos[n]? = some t) : putE (addL f sp q (tos.take n)) (f, t, sp) = addL f sp q (tos.take (n + 1)) := by
  unfold addL
  rw [List.take_add_one, ht, List.foldl_append]
  rfl
theorem addL_all {f : Int} {sp : Bool} {P : List Edg} {tos : List Int} : addL f sp (putAll P) tos = putAll (P ++ tos.map fun t => (f, t, sp)) := by
  unfold addL putAll
  rw [List.foldl_append, List.foldl_map]
theorem putE_len (q : List Edg) (x : Edg) : (putE q x).length ≤ q.length + 1 := by
  unfold putE
  split
  · omega
  · simp
theorem addL_len {f : Int} {sp : Bool} : ∀ (tos : List Int) (q : List Edg), (addL f sp q tos).length ≤ q.length + tos.length
  | [], q => by simp [addL]
  | t :: tos, q => by
    have h1 := addL_len (f := f) (sp := sp) tos (putE q (f, t, sp))
    have h2 := putE_len q (f, t, sp)
    show (addL f sp (putE q (f, t, sp)) tos).length ≤ _
    simp only [List.length_cons]
    omega
theorem putAll_len (P : List Edg) : (putAll P).length ≤ P.length := by
  have : ∀ (P q : List Edg), (P.foldl putE q).length ≤ q.length + P.length := by
    intro P
    induction P with
    | nil => simp
    | cons x P ih =>
      intro q
      have h1 := ih (putE q x)
      have h2 := putE_len q x
      simp only [List.foldl_cons, List.length_cons]
      omega
  have := this P []
  simpa [putAll] using this
def frontV (d : Dep) : List Int := selV true (setI (varsL d.1)) (setI (varsL d.2.1))
def exisV (d : Dep) : List Int := selV false (setI (varsL d.1)) (setI (varsL d.2.1))
def edgesX (rs : Rels) (d : Dep) (f o : Int) : List Edg := (placesL rs d.2.1 o).map fun t => (f, t, true)
def edgesN (rs : Rels) (d : Dep) (v f : Int) : List Edg := (placesL rs d.2.1 v).map fun t => (f, t, false)
def edgesF (rs : Rels) (d : Dep) (v f : Int) : List Edg := edgesN rs d v f ++ (exisV d).flatMap (edgesX rs d f)
def edgesV (rs : Rels) (d : Dep) (v : Int) : List Edg := (placesL rs d.1 v).flatMap (edgesF rs d v)
def edgesD (rs : Rels) (d : Dep) : List Edg := (frontV d).flatMap (edgesV rs d)
def graphL (rs : Rels) (ds : List Dep) : List Edg := if depsOk rs ds = true then putAll (ds.flatMap (edgesD rs)) else []
theorem atoms_sum {rs : Rels} {l : Atoms} (h : ∀ x ∈ l, atomOk rs x.1 x.2 = true) : (l.map fun x => x.2.length).sum ≤ 3 * l.length := by
  induction l with
  | nil => simp
  | cons x l ih =>
    have h1 := ih fun y hy => h y (List.mem_cons_of_mem _ hy)
    have h2 := (atomOk_rels (h x List.mem_cons_self)).2.2.2.1
    simp only [List.map_cons, List.sum_cons, List.length_cons]
    omega
theorem dep_bnd {rs : Rels} {d : Dep} (h : depOk rs d.1 d.2.1 d.2.2.1 d.2.2.2.1 d.2.2.2.2 = true) : (d.1.map fun x => x.2.length).sum ≤ 6 ∧ (d.2.1.map fun x => x.2.length).sum ≤ 6 ∧ (varsL d.2.1).length ≤ 12 := by
  unfold depOk at h
  simp only [Bool.and_eq_true] at h
  obtain ⟨h1, h2⟩ := h
  have a1 := atomsOk_all h1
  have b1 := atoms_sum a1.2.2
  split at h2
  · simp only [Bool.and_eq_true, decide_eq_true_eq] at h2
    have e : d.2.1 = [] := by
      cases hd : d.2.1 with
      | nil => rfl
      | cons x r => rw [hd] at h2; simp at h2
    rw [e]
    refine ⟨by omega, by simp, by simp [varsL]⟩
  · simp only [Bool.and_eq_true] at h2
    have a2 := atomsOk_all h2.1
    have b2 := atoms_sum a2.2.2
    exact ⟨by omega, by omega, vars12 h2.1⟩
section
variable {rs : Rels} {ds : List Dep} {d : Dep}
theorem depsOk_at (h : depsOk rs ds = true) (hd : d ∈ ds) : depOk rs d.1 d.2.1 d.2.2.1 d.2.2.2.1 d.2.2.2.2 = true := by
  unfold depsOk at h
  simp only [Bool.and_eq_true, Bool.not_eq_true', List.any_eq_false] at h
  have := h.2.2 d hd
  unfold badD at this
  simpa using this
theorem edges_bnd (h : depOk rs d.1 d.2.1 d.2.2.1 d.2.2.2.1 d.2.2.2.2 = true) : (frontV d).length ≤ 12 ∧ (exisV d).length ≤ 12 ∧ (∀ v, (placesL rs d.1 v).length ≤ 6 ∧ (placesL rs d.2.1 v).length ≤ 6) ∧ (∀ v f, (edgesF rs d v f).length ≤ 78) ∧ (∀ v, (edgesV rs d v).length ≤ 468) ∧ (edgesD rs d).length ≤ 5616 := by
  obtain ⟨b1, b2, b3⟩ := dep_bnd h
  have hp : ∀ v, (placesL rs d.1 v).length ≤ 6 ∧ (placesL rs d.2.1 v).length ≤ 6 := fun v => by
    have h1 := places_len rs d.1 v
    have h2 := places_len rs d.2.1 v
    omega
  have hs := setI_len (varsL d.2.1)
  have h1 : (frontV d).length ≤ 12 := by have := selV_len true (setI (varsL d.1)) (setI (varsL d.2.1)); unfold frontV; omega
  have h2 : (exisV d).length ≤ 12 := by have := selV_len false (setI (varsL d.1)) (setI (varsL d.2.1)); unfold exisV; omega
  have hF : ∀ v f, (edgesF rs d v f).length ≤ 78 := fun v f => by
    unfold edgesF
    rw [List.length_append]
    have e1 : (edgesN rs d v f).length ≤ 6 := by unfold edgesN; rw [List.length_map]; exact (hp v).2
    have e2 := fm_bnd (g := edgesX rs d f) (l := exisV d) (c := 6) fun o _ => by unfold edgesX; rw [List.length_map]; exact (hp o).2
    omega
  have hV : ∀ v, (edgesV rs d v).length ≤ 468 := fun v => by
    unfold edgesV
    have e2 := fm_bnd (g := edgesF rs d v) (l := placesL rs d.1 v) (c := 78) fun f _ => hF v f
    have := (hp v).1
    omega
  refine ⟨h1, h2, hp, hF, hV, ?_⟩
  unfold edgesD
  have e2 := fm_bnd (g := edgesV rs d) (l := frontV d) (c := 468) fun v _ => hV v
  omega
theorem edges_room (h : depsOk rs ds = true) : (ds.flatMap (edgesD rs)).length ≤ 28080 := by
  have e2 := fm_bnd (g := edgesD rs) (l := ds) (c := 5616) fun d hd => (edges_bnd (depsOk_at h hd)).2.2.2.2.2
  unfold depsOk at h
  simp only [Bool.and_eq_true, decide_eq_true_eq] at h
  omega
theorem graph_len : (graphL rs ds).length ≤ 28080 := by
  unfold graphL
  split
  · rename_i h
    exact Nat.le_trans (putAll_len _) (edges_room h)
  · simp
theorem graph_no (h : depsOk rs ds = false) : [] = graphL rs ds := by unfold graphL; rw [h]; rfl
theorem graph_yes {m : Nat} (h : depsOk rs ds = true) (hm : ds.length ≤ m) : putAll ((ds.take m).flatMap (edgesD rs)) = graphL rs ds := by unfold graphL; rw [if_pos h, List.take_of_length_le hm]
end
end Go.Eng
namespace Go.Eng
open Go Go.RowKit
theorem addL_new {f t : Int} {sp : Bool} {q : List Edg} {tos : List Int} {n : Nat} (ht : tos[n]? = some t) (h : ((addL f sp q (tos.take n)).any fun y => decide (y = (f, t, sp))) = false) : addL f sp q (tos.take n) ++ [(f, t, sp)] = addL f sp q (tos.take (n + 1)) := by
  rw [← addL_snoc ht]
  unfold putE
  rw [h]
  rfl
theorem addL_old {f t : Int} {sp : Bool} {q : List Edg} {tos : List Int} {n : Nat} (ht : tos[n]? = some t) (h : ((addL f sp q (tos.take n)).any fun y => decide (y = (f, t, sp))) = true) : addL f sp q (tos.take n) = addL f sp q (tos.take (n + 1)) := by
  rw [← addL_snoc ht]
  unfold putE
  rw [if_pos h]
section
variable {α β γ : Type} {g : α → List β} {h : γ → List β} {l : List α} {m p : Nat} {z : α} {A N : List β} {r : List γ}
theorem gs_0 (hz : l[m]? = some z) (hp : r.length ≤ p) (e : g z = r.flatMap h) : (l.take m).flatMap g ++ (r.take p).flatMap h = (l.take (m + 1)).flatMap g := by rw [fm_step hz, e, List.take_of_length_le hp]
theorem gs_1 (hz : l[m]? = some z) (hp : r.length ≤ p) (e : g z = r.flatMap h) : (A ++ (l.take m).flatMap g) ++ (r.take p).flatMap h = A ++ (l.take (m + 1)).flatMap g := by rw [fm_step hz, e, List.take_of_length_le hp, List.append_assoc]
theorem gs_2 (hz : l[m]? = some z) (hp : r.length ≤ p) (e : g z = N ++ r.flatMap h) : ((A ++ (l.take m).flatMap g) ++ N) ++ (r.take p).flatMap h = A ++ (l.take (m + 1)).flatMap g := by rw [fm_step hz, e, List.take_of_length_le hp, List.append_assoc, List.append_assoc]
theorem fm_zero (h : γ → List β) : (r.take 0).flatMap h = [] := rfl
end
theorem putE_there {l : List Edg} {x z : Edg} {n : Nat} (hz : l[n]? = some z) (e : z = x) : l = putE l x := by
  unfold putE
  rw [if_pos (any_true hz (decide_eq_true e))]
theorem putE_new {l : List Edg} {x : Edg} {m : Nat} (h : ∀ j z, j < m → l[j]? = some z → (fun y => decide (y = x)) z = false) (hm : l.length ≤ m) : l ++ [x] = putE l x := by
  unfold putE
  rw [any_false h hm]
  rfl
end Go.Eng
namespace Go.Eng
theorem nc {b : Bool} {α : Prop} (h : b = true) (h' : b = false) : α := Bool.noConfusion (h.symm.trans h')
theorem ncf {b : Bool} {α : Prop} (h : b = false) (h' : b = true) : α := Bool.noConfusion (h.symm.trans h')
theorem bnt {b : Bool} (h : (!b) = true) : b = false := by cases b <;> simp_all
theorem bnf {b : Bool} (h : (!b) = false) : b = true := by cases b <;> simp_all
end Go.Eng
