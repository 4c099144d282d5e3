/- The engine, part K: regions that draw their order. -/
import Derived.Test.YtjglmllogbhknaaEngJ
import Derived.OrdersHeld
set_option linter.unusedVariables false
set_option linter.unusedSimpArgs false
namespace Go.Eng
open Go Go.RowKit

section
variable {P : Program} {ops : Array Oper} {Q : Exit → Act → World → Prop} {md : Region.Mode} {X : Nat → Bool}
/-- In every later world o leaves v in its slot and the world as it is. -/
def YE (P : Program) (ops : Array Oper) (o : Oper) (v : Value) (a : Act) (w : World) : Prop :=
  (Region.wanted o (yielded ops a.tmps) = true ∧ ∀ w', Ext w w' → (execOp a.eval o).run P w' = .ok (.value v) w') ∨ (Region.wanted o (yielded ops a.tmps) = false ∧ v = undef)
theorem YE.later {o : Oper} {v : Value} {a : Act} {w w' : World} (h : YE P ops o v a w) (hx : Ext w w') : YE P ops o v a w' :=
  h.imp (fun ⟨h1, h2⟩ => ⟨h1, fun w'' hw => h2 w'' (hx.trans hw)⟩) id
theorem YE.of_same {o : Oper} {v : Value} {a a' : Act} {w : World} (hy : YE P ops o v a w) (he : execOp a'.eval o = execOp a.eval o)
    (hw : Region.wanted o (yielded ops a'.tmps) = Region.wanted o (yielded ops a.tmps)) : YE P ops o v a' w := by
  unfold YE at *
  rw [he, hw]
  exact hy
theorem YE.wpOp {i : Nat} {o : Oper} {v : Value} {a : Act} {w : World} (hi : ops[i]? = some o) (hy : YE P ops o v a w) {K : Act → World → Prop} (h : K (a.put o.dst v) w) : wpOp P ops Q i K a w := by
  unfold Go.wpOp
  simp only [hi]
  rcases hy with ⟨hw, hv⟩ | ⟨hw, rfl⟩
  · simp only [hw, if_true, Oper.wp, hv w (Ext.refl w), Oper.upon]; exact .inl h
  · simp only [hw, Bool.false_eq_true, if_false]; exact h
theorem wpOp_putE {j : Nat} {oi oj : Oper} {v : Value} (hj : ops[j]? = some oj) (hap : oi.apart ops oj = true)
    (hsi : ∀ cs b, oi.op ≠ .select cs b) (hsj : ∀ cs b, oj.op ≠ .select cs b)
    (hQ : ∀ c a w, Q (.panic c) (a.put oi.dst v) w → Q (.panic c) a w) {K : Act → World → Prop} {a : Act} {w w0 : World}
    (hy : YE P ops oi v a w0) (h : wpOp P ops Q j K (a.put oi.dst v) w) :
    wpOp P ops Q j (fun a' w' => YE P ops oi v a' w0 ∧ K (a'.put oi.dst v) w') a w := by
  obtain ⟨h1, h2, h3⟩ := Oper.apart_spec hap
  have keep : ∀ (a : Act), YE P ops oi v a w0 → ∀ u, YE P ops oi v (a.put oj.dst u) w0 := fun a hy u =>
    hy.of_same (execOp_put oi hsi a oj.dst u h3) (wanted_put oi a oj.dst u h3)
  have keepD : ∀ d, YE P ops oi v { a with defers := d :: a.defers } w0 := fun d => hy.of_same rfl rfl
  unfold wpOp at *
  simp only [hj] at *
  rw [wanted_put oj a oi.dst v h1] at h
  split
  · rename_i hw
    simp only [hw, if_true] at h
    rcases h with h | ⟨hasks, hlets⟩
    case inr => exact .inr ⟨by unfold Oper.asks at *; rw [execOp_put oj hsj a oi.dst v h1] at hasks; exact hasks, hlets⟩
    refine .inl ?_
    unfold Oper.wp at *
    rw [execOp_put oj hsj a oi.dst v h1] at h
    generalize (execOp a.eval oj).run P w = r at *
    cases r with
    | ok n w' =>
      cases n <;> simp only [Oper.upon] at h ⊢
      case value u => exact ⟨keep a hy u, by rw [← Act.put_comm a v u h2]; exact h⟩
      case skip => exact ⟨keep a hy _, by rw [← Act.put_comm a v undef h2]; exact h⟩
      case defer d =>
        refine ⟨keep _ (keepD d) _, ?_⟩
        rw [← Act.put_comm _ v undef h2, ← Act.put_defers]
        exact h
      case enter f args =>
        refine Calls.mono h fun e w'' he => ?_
        cases e with
        | returned u => exact ⟨keep a hy u, by rw [← Act.put_comm a v u h2]; exact he⟩
        | panicked c => exact hQ _ _ _ he
        | outgrown => exact he
      case row row args => exact Rows.mono h fun u w'' he => ⟨keep a hy u, by rw [← Act.put_comm a v u h2]; exact he⟩
    | halt x w' =>
      cases x <;> simp only [Oper.upon] at h ⊢
      case panic u => exact hQ _ _ _ h
  · rename_i hw
    simp only [hw] at h
    exact ⟨keep a hy _, by rw [← Act.put_comm a v undef h2]; exact h⟩
/-- Whatever order is picked; behind operation i, if X i, old blocks are as they were. -/
def wpAnyE (P : Program) (md : Region.Mode) (ops : Array Oper) (Q : Exit → Act → World → Prop) (X : Nat → Bool) : Nat → Array Bool → Act → World → Prop
  | 0, listed, a, w => Region.ready md ops listed = [] ∧ Q .normal a w
  | fuel + 1, listed, a, w =>
    (Region.ready md ops listed = [] → Q .normal a w) ∧
    ∀ i ∈ Region.ready md ops listed, wpOp P ops Q i (fun a' w' => (X i = true → Ext w w') ∧ wpAnyE P md ops Q X fuel (listed.setIfInBounds i true) a' w') a w
theorem wpAny_of_E : ∀ (fuel : Nat) (listed : Array Bool) (a : Act) (w : World), wpAnyE P md ops Q X fuel listed a w → wpAny P md ops Q fuel listed a w
  | 0, _, _, _, h => h
  | fuel + 1, _, _, _, h => ⟨h.1, fun i hi => wpOp_mono (fun a' w' h' => wpAny_of_E fuel _ a' w' h'.2) (h.2 i hi)⟩
theorem wpAnyE_first {i : Nat} {oi : Oper} {v : Value} (hi : ops[i]? = some oi) (hsel : ∀ (j : Nat) (o : Oper) cs b, ops[j]? = some o → o.op ≠ .select cs b)
    (hQ : ∀ c a w, Q (.panic c) (a.put oi.dst v) w → Q (.panic c) a w) :
    ∀ (fuel : Nat) (listed : Array Bool) (a : Act) (w : World),
      (∀ j oj, ops[j]? = some oj → j ≠ i → listed.getD j true = false → (∀ e ∈ oj.after, Region.binds md e = true → e.on ≠ i) → oi.apart ops oj = true ∧ X j = true) →
      i ∈ Region.ready md ops listed → YE P ops oi v a w →
      wpAnyE P md ops Q X fuel (listed.setIfInBounds i true) (a.put oi.dst v) w → wpAnyE P md ops Q X (fuel + 1) listed a w := by
  intro fuel
  induction fuel with
  | zero =>
    intro listed a w _ hr hy H
    refine ⟨fun h => (by rw [h] at hr; cases hr), fun j hj => ?_⟩
    by_cases hji : j = i
    · subst hji; exact hy.wpOp hi ⟨fun _ => Ext.refl _, H⟩
    · have := ready_mono hj hji
      rw [H.1] at this
      cases this
  | succ fuel ih =>
    intro listed a w hfree hr hy H
    refine ⟨fun h => (by rw [h] at hr; cases hr), fun j hj => ?_⟩
    by_cases hji : j = i
    · subst hji; exact hy.wpOp hi ⟨fun _ => Ext.refl _, H⟩
    · have h1 := H.2 j (ready_mono hj hji)
      obtain ⟨hjun, oj, hoj, hall⟩ := mem_ready.1 hj
      have hnot : ∀ e ∈ oj.after, Region.binds md e = true → e.on ≠ i := fun e he hb heq => by
        have h1 := hall e he hb
        have h0 := (mem_ready.1 hr).1
        rw [heq] at h1
        rcases Nat.lt_or_ge i listed.size with h' | h'
        · simp [h'] at h0 h1; rw [h0] at h1; cases h1
        · simp [Array.getElem?_eq_none h'] at h1
      obtain ⟨hap, hXj⟩ := hfree j oj hoj hji hjun hnot
      have h2 := wpOp_putE hoj hap (fun cs b => hsel i oi cs b hi) (fun cs b => hsel j oj cs b hoj) hQ hy h1
      have hfree' : ∀ k ok, ops[k]? = some ok → k ≠ i → (listed.setIfInBounds j true).getD k true = false →
          (∀ e ∈ ok.after, Region.binds md e = true → e.on ≠ i) → oi.apart ops ok = true ∧ X k = true := fun k ok hk hki hun hno => by
        refine hfree k ok hk hki ?_ hno
        by_cases hjk : j = k
        · subst hjk; exact hjun
        · rw [getD_set_ne true hjk] at hun; exact hun
      refine wpOp_mono (fun a' w' h3 => ⟨h3.2.1, ih (listed.setIfInBounds j true) a' w' hfree' (ready_mono hr (Ne.symm hji)) (h3.1.later (h3.2.1 hXj)) ?_⟩) h2
      rw [Array.setIfInBounds_comm _ _ hji]
      exact h3.2.2
def freeX (md : Region.Mode) (ops : Array Oper) (X : Nat → Bool) (listed : Array Bool) (i : Nat) : Bool :=
  match ops[i]? with
  | none => false
  | some oi => (List.range ops.size).all fun j => j == i || listed.getD j true || match ops[j]? with
      | some oj => oj.after.any (fun e => Region.binds md e && e.on == i) || (oi.apart ops oj && X j)
      | none => true
theorem freeX_spec {i : Nat} {oi : Oper} {listed : Array Bool} (hi : ops[i]? = some oi) (h : freeX md ops X listed i = true) (j : Nat) (oj : Oper)
    (hj : ops[j]? = some oj) (hne : j ≠ i) (hun : listed.getD j true = false) (hno : ∀ e ∈ oj.after, Region.binds md e = true → e.on ≠ i) :
    oi.apart ops oj = true ∧ X j = true := by
  simp only [freeX, hi, List.all_eq_true, List.mem_range] at h
  have h1 := h j (Array.getElem?_eq_some_iff.1 hj).1
  simp only [hj, Bool.or_eq_true, beq_iff_eq, hne, false_or, hun, Bool.false_eq_true] at h1
  rcases h1 with h1 | h1
  · rw [Array.any_eq_true] at h1
    obtain ⟨q, hq, h1⟩ := h1
    simp only [Bool.and_eq_true, beq_iff_eq] at h1
    exact absurd h1.2 (hno _ (Array.getElem_mem hq) h1.1)
  · simpa using h1
end

/-- A region that draws: from such a state, what is listed having come up. -/
def Wd (cx : Cx) (s : St) (ops : Array Oper) (X : Nat → Bool) (fuel : Nat) (listed : Array Bool) (k : List Item) (R : Ending → World → Prop) : Prop :=
  ∀ a w, Gm cx s a w → wpAnyE cx.P .any ops (fun e a' w' => e = .normal ∧ ∃ s', Gm cx s' a' w' ∧ Wt cx s' k R) X fuel listed a w
section rules
variable {cx : Cx} {s : St} {k : List Item} {R : Ending → World → Prop} {ops : Array Oper} {X : Nat → Bool} {fuel : Nat} {listed : Array Bool}
theorem Gm.drew {a : Act} {w : World} (h : Gm cx s a w) : Gm cx s a { w with drawn := w.drawn + 1 } := by
  obtain ⟨E, S, hI, hT, hn, hdf⟩ := h
  have hC : Carry E E S S w { w with drawn := w.drawn + 1 } no := ⟨fun _ h => h, fun _ _ => rfl, fun _ _ _ _ h => ⟨h, rfl⟩, fun _ _ _ _ h => ⟨h, fun _ q => q, fun _ _ => rfl⟩⟩
  refine ⟨E, S, ⟨hI.slt, hI.snew, fun i o h => ?_, hI.dis, hI.fp, hI.nxt, ⟨hI.kept.os, hI.kept.tape, hI.kept.output, hI.kept.size, hI.kept.block⟩⟩, denT.carry hC hT, hn, hdf⟩
  obtain ⟨h1, h2⟩ := hI.obs i o h
  refine ⟨h1, ?_⟩
  have := okOb.carry hC (i := i) rfl (fun _ => Iff.rfl) Iff.rfl (fun _ _ => rfl) h2
  rwa [Ob.cut_none] at this
theorem t_draw {id : Nat} {l : List Oper} (X : Nat → Bool) (hm : cx.P.follows .mixedOrders = true) (h : Wd cx s l.toArray X l.toArray.size (Array.replicate l.toArray.size false) k R) : Wt cx s (.code (.region id l.toArray true) :: k) R := by
  intro a w hg b cs hf hk
  obtain ⟨e, a', w', ⟨rfl, s', hg', hW⟩, harr⟩ := wp_region_any (id := id) hm (wpAny_of_E _ _ _ _ (h a _ hg.drew)) b k cs
  obtain ⟨e, w'', fr, hR, hc, hfr, hl⟩ := hW a' w' hg' b cs hf hk
  exact ⟨e, w'', fr, hR, Comes.of_steps harr hc, hfr, hl⟩
theorem d_end (hr : (Region.ready .any ops listed).isEmpty = true) (h : Wt cx s k R) : Wd cx s ops X fuel listed k R := by
  have hr : Region.ready .any ops listed = [] := by simpa using hr
  intro a w hg
  cases fuel with
  | zero => exact ⟨hr, rfl, s, hg, h⟩
  | succ fuel => exact ⟨fun _ => ⟨rfl, s, hg, h⟩, by rw [hr]; simp⟩
/-- A quiet operation that may come up is taken first. -/
theorem d_take (i : Nat) {op : Op} {dst : Option Nat} {ty : TypeId} {pos : String} {aft : Array Edge} {v : AV} (hi : ops[i]? = some ⟨dst, op, ty, pos, aft, none⟩) (hd : okd dst cx.n = true) (hs : Region.noSelect ops = true) (hr : (Region.ready .any ops listed).contains i = true) (hf : freeX .any ops X listed i = true) (hp : Ps cx s op v)
    (h : Wd cx (s.sets dst (some v)) ops X fuel (listed.setIfInBounds i true) k R) : Wd cx s ops X (fuel + 1) listed k R := by
  intro a w hg
  have hg0 := hg
  obtain ⟨E, S, hI, hT, hn, hdf⟩ := hg
  obtain ⟨u, hu, hv⟩ := hp a w E S hI hT
  refine wpAnyE_first hi (Region.noSelect_spec hs) (fun c a w h => by cases h.1) fuel listed a w (freeX_spec hi hf) (by simpa using hr) (.inl ⟨rfl, fun w' hx => hu w' hx _ _ _ _ _⟩) ?_
  refine h _ _ ⟨E, S, ?_, denT_puts hd hn hT (fun v' e => ?_), by rw [put_size]; exact hn, by rw [put_defers]; exact hdf⟩
  · rw [sets_ob, sets_nx]; exact hI
  · cases e; exact hv
/-- A guarded quiet operation. -/
theorem d_guard (i : Nat) {op : Op} {dst : Option Nat} {ty : TypeId} {pos : String} {aft : Array Edge} {v : AV} {j t : Nat} {b b' : Bool} (hi : ops[i]? = some ⟨dst, op, ty, pos, aft, some (j, b)⟩) (hd : okd dst cx.n = true) (hs : Region.noSelect ops = true) (hr : (Region.ready .any ops listed).contains i = true) (hf : freeX .any ops X listed i = true) (hj : (ops[j]?).bind (·.dst) = some t) (ht : alook s.tm t = some (.c (.t none (.v (.bool b')))))
    (hp : b' = b → Ps cx s op v)
    (h1 : b' = b → Wd cx (s.sets dst (some v)) ops X fuel (listed.setIfInBounds i true) k R) (h2 : b' = (!b) → Wd cx (s.sets dst (some (.tup []))) ops X fuel (listed.setIfInBounds i true) k R) : Wd cx s ops X (fuel + 1) listed k R := by
  intro a w hg
  obtain ⟨E, S, hI, hT, hn, hdf⟩ := hg
  have hb := (hT t _ ht).2.1
  have hy : yielded ops a.tmps j = some b' := by
    unfold yielded
    rw [hj]
    have : a.tmps[t]? = some (.bool b') := by
      rw [Array.getD_eq_getD_getElem?] at hb
      cases h : a.tmps[t]? with
      | none => rw [h] at hb; simp [undef] at hb
      | some x => rw [h] at hb; simpa using hb
    simp [this]
  have hw : Region.wanted ⟨dst, op, ty, pos, aft, some (j, b)⟩ (yielded ops a.tmps) = decide (b' = b) := by
    simp only [Region.wanted, hy]
    cases b <;> cases b' <;> rfl
  by_cases e : b' = b
  · obtain ⟨u, hu, hv⟩ := hp e a w E S hI hT
    refine wpAnyE_first hi (Region.noSelect_spec hs) (fun c a w h => by cases h.1) fuel listed a w (freeX_spec hi hf) (by simpa using hr) (.inl ⟨by rw [hw]; simpa using e, fun w' hx => hu w' hx _ _ _ _ _⟩) ?_
    refine h1 e _ _ ⟨E, S, ?_, denT_puts hd hn hT (fun v' e => ?_), by rw [put_size]; exact hn, by rw [put_defers]; exact hdf⟩
    · rw [sets_ob, sets_nx]; exact hI
    · cases e; exact hv
  · refine wpAnyE_first hi (Region.noSelect_spec hs) (v := undef) (fun c a w h => by cases h.1) fuel listed a w (freeX_spec hi hf) (by simpa using hr) (.inr ⟨by rw [hw]; simpa using e, rfl⟩) ?_
    refine h2 (by cases b <;> cases b' <;> simp_all) _ _ ⟨E, S, ?_, denT_puts hd hn hT (fun v' e => by cases e; exact undef_den), by rw [put_size]; exact hn, by rw [put_defers]; exact hdf⟩
    rw [sets_ob, sets_nx]; exact hI
/-- One guarded by one that did not come up. -/
theorem d_skip (i : Nat) {op : Op} {dst : Option Nat} {ty : TypeId} {pos : String} {aft : Array Edge} {j t : Nat} {b : Bool} (hi : ops[i]? = some ⟨dst, op, ty, pos, aft, some (j, b)⟩) (hd : okd dst cx.n = true) (hs : Region.noSelect ops = true) (hr : (Region.ready .any ops listed).contains i = true) (hf : freeX .any ops X listed i = true) (hj : (ops[j]?).bind (·.dst) = some t) (ht : alook s.tm t = some (.tup []))
    (h : Wd cx (s.sets dst (some (.tup []))) ops X fuel (listed.setIfInBounds i true) k R) : Wd cx s ops X (fuel + 1) listed k R := by
  intro a w hg
  obtain ⟨E, S, hI, hT, hn, hdf⟩ := hg
  obtain ⟨us, hu, hl, _⟩ := hT t _ ht
  have hy : yielded ops a.tmps j = none := by
    unfold yielded
    rw [hj]
    rw [Array.getD_eq_getD_getElem?] at hu
    cases h : a.tmps[t]? with
    | none => simp [h]
    | some x =>
      rw [h] at hu
      have hu : x = .tuple us.toArray := hu
      simp [h, hu]
  have hw : Region.wanted ⟨dst, op, ty, pos, aft, some (j, b)⟩ (yielded ops a.tmps) = false := by simp [Region.wanted, hy]
  refine wpAnyE_first hi (Region.noSelect_spec hs) (v := undef) (fun c a w h => by cases h.1) fuel listed a w (freeX_spec hi hf) (by simpa using hr) (.inr ⟨hw, rfl⟩) ?_
  refine h _ _ ⟨E, S, ?_, denT_puts hd hn hT (fun v' e => by cases e; exact undef_den), by rw [put_size]; exact hn, by rw [put_defers]; exact hdf⟩
  rw [sets_ob, sets_nx]; exact hI
/-- The one operation that may come up. -/
theorem d_only (i : Nat) {op : Op} {dst : Option Nat} {ty : TypeId} {pos : String} {aft : Array Edge} {s' : St} {x : Bool} (hi : ops[i]? = some ⟨dst, op, ty, pos, aft, none⟩) (hr : Region.ready .any ops listed = [i]) (hX : (!X i || x) = true) (ho : Os cx s ⟨dst, op, ty, pos, aft, none⟩ s' x)
    (h : Wd cx s' ops X fuel (listed.setIfInBounds i true) k R) : Wd cx s ops X (fuel + 1) listed k R := by
  intro a w hg
  refine ⟨fun h0 => (by rw [hr] at h0; cases h0), fun j hj => ?_⟩
  rw [hr] at hj
  have hj : j = i := by simpa using hj
  subst hj
  unfold wpOp
  rw [hi]
  simp only [Region.wanted, if_true]
  refine .inl (upon_mono (fun a' w' h' => ⟨fun hx => h'.2 (by rw [hx] at hX; simpa using hX), h a' w' h'.1⟩) (fun _ _ _ h => h) (ho _ a w hg))
/-- The one operation that may come up, guarded. -/
theorem d_onlyG (i : Nat) {op : Op} {dst : Option Nat} {ty : TypeId} {pos : String} {aft : Array Edge} {s' : St} {x : Bool} {j t : Nat} {b b' : Bool} (hi : ops[i]? = some ⟨dst, op, ty, pos, aft, some (j, b)⟩) (hd : okd dst cx.n = true) (hr : Region.ready .any ops listed = [i]) (hX : (!X i || x) = true) (hj : (ops[j]?).bind (·.dst) = some t) (ht : alook s.tm t = some (.c (.t none (.v (.bool b')))))
    (ho : b' = b → Os cx s ⟨dst, op, ty, pos, aft, none⟩ s' x)
    (h1 : b' = b → Wd cx s' ops X fuel (listed.setIfInBounds i true) k R) (h2 : b' = (!b) → Wd cx (s.sets dst (some (.tup []))) ops X fuel (listed.setIfInBounds i true) k R) : Wd cx s ops X (fuel + 1) listed k R := by
  intro a w hg
  refine ⟨fun h0 => (by rw [hr] at h0; cases h0), fun j' hj' => ?_⟩
  rw [hr] at hj'
  have hj' : j' = i := by simpa using hj'
  subst hj'
  have hg0 := hg
  obtain ⟨E, S, hI, hT, hn, hdf⟩ := hg
  have hb := (hT t _ ht).2.1
  have hy : yielded ops a.tmps j = some b' := by
    unfold yielded
    rw [hj]
    have : a.tmps[t]? = some (.bool b') := by
      rw [Array.getD_eq_getD_getElem?] at hb
      cases h : a.tmps[t]? with
      | none => rw [h] at hb; simp [undef] at hb
      | some x => rw [h] at hb; simpa using hb
    simp [this]
  have hw : Region.wanted ⟨dst, op, ty, pos, aft, some (j, b)⟩ (yielded ops a.tmps) = decide (b' = b) := by
    simp only [Region.wanted, hy]
    cases b <;> cases b' <;> rfl
  unfold wpOp
  rw [hi]
  simp only [hw]
  by_cases e : b' = b
  · rw [if_pos (by simpa using e)]
    have := Oper.wp_mono (K' := fun a' w' => (X j' = true → Ext w w') ∧ wpAnyE cx.P Region.Mode.any ops (fun e a' w' => e = Exit.normal ∧ ∃ s', Gm cx s' a' w' ∧ Wt cx s' k R) X fuel (listed.setIfInBounds j' true) a' w') (fun a' w' h' => ⟨fun hx => h'.2 (by rw [hx] at hX; simpa using hX), h1 e a' w' h'.1⟩) (ho e (fun e a' w' => e = Exit.normal ∧ ∃ s', Gm cx s' a' w' ∧ Wt cx s' k R) a w hg0)
    exact .inl this
  · rw [if_neg (by simpa using e)]
    refine ⟨fun _ => Ext.refl _, h2 (by cases b <;> cases b' <;> simp_all) _ _ ⟨E, S, ?_, denT_puts hd hn hT (fun v' e => by cases e; exact undef_den), by rw [put_size]; exact hn, by rw [put_defers]; exact hdf⟩⟩
    rw [sets_ob, sets_nx]; exact hI
end rules
end Go.Eng
