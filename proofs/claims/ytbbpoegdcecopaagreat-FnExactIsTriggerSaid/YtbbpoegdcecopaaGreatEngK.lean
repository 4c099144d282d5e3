/- The engine, part K: regions that draw their order. -/
import Derived.Test.YtbbpoegdcecopaaGreatEngJ
import Derived.OrdersHeld
set_option linter.unusedVariables false
set_option linter.unusedSimpArgs false
namespace Go.Eng
open Go Go.RowKit

section
variable {P : Program} {ops : Array Oper} {Q : Exit → Act → World → Prop} {md : Region.Mode} {X : Nat → Bool}
/-- In every later world o leaves v in its slot and the world as it is. -/
def YE (P : Program) (ops : Array Oper) (o : Oper) (v : Value) (a : Act) (w : World) : Prop :=
  (Region.wanted o (yielded ops a.tmps) = true ∧ ∀ w', Ext w w' → (execOp a.eval o).run P w' = .ok (.value v) w') ∨ (Region.wanted o (yielded ops a.tmps) = false ∧ v = undef)
theorem YE.later {o : Oper} {v : Value} {a : Act} {w w' : World} (h : YE P ops o v a w) (hx : Ext w w') : YE P ops o v a w' :=
  h.imp (fun ⟨h1, h2⟩ => ⟨h1, fun w'' hw => h2 w'' (hx.trans hw)⟩) id
theorem YE.of_same {o : Oper} {v : Value} {a a' : Act} {w : World} (hy : YE P ops o v a w) (he : execOp a'.eval o = execOp a.eval o)
    (hw : Region.wanted o (yielded ops a'.tmps) = Region.wanted o (yielded ops a.tmps)) : YE P ops o v a' w := by
  unfold YE at *
  rw [he, hw]
  exact hy
theorem YE.wpOp {i : Nat} {o : Oper} {v : Value} {a : Act} {w : World} (hi : ops[i]? = some o) (hy : YE P ops o v a w) {K : Act → World → Prop} (h : K (a.put o.dst v) w) : wpOp P ops Q i K a w := by
  unfold Go.wpOp
  simp only [hi]
  rcases hy with ⟨hw, hv⟩ | ⟨hw, rfl⟩
  · simp only [hw, if_true, Oper.wp, hv w (Ext.refl w), Oper.upon]; exact .inl h
  · simp only [hw, Bool.false_eq_true, if_false]; exact h
theorem wpOp_putE {j : Nat} {oi oj : Oper} {v : Value} (hj : ops[j]? = some oj) (hap : oi.apart ops oj = true)
    (hsi : ∀ cs b, oi.op ≠ .select cs b) (hsj : ∀ cs b, oj.op ≠ .select cs b)
    (hQ : ∀ c a w, Q (.panic c) (a.put oi.dst v) w → Q (.panic c) a w) {K : Act → World → Prop} {a : Act} {w w0 : World}
    (hy : YE P ops oi v a w0) (h : wpOp P ops Q j K (a.put oi.dst v) w) :
    wpOp P ops Q j (fun a' w' => YE P ops oi v a' w0 ∧ K (a'.put oi.dst v) w') a w := by
  obtain ⟨h1, h2, h3⟩ := Oper.apart_spec hap
  have keep : ∀ (a : Act), YE P ops oi v a w0 → ∀ u, YE P ops oi v (a.put oj.dst u) w0 := fun a hy u =>
    hy.of_same (execOp_put oi hsi a oj.dst u h3) (wanted_put oi a oj.dst u h3)
  have keepD : ∀ d, YE P ops oi v { a with defers := d :: a.defers } w0 := fun d => hy.of_same rfl rfl
  unfold wpOp at *
  simp only [hj] at *
  rw [wanted_put oj a oi.dst v h1] at h
  split
  · rename_i hw
    simp only [hw, if_true] at h
    rcases h with h | ⟨hasks, hlets⟩
    case inr => exact .inr ⟨by unfold Oper.asks at *; rw [execOp_put oj hsj a oi.dst v h1] at hasks; exact hasks, hlets⟩
    refine .inl ?_
    unfold Oper.wp at *
    rw [execOp_put oj hsj a oi.dst v h1] at h
    generalize (execOp a.eval oj).run P w = r at *
    cases r with
    | ok n w' =>
      cases n <;> simp only [Oper.upon] at h ⊢
      case value u => exact ⟨keep a hy u, by rw [← Act.put_comm a v u h2]; exact h⟩
      case skip => exact ⟨keep a hy _, by rw [← Act.put_comm a v undef h2]; exact h⟩
      case defer d =>
        refine ⟨keep _ (keepD d) _, ?_⟩
        rw [← Act.put_comm _ v undef h2, ← Act.put_defers]
        exact h
      case enter f args =>
        refine Calls.mono h fun e w'' he => ?_
        cases e with
        | returned u => exact ⟨keep a hy u, by rw [← Act.put_comm a v u h2]; exact he⟩
        | panicked c => exact hQ _ _ _ he
        | outgrown => exact he
      case row row args => exact Rows.mono h fun u w'' he => ⟨keep a hy u, by rw [← Act.put_comm a v u h2]; exact he⟩
    | halt x w' =>
      cases x <;> simp only [Oper.upon] at h ⊢
      case panic u => exact hQ _ _ _ h
  · rename_i hw
    simp only [hw] at h
    exact ⟨keep a hy _, by rw [← Act.put_comm a v undef h2]; exact h⟩
/-- Whatever order is picked; behind operation i, if X i, old blocks are as they were. -/
def wpAnyE (P : Program) (md : Region.Mode) (ops : Array Oper) (Q : Exit → Act → World → Prop) (X : Nat → Bool) : Nat → Array Bool → Act → World → Prop
  | 0, listed, a, w => Region.ready md ops listed = [] ∧ Q .normal a w
  | fuel + 1, listed, a, w =>
    (Region.ready md ops listed = [] → Q .normal a w) ∧
    ∀ i ∈ Region.ready md ops listed, wpOp P ops Q i (fun a' w' => (X i = true → Ext w w') ∧ wpAnyE P md ops Q X fuel (listed.setIfInBounds i true) a' w') a w
theorem wpAny_of_E : ∀ (fuel : Nat) (listed : Array Bool) (a : Act) (w : World), wpAnyE P md ops Q X fuel listed a w → wpAny P md ops Q fuel listed a w
  | 0, _, _, _, h => h
  | fuel + 1, _, _, _, h => ⟨h.1, fun i hi => wpOp_mono (fun a' w' h' => wpAny_of_E fuel _ a' w' h'.2) (h.2 i hi)⟩
/-- d cannot come up while i has not. -/
def Kin (md : Region.Mode) (ops : Array Oper) (listed : Array Bool) (i : Nat) (ds : List Nat) : Prop :=
  ∀ d, d ∈ ds → listed.getD d true = false ∧ ∃ od, ops[d]? = some od ∧ ∃ e, e ∈ od.after ∧ Region.binds md e = true ∧ (e.on = i ∨ e.on ∈ ds)
def kinF (md : Region.Mode) (ops : Array Oper) (listed : Array Bool) (i : Nat) : List Nat → List Nat → List Nat
  | [], ds => ds
  | j :: l, ds => kinF md ops listed i l (cond (!(listed.getD j true) && match ops[j]? with | some oj => oj.after.any (fun e => Region.binds md e && (Nat.beq e.on i || ds.contains e.on)) | none => false) (j :: ds) ds)
theorem kinF_spec {md : Region.Mode} {ops : Array Oper} {listed : Array Bool} {i : Nat} : ∀ (l ds : List Nat), Kin md ops listed i ds → Kin md ops listed i (kinF md ops listed i l ds)
  | [], ds, h => h
  | j :: l, ds, h => by
    unfold kinF
    refine kinF_spec l _ ?_
    cases hc : (!(listed.getD j true) && match ops[j]? with | some oj => oj.after.any (fun e => Region.binds md e && (Nat.beq e.on i || ds.contains e.on)) | none => false)
    · exact h
    · simp only [cond_true]
      simp only [Bool.and_eq_true, Bool.not_eq_true'] at hc
      obtain ⟨h1, h2⟩ := hc
      intro d hd
      rcases List.mem_cons.1 hd with rfl | hd
      · refine ⟨h1, ?_⟩
        cases ho : ops[d]? with
        | none => rw [ho] at h2; simp at h2
        | some od =>
          rw [ho] at h2
          simp only [Array.any_eq_true, Bool.and_eq_true, Bool.or_eq_true] at h2
          obtain ⟨q, hq, h3, h4⟩ := h2
          refine ⟨od, rfl, od.after[q], Array.getElem_mem hq, h3, ?_⟩
          rcases h4 with h4 | h4
          · exact .inl (Nat.eq_of_beq_eq_true h4)
          · exact .inr (List.mem_cons_of_mem _ (by simpa using h4))
      · obtain ⟨h3, od, h4, e, h5, h6, h7⟩ := h d hd
        exact ⟨h3, od, h4, e, h5, h6, h7.imp id (List.mem_cons_of_mem _)⟩
theorem ready_blocked {listed : Array Bool} {md : Region.Mode} {i : Nat} {oj : Oper} {e : Edge} (h0 : listed.getD i true = false) (hall : ∀ e, e ∈ oj.after → Region.binds md e = true → listed.getD e.on false = true) (he : e ∈ oj.after) (hb : Region.binds md e = true) (heq : e.on = i) : False := by
  have h1 := hall e he hb
  rw [heq] at h1
  rcases Nat.lt_or_ge i listed.size with h' | h'
  · simp [h'] at h0 h1; rw [h0] at h1; cases h1
  · simp [Array.getElem?_eq_none h'] at h1
theorem wpAnyE_first {i : Nat} {oi : Oper} {v : Value} {ds : List Nat} (hi : ops[i]? = some oi) (hsel : ∀ (j : Nat) (o : Oper) cs b, ops[j]? = some o → o.op ≠ .select cs b)
    (hQ : ∀ c a w, Q (.panic c) (a.put oi.dst v) w → Q (.panic c) a w) :
    ∀ (fuel : Nat) (listed : Array Bool) (a : Act) (w : World), Kin md ops listed i ds →
      (∀ j oj, ops[j]? = some oj → j ≠ i → listed.getD j true = false → j ∉ ds → oi.apart ops oj = true ∧ X j = true) →
      i ∈ Region.ready md ops listed → YE P ops oi v a w →
      wpAnyE P md ops Q X fuel (listed.setIfInBounds i true) (a.put oi.dst v) w → wpAnyE P md ops Q X (fuel + 1) listed a w := by
  intro fuel
  induction fuel with
  | zero =>
    intro listed a w _ _ hr hy H
    refine ⟨fun h => (by rw [h] at hr; cases hr), fun j hj => ?_⟩
    by_cases hji : j = i
    · subst hji; exact hy.wpOp hi ⟨fun _ => Ext.refl _, H⟩
    · have := ready_mono hj hji
      rw [H.1] at this
      cases this
  | succ fuel ih =>
    intro listed a w hkin hfree hr hy H
    refine ⟨fun h => (by rw [h] at hr; cases hr), fun j hj => ?_⟩
    by_cases hji : j = i
    · subst hji; exact hy.wpOp hi ⟨fun _ => Ext.refl _, H⟩
    · have h1 := H.2 j (ready_mono hj hji)
      obtain ⟨hjun, oj, hoj, hall⟩ := mem_ready.1 hj
      have hnd : j ∉ ds := fun hjd => by
        obtain ⟨_, od, g1, e, g2, g3, g4⟩ := hkin j hjd
        rw [hoj] at g1
        cases g1
        rcases g4 with g4 | g4
        · exact ready_blocked (mem_ready.1 hr).1 hall g2 g3 g4
        · exact ready_blocked (hkin _ g4).1 hall g2 g3 rfl
      obtain ⟨hap, hXj⟩ := hfree j oj hoj hji hjun hnd
      have h2 := wpOp_putE hoj hap (fun cs b => hsel i oi cs b hi) (fun cs b => hsel j oj cs b hoj) hQ hy h1
      have hun' : ∀ k, (listed.setIfInBounds j true).getD k true = false → listed.getD k true = false := fun k hun => by
        by_cases hjk : j = k
        · subst hjk; exact hjun
        · rwa [getD_set_ne true hjk] at hun
      have hkin' : Kin md ops (listed.setIfInBounds j true) i ds := fun d hd => by
        obtain ⟨g0, g1⟩ := hkin d hd
        refine ⟨?_, g1⟩
        rw [getD_set_ne true (by rintro rfl; exact hnd hd)]
        exact g0
      refine wpOp_mono (fun a' w' h3 => ⟨h3.2.1, ih (listed.setIfInBounds j true) a' w' hkin' (fun k ok hk hki hun hno => hfree k ok hk hki (hun' k hun) hno) (ready_mono hr (Ne.symm hji)) (h3.1.later (h3.2.1 hXj)) ?_⟩) h2
      rw [Array.setIfInBounds_comm _ _ hji]
      exact h3.2.2
def kin (md : Region.Mode) (ops : Array Oper) (listed : Array Bool) (i : Nat) : List Nat := kinF md ops listed i (List.range ops.size) []
theorem kin_spec {md : Region.Mode} {ops : Array Oper} {listed : Array Bool} {i : Nat} : Kin md ops listed i (kin md ops listed i) := kinF_spec _ _ fun d hd => by simp at hd
def freeX (md : Region.Mode) (ops : Array Oper) (X : Nat → Bool) (listed : Array Bool) (i : Nat) : Bool :=
  match ops[i]? with
  | none => false
  | some oi => (List.range ops.size).all fun j => j == i || listed.getD j true || (kin md ops listed i).contains j || match ops[j]? with
      | some oj => oi.apart ops oj && X j
      | none => true
theorem freeX_spec {i : Nat} {oi : Oper} {listed : Array Bool} (hi : ops[i]? = some oi) (h : freeX md ops X listed i = true) (j : Nat) (oj : Oper)
    (hj : ops[j]? = some oj) (hne : j ≠ i) (hun : listed.getD j true = false) (hno : j ∉ kin md ops listed i) :
    oi.apart ops oj = true ∧ X j = true := by
  simp only [freeX, hi, List.all_eq_true, List.mem_range] at h
  have h1 := h j (Array.getElem?_eq_some_iff.1 hj).1
  have hk : (kin md ops listed i).contains j = false := by
    cases hc : (kin md ops listed i).contains j
    · rfl
    · exact absurd (by simpa using hc) hno
  rw [hun, hk, hj] at h1
  simpa [hne] using h1
end

/-- A region that draws: from such a state, what is listed having come up. -/
def Wd (cx : Cx) (s : St) (ops : Array Oper) (X : Nat → Bool) (fuel : Nat) (listed : Array Bool) (k : List Item) (R : Ending → World → Prop) : Prop :=
  ∀ a w, Gm cx s a w → wpAnyE cx.P .any ops (fun e a' w' => e = .normal ∧ ∃ s', Gm cx s' a' w' ∧ Wt cx s' k R) X fuel listed a w
section rules
variable {cx : Cx} {s : St} {k : List Item} {R : Ending → World → Prop} {ops : Array Oper} {X : Nat → Bool} {fuel : Nat} {listed : Array Bool}
theorem Gm.drew {a : Act} {w : World} (h : Gm cx s a w) : Gm cx s a { w with drawn := w.drawn + 1 } := by
  obtain ⟨E, S, hI, hT, hn, hdf⟩ := h
  have hC : Carry E E S S w { w with drawn := w.drawn + 1 } no := ⟨fun _ h => h, fun _ _ => rfl, fun _ _ _ _ h => ⟨h, rfl⟩, fun _ _ _ _ h => ⟨h, fun _ q => q, fun _ _ => rfl⟩⟩
  refine ⟨E, S, ⟨hI.slt, hI.snew, fun i o h => ?_, hI.dis, hI.fp, hI.nxt, ⟨hI.kept.os, hI.kept.tape, hI.kept.output, hI.kept.size, hI.kept.block⟩⟩, denT.carry hC hT, hn, hdf⟩
  obtain ⟨h1, h2⟩ := hI.obs i o h
  refine ⟨h1, ?_⟩
  have := okOb.carry hC (i := i) rfl (fun _ => Iff.rfl) Iff.rfl (fun _ _ => rfl) h2
  rwa [Ob.cut_none] at this
theorem t_draw {id : Nat} {l : List Oper} (X : Nat → Bool) (hm : cx.P.follows .mixedOrders = true) (h : Wd cx s l.toArray X l.toArray.size (Array.replicate l.toArray.size false) k R) : Wt cx s (.code (.region id l.toArray true) :: k) R := by
  intro a w hg b cs hf hk
  obtain ⟨e, a', w', ⟨rfl, s', hg', hW⟩, harr⟩ := wp_region_any (id := id) hm (wpAny_of_E _ _ _ _ (h a _ hg.drew)) b k cs
  obtain ⟨e, w'', fr, hR, hc, hfr, hl⟩ := hW a' w' hg' b cs hf hk
  exact ⟨e, w'', fr, hR, Comes.of_steps harr hc, hfr, hl⟩
theorem d_end (hr : (Region.ready .any ops listed).isEmpty = true) (h : Wt cx s k R) : Wd cx s ops X fuel listed k R := by
  have hr : Region.ready .any ops listed = [] := by simpa using hr
  intro a w hg
  cases fuel with
  | zero => exact ⟨hr, rfl, s, hg, h⟩
  | succ fuel => exact ⟨fun _ => ⟨rfl, s, hg, h⟩, by rw [hr]; simp⟩
/-- A quiet operation that may come up is taken first. -/
theorem d_take (i : Nat) {op : Op} {dst : Option Nat} {ty : TypeId} {pos : String} {aft : Array Edge} {v : AV} (hi : ops[i]? = some ⟨dst, op, ty, pos, aft, none⟩) (hd : okd dst cx.n = true) (hs : Region.noSelect ops = true) (hr : (Region.ready .any ops listed).contains i = true) (hf : freeX .any ops X listed i = true) (hp : Ps cx s op v)
    (h : Wd cx (s.sets dst (some v)) ops X fuel (listed.setIfInBounds i true) k R) : Wd cx s ops X (fuel + 1) listed k R := by
  intro a w hg
  have hg0 := hg
  obtain ⟨E, S, hI, hT, hn, hdf⟩ := hg
  obtain ⟨u, hu, hv⟩ := hp a w E S hI hT
  refine wpAnyE_first hi (Region.noSelect_spec hs) (fun c a w h => by cases h.1) fuel listed a w kin_spec (freeX_spec hi hf) (by simpa using hr) (.inl ⟨rfl, fun w' hx => hu w' hx _ _ _ _ _⟩) ?_
  refine h _ _ ⟨E, S, ?_, denT_puts hd hn hT (fun v' e => ?_), by rw [put_size]; exact hn, by rw [put_defers]; exact hdf⟩
  · rw [sets_ob, sets_nx]; exact hI
  · cases e; exact hv
/-- A guarded quiet operation. -/
theorem d_guard (i : Nat) {op : Op} {dst : Option Nat} {ty : TypeId} {pos : String} {aft : Array Edge} {v : AV} {j t : Nat} {b b' : Bool} (hi : ops[i]? = some ⟨dst, op, ty, pos, aft, some (j, b)⟩) (hd : okd dst cx.n = true) (hs : Region.noSelect ops = true) (hr : (Region.ready .any ops listed).contains i = true) (hf : freeX .any ops X listed i = true) (hj : (ops[j]?).bind (·.dst) = some t) (ht : alook s.tm t = some (.c (.t none (.v (.bool b')))))
    (hp : b' = b → Ps cx s op v)
    (h1 : b' = b → Wd cx (s.sets dst (some v)) ops X fuel (listed.setIfInBounds i true) k R) (h2 : b' = (!b) → Wd cx (s.sets dst (some (.tup []))) ops X fuel (listed.setIfInBounds i true) k R) : Wd cx s ops X (fuel + 1) listed k R := by
  intro a w hg
  obtain ⟨E, S, hI, hT, hn, hdf⟩ := hg
  have hb := (hT t _ ht).2.1
  have hy : yielded ops a.tmps j = some b' := by
    unfold yielded
    rw [hj]
    have : a.tmps[t]? = some (.bool b') := by
      rw [Array.getD_eq_getD_getElem?] at hb
      cases h : a.tmps[t]? with
      | none => rw [h] at hb; simp [undef] at hb
      | some x => rw [h] at hb; simpa using hb
    simp [this]
  have hw : Region.wanted ⟨dst, op, ty, pos, aft, some (j, b)⟩ (yielded ops a.tmps) = decide (b' = b) := by
    simp only [Region.wanted, hy]
    cases b <;> cases b' <;> rfl
  by_cases e : b' = b
  · obtain ⟨u, hu, hv⟩ := hp e a w E S hI hT
    refine wpAnyE_first hi (Region.noSelect_spec hs) (fun c a w h => by cases h.1) fuel listed a w kin_spec (freeX_spec hi hf) (by simpa using hr) (.inl ⟨by rw [hw]; simpa using e, fun w' hx => hu w' hx _ _ _ _ _⟩) ?_
    refine h1 e _ _ ⟨E, S, ?_, denT_puts hd hn hT (fun v' e => ?_), by rw [put_size]; exact hn, by rw [put_defers]; exact hdf⟩
    · rw [sets_ob, sets_nx]; exact hI
    · cases e; exact hv
  · refine wpAnyE_first hi (Region.noSelect_spec hs) (v := undef) (fun c a w h => by cases h.1) fuel listed a w kin_spec (freeX_spec hi hf) (by simpa using hr) (.inr ⟨by rw [hw]; simpa using e, rfl⟩) ?_
    refine h2 (by cases b <;> cases b' <;> simp_all) _ _ ⟨E, S, ?_, denT_puts hd hn hT (fun v' e => by cases e; exact undef_den), by rw [put_size]; exact hn, by rw [put_defers]; exact hdf⟩
    rw [sets_ob, sets_nx]; exact hI
/-- One guarded by one that did not come up. -/
theorem d_skip (i : Nat) {op : Op} {dst : Option Nat} {ty : TypeId} {pos : String} {aft : Array Edge} {j t : Nat} {b : Bool} (hi : ops[i]? = some ⟨dst, op, ty, pos, aft, some (j, b)⟩) (hd : okd dst cx.n = true) (hs : Region.noSelect ops = true) (hr : (Region.ready .any ops listed).contains i = true) (hf : freeX .any ops X listed i = true) (hj : (ops[j]?).bind (·.dst) = some t) (ht : alook s.tm t = some (.tup []))
    (h : Wd cx (s.sets dst (some (.tup []))) ops X fuel (listed.setIfInBounds i true) k R) : Wd cx s ops X (fuel + 1) listed k R := by
  intro a w hg
  obtain ⟨E, S, hI, hT, hn, hdf⟩ := hg
  obtain ⟨us, hu, hl, _⟩ := hT t _ ht
  have hy : yielded ops a.tmps j = none := by
    unfold yielded
    rw [hj]
    rw [Array.getD_eq_getD_getElem?] at hu
    cases h : a.tmps[t]? with
    | none => simp [h]
    | some x =>
      rw [h] at hu
      have hu : x = .tuple us.toArray := hu
      simp [h, hu]
  have hw : Region.wanted ⟨dst, op, ty, pos, aft, some (j, b)⟩ (yielded ops a.tmps) = false := by simp [Region.wanted, hy]
  refine wpAnyE_first hi (Region.noSelect_spec hs) (v := undef) (fun c a w h => by cases h.1) fuel listed a w kin_spec (freeX_spec hi hf) (by simpa using hr) (.inr ⟨hw, rfl⟩) ?_
  refine h _ _ ⟨E, S, ?_, denT_puts hd hn hT (fun v' e => by cases e; exact undef_den), by rw [put_size]; exact hn, by rw [put_defers]; exact hdf⟩
  rw [sets_ob, sets_nx]; exact hI
/-- The one operation that may come up. -/
theorem d_only (i : Nat) {op : Op} {dst : Option Nat} {ty : TypeId} {pos : String} {aft : Array Edge} {s' : St} {x : Bool} (hi : ops[i]? = some ⟨dst, op, ty, pos, aft, none⟩) (hr : Region.ready .any ops listed = [i]) (hX : (!X i || x) = true) (ho : Os cx s ⟨dst, op, ty, pos, aft, none⟩ s' x)
    (h : Wd cx s' ops X fuel (listed.setIfInBounds i true) k R) : Wd cx s ops X (fuel + 1) listed k R := by
  intro a w hg
  refine ⟨fun h0 => (by rw [hr] at h0; cases h0), fun j hj => ?_⟩
  rw [hr] at hj
  have hj : j = i := by simpa using hj
  subst hj
  unfold wpOp
  rw [hi]
  simp only [Region.wanted, if_true]
  refine .inl (upon_mono (fun a' w' h' => ⟨fun hx => h'.2 (by rw [hx] at hX; simpa using hX), h a' w' h'.1⟩) (fun _ _ _ h => h) (ho _ a w hg))
/-- The one operation that may come up, guarded. -/
theorem d_onlyG (i : Nat) {op : Op} {dst : Option Nat} {ty : TypeId} {pos : String} {aft : Array Edge} {s' : St} {x : Bool} {j t : Nat} {b b' : Bool} (hi : ops[i]? = some ⟨dst, op, ty, pos, aft, some (j, b)⟩) (hd : okd dst cx.n = true) (hr : Region.ready .any ops listed = [i]) (hX : (!X i || x) = true) (hj : (ops[j]?).bind (·.dst) = some t) (ht : alook s.tm t = some (.c (.t none (.v (.bool b')))))
    (ho : b' = b → Os cx s ⟨dst, op, ty, pos, aft, none⟩ s' x)
    (h1 : b' = b → Wd cx s' ops X fuel (listed.setIfInBounds i true) k R) (h2 : b' = (!b) → Wd cx (s.sets dst (some (.tup []))) ops X fuel (listed.setIfInBounds i true) k R) : Wd cx s ops X (fuel + 1) listed k R := by
  intro a w hg
  refine ⟨fun h0 => (by rw [hr] at h0; cases h0), fun j' hj' => ?_⟩
  rw [hr] at hj'
  have hj' : j' = i := by simpa using hj'
  subst hj'
  have hg0 := hg
  obtain ⟨E, S, hI, hT, hn, hdf⟩ := hg
  have hb := (hT t _ ht).2.1
  have hy : yielded ops a.tmps j = some b' := by
    unfold yielded
    rw [hj]
    have : a.tmps[t]? = some (.bool b') := by
      rw [Array.getD_eq_getD_getElem?] at hb
      cases h : a.tmps[t]? with
      | none => rw [h] at hb; simp [undef] at hb
      | some x => rw [h] at hb; simpa using hb
    simp [this]
  have hw : Region.wanted ⟨dst, op, ty, pos, aft, some (j, b)⟩ (yielded ops a.tmps) = decide (b' = b) := by
    simp only [Region.wanted, hy]
    cases b <;> cases b' <;> rfl
  unfold wpOp
  rw [hi]
  simp only [hw]
  by_cases e : b' = b
  · rw [if_pos (by simpa using e)]
    have := Oper.wp_mono (K' := fun a' w' => (X j' = true → Ext w w') ∧ wpAnyE cx.P Region.Mode.any ops (fun e a' w' => e = Exit.normal ∧ ∃ s', Gm cx s' a' w' ∧ Wt cx s' k R) X fuel (listed.setIfInBounds j' true) a' w') (fun a' w' h' => ⟨fun hx => h'.2 (by rw [hx] at hX; simpa using hX), h1 e a' w' h'.1⟩) (ho e (fun e a' w' => e = Exit.normal ∧ ∃ s', Gm cx s' a' w' ∧ Wt cx s' k R) a w hg0)
    exact .inl this
  · rw [if_neg (by simpa using e)]
    refine ⟨fun _ => Ext.refl _, h2 (by cases b <;> cases b' <;> simp_all) _ _ ⟨E, S, ?_, denT_puts hd hn hT (fun v' e => by cases e; exact undef_den), by rw [put_size]; exact hn, by rw [put_defers]; exact hdf⟩⟩
    rw [sets_ob, sets_nx]; exact hI
/-- One of two operations may come up. -/
theorem d_two (i j : Nat) {op op' : Op} {dst dst' : Option Nat} {ty ty' : TypeId} {pos pos' : String} {aft aft' : Array Edge} {s1 s2 : St} {x x' : Bool} (hi : ops[i]? = some ⟨dst, op, ty, pos, aft, none⟩) (hj : ops[j]? = some ⟨dst', op', ty', pos', aft', none⟩) (hr : Region.ready .any ops listed = [i, j]) (hX : (!X i || x) = true) (hX' : (!X j || x') = true) (ho : Os cx s ⟨dst, op, ty, pos, aft, none⟩ s1 x) (ho' : Os cx s ⟨dst', op', ty', pos', aft', none⟩ s2 x')
    (h : Wd cx s1 ops X fuel (listed.setIfInBounds i true) k R) (h' : Wd cx s2 ops X fuel (listed.setIfInBounds j true) k R) : Wd cx s ops X (fuel + 1) listed k R := by
  intro a w hg
  refine ⟨fun h0 => (by rw [hr] at h0; cases h0), fun q hq => ?_⟩
  rw [hr] at hq
  rcases (by simpa using hq : q = i ∨ q = j) with rfl | rfl
  · unfold wpOp
    rw [hi]
    simp only [Region.wanted, if_true]
    exact .inl (upon_mono (fun a' w' h'' => ⟨fun hx => h''.2 (by rw [hx] at hX; simpa using hX), h a' w' h''.1⟩) (fun _ _ _ h => h) (ho _ a w hg))
  · unfold wpOp
    rw [hj]
    simp only [Region.wanted, if_true]
    exact .inl (upon_mono (fun a' w' h'' => ⟨fun hx => h''.2 (by rw [hx] at hX'; simpa using hX'), h' a' w' h''.1⟩) (fun _ _ _ h => h) (ho' _ a w hg))
/-- One of three. -/
theorem d_three (i j l : Nat) {op op' op2 : Op} {dst dst' dst2 : Option Nat} {ty ty' ty2 : TypeId} {pos pos' pos2 : String} {aft aft' aft2 : Array Edge} {s1 s2 s3 : St} {x x' x2 : Bool} (hi : ops[i]? = some ⟨dst, op, ty, pos, aft, none⟩) (hj : ops[j]? = some ⟨dst', op', ty', pos', aft', none⟩) (hl : ops[l]? = some ⟨dst2, op2, ty2, pos2, aft2, none⟩) (hr : Region.ready .any ops listed = [i, j, l]) (hX : (!X i || x) = true) (hX' : (!X j || x') = true) (hX2 : (!X l || x2) = true) (ho : Os cx s ⟨dst, op, ty, pos, aft, none⟩ s1 x) (ho' : Os cx s ⟨dst', op', ty', pos', aft', none⟩ s2 x') (ho2 : Os cx s ⟨dst2, op2, ty2, pos2, aft2, none⟩ s3 x2)
    (h : Wd cx s1 ops X fuel (listed.setIfInBounds i true) k R) (h' : Wd cx s2 ops X fuel (listed.setIfInBounds j true) k R) (h2 : Wd cx s3 ops X fuel (listed.setIfInBounds l true) k R) : Wd cx s ops X (fuel + 1) listed k R := by
  intro a w hg
  refine ⟨fun h0 => (by rw [hr] at h0; cases h0), fun q hq => ?_⟩
  rw [hr] at hq
  rcases (by simpa using hq : q = i ∨ q = j ∨ q = l) with rfl | rfl | rfl
  · unfold wpOp
    rw [hi]
    simp only [Region.wanted, if_true]
    exact .inl (upon_mono (fun a' w' h'' => ⟨fun hx => h''.2 (by rw [hx] at hX; simpa using hX), h a' w' h''.1⟩) (fun _ _ _ h => h) (ho _ a w hg))
  · unfold wpOp
    rw [hj]
    simp only [Region.wanted, if_true]
    exact .inl (upon_mono (fun a' w' h'' => ⟨fun hx => h''.2 (by rw [hx] at hX'; simpa using hX'), h' a' w' h''.1⟩) (fun _ _ _ h => h) (ho' _ a w hg))
  · unfold wpOp
    rw [hl]
    simp only [Region.wanted, if_true]
    exact .inl (upon_mono (fun a' w' h'' => ⟨fun hx => h''.2 (by rw [hx] at hX2; simpa using hX2), h2 a' w' h''.1⟩) (fun _ _ _ h => h) (ho2 _ a w hg))
end rules
end Go.Eng
