/- The engine, part Za: views of a row of the call's own; a row handed over for good. -/
import Derived.Test.YtbbpoegdcecopaaGreatEngZ
set_option linter.unusedVariables false
set_option linter.unusedSimpArgs false
namespace Go.Eng
open Go Go.RowKit
section rules
variable {cx : Cx} {s : St} {k : List Item} {R : Ending → World → Prop} {dst : Option Nat} {ty : TypeId} {pos : String} {aft : Array Edge}
theorem row_slice {i e0 : Nat} {pn : Option Value} {deep : Bool} {α : Type} {sz : Nat} {enc : α → Nat → T} {xs : List α} {E : Nat → EE} {S : Nat → Prop} {w : World} (hI : Inv cx s.ob s.nx E S w) (hb : alook s.ob i = some (.row pn e0 deep sz enc xs)) (hne : 0 < xs.length) :
    (E i).live ∧ ∃ g cap, (E i).u = .slice (some ⟨g, 0, none⟩) xs.length cap ∧ xs.length ≤ cap := by
  obtain ⟨hl, hb⟩ := hI.obs _ _ hb
  obtain ⟨A', cap', h3, h4, h5, _⟩ := row_read hl hb
  obtain ⟨g, rfl⟩ := h5 (by rintro rfl; simp at hne)
  exact ⟨hl, g, cap', h3, h4⟩
theorem p_subvl {t : TypeId} {x y : Operand} {kk : IntKind} {n : Int} {i e0 : Nat} {pn : Option Value} {deep : Bool} {α : Type} {sz : Nat} {enc : α → Nat → T} {xs : List α} (hs : elemSz cx.P t = some sz) (hx : s.ev x = some (.c (.own i))) (hb : alook s.ob i = some (.row pn e0 deep sz enc xs)) (hy : s.ev y = some (sc (.int kk n))) (h0 : 0 ≤ n) (h1 : n < xs.length) :
    Ps cx s (.slice t x (some y) none none) (.c (.vw i n.toNat (xs.length - n.toNat) sz)) :=
  fun A w E S hI hT => by
    obtain ⟨hl, g, cap, hu, hc⟩ := row_slice hI hb (by omega)
    obtain ⟨_, hux, _⟩ := ev_den hT hx
    have hrun := fun w' => ((Bd.l (k := kk) h0 (by omega) hc : Bd (some (.int kk n)) none none xs.length cap n.toNat xs.length cap).run hs (some ⟨g, 0, none⟩) w').1
    refine ⟨_, fun w' hW _ _ _ _ _ => ?_, hl, g, _, cap, cap - n.toNat, hu, rfl, by omega⟩
    simp only [execOp, hux, hu, Option.map_some, Option.map_none, sc_den (ev_den hT hy)]
    rw [Sem.run_bind, hrun w']
    have : ¬ cap = n.toNat := by omega
    simp only [sliced, this, if_false, Option.map_some, add_flat, Nat.zero_add]
    rfl
theorem o_subvl {t : TypeId} {x y : Operand} {kk : IntKind} {n : Int} {i e0 : Nat} {pn : Option Value} {deep : Bool} {α : Type} {sz : Nat} {enc : α → Nat → T} {xs : List α} (hd : okd dst cx.n = true) (hs : elemSz cx.P t = some sz) (hx : s.ev x = some (.c (.own i))) (hb : alook s.ob i = some (.row pn e0 deep sz enc xs)) (hy : s.ev y = some (sc (.int kk n))) (h0 : 0 ≤ n) (h1 : n < xs.length) :
    Os cx s ⟨dst, .slice t x (some y) none none, ty, pos, aft, none⟩ (s.sets dst (some (.c (.vw i n.toNat (xs.length - n.toNat) sz)))) true := o_value hd (p_subvl hs hx hb hy h0 h1)
theorem p_subvh {t : TypeId} {x y : Operand} {kk : IntKind} {n : Int} {i e0 : Nat} {pn : Option Value} {deep : Bool} {α : Type} {sz : Nat} {enc : α → Nat → T} {xs : List α} (hs : elemSz cx.P t = some sz) (hx : s.ev x = some (.c (.own i))) (hb : alook s.ob i = some (.row pn e0 deep sz enc xs)) (hy : s.ev y = some (sc (.int kk n))) (h0 : 0 ≤ n) (h1 : n ≤ xs.length) (hne : 0 < xs.length) :
    Ps cx s (.slice t x none (some y) none) (.c (.vw i 0 n.toNat sz)) :=
  fun A w E S hI hT => by
    obtain ⟨hl, g, cap, hu, hc⟩ := row_slice hI hb hne
    obtain ⟨_, hux, _⟩ := ev_den hT hx
    have hrun := fun w' => ((Bd.h (k := kk) h0 h1 hc : Bd none (some (.int kk n)) none xs.length cap 0 n.toNat cap).run hs (some ⟨g, 0, none⟩) w').1
    refine ⟨_, fun w' hW _ _ _ _ _ => ?_, hl, g, _, cap, cap, hu, rfl, by omega⟩
    simp only [execOp, hux, hu, Option.map_some, Option.map_none, sc_den (ev_den hT hy)]
    rw [Sem.run_bind, hrun w']
    have : ¬ cap = 0 := by omega
    simp only [sliced, this, if_false, Option.map_some, add_flat, Nat.zero_add, Nat.zero_mul, Nat.sub_zero]
    rfl
theorem o_subvh {t : TypeId} {x y : Operand} {kk : IntKind} {n : Int} {i e0 : Nat} {pn : Option Value} {deep : Bool} {α : Type} {sz : Nat} {enc : α → Nat → T} {xs : List α} (hd : okd dst cx.n = true) (hs : elemSz cx.P t = some sz) (hx : s.ev x = some (.c (.own i))) (hb : alook s.ob i = some (.row pn e0 deep sz enc xs)) (hy : s.ev y = some (sc (.int kk n))) (h0 : 0 ≤ n) (h1 : n ≤ xs.length) (hne : 0 < xs.length) :
    Os cx s ⟨dst, .slice t x none (some y) none, ty, pos, aft, none⟩ (s.sets dst (some (.c (.vw i 0 n.toNat sz)))) true := o_value hd (p_subvh hs hx hb hy h0 h1 hne)
theorem p_indexv {t : TypeId} {x y : Operand} {i off n sz : Nat} {kk : IntKind} {q : Int} (hs : elemSz cx.P t = some sz) (hx : s.ev x = some (.c (.vw i off n sz))) (hy : s.ev y = some (sc (.int kk q))) (h0 : 0 ≤ q) (h1 : q < n) :
    Ps cx s (.indexAddr t x y) (.c (.poe i (off + q.toNat) sz 0)) :=
  fun A w E S hI hT => by
    obtain ⟨hl, g, m, cap, cap', hu, hux, _⟩ := ev_den hT hx
    refine ⟨_, fun w' hW _ _ _ _ _ => ?_, hl, g, m, cap, hu, rfl⟩
    simp only [execOp, hux, sc_den (ev_den hT hy)]
    rw [Sem.run_bind, run_indexAt hs w' _ n cap' kk q h0 h1]
    simp only [add_flat, Nat.add_mul]
    rfl
theorem o_indexv {t : TypeId} {x y : Operand} {i off n sz : Nat} {kk : IntKind} {q : Int} (hd : okd dst cx.n = true) (hs : elemSz cx.P t = some sz) (hx : s.ev x = some (.c (.vw i off n sz))) (hy : s.ev y = some (sc (.int kk q))) (h0 : 0 ≤ q) (h1 : q < n) :
    Os cx s ⟨dst, .indexAddr t x y, ty, pos, aft, none⟩ (s.sets dst (some (.c (.poe i (off + q.toNat) sz 0)))) true := o_value hd (p_indexv hs hx hy h0 h1)
theorem p_lenv {t : TypeId} {x : Operand} {i off n sz : Nat} (ht : isSl cx.P t = true) (hx : s.ev x = some (.c (.vw i off n sz))) :
    Ps cx s (.call { callee := .builtin .len, args := #[x], argTypes := #[t] }) ((sc (.int .i64 n))) :=
  fun A w E S hI hT => by
    obtain ⟨_, g, m, cap, cap', _, hux, _⟩ := ev_den hT hx
    exact ⟨_, fun w' hW _ _ _ _ _ => len_exec ht hux w', sc_mk rfl⟩
theorem o_lenv {t : TypeId} {x : Operand} {i off n sz : Nat} (hd : okd dst cx.n = true) (ht : isSl cx.P t = true) (hx : s.ev x = some (.c (.vw i off n sz))) :
    Os cx s ⟨dst, .call { callee := .builtin .len, args := #[x], argTypes := #[t] }, ty, pos, aft, none⟩ (s.sets dst (some (sc (.int .i64 n)))) true := o_value hd (p_lenv ht hx)
theorem own_shrink {w : World} {e : TypeId} {size m n g cap : Nat} {xs : List Value} (h : w.ownsRow 0 e size (.slice (some ⟨g, 0, none⟩) m cap) m xs) (hn : n ≤ m) : w.ownsRow 0 e size (.slice (some ⟨g, 0, none⟩) n cap) n (xs.take (n * size)) := by
  obtain ⟨h1, h2⟩ := h
  have hle : n * size ≤ m * size := Nat.mul_le_mul_right _ hn
  refine ⟨by rw [List.length_take, h1]; omega, ?_⟩
  rcases h2 with ⟨h2, _⟩ | ⟨g', cap', cur, h2, h3, h4, h5, h6, h7, h8⟩
  · cases h2
  · cases h2
    refine .inr ⟨g, cap, cur, rfl, h3, h4, by omega, h6, h7, ?_⟩
    rw [← h8, List.take_take, Nat.min_eq_left hle]
/-- A view of a row's beginning, taken for the row. -/
theorem gt_shrink (t i : Nat) {n sz e : Nat} {pn : Option Value} {α : Type} {enc : α → Nat → T} {xs : List α} {todo : List Item} (ht : alook s.tm t = some (.c (.vw i 0 n sz))) (hb : alook s.ob i = some (.row pn e true sz enc xs)) (hn : n ≤ xs.length) (hne : 0 < xs.length)
    (h : Wt cx ⟨(t, some (.c (.own i))) :: cutT (cutP i []) s.tm, (i, some (.row none e true sz enc (xs.take n))) :: dels [] (cutO (cutP i []) s.ob), s.nx⟩ todo R) : Wt cx s todo R := by
  intro a w hg
  refine h a w ?_
  obtain ⟨E, S, hI, hT, hsz, hdf⟩ := hg
  obtain ⟨hl, g, cap, hu, hc⟩ := row_slice hI hb hne
  obtain ⟨_, hrd, _, ho⟩ := hI.obs _ _ hb
  simp only [if_true] at ho
  obtain ⟨cells, G, h1, h2, h3, h4, h5⟩ := ho
  obtain ⟨_, g', m, cp, cp', e1, e2, e3⟩ := hT t _ ht
  rw [hu] at e1
  cases e1
  obtain rfl : cp' = cap := by omega
  rw [Nat.zero_mul] at e2
  have hobj : okOb (takeE E i [] ⟨.slice (some ⟨g, 0, none⟩) n cp', (E i).F, True, True⟩) S w i (.row none e true sz enc (xs.take n)) := by
    refine ⟨by rw [takeE_at]; trivial, fun v hv => (by cases hv), ?_⟩
    rw [takeE_at]
    simp only [if_true]
    rw [hu] at h1
    have hlen : (xs.take n).length = n := by rw [List.length_take]; omega
    refine ⟨cells.take (n * sz), G, by rw [hlen]; exact own_shrink h1 hn, fun g' hg' => h2 g' (by rw [hu]; exact hg'), fun b c k hk => ⟨(h3 b c k hk).1, fun hg' => (h3 b c k hk).2 (by rw [hu]; exact hg')⟩, h4, fun b x hx c hc => ?_⟩
    rw [List.getElem?_take] at hx
    split at hx
    · rename_i hbn
      obtain ⟨u', q1, q2⟩ := h5 b x hx c hc
      exact ⟨u', by rw [List.getElem?_take, if_pos (mulLt hbn hc)]; exact q1, q2⟩
    · cases hx
  have hW := hI.write (w' := w) (i := i) (is := []) (x := ⟨.slice (some ⟨g, 0, none⟩) n cp', (E i).F, True, True⟩) (cutP i []) hl (fun q hq => by simp at hq) trivial (fun a' ha' => by
      simp only [cutP, List.any_nil, Bool.or_false] at ha'
      exact ⟨fun q hq => by simp at hq, fun hn' => (by rw [ha'] at hn'; cases hn'), fun hr _ => by (rw [reads_names hr] at ha'; cases ha')⟩)
    (fun k hk => .inl hk) (Nat.le_refl _) rfl rfl rfl (fun _ _ _ => rfl) hobj
  refine ⟨_, S, hW.1, ?_, hsz, hdf⟩
  intro t' v' ht'
  rw [alook_cons] at ht'
  split at ht'
  · rename_i e
    subst e
    cases ht'
    refine ⟨by rw [takeE_at]; trivial, by rw [takeE_at]; exact e2, ?_⟩
    rw [e2]; rfl
  · exact denT.cut hW.2 hT t' v' ht'
/-- A call that is handed a row for good and hands back one. -/
theorem o_callC (i : Nat) {g : FuncId} {xs : Array Operand} {ats : Array TypeId} {cargs : List AV} {pn : Option Value} {e sz : Nat} {α : Type} {enc : α → Nat → T} {l l' : List α} {nx' : Nat} (hE : Go.Proofs.Enters cx.P g)
    (hC : ∀ U : Nat → Value, Mu cx.P g cargs [(0, some (.row (some (U 0)) e true sz enc l))] 1 [(0, some (.row none e true sz enc l'))] nx' (.c (.own 0))) (hd : okd dst cx.n = true) (hb : alook s.ob i = some (.row pn e true sz enc l)) (ha : ArgsH s [⟨i, pn, e, sz, α, enc, l, l'⟩] xs.toList cargs) :
    Os cx s ⟨dst, .call { callee := .value (.func g), args := xs, argTypes := ats }, ty, pos, aft, none⟩ ((⟨cutT (cutP i []) s.tm, (i, some (.row none e true sz enc l')) :: dels [] (cutO (cutP i []) s.ob), s.nx⟩ : St).sets dst (some (.c (.own i)))) false := by
  intro Q a w hg
  obtain ⟨E, S, hI, hT, hn, hdf⟩ := hg
  obtain ⟨hl, hrd, hpn, ho⟩ := hI.obs _ _ hb
  unfold Oper.wp
  rw [execOp_call_go, hE]
  have hargs : #[] ++ Array.map a.eval xs ++ #[] = (xs.toList.map a.eval).toArray := by
    apply Array.ext'
    simp
  rw [hargs, Oper.upon_enter]
  let hs : List Hd := [⟨i, pn, e, sz, α, enc, l, l'⟩]
  let S' : Nat → Prop := fun k => k < w.heap.size ∧ ¬ (E i).F k
  have e0 : mapE E hs 0 = E i := rfl
  have hlive : ∀ j, (mapE E hs j).live → j = 0 := fun j h => by
    match j with
    | 0 => rfl
    | j + 1 => exact h.elim
  have hI0 : Inv ⟨cx.P, g, 0, w, S', handed (mapE E hs)⟩ [(0, some (.row (some (E i).u) e true sz enc l))] 1 (mapE E hs) S' w := by
    refine ⟨fun k h => h.1, fun k h => .inl h, fun j o hj => ?_, fun j j' hij hj hj' => absurd ((hlive j hj).trans (hlive j' hj').symm) hij, fun j hj k hk => ?_, fun j hj => by rw [hlive j hj]; exact Nat.one_pos, Kept.refl _ _⟩
    · rw [alook_cons] at hj
      split at hj
      · rename_i hj0
        subst hj0
        cases hj
        rw [e0]
        refine ⟨hl, by rw [e0]; exact hrd, fun v hv => by rw [e0]; exact Option.some.inj hv, ?_⟩
        rw [e0]
        exact ho
      · simp [alook] at hj
    · have hj0 := hlive j hj
      subst hj0
      rw [e0] at hk
      exact ⟨(hI.fp i hl k hk).1, fun h => h.2 hk, .inr ⟨0, by rw [e0]; exact hl, by rw [e0]; exact hk⟩⟩
  have hSS : ∀ k, S k → S' k := fun k h => ⟨hI.slt k h, fun hf => (hI.fp i hl k hf).2.1 h⟩
  refine (hC (fun _ => (E i).u) 0 w (mapE E hs) S' (xs.toList.map a.eval) hI0 (ha.den hSS hT)).mono ?_
  rintro en w' ⟨u, E', S2, rfl, hI', hu⟩
  obtain ⟨hl', hrd', _, ho'⟩ := hI'.obs 0 _ rfl
  obtain ⟨_, hu0, hu1⟩ := hu
  have hM : ∀ k, handed (mapE E hs) k → (E i).F k := fun k ⟨j, h1, h2⟩ => by
    have := hlive j h1
    subst this
    rwa [e0] at h2
  have hobj : okOb (takeE E i [] ⟨u, (E' 0).F, True, True⟩) S w' i (.row none e true sz enc l') := by
    refine ⟨by rw [takeE_at]; trivial, fun v hv => (by cases hv), ?_⟩
    rw [takeE_at]
    simp only [if_true] at ho' ⊢
    rw [← hu0] at ho'
    exact ho'
  have hW := hI.write (w' := w') (i := i) (is := []) (x := ⟨u, (E' 0).F, True, True⟩) (cutP i []) hl (fun q hq => by simp at hq) trivial (fun a' ha' => by
      simp only [cutP, List.any_nil, Bool.or_false] at ha'
      exact ⟨fun q hq => by simp at hq, fun hn' => (by rw [ha'] at hn'; cases hn'), fun hr _ => by (rw [reads_names hr] at ha'; cases ha')⟩)
    (fun k hk => by
      obtain ⟨h1, _, h3⟩ := hI'.fp 0 hl' k hk
      rcases h3 with h3 | h3
      · exact .inr (.inr ⟨h3, h1⟩)
      · exact .inl (hM k h3))
    hI'.kept.size hI'.kept.os hI'.kept.tape hI'.kept.output (fun k hk hf => hI'.kept.block k hk fun h => hf (hM k h)) hobj
  refine ⟨⟨takeE E i [] ⟨u, (E' 0).F, True, True⟩, S, ?_, denT_puts (s := ⟨cutT (cutP i []) s.tm, (i, some (.row none e true sz enc l')) :: dels [] (cutO (cutP i []) s.ob), s.nx⟩) hd hn (denT.cut hW.2 hT) (fun v' e' => ?_), by rw [put_size]; exact hn, by rw [put_defers]; exact hdf⟩, fun h => by (cases h)⟩
  · rw [sets_ob, sets_nx]
    exact hW.1
  · cases e'
    exact ⟨by rw [takeE_at]; trivial, by rw [takeE_at], hu1⟩
end rules
end Go.Eng
