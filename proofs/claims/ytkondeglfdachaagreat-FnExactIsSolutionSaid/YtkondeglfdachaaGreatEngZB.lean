import Derived.Test.YtkondeglfdachaaGreatEngZA
set_option linter.unusedVariables false
set_option linter.unusedSimpArgs false
namespace Go.Eng
open Go Go.RowKit
def AC.wk : AC → AC
 | .t none x => .t none x
 | _ => .top
theorem wk_l {E E' : Nat → EE} {S : Nat → Prop} {w : World} {cs : List AC} {us : List Value} (hd : denL E S w cs us) : denL E' S w (cs.map AC.wk) us := by
 refine ⟨by rw [List.length_map]; exact hd.1, fun j c hj => ?_⟩
 rw [List.getElem?_map] at hj
 obtain ⟨a, h1, rfl⟩ := Option.map_eq_some_iff.mp hj
 obtain ⟨u', e1, e2⟩ := hd.2 j a h1
 refine ⟨u', e1, ?_⟩
 cases a with
 | t r x =>
  cases r with
  | none => exact ⟨trivial, e2.2⟩
  | some i => exact e2.one
 | _ => exact e2.one
theorem wk_pt (cs : List AC) : (cs.map AC.wk).all AC.pt = true := by
 rw [List.all_eq_true]
 intro a ha
 obtain ⟨b, _, rfl⟩ := List.mem_map.1 ha
 unfold AC.wk
 split <;> rfl
def triE (E : Nat → EE) (i p q : Nat) : Nat → EE := fun k => if k = 0 then E i else if k = 1 then E p else if k = 2 then E q else dead
def newE (E E' : Nat → EE) (i p q : Nat) : Nat → EE := fun k => if k = i then E' 0 else if k = p then E' 1 else if k = q then E' 2 else E k
theorem Ro.more {w : World} {S S' : Nat → Prop} {e : Nat} {α : Type} {sz : Nat} {enc : α → Nat → T} {xs : List α} {u : Value} {F : Nat → Prop} (hS : ∀ k, S k → S' k) (h : Ro w S e sz enc xs u F) : Ro w S' e sz enc xs u F :=
 Ro.move hS (fun _ _ => rfl) (fun _ h => h) (fun _ _ => rfl) h
section
variable {cx : Cx} {ob ob' : List (Nat × Option Ob)} {nx nx' i p q : Nat} {E E' : Nat → EE} {S S2 : Nat → Prop} {w w' : World} {P : Program} {g : FuncId} {n : Nat} {c1 c2 : List AC} {v1 v2 : Value} {e sz : Nat} {α : Type} {enc : α → Nat → T} {l' : List α}
theorem Inv.joinF (hI : Inv cx ob nx E S w) (hi : (E i).live) (hp : (E p).live) (hq : (E q).live) (hip : i ≠ p) (hiq : i ≠ q) (hpq : p ≠ q) (hpr : ¬ (E p).rd) (hqr : ¬ (E q).rd)
  (hI' : Inv ⟨P, g, n, w, S, handed (triE E i p q)⟩ ob' nx' E' S2 w') (l0 : (E' 0).live) (l1 : (E' 1).live) (l2 : (E' 2).live) (o0 : okOb E' S2 w' 0 (.row none e false sz enc l')) (o1 : okOb E' S2 w' 1 (.pbox (E p).u c1)) (o2 : okOb E' S2 w' 2 (.pbox (E q).u c2)) (hc1 : c1.all AC.pt = true) (hc2 : c2.all AC.pt = true) :
  Inv cx ((i, some (.row none e false sz enc l')) :: (p, some (.box c1)) :: (q, some (.box c2)) :: cutO (cutP i []) ob) nx (newE E E' i p q) (fun k => S k ∨ S2 k) w' ∧ Carry E (newE E E' i p q) S (fun k => S k ∨ S2 k) w w' (cutP i []) := by
 have hH : ∀ k, handed (triE E i p q) k → (E i).F k ∨ (E p).F k ∨ (E q).F k := fun k ⟨j, h1, h2⟩ => by
  unfold triE at h1 h2
  by_cases e0 : j = 0
  ·rw [if_pos e0] at h2; exact .inl h2
  ·rw [if_neg e0] at h1 h2
   by_cases e1 : j = 1
   ·rw [if_pos e1] at h2; exact .inr (.inl h2)
   ·rw [if_neg e1] at h1 h2
    by_cases e2 : j = 2
    ·rw [if_pos e2] at h2; exact .inr (.inr h2)
    ·rw [if_neg e2] at h1; exact h1.elim
 have hHl : ∀ k, (E i).F k ∨ (E p).F k ∨ (E q).F k → k < w.heap.size ∧ ¬ S k ∧ (cx.w0.heap.size ≤ k ∨ cx.M k) := fun k h => by
  rcases h with h | h | h
  ·exact hI.fp i hi k h
  ·exact hI.fp p hp k h
  ·exact hI.fp q hq k h
 have hkeep : ∀ k, k < w.heap.size → ¬ ((E i).F k ∨ (E p).F k ∨ (E q).F k) → w'.heap[k]? = w.heap[k]? := fun k hk hf => hI'.kept.block k hk fun h => hf (hH k h)
 have hFi : newE E E' i p q i = E' 0 := if_pos rfl
 have hFp : newE E E' i p q p = E' 1 := by unfold newE; rw [if_neg (Ne.symm hip), if_pos rfl]
 have hFq : newE E E' i p q q = E' 2 := by unfold newE; rw [if_neg (Ne.symm hiq), if_neg (Ne.symm hpq), if_pos rfl]
 have hFo : ∀ j, j ≠ i → j ≠ p → j ≠ q → newE E E' i p q j = E j := fun j h1 h2 h3 => by unfold newE; rw [if_neg h1, if_neg h2, if_neg h3]
 have hS2 : ∀ k, S2 k → S k ∨ w.heap.size ≤ k := fun k h => hI'.snew k h
 have hold : ∀ j, (E j).live → j ≠ i → j ≠ p → j ≠ q → ∀ k, (E j).F k → k < w.heap.size ∧ ¬ ((E i).F k ∨ (E p).F k ∨ (E q).F k) := fun j h1 h2 h3 h4 k h5 => ⟨(hI.fp j h1 k h5).1, by
  rintro (h | h | h)
  ·exact hI.dis j i h2 h1 hi k h5 h
  ·exact hI.dis j p h3 h1 hp k h5 h
  ·exact hI.dis j q h4 h1 hq k h5 h⟩
 have hnew : ∀ c, (E' c).live → ∀ k, (E' c).F k → k < w'.heap.size ∧ ¬ S2 k ∧ (w.heap.size ≤ k ∨ ((E i).F k ∨ (E p).F k ∨ (E q).F k)) := fun c h1 k h2 => by
  obtain ⟨r1, r2, r3⟩ := hI'.fp c h1 k h2
  exact ⟨r1, r2, r3.imp id (hH k)⟩
 obtain ⟨rd0, _, ro0⟩ := o0
 obtain ⟨u1, rd1, g1, e1, cs1, hu1, hF1, hh1, hd1⟩ := o1
 obtain ⟨u2, rd2, g2, e2, cs2, hu2, hF2, hh2, hd2⟩ := o2
 have hC : Carry E (newE E E' i p q) S (fun k => S k ∨ S2 k) w w' (cutP i []) := {
  sub := fun _ h => .inl h
  keep := fun k hk => hkeep k (hI.slt k hk) fun h => (hHl k h).2.1 hk
  place := fun a ha j hj hli => by
   have hji : j ≠ i := fun e => by
    subst e
    simp only [cutP, List.any_nil, Bool.or_false] at ha
    rw [ha] at hj; cases hj
   by_cases e1 : j = p
   ·subst e1; rw [hFp]; exact ⟨l1, u1⟩
   ·by_cases e2 : j = q
    ·subst e2; rw [hFq]; exact ⟨l2, u2⟩
    ·rw [hFo j hji e1 e2]; exact ⟨hli, rfl⟩
  reads := fun a ha j hj hli => by
   have hji : j ≠ i := fun e => by
    subst e
    simp only [cutP, List.any_nil, Bool.or_false] at ha
    rw [reads_names hj] at ha; cases ha
   have e1 : j ≠ p := fun e => by subst e; exact hpr hli.2
   have e2 : j ≠ q := fun e => by subst e; exact hqr hli.2
   rw [hFo j hji e1 e2]
   exact ⟨hli, fun _ h => h, fun k hk => hkeep k (hold j hli.1 hji e1 e2 k hk).1 (hold j hli.1 hji e1 e2 k hk).2⟩ }
 have cls : ∀ c x, (newE E E' i p q c).live → (newE E E' i p q c).F x → (∃ k, (E' k).live ∧ (E' k).F x ∧ (k = 0 ∧ c = i ∨ k = 1 ∧ c = p ∨ k = 2 ∧ c = q)) ∨ ((E c).live ∧ (E c).F x ∧ c ≠ i ∧ c ≠ p ∧ c ≠ q) := fun c x hcl hcF => by
  by_cases e0 : c = i
  ·subst e0; rw [hFi] at hcl hcF; exact .inl ⟨0, hcl, hcF, .inl ⟨rfl, rfl⟩⟩
  ·by_cases e1 : c = p
   ·subst e1; rw [hFp] at hcl hcF; exact .inl ⟨1, hcl, hcF, .inr (.inl ⟨rfl, rfl⟩)⟩
   ·by_cases e2 : c = q
    ·subst e2; rw [hFq] at hcl hcF; exact .inl ⟨2, hcl, hcF, .inr (.inr ⟨rfl, rfl⟩)⟩
    ·rw [hFo c e0 e1 e2] at hcl hcF; exact .inr ⟨hcl, hcF, e0, e1, e2⟩
 refine ⟨⟨?_, ?_, ?_, ?_, ?_, ?_, ?_⟩, hC⟩
 ·rintro k (h | h)
  ·exact Nat.lt_of_lt_of_le (hI.slt k h) hI'.kept.size
  ·exact hI'.slt k h
 ·rintro k (h | h)
  ·exact hI.snew k h
  ·rcases hS2 k h with h | h
   ·exact hI.snew k h
   ·exact .inr (Nat.le_trans hI.kept.size h)
 ·intro j o h
  rw [alook_cons] at h
  split at h
  ·rename_i e; subst e; cases h
   rw [hFi]
   refine ⟨l0, ?_⟩
   refine ⟨by rw [hFi]; exact rd0, fun v hv => (by cases hv), ?_⟩
   rw [hFi]
   simp only [Bool.false_eq_true, if_false] at ro0 ⊢
   exact Ro.more (fun _ h => .inr h) ro0
  ·rename_i h0
   rw [alook_cons] at h
   split at h
   ·rename_i e; subst e; cases h
    rw [hFp]
    exact ⟨l1, by rw [hFp]; exact rd1, g1, e1, cs1, by rw [hFp]; exact hu1, fun k => by rw [hFp]; exact hF1 k, hh1, pt_l (fun _ h => .inr h) hc1 hd1⟩
   ·rename_i h1
    rw [alook_cons] at h
    split at h
    ·rename_i e; subst e; cases h
     rw [hFq]
     exact ⟨l2, by rw [hFq]; exact rd2, g2, e2, cs2, by rw [hFq]; exact hu2, fun k => by rw [hFq]; exact hF2 k, hh2, pt_l (fun _ h => .inr h) hc2 hd2⟩
    ·rename_i h2
     rw [alook_cutO] at h
     obtain ⟨o3, h3, rfl⟩ := Option.map_eq_some_iff.mp h
     obtain ⟨r1, r2⟩ := hI.obs j o3 h3
     have eF := hFo j h0 h1 h2
     refine ⟨by rw [eF]; exact r1, ?_⟩
     exact okOb.carry hC (i := j) (by rw [eF]) (fun k => by rw [eF]) (by rw [eF]) (fun k hk => hkeep k (hold j r1 h0 h1 h2 k hk).1 (hold j r1 h0 h1 h2 k hk).2) r2
 ·intro a b hab ha hb' x h1 h2
  rcases cls a x ha h1 with ⟨k, k1, k2, k3⟩ | ⟨k1, k2, k3, k4, k5⟩ <;> rcases cls b x hb' h2 with ⟨m, m1, m2, m3⟩ | ⟨m1, m2, m3, m4, m5⟩
  ·have hkm : k ≠ m := by
    intro e
    subst e
    apply hab
    rcases k3 with ⟨h, rfl⟩ | ⟨h, rfl⟩ | ⟨h, rfl⟩ <;> rcases m3 with ⟨t, rfl⟩ | ⟨t, rfl⟩ | ⟨t, rfl⟩ <;> first | rfl | omega
   exact hI'.dis k m hkm k1 m1 x k2 m2
  ·rcases (hnew k k1 x k2).2.2 with h | h
   ·have := (hold b m1 m3 m4 m5 x m2).1; omega
   ·exact (hold b m1 m3 m4 m5 x m2).2 h
  ·rcases (hnew m m1 x m2).2.2 with h | h
   ·have := (hold a k1 k3 k4 k5 x k2).1; omega
   ·exact (hold a k1 k3 k4 k5 x k2).2 h
  ·exact hI.dis a b hab k1 m1 x k2 m2
 ·intro c hc k hk
  rcases cls c k hc hk with ⟨m, m1, m2, _⟩ | ⟨m1, m2, m3, m4, m5⟩
  ·obtain ⟨r1, r2, r3⟩ := hnew m m1 k m2
   refine ⟨r1, ?_, ?_⟩
   ·rintro (h | h)
    ·rcases r3 with r3 | r3
     ·have := hI.slt k h; omega
     ·exact (hHl k r3).2.1 h
    ·exact r2 h
   ·rcases r3 with r3 | r3
    ·exact .inl (Nat.le_trans hI.kept.size r3)
    ·exact (hHl k r3).2.2
  ·obtain ⟨r1, r2, r3⟩ := hI.fp c m1 k m2
   refine ⟨Nat.lt_of_lt_of_le r1 hI'.kept.size, ?_, r3⟩
   rintro (h | h)
   ·exact r2 h
   ·rcases hS2 k h with h | h
    ·exact r2 h
    ·omega
 ·intro c hc
  by_cases e0 : c = i
  ·subst e0; exact hI.nxt c hi
  ·by_cases e1 : c = p
   ·subst e1; exact hI.nxt c hp
   ·by_cases e2 : c = q
    ·subst e2; exact hI.nxt c hq
    ·rw [hFo c e0 e1 e2] at hc; exact hI.nxt c hc
 ·obtain ⟨k1, k2, k3, k4, k5⟩ := hI.kept
  refine ⟨hI'.kept.os.trans k1, hI'.kept.tape.trans k2, hI'.kept.output.trans k3, Nat.le_trans k4 hI'.kept.size, fun k hk hm => ?_⟩
  rw [hkeep k (Nat.lt_of_lt_of_le hk k4) (fun h => by
   rcases (hHl k h).2.2 with h | h
   ·omega
   ·exact hm h)]
  exact k5 k hk hm
end
section rules
variable {cx : Cx} {s : St} {dst : Option Nat} {ty : TypeId} {pos : String} {aft : Array Edge}
theorem o_callF (i p q : Nat) {g f : FuncId} {x1 x2 : Operand} {ats : Array TypeId} {pn : Option Value} {e sz : Nat} {α : Type} {enc : α → Nat → T} {l : List α} (l' : List α) {C1 C2 c1 c2 : List AC} {nx' : Nat} (hE : Go.Proofs.Enters cx.P g)
  (hC : ∀ U : Nat → Value, Mu cx.P g [.c (.own 0), .c (.clo f [(1, 0), (2, 0)])] [(0, some (.row (some (U 0)) e false sz enc l)), (1, some (.pbox (U 1) c1)), (2, some (.pbox (U 2) c2))] 3 [(0, some (.row none e false sz enc l')), (1, some (.pbox (U 1) c1)), (2, some (.pbox (U 2) c2))] nx' (.c (.own 0)))
  (hd : okd dst cx.n = true) (hb : alook s.ob i = some (.row pn e false sz enc l)) (hp : alook s.ob p = some (.box C1)) (hq : alook s.ob q = some (.box C2)) (h1 : C1.map AC.wk = c1) (h2 : C2.map AC.wk = c2) (hpq : Nat.beq p q = false) (hx1 : s.ev x1 = some (.c (.own i))) (hx2 : s.ev x2 = some (.c (.clo f [(p, 0), (q, 0)]))) :
  Os cx s ⟨dst, .call { callee := .value (.func g), args := #[x1, x2], argTypes := ats }, ty, pos, aft, none⟩ ((⟨cutT (cutP i []) s.tm, (i, some (.row none e false sz enc l')) :: (p, some (.box c1)) :: (q, some (.box c2)) :: cutO (cutP i []) s.ob, s.nx⟩ : St).sets dst (some (.c (.own i)))) false := by
 subst h1 h2
 have hpq : p ≠ q := fun e => by rw [e] at hpq; simp at hpq
 have hip : i ≠ p := fun e => by rw [e, hp] at hb; cases hb
 have hiq : i ≠ q := fun e => by rw [e, hq] at hb; cases hb
 intro Q a w hg
 obtain ⟨E, S, hI, hT, hn, hdf⟩ := hg
 obtain ⟨li, rdi, hpn, hoi⟩ := hI.obs _ _ hb
 obtain ⟨lp, rdp, gp, ep, csp, hup, hFp, hhp, hdp⟩ := hI.obs _ _ hp
 obtain ⟨lq, rdq, gq, eq, csq, huq, hFq, hhq, hdq⟩ := hI.obs _ _ hq
 unfold Oper.wp
 rw [execOp_call_go, hE]
 have hargs : #[] ++ Array.map a.eval #[x1, x2] ++ #[] = ([x1, x2].map a.eval).toArray := by
  apply Array.ext'
  simp
 rw [hargs, Oper.upon_enter]
 have e0 : triE E i p q 0 = E i := rfl
 have e1 : triE E i p q 1 = E p := rfl
 have e2 : triE E i p q 2 = E q := rfl
 have hlive : ∀ j, (triE E i p q j).live → j = 0 ∨ j = 1 ∨ j = 2 := fun j h => by
  unfold triE at h
  split at h
  ·exact .inl (by assumption)
  ·split at h
   ·exact .inr (.inl (by assumption))
   ·split at h
    ·exact .inr (.inr (by assumption))
    ·exact h.elim
 have hI0 : Inv ⟨cx.P, g, 0, w, S, handed (triE E i p q)⟩ [(0, some (.row (some (E i).u) e false sz enc l)), (1, some (.pbox (E p).u (C1.map AC.wk))), (2, some (.pbox (E q).u (C2.map AC.wk)))] 3 (triE E i p q) S w := by
  refine ⟨hI.slt, fun k h => .inl h, fun j o hj => ?_, fun j j' hij hj hj' => ?_, fun j hj k hk => ?_, fun j hj => by have := hlive j hj; omega, Kept.refl _ _⟩
  ·rw [alook_cons] at hj
   split at hj
   ·rename_i h0; subst h0; cases hj
    exact ⟨li, rdi, fun v hv => Option.some.inj hv, hoi⟩
   ·rw [alook_cons] at hj
    split at hj
    ·rename_i h0; subst h0; cases hj
     exact ⟨lp, rfl, rdp, gp, ep, csp, hup, hFp, hhp, wk_l hdp⟩
    ·rw [alook_cons] at hj
     split at hj
     ·rename_i h0; subst h0; cases hj
      exact ⟨lq, rfl, rdq, gq, eq, csq, huq, hFq, hhq, wk_l hdq⟩
     ·simp [alook] at hj
  ·intro k hk hk'
   have hii := hI.dis
   rcases hlive j hj with rfl | rfl | rfl <;> rcases hlive j' hj' with rfl | rfl | rfl
   ·exact hij rfl
   ·exact hii i p hip li lp k hk hk'
   ·exact hii i q hiq li lq k hk hk'
   ·exact hii p i (Ne.symm hip) lp li k hk hk'
   ·exact hij rfl
   ·exact hii p q hpq lp lq k hk hk'
   ·exact hii q i (Ne.symm hiq) lq li k hk hk'
   ·exact hii q p (Ne.symm hpq) lq lp k hk hk'
   ·exact hij rfl
  ·have hm : handed (triE E i p q) k := ⟨j, hj, hk⟩
   rcases hlive j hj with rfl | rfl | rfl
   ·exact ⟨(hI.fp i li k hk).1, (hI.fp i li k hk).2.1, .inr hm⟩
   ·exact ⟨(hI.fp p lp k hk).1, (hI.fp p lp k hk).2.1, .inr hm⟩
   ·exact ⟨(hI.fp q lq k hk).1, (hI.fp q lq k hk).2.1, .inr hm⟩
 have hU : ∀ j, (fun j => if j = 0 then (E i).u else if j = 1 then (E p).u else (E q).u) j = (fun j => if j = 0 then (E i).u else if j = 1 then (E p).u else (E q).u) j := fun _ => rfl
 have hA : denA (triE E i p q) S w [.c (.own 0), .c (.clo f [(1, 0), (2, 0)])] ([x1, x2].map a.eval) := by
  refine ⟨rfl, fun j v hj => ?_⟩
  match j with
  | 0 =>
   cases hj
   obtain ⟨a1, a2, a3⟩ := ev_den hT hx1
   exact ⟨_, rfl, a1, a2, a3⟩
  | 1 =>
   cases hj
   obtain ⟨us, r1, r2, r3⟩ := ev_den hT hx2
   refine ⟨_, rfl, us, r1, r2, fun j pr hj => ?_⟩
   match j with
   | 0 =>
    cases hj
    exact r3 0 (p, 0) rfl
   | 1 =>
    cases hj
    exact r3 1 (q, 0) rfl
   | j + 2 => simp at hj
  | j + 2 => simp at hj
 refine (hC (fun j => if j = 0 then (E i).u else if j = 1 then (E p).u else (E q).u) 0 w (triE E i p q) S ([x1, x2].map a.eval) hI0 hA).mono ?_
 rintro en w' ⟨u, E', S2, rfl, hI', hu⟩
 obtain ⟨l0, o0⟩ := hI'.obs 0 _ rfl
 obtain ⟨l1, o1⟩ := hI'.obs 1 _ rfl
 obtain ⟨l2, o2⟩ := hI'.obs 2 _ rfl
 obtain ⟨j1, j2⟩ := hI.joinF li lp lq hip hiq hpq rdp rdq hI' l0 l1 l2 o0 o1 o2 (wk_pt _) (wk_pt _)
 obtain ⟨_, hu0, hu1⟩ := hu
 refine ⟨⟨_, _, by rw [sets_ob, sets_nx]; exact j1, denT_puts (s := ⟨cutT (cutP i []) s.tm, (i, some (.row none e false sz enc l')) :: (p, some (.box (C1.map AC.wk))) :: (q, some (.box (C2.map AC.wk))) :: cutO (cutP i []) s.ob, s.nx⟩) hd hn (denT.cut j2 hT) (fun v' e' => ?_), by rw [put_size]; exact hn, by rw [put_defers]; exact hdf⟩, fun h => by (cases h)⟩
 cases e'
 exact ⟨by unfold newE; rw [if_pos rfl]; exact l0, by unfold newE; rw [if_pos rfl]; exact hu0, hu1⟩
theorem zero_at {zs : List Value} {n b c : Nat} (hb : b < n) (hc : c < zs.length) : (Builtin.zeroCells zs.toArray n).toList[b * zs.length + c]? = zs[c]? := by
 have hlt : b * zs.length + c < n * zs.length := by
  have : (b + 1) * zs.length ≤ n * zs.length := Nat.mul_le_mul_right _ hb
  rw [Nat.add_mul] at this
  omega
 have hm : (b * zs.length + c) % zs.length = c := by
  rw [Nat.mul_comm, Nat.mul_add_mod]
  exact Nat.mod_eq_of_lt hc
 unfold Builtin.zeroCells
 rw [Array.getElem?_toList, Array.getElem?_map, List.size_toArray, Array.getElem?_range, if_pos hlt]
 simp only [Option.map_some, hm]
 rw [List.getElem?_eq_getElem hc]
 congr 1
 rw [getElem!_pos zs.toArray c (by simpa using hc)]
 simp
theorem zero_len (zs : List Value) (n : Nat) : (Builtin.zeroCells zs.toArray n).toList.length = n * zs.length := by simp [Builtin.zeroCells]
theorem o_clearF {t et e0 i off n sz : Nat} {pn : Option Value} {α : Type} {enc : α → Nat → T} {xs : List α} {x : Operand} (z0 : α) {zs : List Value} (hx : s.ev x = some (.c (.vw i off n sz))) (hb : alook s.ob i = some (.row pn e0 false sz enc xs)) (he : cx.P.underlying t = some (.slice et)) (hz : zeroOf cx.P et = some zs) (h1 : zs.all (·.oneCell') = true) (hs : Nat.beq zs.length sz = true) (hz0 : ZrL (enc z0) 0 zs) (hn : off + n ≤ xs.length) (hpos : 0 < n) :
  Os cx s ⟨none, .call { callee := .builtin .clear, args := #[x], argTypes := #[t] }, ty, pos, aft, none⟩ ⟨cutT (cutR i []) s.tm, (i, some (.row pn e0 false sz enc (xs.take off ++ List.replicate n z0 ++ xs.drop (off + n)))) :: dels [] (cutO (cutR i []) s.ob), s.nx⟩ false := by
 have hs : zs.length = sz := Nat.eq_of_beq_eq_true hs
 refine o_gen fun ac w hg => ?_
 obtain ⟨E, S, hI, hT, hsz, hdf⟩ := hg
 obtain ⟨hli, g, m, cap, cap', hu, hux, _⟩ := ev_den hT hx
 obtain ⟨_, hrd, hpn, ho⟩ := hI.obs _ _ hb
 simp only [Bool.false_eq_true, if_false] at ho
 obtain ⟨cells, q1, q2, q5⟩ := ho
 rw [hu] at q1
 have hmx : m = xs.length := by
  rcases q1.2 with ⟨e, _⟩ | ⟨g', c', cur, e, _⟩
  ·cases e
  ·cases e; rfl
 subst hmx
 have hgF : (E i).F g := q2 g (by rw [hu]; rfl)
 have hul : (Builtin.zeroCells zs.toArray n).toList.length = n * sz := by rw [zero_len, hs]
 have hfit : off * sz + (Builtin.zeroCells zs.toArray n).toList.length ≤ xs.length * sz := by
  rw [hul, ← Nat.add_mul]
  exact Nat.mul_le_mul_right _ hn
 obtain ⟨cur, hg1, hg2, hown⟩ := own_put (us := (Builtin.zeroCells zs.toArray n).toList) (q := off * sz) q1 hfit
 obtain ⟨zz, hz1, hz2⟩ := run_zero hz w
 have hone : ∀ v ∈ (Builtin.zeroCells zs.toArray n).toList, v.oneCell' = true := fun v hv => by
  obtain ⟨j, hj⟩ := List.getElem?_of_mem hv
  have hjl := (List.getElem?_eq_some_iff.1 hj).1
  rw [hul, ← hs] at hjl
  have hsz0 : 0 < zs.length := by
   rcases Nat.eq_zero_or_pos zs.length with e | e
   ·rw [e] at hjl; omega
   ·exact e
  have hd : j = (j / zs.length) * zs.length + j % zs.length := by rw [Nat.mul_comm]; exact (Nat.div_add_mod _ _).symm
  have hjn : j / zs.length < n := Nat.div_lt_of_lt_mul (by rw [Nat.mul_comm]; exact hjl)
  rw [hd, zero_at hjn (Nat.mod_lt _ hsz0)] at hj
  exact (List.all_eq_true.1 h1) v (List.mem_of_getElem? hj)
 have hst := run_storeCells_at (P := cx.P) g (off * sz) e0 (Builtin.zeroCells zs.toArray n).toList 0 cur.toArray w hg1 (by simpa using hg2) hone
 simp only [Nat.add_zero] at hst
 have hput : cur.toArray.toList.take (off * sz) ++ (Builtin.zeroCells zs.toArray n).toList ++ cur.toArray.toList.drop (off * sz + (Builtin.zeroCells zs.toArray n).toList.length) = putL cur (off * sz) (Builtin.zeroCells zs.toArray n).toList := rfl
 rw [hput] at hst
 have hrun : (Builtin.clear_ #[t] ty #[.slice (some ⟨g, off * sz, none⟩) n cap']).run cx.P w = .ok (.tuple #[]) (w.setRow g (putL cur (off * sz) (Builtin.zeroCells zs.toArray n).toList).toArray) := by
  obtain ⟨n', rfl⟩ : ∃ n', n = n' + 1 := ⟨n - 1, by omega⟩
  simp [Builtin.clear_, run_underlying he, hz1, hz2, hst]
 have hget : ∀ (b c : Nat), b < xs.length → c < sz → (putL cells (off * sz) (Builtin.zeroCells zs.toArray n).toList)[b * sz + c]? = if off ≤ b ∧ b < off + n then zs[c]? else cells[b * sz + c]? := fun b c hb2 hc => by
  rw [putL_get (by rw [q1.1]; exact hfit)]
  rw [hul]
  by_cases e1 : b < off
  ·have : (b + 1) * sz ≤ off * sz := Nat.mul_le_mul_right _ e1
   rw [Nat.add_mul] at this
   rw [if_pos (by omega), if_neg (by omega)]
  ·have h2 : off * sz ≤ b * sz := Nat.mul_le_mul_right _ (by omega)
   rw [if_neg (by omega)]
   by_cases e2 : b < off + n
   ·have : (b + 1) * sz ≤ (off + n) * sz := Nat.mul_le_mul_right _ e2
    rw [Nat.add_mul, Nat.add_mul] at this
    rw [if_pos (by omega), if_pos (by omega)]
    have h3 : b * sz + c - off * sz = (b - off) * zs.length + c := by rw [hs, Nat.sub_mul]; omega
    rw [h3, zero_at (by omega) (by omega)]
   ·have : (off + n) * sz ≤ b * sz := Nat.mul_le_mul_right _ (by omega)
    rw [Nat.add_mul] at this
    rw [if_neg (by omega), if_neg (by omega)]
 have hw : ∀ k, S k → (w.setRow g (putL cur (off * sz) (Builtin.zeroCells zs.toArray n).toList).toArray).heap[k]? = w.heap[k]? := fun k hk => setRow_other w g k _ (by rintro rfl; exact (hI.fp i hli _ hgF).2.1 hk)
 have hobj : okOb (takeE E i [] ⟨(E i).u, (E i).F, True, True⟩) S (w.setRow g (putL cur (off * sz) (Builtin.zeroCells zs.toArray n).toList).toArray) i (.row pn e0 false sz enc (xs.take off ++ List.replicate n z0 ++ xs.drop (off + n))) := by
  refine ⟨by rw [takeE_at]; trivial, by rw [takeE_at]; exact hpn, ?_⟩
  rw [takeE_at]
  simp only [Bool.false_eq_true, if_false]
  have hlen : (xs.take off ++ List.replicate n z0 ++ xs.drop (off + n)).length = xs.length := by simp; omega
  refine ⟨putL cells (off * sz) (Builtin.zeroCells zs.toArray n).toList, by rw [hlen, hu]; exact hown, q2, fun b x' hx' c hc => ?_⟩
  have hbl : b < xs.length := by rw [← hlen]; exact (List.getElem?_eq_some_iff.1 hx').1
  rw [hget b c hbl hc]
  by_cases hb1 : b < off
  ·rw [if_neg (by omega)]
   rw [List.append_assoc, List.getElem?_append_left (by simp; omega), List.getElem?_take, if_pos hb1] at hx'
   obtain ⟨u', e1, e2⟩ := q5 b x' hx' c hc
   exact ⟨u', e1, Rd.move (fun _ h => h) hw _ _ e2⟩
  ·by_cases hb2 : b < off + n
   ·rw [if_pos ⟨by omega, hb2⟩]
    have hzx : x' = z0 := by
     rw [List.getElem?_append_left (by simp; omega), List.getElem?_append_right (by simp; omega), List.getElem?_replicate] at hx'
     split at hx'
     ·exact (Option.some.inj hx').symm
     ·cases hx'
    subst hzx
    refine ⟨_, List.getElem?_eq_getElem (by omega), ?_⟩
    have hr := hz0.get c _ (List.getElem?_eq_getElem (by omega))
    rw [Nat.zero_add] at hr
    generalize zs[c] = zc at hr
    generalize enc x' c = tc at hr
    cases hr with
    | v h => exact ⟨rfl, h⟩
    | sl => exact nil_rd
   ·rw [if_neg (by omega)]
    have hlb : (xs.take off ++ List.replicate n z0).length = off + n := by simp; omega
    rw [List.getElem?_append_right (by omega), hlb, List.getElem?_drop, show off + n + (b - (off + n)) = b by omega] at hx'
    obtain ⟨u', e1, e2⟩ := q5 b x' hx' c hc
    exact ⟨u', e1, Rd.move (fun _ h => h) hw _ _ e2⟩
 have hW := hI.write (w' := w.setRow g (putL cur (off * sz) (Builtin.zeroCells zs.toArray n).toList).toArray) (i := i) (is := []) (x := ⟨(E i).u, (E i).F, True, True⟩) (cutR i []) hli (fun q hq => by simp at hq) trivial (fun a' ha => by
   simp only [cutR, Bool.or_eq_false_iff] at ha
   exact ⟨fun q hq => by simp at hq, fun _ => rfl, fun hr _ => by (rw [ha.1] at hr; cases hr)⟩)
  (fun k hk => .inl hk) (by simp) rfl rfl rfl (fun k _ hf => setRow_other w g k _ (by rintro rfl; exact hf hgF)) hobj
 refine ⟨.value (.tuple #[]), _, ?_, .inl ⟨_, rfl, takeE E i [] ⟨(E i).u, (E i).F, True, True⟩, S, hW.1, denT.cut hW.2 hT, hsz, hdf⟩, fun h => by (cases h)⟩
 have hm : Array.map ac.eval #[x] = #[.slice (some ⟨g, off * sz, none⟩) n cap'] := by simp [hux]
 simp only [execOp, resolve, invoke, builtin, hm, Sem.run_bind, Sem.run_pure, Result.andThen_ok]
 rw [hrun]
 rfl
end rules
section
variable {cx : Cx} {s : St} {R : Ending → World → Prop}
theorem gt_shrinkF (t i : Nat) {n sz e : Nat} {pn : Option Value} {α : Type} {enc : α → Nat → T} {xs : List α} {todo : List Item} (ht : alook s.tm t = some (.c (.vw i 0 n sz))) (hb : alook s.ob i = some (.row pn e false sz enc xs)) (hn : n ≤ xs.length) (hne : 0 < xs.length)
  (h : Wt cx ⟨(t, some (.c (.own i))) :: cutT (cutP i []) s.tm, (i, some (.row none e false sz enc (xs.take n))) :: dels [] (cutO (cutP i []) s.ob), s.nx⟩ todo R) : Wt cx s todo R := by
 intro a w hg
 refine h a w ?_
 obtain ⟨E, S, hI, hT, hsz, hdf⟩ := hg
 obtain ⟨hl, g, cap, hu, hc⟩ := row_slice hI hb hne
 obtain ⟨_, hrd, _, ho⟩ := hI.obs _ _ hb
 simp only [Bool.false_eq_true, if_false] at ho
 obtain ⟨cells, h1, h2, h5⟩ := ho
 obtain ⟨_, g', m, cp, cp', e1, e2, e3⟩ := hT t _ ht
 rw [hu] at e1
 cases e1
 obtain rfl : cp' = cap := by omega
 rw [Nat.zero_mul] at e2
 have hobj : okOb (takeE E i [] ⟨.slice (some ⟨g, 0, none⟩) n cp', (E i).F, True, True⟩) S w i (.row none e false sz enc (xs.take n)) := by
  refine ⟨by rw [takeE_at]; trivial, fun v hv => (by cases hv), ?_⟩
  rw [takeE_at]
  simp only [Bool.false_eq_true, if_false]
  rw [hu] at h1
  have hlen : (xs.take n).length = n := by rw [List.length_take]; omega
  refine ⟨cells.take (n * sz), by rw [hlen]; exact own_shrink h1 hn, fun g' hg' => h2 g' (by rw [hu]; exact hg'), fun b x hx c hc => ?_⟩
  rw [List.getElem?_take] at hx
  split at hx
  ·rename_i hbn
   obtain ⟨u', q1, q2⟩ := h5 b x hx c hc
   exact ⟨u', by rw [List.getElem?_take, if_pos (mulLt hbn hc)]; exact q1, q2⟩
  ·cases hx
 have hW := hI.write (w' := w) (i := i) (is := []) (x := ⟨.slice (some ⟨g, 0, none⟩) n cp', (E i).F, True, True⟩) (cutP i []) hl (fun q hq => by simp at hq) trivial (fun a' ha' => by
   simp only [cutP, List.any_nil, Bool.or_false] at ha'
   exact ⟨fun q hq => by simp at hq, fun hn' => (by rw [ha'] at hn'; cases hn'), fun hr _ => by (rw [reads_names hr] at ha'; cases ha')⟩)
  (fun k hk => .inl hk) (Nat.le_refl _) rfl rfl rfl (fun _ _ _ => rfl) hobj
 refine ⟨_, S, hW.1, ?_, hsz, hdf⟩
 intro t' v' ht'
 rw [alook_cons] at ht'
 split at ht'
 ·rename_i e
  subst e
  cases ht'
  refine ⟨by rw [takeE_at]; trivial, by rw [takeE_at]; exact e2, ?_⟩
  rw [e2]; rfl
 ·exact denT.cut hW.2 hT t' v' ht'
end
end Go.Eng
