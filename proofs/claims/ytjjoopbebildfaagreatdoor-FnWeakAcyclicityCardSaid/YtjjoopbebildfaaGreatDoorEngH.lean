/- The engine, part H: a box and its row handed over to a closure; pinned boxes. -/
import Derived.Test.YtjjoopbebildfaaGreatDoorEngG
set_option linter.unusedVariables false
set_option linter.unusedSimpArgs false
namespace Go.Eng
open Go Go.RowKit
section
variable {cx : Cx} {ob : List (Nat × Option Ob)} {nx : Nat} {E : Nat → EE} {S : Nat → Prop} {w w' : World}
theorem Inv.writes2 (hI : Inv cx ob nx E S w) {im : List Nat} {X : Nat → EE} {ob' : List (Nat × Option Ob)} (p : AC → Bool)
    (hi : ∀ i, i ∈ im → (E i).live) (hx : ∀ i, i ∈ im → (X i).live) (hu : ∀ a, p a = false → ∀ i, i ∈ im → a.names i = true → (X i).u = (E i).u) (hout : ∀ i, i ∉ im → X i = E i)
    (hp : ∀ a, p a = false → ∀ i, i ∈ im → a.reads i = true → (E i).rd → False)
    (hF : ∀ i, i ∈ im → ∀ k, (X i).F k → (∃ q, q ∈ im ∧ (E q).F k) ∨ (w.heap.size ≤ k ∧ k < w'.heap.size))
    (hX : ∀ i, i ∈ im → ∀ j, j ∈ im → i ≠ j → ∀ k, (X i).F k → ¬ (X j).F k)
    (hsz : w.heap.size ≤ w'.heap.size) (hos : w'.os = w.os) (htp : w'.tape = w.tape) (hop : w'.output = w.output)
    (hw : ∀ k, k < w.heap.size → (∀ i, i ∈ im → ¬ (E i).F k) → w'.heap[k]? = w.heap[k]?)
    (ho : ∀ i o, alook ob' i = some o → (i ∈ im ∧ okOb X S w' i o) ∨ (i ∉ im ∧ alook (cutO p ob) i = some o)) :
    Inv cx ob' nx X S w' ∧ Carry E X S S w w' p := by
  have hfr : ∀ j, (E j).live → j ∉ im → ∀ k, (E j).F k → w'.heap[k]? = w.heap[k]? := fun j hj hn k hk =>
    hw k (hI.fp j hj k hk).1 fun i him h => hI.dis j i (fun e => hn (e ▸ him)) hj (hi i him) k hk h
  have hC : Carry E X S S w w' p := {
    sub := fun _ h => h
    keep := fun k hk => hw k (hI.slt k hk) fun i him h => (hI.fp i (hi i him) k h).2.1 hk
    place := fun a ha j hn hl => by
      by_cases e : j ∈ im
      · exact ⟨hx j e, hu a ha j e hn⟩
      · rw [hout j e]; exact ⟨hl, rfl⟩
    reads := fun a ha j hn hl => by
      have e : j ∉ im := fun e => hp a ha j e hn hl.2
      rw [hout j e]
      exact ⟨hl, fun _ q => q, hfr j hl.1 e⟩ }
  have hlv : ∀ j, (X j).live → (E j).live := fun j hj => by
    by_cases e : j ∈ im
    · exact hi j e
    · rwa [hout j e] at hj
  refine ⟨⟨fun k hk => Nat.lt_of_lt_of_le (hI.slt k hk) hsz, hI.snew, fun j o hj => ?_, fun j j' hij hj hj' k h1 h2 => ?_, fun j hj k hk => ?_, fun j hj => hI.nxt j (hlv j hj), ?_⟩, hC⟩
  · rcases ho j o hj with ⟨e, h⟩ | ⟨e, h⟩
    · exact ⟨hx j e, h⟩
    · rw [alook_cutO] at h
      obtain ⟨o0, h0, rfl⟩ := Option.map_eq_some_iff.mp h
      obtain ⟨h1, h2⟩ := hI.obs j o0 h0
      refine ⟨by rw [hout j e]; exact h1, ?_⟩
      exact okOb.carry hC (by rw [hout j e]) (fun k => by rw [hout j e]) (by rw [hout j e]) (hfr j h1 e) h2
  · by_cases e1 : j ∈ im <;> by_cases e2 : j' ∈ im
    · exact hX j e1 j' e2 hij k h1 h2
    · rw [hout j' e2] at hj' h2
      rcases hF j e1 k h1 with ⟨q, hq, h⟩ | ⟨h, _⟩
      · exact hI.dis j' q (fun e => e2 (e ▸ hq)) hj' (hi q hq) k h2 h
      · have := (hI.fp j' hj' k h2).1; omega
    · rw [hout j e1] at hj h1
      rcases hF j' e2 k h2 with ⟨q, hq, h⟩ | ⟨h, _⟩
      · exact hI.dis j q (fun e => e1 (e ▸ hq)) hj (hi q hq) k h1 h
      · have := (hI.fp j hj k h1).1; omega
    · rw [hout j e1] at hj h1
      rw [hout j' e2] at hj' h2
      exact hI.dis j j' hij hj hj' k h1 h2
  · by_cases e : j ∈ im
    · rcases hF j e k hk with ⟨q, hq, h⟩ | ⟨h, h3⟩
      · obtain ⟨q1, q2, q3⟩ := hI.fp q (hi q hq) k h
        exact ⟨by omega, q2, q3⟩
      · exact ⟨h3, fun hs => by have := hI.slt k hs; omega, .inl (Nat.le_trans hI.kept.size h)⟩
    · rw [hout j e] at hj hk
      obtain ⟨q1, q2, q3⟩ := hI.fp j hj k hk
      exact ⟨by omega, q2, q3⟩
  · refine ⟨hos.trans hI.kept.os, htp.trans hI.kept.tape, hop.trans hI.kept.output, Nat.le_trans hI.kept.size hsz, fun k hk hm => ?_⟩
    have hk2 := Nat.lt_of_lt_of_le hk hI.kept.size
    refine (hw k hk2 fun i him h => ?_).trans (hI.kept.block k hk hm)
    rcases (hI.fp i (hi i him) k h).2.2 with h | h
    · omega
    · exact hm h
theorem Inv.unpinb (hI : Inv cx ob nx E S w) {i : Nat} {v : Value} {cells : List AC} (hb : alook ob i = some (.pbox v cells)) : Inv cx ((i, some (.box cells)) :: ob) nx E S w :=
  ⟨hI.slt, hI.snew, fun j o hj => by
    rw [alook_cons] at hj
    split at hj
    · rename_i e
      subst e
      cases hj
      obtain ⟨h1, h2⟩ := hI.obs _ _ hb
      exact ⟨h1, h2.2⟩
    · exact hI.obs j o hj, hI.dis, hI.fp, hI.nxt, hI.kept⟩
end
/-- Plain arguments. -/
inductive ArgsB (s : St) : List Operand → List AV → Prop
  | nil : ArgsB s [] []
  | cons {x : Operand} {y : T} {xs : List Operand} {bs : List AV} (hx : s.ev x = some (.c (.t none y))) (hr : ArgsB s xs bs) : ArgsB s (x :: xs) (.c (.t none y) :: bs)
/-- What a closure has captured: the box i, handed over; other boxes, of one cell, read. -/
inductive CapsB (s : St) (i : Nat) : List (Nat × Nat) → List AV → Prop
  | nil : CapsB s i [] []
  | box {ps : List (Nat × Nat)} {bs : List AV} (hr : CapsB s i ps bs) : CapsB s i ((i, 0) :: ps) (.c (.ptr 0 0) :: bs)
  | pel {k : Nat} {c : Nat → T} {cells : List AC} {ps : List (Nat × Nat)} {bs : List AV} (hk : Nat.beq k i = false) (hb : alook s.ob k = some (.box cells)) (hc : cells[0]? = some (.t none (c 0))) (hr : CapsB s i ps bs) : CapsB s i ((k, 0) :: ps) (.c (.pel none c 1) :: bs)
section rules
variable {cx : Cx} {s : St} {dst : Option Nat} {ty : TypeId} {pos : String} {aft : Array Edge}
theorem p_unp {i : Nat} {v : Value} {cells : List AC} {op : Go.Op} {val : AV} (hb : alook s.ob i = some (.pbox v cells)) (h : Ps cx ⟨s.tm, (i, some (.box cells)) :: s.ob, s.nx⟩ op val) : Ps cx s op val :=
  fun a w E S hI hT => h a w E S (hI.unpinb hb) hT
theorem o_unp {i : Nat} {v : Value} {cells : List AC} {op : Go.Op} {val : AV} (hd : okd dst cx.n = true) (hb : alook s.ob i = some (.pbox v cells)) (h : Ps cx ⟨s.tm, (i, some (.box cells)) :: s.ob, s.nx⟩ op val) : Os cx s ⟨dst, op, ty, pos, aft, none⟩ (s.sets dst (some val)) true := o_value hd (p_unp hb h)
theorem o_storep {t : TypeId} {x y : Operand} {i o n : Nat} {pv : Value} {cells us : List AC} {v : AV} (hs : szOf cx.P t = some n) (hx : s.ev x = some (.c (.ptr i o))) (hb : alook s.ob i = some (.pbox pv cells)) (hy : s.ev y = some v) (hv : v.cells = some us) (hn : Nat.beq us.length n = true) (hle : Nat.ble (o + us.length) cells.length = true) :
    Os cx s ⟨none, .store t x y, ty, pos, aft, none⟩ ⟨s.tm, (i, some (.pbox pv (putL cells o us))) :: s.ob, s.nx⟩ false := by
  refine o_gen fun a w hg => ?_
  obtain ⟨E, S, hI, hT, hsz, hdf⟩ := hg
  have hn : us.length = n := Nat.eq_of_beq_eq_true hn
  have hle : o + us.length ≤ cells.length := by simpa using hle
  obtain ⟨hlv, g, h1, h2⟩ := ev_den hT hx
  obtain ⟨_, hpv, hrd, g', e, cs, h3, hF, h4, h5⟩ := hI.obs _ _ hb
  rw [h3] at h1
  cases h1
  have hd := cells_den hv (ev_den hT hy)
  have l1 := hd.1
  rw [Array.length_toList] at l1
  have hr := run_storeAt (P := cx.P) (t := t) (o := o) (u := a.eval y) (by rw [hs, l1, hn]) h4 (by have := h5.1; omega) hd.ones
  have hgF : (E i).F g := (hF g).2 rfl
  have hc : Carry E E S S w (w.setRow g (putL cs o (a.eval y).cells.toList).toArray) no := carry_set hI hlv hgF _ (fun _ _ _ => hrd)
  refine ⟨.skip, _, ?_, .inr ⟨rfl, E, S, ?_, denT.carry hc hT, hsz, hdf⟩, fun h => by (cases h)⟩
  · simp only [execOp, h2]
    rw [Sem.run_bind, hr]
    rfl
  · refine ⟨fun q hq => by simpa using hI.slt q hq, hI.snew, fun j o' hj => ?_, hI.dis, fun j hj q hq => by simpa using hI.fp j hj q hq, hI.nxt, hI.kept.setRow (hI.fp i hlv g hgF).2.2 _⟩
    rw [alook_cons] at hj
    by_cases e' : j = i
    · subst e'
      rw [if_pos rfl] at hj
      cases hj
      exact ⟨hlv, hpv, hrd, g, e, _, h3, hF, setRow_heap w g _ _ e _ h4, denL.carry hc (putL_den hle h5 hd)⟩
    · rw [if_neg e'] at hj
      obtain ⟨q1, q2⟩ := hI.obs j o' hj
      refine ⟨q1, ?_⟩
      have := okOb.carry hc (i := j) rfl (fun _ => Iff.rfl) Iff.rfl (fun q hq => setRow_other w g q _ (by rintro rfl; exact hI.dis j i e' q1 hlv q hq hgF)) q2
      rwa [Ob.cut_none] at this
theorem ArgsB.den {xs : List Operand} {bs : List AV} {a : Act} {E E' : Nat → EE} {S S' : Nat → Prop} {w : World} (h : ArgsB s xs bs) (hS : ∀ k, S k → S' k) (hT : denT E S w s.tm a.tmps) : denA E' S' w bs (xs.map a.eval) := by
  induction h with
  | nil => exact ⟨rfl, fun j v hj => by simp at hj⟩
  | cons hx hr ih =>
    refine ⟨by simp [ih.1], fun j v hj => ?_⟩
    match j with
    | 0 => cases hj; exact ⟨_, rfl, trivial, Rd.move hS (fun _ _ => rfl) _ _ (ev_den hT hx).2⟩
    | j + 1 => exact ih.2 j v hj
theorem CapsB.den {i : Nat} {ps : List (Nat × Nat)} {bs : List AV} {E E' : Nat → EE} {S S' : Nat → Prop} {w : World} (h : CapsB s i ps bs) (hI : Inv cx s.ob s.nx E S w) (hS : ∀ k, S k → S' k) (hB : ∀ k cells, alook s.ob k = some (.box cells) → k ≠ i → ∀ g, (E k).F g → S' g) (h0 : E' 0 = E i) {us : List Value} (hu : us.length = ps.length)
    (hd : ∀ (j : Nat) (p : Nat × Nat), ps[j]? = some p → ∃ u', us[j]? = some u' ∧ denP E p.1 p.2 u') : denA E' S' w bs us := by
  induction h generalizing us with
  | nil =>
    cases us with
    | nil => exact ⟨rfl, fun j v hj => by simp at hj⟩
    | cons u us => simp at hu
  | box hr ih =>
    cases us with
    | nil => simp at hu
    | cons u us =>
      obtain ⟨q1, q2⟩ := ih (us := us) (by simpa using hu) (fun j p hj => hd (j + 1) p hj)
      refine ⟨by simp [q1], fun j v hj => ?_⟩
      match j with
      | 0 =>
        cases hj
        obtain ⟨u', e1, e2⟩ := hd 0 _ rfl
        cases e1
        refine ⟨u, rfl, ?_⟩
        show denP E' 0 0 u
        unfold denP
        rw [h0]
        exact e2
      | j + 1 => exact q2 j v hj
  | @pel k c cells ps bs hk hb hc hr ih =>
    cases us with
    | nil => simp at hu
    | cons u us =>
      obtain ⟨q1, q2⟩ := ih (us := us) (by simpa using hu) (fun j p hj => hd (j + 1) p hj)
      refine ⟨by simp [q1], fun j v hj => ?_⟩
      match j with
      | 0 =>
        cases hj
        obtain ⟨u', e1, hlk, g, e2, e3⟩ := hd 0 _ rfl
        cases e1
        obtain ⟨_, _, g', e, cs, r1, r2, r3, r4⟩ := hI.obs _ _ hb
        rw [e2] at r1
        cases r1
        have hki : k ≠ i := fun e => by rw [e] at hk; simp at hk
        refine ⟨u, rfl, trivial, ⟨g, 0, none⟩, e3, hB _ _ hb hki g ((r2 g).2 rfl), fun q hq => ?_⟩
        obtain rfl : q = 0 := by omega
        obtain ⟨u'', t1, t2⟩ := r4.2 0 _ hc
        refine ⟨u'', ?_, Rd.move hS (fun _ _ => rfl) _ _ t2.2⟩
        have : (⟨g, 0, none⟩ : Addr).add 0 = ⟨g, 0, none⟩ := by unfold Addr.add; split <;> simp_all
        rw [this]
        unfold World.cell?
        simp [r3, t1]
      | j + 1 => exact q2 j v hj
/-- A call of a closure that is handed a box and the row in it. -/
theorem o_callBR (i j : Nat) {t f : Nat} {caps : List (Nat × Nat)} {xs : Array Operand} {ats : Array TypeId} {cargs bargs : List AV} {pn : Option Value} {e sz : Nat} {α : Type} {enc : α → Nat → T} {l l' : List α} (hE : Go.Proofs.Enters cx.P f)
    (hC : ∀ U : Nat → Value, Mu cx.P f (cargs ++ bargs) [(0, some (.pbox (U 0) [.own 1])), (1, some (.row none e true sz enc l))] 2 [(0, some (.pbox (U 0) [.own 1])), (1, some (.row none e true sz enc l'))] 2 (.tup [])) (hd : okd dst cx.n = true) (hv : s.ev (.tmp t) = some (.c (.clo f caps)))
    (hbi : alook s.ob i = some (.box [.own j])) (hbj : alook s.ob j = some (.row pn e true sz enc l)) (hij : Nat.beq i j = false) (ha : ArgsB s xs.toList cargs) (hcap : CapsB s i caps bargs) :
    Os cx s ⟨dst, .call { callee := .value (.tmp t), args := xs, argTypes := ats }, ty, pos, aft, none⟩ ((⟨cutT (cutP j []) s.tm, (i, some (.box [.own j])) :: (j, some (.row none e true sz enc l')) :: cutO (cutP j []) s.ob, s.nx⟩ : St).sets dst (some (.tup []))) false := by
  intro Q a w hg
  obtain ⟨E, S, hI, hT, hn, hdf⟩ := hg
  have hne : i ≠ j := fun e => by rw [e] at hij; simp at hij
  obtain ⟨hli, hrdi, g, ei, csi, hui, hFi, hheap, hcells⟩ := hI.obs _ _ hbi
  obtain ⟨hlj, hrdj, hpnj, hoj⟩ := hI.obs _ _ hbj
  simp only [if_true] at hoj
  obtain ⟨us, hu, hl, hcapd⟩ := ev_den hT hv
  have hrun : execOp a.eval ⟨dst, .call { callee := .value (.tmp t), args := xs, argTypes := ats }, ty, pos, aft, none⟩ = callFunc f (#[] ++ Array.map a.eval xs ++ us.toArray) := by
    simp [execOp, resolve, Deferred.ofValue, invoke, hu]
  unfold Oper.wp
  rw [hrun, hE]
  have hargs : #[] ++ Array.map a.eval xs ++ us.toArray = (xs.toList.map a.eval ++ us).toArray := by
    apply Array.ext'
    simp
  rw [hargs, Oper.upon_enter]
  let M : Nat → EE := fun k => if k = 0 then E i else if k = 1 then E j else dead
  have m0 : M 0 = E i := rfl
  have m1 : M 1 = E j := rfl
  have hlive : ∀ k, (M k).live → k = 0 ∨ k = 1 := fun k h => by
    match k, h with
    | 0, _ => exact .inl rfl
    | 1, _ => exact .inr rfl
    | k + 2, h => exact h.elim
  let S' : Nat → Prop := fun k => k < w.heap.size ∧ ¬ (E i).F k ∧ ¬ (E j).F k
  have hSS : ∀ k, S k → S' k := fun k h => ⟨hI.slt k h, fun hf => (hI.fp i hli k hf).2.1 h, fun hf => (hI.fp j hlj k hf).2.1 h⟩
  have hI0 : Inv ⟨cx.P, f, 0, w, S', handed M⟩ [(0, some (.pbox (E i).u [.own 1])), (1, some (.row none e true sz enc l))] 2 M S' w := by
    refine ⟨fun k h => h.1, fun k h => .inl h, fun k o hk => ?_, fun k k' hkk hk hk' q h1 h2 => ?_, fun k hk q hq => ?_, fun k hk => by rcases hlive k hk with rfl | rfl <;> decide, Kept.refl _ _⟩
    · rw [alook_cons] at hk
      split at hk
      · rename_i e0
        subst e0
        cases hk
        refine ⟨hli, rfl, hrdi, g, ei, csi, hui, hFi, hheap, hcells.1, fun q c hq => ?_⟩
        match q with
        | 0 =>
          cases hq
          obtain ⟨u', r1, r2⟩ := hcells.2 0 _ rfl
          exact ⟨u', r1, r2⟩
        | q + 1 => simp at hq
      · rw [alook_cons] at hk
        split at hk
        · rename_i e1
          subst e1
          cases hk
          exact ⟨hlj, hrdj, fun v hv => (by cases hv), hoj⟩
        · simp [alook] at hk
    · rcases hlive k hk with rfl | rfl <;> rcases hlive k' hk' with rfl | rfl
      · exact hkk rfl
      · exact hI.dis i j hne hli hlj q h1 h2
      · exact hI.dis j i (Ne.symm hne) hlj hli q h1 h2
      · exact hkk rfl
    · rcases hlive k hk with rfl | rfl
      · exact ⟨(hI.fp i hli q hq).1, fun h => h.2.1 hq, .inr ⟨0, hli, hq⟩⟩
      · exact ⟨(hI.fp j hlj q hq).1, fun h => h.2.2 hq, .inr ⟨1, hlj, hq⟩⟩
  have hBx : ∀ k cells, alook s.ob k = some (.box cells) → k ≠ i → ∀ g', (E k).F g' → S' g' := fun k cells hk hki g' hg' => by
    have hlk := (hI.obs _ _ hk).1
    have hkj : k ≠ j := fun e => by rw [e, hbj] at hk; cases hk
    exact ⟨(hI.fp k hlk g' hg').1, fun h => hI.dis k i hki hlk hli g' hg' h, fun h => hI.dis k j hkj hlk hlj g' hg' h⟩
  refine (hC (fun _ => (E i).u) 0 w M S' (xs.toList.map a.eval ++ us) hI0 (denA_app (ha.den hSS hT) (hcap.den hI hSS hBx m0 hl hcapd))).mono ?_
  rintro en w' ⟨u, E', S2, rfl, hI', hu'⟩
  obtain ⟨hl0, hu0, hrd0, g', e0, cs0, hg0, hF0, hheap0, hc0⟩ := hI'.obs 0 _ rfl
  obtain ⟨hl1, hrd1, _, ho1⟩ := hI'.obs 1 _ rfl
  have hgg : g' = g := by
    rw [hu0, hui] at hg0
    cases hg0
    rfl
  subst hgg
  have hM : ∀ k, handed M k → (E i).F k ∨ (E j).F k := fun k ⟨q, h1, h2⟩ => by
    rcases hlive q h1 with rfl | rfl
    · exact .inl h2
    · exact .inr h2
  let X : Nat → EE := fun k => if k = i then E' 0 else if k = j then E' 1 else E k
  have xi : X i = E' 0 := if_pos rfl
  have xj : X j = E' 1 := by show (if j = i then _ else if j = j then _ else _) = _; rw [if_neg (Ne.symm hne), if_pos rfl]
  have xo : ∀ k, k ≠ i → k ≠ j → X k = E k := fun k h1 h2 => by show (if k = i then _ else if k = j then _ else _) = _; rw [if_neg h1, if_neg h2]
  have him : ∀ k, k ∈ [i, j] ↔ k = i ∨ k = j := fun k => by simp
  have hst : ∀ q (k : Nat), (E' q).live → (E' q).F k → ((E i).F k ∨ (E j).F k) ∨ (w.heap.size ≤ k ∧ k < w'.heap.size) := fun q k hq hk => by
    obtain ⟨h1, _, h3⟩ := hI'.fp q hq k hk
    rcases h3 with h3 | h3
    · exact .inr ⟨h3, h1⟩
    · exact .inl (hM k h3)
  have hfin := hI.writes2 (w' := w') (im := [i, j]) (X := X) (ob' := (i, some (.box [.own j])) :: (j, some (.row none e true sz enc l')) :: cutO (cutP j []) s.ob) (cutP j [])
    (fun k hk => by rcases (him k).1 hk with rfl | rfl <;> assumption)
    (fun k hk => by rcases (him k).1 hk with rfl | rfl; (rw [xi]; exact hl0); (rw [xj]; exact hl1))
    (fun a' ha' k hk hn' => by
      simp only [cutP, List.any_nil, Bool.or_false] at ha'
      rcases (him k).1 hk with rfl | rfl
      · rw [xi]; exact hu0
      · rw [ha'] at hn'; cases hn')
    (fun k hk => xo k (fun e => hk ((him k).2 (.inl e))) (fun e => hk ((him k).2 (.inr e))))
    (fun a' ha' k hk hr hrd => by
      simp only [cutP, List.any_nil, Bool.or_false] at ha'
      rcases (him k).1 hk with rfl | rfl
      · exact hrdi hrd
      · rw [reads_names hr] at ha'; cases ha')
    (fun k hk q hq => by
      have key : ((E i).F q ∨ (E j).F q) ∨ (w.heap.size ≤ q ∧ q < w'.heap.size) := by
        rcases (him k).1 hk with rfl | rfl
        · rw [xi] at hq; exact hst 0 q hl0 hq
        · rw [xj] at hq; exact hst 1 q hl1 hq
      rcases key with (h | h) | h
      · exact .inl ⟨i, (him i).2 (.inl rfl), h⟩
      · exact .inl ⟨j, (him j).2 (.inr rfl), h⟩
      · exact .inr h)
    (fun k hk k' hk' hkk q h1 h2 => by
      rcases (him k).1 hk with rfl | rfl <;> rcases (him k').1 hk' with rfl | rfl
      · exact hkk rfl
      · rw [xi] at h1; rw [xj] at h2; exact hI'.dis 0 1 (by decide) hl0 hl1 q h1 h2
      · rw [xj] at h1; rw [xi] at h2; exact hI'.dis 1 0 (by decide) hl1 hl0 q h1 h2
      · exact hkk rfl)
    hI'.kept.size hI'.kept.os hI'.kept.tape hI'.kept.output
    (fun k hk hf => hI'.kept.block k hk fun h => by
      rcases hM k h with h | h
      · exact hf i ((him i).2 (.inl rfl)) h
      · exact hf j ((him j).2 (.inr rfl)) h)
    (fun k o hk => by
      rw [alook_cons] at hk
      split at hk
      · rename_i e1
        subst e1
        cases hk
        refine .inl ⟨(him k).2 (.inl rfl), ?_⟩
        refine ⟨by rw [xi]; exact hrd0, g', e0, cs0, by rw [xi]; exact hu0.trans hui, fun q => by rw [xi]; exact hF0 q, hheap0, hc0.1, fun q c hq => ?_⟩
        match q with
        | 0 =>
          cases hq
          obtain ⟨u', r1, r2⟩ := hc0.2 0 _ rfl
          refine ⟨u', r1, ?_⟩
          show (X j).live ∧ u' = (X j).u ∧ _
          rw [xj]
          exact r2
        | q + 1 => simp at hq
      · rename_i hki
        rw [alook_cons] at hk
        split at hk
        · rename_i e1
          subst e1
          cases hk
          refine .inl ⟨(him k).2 (.inr rfl), ?_⟩
          refine ⟨by rw [xj]; exact hrd1, fun v hv => (by cases hv), ?_⟩
          rw [xj]
          exact ho1
        · rename_i hkj
          exact .inr ⟨fun h => by rcases (him k).1 h with h | h <;> contradiction, hk⟩)
  refine ⟨⟨X, S, ?_, denT_puts (s := ⟨cutT (cutP j []) s.tm, (i, some (.box [.own j])) :: (j, some (.row none e true sz enc l')) :: cutO (cutP j []) s.ob, s.nx⟩) hd hn (denT.cut hfin.2 hT) (fun v' e' => ?_), by rw [put_size]; exact hn, by rw [put_defers]; exact hdf⟩, fun h => by (cases h)⟩
  · rw [sets_ob, sets_nx]
    exact hfin.1
  · cases e'
    obtain ⟨us', r1, r2, _⟩ := hu'
    exact ⟨us', r1, r2, fun j b cs h => by simp at h⟩
end rules
end Go.Eng
