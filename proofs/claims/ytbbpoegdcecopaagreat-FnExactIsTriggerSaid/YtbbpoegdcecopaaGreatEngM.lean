/- The engine, part M: functions that write into a row that they are handed. -/
import Derived.Test.YtbbpoegdcecopaaGreatEngL
set_option linter.unusedVariables false
set_option linter.unusedSimpArgs false
namespace Go.Eng
open Go Go.RowKit

def handed (E : Nat → EE) : Nat → Prop := fun k => ∃ i, (E i).live ∧ (E i).F k
/-- Of a function that writes into the objects ob alone. -/
def Mu (P : Program) (f : FuncId) (args : List AV) (ob : List (Nat × Option Ob)) (n0 : Nat) (ob' : List (Nat × Option Ob)) (nx : Nat) (res : AV) : Prop :=
  ∀ (n : Nat) (w : World) (E : Nat → EE) (S : Nat → Prop) (vs : List Value), Inv ⟨P, f, n, w, S, handed E⟩ ob n0 E S w → denA E S w args vs →
    Calls P f vs.toArray w fun e w' => ∃ u E' S', e = .returned u ∧ Inv ⟨P, f, n, w, S, handed E⟩ ob' nx E' S' w' ∧ denV E' S' w' res u
def postM (P : Program) (f : FuncId) (n : Nat) (w : World) (S : Nat → Prop) (M : Nat → Prop) (ob : List (Nat × Option Ob)) (nx : Nat) (res : AV) : Ending → World → Prop :=
  fun e w' => ∃ u E' S', e = .returned u ∧ Inv ⟨P, f, n, w, S, M⟩ ob nx E' S' w' ∧ denV E' S' w' res u
theorem Inv.fn {P : Program} {f : FuncId} {n n' : Nat} {w0 : World} {S0 M : Nat → Prop} {ob : List (Nat × Option Ob)} {nx : Nat} {E : Nat → EE} {S : Nat → Prop} {w : World} (h : Inv ⟨P, f, n, w0, S0, M⟩ ob nx E S w) : Inv ⟨P, f, n', w0, S0, M⟩ ob nx E S w :=
  ⟨h.slt, h.snew, h.obs, h.dis, h.fp, h.nxt, h.kept⟩
theorem mu_enter {P : Program} {f : FuncId} {fn : Func} {c : Code} {args : List AV} {ob ob' : List (Nat × Option Ob)} {n0 nx : Nat} {res : AV} (hf : P.funcs[f]? = some fn) (hb : fn.body = some c) (ha : args.length ≤ fn.ntmps)
    (h : ∀ w S M, Wt ⟨P, f, fn.ntmps, w, S, M⟩ ⟨argT 0 args, ob, n0⟩ [.code c] (postM P f fn.ntmps w S M ob' nx res)) : Mu P f args ob n0 ob' nx res := by
  intro n w E S vs hI hA cs
  let b : Frame := { (default : Frame) with fn := f, kind := .normal }
  have henter : Frame.enter P f vs.toArray .normal = b.at { tmps := vs.toArray ++ Array.replicate (fn.ntmps - vs.toArray.size) undef, defers := [] } [.code c] := by
    simp [Frame.enter, Frame.at, hf, hb, b]
  have hg : Gm ⟨P, f, fn.ntmps, w, S, handed E⟩ ⟨argT 0 args, ob, n0⟩ { tmps := vs.toArray ++ Array.replicate (fn.ntmps - vs.toArray.size) undef, defers := [] } w := by
    refine ⟨E, S, hI.fn, fun t v ht => ?_, ?_, rfl⟩
    · rw [show (⟨argT 0 args, ob, n0⟩ : St).tm = argT 0 args from rfl, argT_get] at ht
      simp only [Nat.not_lt_zero, if_false, Nat.sub_zero] at ht
      obtain ⟨u, h1, h2⟩ := hA.2 t v ht
      have : (vs.toArray ++ Array.replicate (fn.ntmps - vs.toArray.size) undef).getD t undef = u := by
        rw [Array.getD_eq_getD_getElem?, Array.getElem?_append_left (by simpa using (List.getElem?_eq_some_iff.1 h1).1)]
        simp [h1]
      rw [show ({ tmps := vs.toArray ++ Array.replicate (fn.ntmps - vs.toArray.size) undef, defers := [] } : Act).tmps = vs.toArray ++ Array.replicate (fn.ntmps - vs.toArray.size) undef from rfl, this]
      exact h2
    · have := hA.1
      simp
      omega
  obtain ⟨e, w', fr, ⟨u, E', S', h1, h2, h3⟩, hc, hfr, hl⟩ := h w S (handed E) _ w hg b cs rfl rfl
  rw [← henter] at hc
  exact ⟨e, w', fr, ⟨u, E', S', h1, h2.fn, h3⟩, hc, hfr, hl⟩
theorem postM_mk {cx : Cx} {ob ob' : List (Nat × Option Ob)} {nx nx' : Nat} {E : Nat → EE} {S : Nat → Prop} {w : World} {v : AV} {u : Value} {v' : AV} (hI : Inv cx ob nx E S w) (hd : denV E S w v' u) (he : v' = v) (h : LeO ob ob') (hlt : ltO nx' ob' = true) (hv : v.all (AC.lt nx') = true) : postM cx.P cx.f cx.n cx.w0 cx.S0 cx.M ob' nx' v (.returned u) w := by
  subst he
  have h1 := hI.low h hlt
  have h2 := (carry_low nx').v hd
  rw [AV.cut_id (by simpa using hv)] at h2
  exact ⟨u, _, _, rfl, h1, h2⟩

/-- How a value is handed over to a function that is handed object i. -/
inductive ArgM (s : St) (i : Nat) : AC → AC → Prop
  | own : ArgM s i (.own i) (.own 0)
  | t0 {x : T} : ArgM s i (.t none x) (.t none x)
inductive ArgML (s : St) (i : Nat) : List AC → List AC → Prop
  | nil : ArgML s i [] []
  | cons {a b : AC} {al bs : List AC} (h : ArgM s i a b) (hr : ArgML s i al bs) : ArgML s i (a :: al) (b :: bs)
inductive ArgsM (s : St) (i : Nat) : List Operand → List AV → Prop
  | nil : ArgsM s i [] []
  | agg {x : Operand} {al cs : List AC} {xs : List Operand} {bs : List AV} (hx : s.ev x = some (.agg al)) (h : ArgML s i al cs) (hr : ArgsM s i xs bs) : ArgsM s i (x :: xs) (.agg cs :: bs)
  | cons {x : Operand} {a b : AC} {xs : List Operand} {bs : List AV} (hx : s.ev x = some (.c a)) (h : ArgM s i a b) (hr : ArgsM s i xs bs) : ArgsM s i (x :: xs) (.c b :: bs)
def onlyE (E : Nat → EE) (i : Nat) : Nat → EE := fun j => if j = 0 then E i else dead
theorem ArgML.den {s : St} {i : Nat} {al bs : List AC} {E : Nat → EE} {S S' : Nat → Prop} {w : World} (h : ArgML s i al bs) (hS : ∀ k, S k → S' k) {us : List Value} (hd : denL E S w al us) : denL (onlyE E i) S' w bs us := by
  induction h generalizing us with
  | nil => exact ⟨hd.1, fun j c hj => by simp at hj⟩
  | cons h hr ih =>
    obtain ⟨h1, h2⟩ := hd
    cases us with
    | nil => simp at h1
    | cons u us =>
      have := ih (us := us) ⟨by simpa using h1, fun j c hj => h2 (j + 1) c hj⟩
      refine ⟨by simp [this.1], fun j c hj => ?_⟩
      match j with
      | 0 =>
        cases hj
        obtain ⟨u', e1, e2⟩ := h2 0 _ rfl
        cases e1
        refine ⟨u, rfl, ?_⟩
        cases h with
        | own => exact e2
        | t0 => exact ⟨trivial, Rd.move hS (fun _ _ => rfl) _ _ e2.2⟩
      | j + 1 => exact this.2 j c hj
theorem ArgsM.den {s : St} {i : Nat} {xs : List Operand} {bs : List AV} {a : Act} {E : Nat → EE} {S S' : Nat → Prop} {w : World} (h : ArgsM s i xs bs) (hS : ∀ k, S k → S' k) (hT : denT E S w s.tm a.tmps) : denA (onlyE E i) S' w bs (xs.map a.eval) := by
  induction h with
  | nil => exact ⟨rfl, fun j v hj => by simp at hj⟩
  | agg hx h hr ih =>
    refine ⟨by simp [ih.1], fun j v hj => ?_⟩
    match j with
    | 0 =>
      cases hj
      obtain ⟨us, h1, h2⟩ := ev_den hT hx
      exact ⟨_, rfl, us, h1, h.den hS h2⟩
    | j + 1 => exact ih.2 j v hj
  | cons hx h hr ih =>
    refine ⟨by simp [ih.1], fun j v hj => ?_⟩
    match j with
    | 0 =>
      cases hj
      refine ⟨_, rfl, ?_⟩
      have hd := ev_den hT hx
      cases h with
      | own => exact hd
      | t0 => exact ⟨trivial, Rd.move hS (fun _ _ => rfl) _ _ hd.2⟩
    | j + 1 => exact ih.2 j v hj
/-- A value that leans on nothing. -/
def AC.plain : AC → Bool
  | .t none (.v _) => true
  | .top => true
  | _ => false
theorem plain_c {E E' : Nat → EE} {S S' : Nat → Prop} {w w' : World} {a : AC} {u : Value} (hn : a.plain = true) (hd : denC E S w a u) : denC E' S' w' a u := by
  cases a with
  | top => exact hd
  | t r x =>
    cases r with
    | none =>
      cases x with
      | v x => exact hd
      | sl => simp [AC.plain] at hn
    | some i => simp [AC.plain] at hn
  | _ => simp [AC.plain] at hn
section rules
variable {cx : Cx} {s : St} {dst : Option Nat} {ty : TypeId} {pos : String} {aft : Array Edge}
theorem o_callM (i : Nat) {g : FuncId} {xs : Array Operand} {ats : Array TypeId} {cargs : List AV} {pn : Option Value} {e sz : Nat} {α : Type} {enc : α → Nat → T} {l l' : List α} {r : AC} {nx' : Nat} (hE : Go.Proofs.Enters cx.P g)
    (hC : ∀ U, Mu cx.P g cargs [(0, some (.row (some U) e true sz enc l))] 1 [(0, some (.row (some U) e true sz enc l'))] nx' (.c r)) (hd : okd dst cx.n = true) (hb : alook s.ob i = some (.row pn e true sz enc l)) (ha : ArgsM s i xs.toList cargs) (hr : r.plain = true) :
    Os cx s ⟨dst, .call { callee := .value (.func g), args := xs, argTypes := ats }, ty, pos, aft, none⟩ ((⟨cutT (cutR i []) s.tm, (i, some (.row pn e true sz enc l')) :: dels [] (cutO (cutR i []) s.ob), s.nx⟩ : St).sets dst (some (.c r))) false := by
  intro Q a w hg
  obtain ⟨E, S, hI, hT, hn, hdf⟩ := hg
  obtain ⟨hl, hrd, hpn, ho⟩ := hI.obs _ _ hb
  unfold Oper.wp
  rw [execOp_call_go, hE]
  have hargs : #[] ++ Array.map a.eval xs ++ #[] = (xs.toList.map a.eval).toArray := by
    apply Array.ext'
    simp
  rw [hargs, Oper.upon_enter]
  let S' : Nat → Prop := fun k => k < w.heap.size ∧ ¬ (E i).F k
  have e0 : onlyE E i 0 = E i := if_pos rfl
  have hlive : ∀ j, (onlyE E i j).live → j = 0 := fun j h => by
    unfold onlyE at h
    split at h
    · assumption
    · exact h.elim
  have hI0 : Inv ⟨cx.P, g, 0, w, S', handed (onlyE E i)⟩ [(0, some (.row (some (E i).u) e true sz enc l))] 1 (onlyE E i) S' w := by
    refine ⟨fun k h => h.1, fun k h => .inl h, fun j o hj => ?_, fun j j' hij hj hj' => absurd ((hlive j hj).trans (hlive j' hj').symm) hij, fun j hj k hk => ?_, fun j hj => by rw [hlive j hj]; exact Nat.one_pos, Kept.refl _ _⟩
    · rw [alook_cons] at hj
      split at hj
      · rename_i hj0
        subst hj0
        cases hj
        rw [e0]
        refine ⟨hl, by rw [e0]; exact hrd, fun v hv => by rw [e0]; exact Option.some.inj hv, ?_⟩
        rw [e0]
        exact ho
      · simp [alook] at hj
    · have hj0 := hlive j hj
      subst hj0
      rw [e0] at hk
      exact ⟨(hI.fp i hl k hk).1, fun h => h.2 hk, .inr ⟨0, by rw [e0]; exact hl, by rw [e0]; exact hk⟩⟩
  have hSS : ∀ k, S k → S' k := fun k h => ⟨hI.slt k h, fun hf => (hI.fp i hl k hf).2.1 h⟩
  refine (hC (E i).u 0 w (onlyE E i) S' (xs.toList.map a.eval) hI0 (ha.den hSS hT)).mono ?_
  rintro en w' ⟨u, E', S2, rfl, hI', hu⟩
  obtain ⟨hl', hrd', hpn', ho'⟩ := hI'.obs 0 _ rfl
  have hu0 : (E' 0).u = (E i).u := hpn' _ rfl
  have hM : ∀ k, handed (onlyE E i) k → (E i).F k := fun k ⟨j, h1, h2⟩ => by
    have := hlive j h1
    subst this
    rwa [e0] at h2
  have hobj : okOb (takeE E i [] ⟨(E i).u, (E' 0).F, True, True⟩) S w' i (.row pn e true sz enc l') := by
    refine ⟨by rw [takeE_at]; trivial, by rw [takeE_at]; exact hpn, ?_⟩
    rw [takeE_at]
    simp only [if_true] at ho' ⊢
    rw [hu0] at ho'
    exact ho'
  have hW := hI.write (w' := w') (i := i) (is := []) (x := ⟨(E i).u, (E' 0).F, True, True⟩) (cutR i []) hl (fun q hq => by simp at hq) trivial (fun a' ha' => by
      simp only [cutR, Bool.or_eq_false_iff] at ha'
      exact ⟨fun q hq => by simp at hq, fun _ => rfl, fun hr _ => by (rw [ha'.1] at hr; cases hr)⟩)
    (fun k hk => by
      obtain ⟨h1, _, h3⟩ := hI'.fp 0 hl' k hk
      rcases h3 with h3 | h3
      · exact .inr (.inr ⟨h3, h1⟩)
      · exact .inl (hM k h3))
    hI'.kept.size hI'.kept.os hI'.kept.tape hI'.kept.output (fun k hk hf => hI'.kept.block k hk fun h => hf (hM k h)) hobj
  refine ⟨⟨takeE E i [] ⟨(E i).u, (E' 0).F, True, True⟩, S, ?_, denT_puts (s := ⟨cutT (cutR i []) s.tm, (i, some (.row pn e true sz enc l')) :: dels [] (cutO (cutR i []) s.ob), s.nx⟩) hd hn (denT.cut hW.2 hT) (fun v' e' => ?_), by rw [put_size]; exact hn, by rw [put_defers]; exact hdf⟩, fun h => by (cases h)⟩
  · rw [sets_ob, sets_nx]
    exact hW.1
  · cases e'
    exact plain_c hr hu
end rules
end Go.Eng
