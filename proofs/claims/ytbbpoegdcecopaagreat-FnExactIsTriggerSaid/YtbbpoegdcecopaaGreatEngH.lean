/- The engine, part H: less is known; rows of the call's own. -/
import Derived.Test.YtbbpoegdcecopaaGreatEngG
import Derived.Maps.AppendAt
set_option linter.unusedVariables false
set_option linter.unusedSimpArgs false
namespace Go.Eng
open Go Go.RowKit

/-! ### knowing less -/
def LeT (s : St) : List (Nat × Option AV) → Prop
  | [] => True
  | (t, some v) :: r => alook s.tm t = some v ∧ LeT s r
  | (_, none) :: r => LeT s r
def LeO (ob : List (Nat × Option Ob)) : List (Nat × Option Ob) → Prop
  | [] => True
  | (t, some v) :: r => alook ob t = some v ∧ LeO ob r
  | (_, none) :: r => LeO ob r
def ltT (n : Nat) (l : List (Nat × Option AV)) : Bool := l.all fun x => match x.2 with | some v => v.all (AC.lt n) | none => true
def ltO (n : Nat) (l : List (Nat × Option Ob)) : Bool := l.all fun x => match x.2 with | some o => Nat.blt x.1 n && o.all (AC.lt n) | none => true
structure Le (s s' : St) : Prop where
  tm : LeT s s'.tm
  ob : LeO s.ob s'.ob
  lt : (ltT s'.nx s'.tm && ltO s'.nx s'.ob) = true
theorem LeT.get {s : St} : ∀ {l : List (Nat × Option AV)}, LeT s l → ∀ t v, alook l t = some v → alook s.tm t = some v
  | [], h, t, v, e => by simp [alook] at e
  | (t', some v') :: r, h, t, v, e => by
    rw [alook_cons] at e
    split at e
    · rename_i q
      cases e
      subst q
      exact h.1
    · exact LeT.get h.2 t v e
  | (t', none) :: r, h, t, v, e => by
    rw [alook_cons] at e
    split at e
    · cases e
    · exact LeT.get (l := r) h t v e
theorem LeO.get {ob : List (Nat × Option Ob)} : ∀ {l : List (Nat × Option Ob)}, LeO ob l → ∀ t v, alook l t = some v → alook ob t = some v
  | [], h, t, v, e => by simp [alook] at e
  | (t', some v') :: r, h, t, v, e => by
    rw [alook_cons] at e
    split at e
    · rename_i q
      cases e
      subst q
      exact h.1
    · exact LeO.get h.2 t v e
  | (t', none) :: r, h, t, v, e => by
    rw [alook_cons] at e
    split at e
    · cases e
    · exact LeO.get (l := r) h t v e
theorem ltT_get {n : Nat} : ∀ {l : List (Nat × Option AV)}, ltT n l = true → ∀ t v, alook l t = some v → v.all (AC.lt n) = true
  | [], h, t, v, e => by simp [alook] at e
  | (t', o) :: r, h, t, v, e => by
    simp only [ltT, List.all_cons, Bool.and_eq_true] at h
    rw [alook_cons] at e
    split at e
    · subst e; exact h.1
    · exact ltT_get (l := r) h.2 t v e
theorem ltO_get {n : Nat} : ∀ {l : List (Nat × Option Ob)}, ltO n l = true → ∀ t v, alook l t = some v → t < n ∧ v.all (AC.lt n) = true
  | [], h, t, v, e => by simp [alook] at e
  | (t', o) :: r, h, t, v, e => by
    simp only [ltO, List.all_cons, Bool.and_eq_true] at h
    rw [alook_cons] at e
    split at e
    · rename_i q
      subst e
      subst q
      have := h.1
      simp only [Bool.and_eq_true] at this
      exact ⟨by simpa using this.1, this.2⟩
    · exact ltO_get (l := r) h.2 t v e
def lowE (n : Nat) (E : Nat → EE) : Nat → EE := fun i => if i < n then E i else dead
theorem lowE_lo {n : Nat} {E : Nat → EE} {i : Nat} (h : i < n) : lowE n E i = E i := if_pos h
theorem lowE_hi {n : Nat} {E : Nat → EE} {i : Nat} (h : ¬ i < n) : lowE n E i = dead := if_neg h
theorem lt_names {n i : Nat} {a : AC} (h : a.lt n = true) (hn : a.names i = true) : i < n := by
  cases a with
  | t r x => cases r <;> simp_all [AC.lt, AC.names]
  | pel r c m => cases r <;> simp_all [AC.lt, AC.names]
  | clo f caps =>
    simp only [AC.names, List.any_eq_true] at hn
    obtain ⟨p, h1, h2⟩ := hn
    have := (List.all_eq_true.1 h) p h1
    have e : p.1 = i := Nat.eq_of_beq_eq_true h2
    subst e
    simpa using this
  | _ => simp_all [AC.lt, AC.names]
theorem lt_reads {n i : Nat} {a : AC} (h : a.lt n = true) (hn : a.reads i = true) : i < n := by
  cases a with
  | t r x => cases r <;> simp_all [AC.lt, AC.reads]
  | pel r c m => cases r <;> simp_all [AC.lt, AC.reads]
  | _ => simp_all [AC.lt, AC.reads]
theorem carry_low {E : Nat → EE} {S : Nat → Prop} {w : World} (n : Nat) : Carry E (lowE n E) S S w w (fun a => !a.lt n) where
  sub := fun _ h => h
  keep := fun _ _ => rfl
  place := fun a ha i hn hl => by
    rw [lowE_lo (lt_names (by simpa using ha) hn)]
    exact ⟨hl, rfl⟩
  reads := fun a ha i hn hl => by
    rw [lowE_lo (lt_reads (by simpa using ha) hn)]
    exact ⟨hl, fun _ q => q, fun _ _ => rfl⟩
theorem map_cut_id {p : AC → Bool} {cs : List AC} (h : cs.all (fun a => !p a) = true) : cs.map (AC.cut p) = cs := by
  induction cs with
  | nil => rfl
  | cons a cs ih =>
    simp only [List.all_cons, Bool.and_eq_true] at h
    have h1 : p a = false := by simpa using h.1
    simp only [List.map_cons, ih h.2, AC.cut, h1, cond_false]
theorem AV.cut_id {p : AC → Bool} {v : AV} (h : v.all (fun a => !p a) = true) : v.cut p = v := by
  cases v with
  | c a =>
    have h1 : p a = false := by simpa [AV.all] using h
    simp [AV.cut, AC.cut, h1]
  | agg cs => simp only [AV.cut]; rw [map_cut_id h]
  | tup vs =>
    simp only [AV.cut]
    congr 1
    induction vs with
    | nil => rfl
    | cons x vs ih =>
      simp only [AV.all, List.all_cons, Bool.and_eq_true] at h ih
      rw [List.map_cons, ih h.2, map_cut_id h.1]
theorem Ob.cut_id {p : AC → Bool} {o : Ob} (h : o.all (fun a => !p a) = true) : o.cut p = o := by
  cases o with
  | box cs => simp only [Ob.cut]; rw [map_cut_id h]
  | row => rfl
theorem Inv.low {cx : Cx} {ob ob' : List (Nat × Option Ob)} {nx nx' : Nat} {E : Nat → EE} {S : Nat → Prop} {w : World} (hI : Inv cx ob nx E S w) (h : LeO ob ob') (hlt : ltO nx' ob' = true) : Inv cx ob' nx' (lowE nx' E) S w where
  slt := hI.slt
  snew := hI.snew
  obs := fun i o ho => by
    obtain ⟨h1, h2⟩ := ltO_get hlt i o ho
    obtain ⟨h3, h4⟩ := hI.obs i o (h.get i o ho)
    rw [lowE_lo h1]
    refine ⟨h3, ?_⟩
    have := okOb.carry (carry_low nx') (i := i) (by rw [lowE_lo h1]) (fun k => by rw [lowE_lo h1]) (by rw [lowE_lo h1]) (fun _ _ => rfl) h4
    rwa [Ob.cut_id (by simpa using h2)] at this
  dis := fun i j hij hi hj k h1 h2 => by
    by_cases e1 : i < nx'
    · by_cases e2 : j < nx'
      · rw [lowE_lo e1] at hi h1; rw [lowE_lo e2] at hj h2
        exact hI.dis i j hij hi hj k h1 h2
      · rw [lowE_hi e2] at hj; exact hj
    · rw [lowE_hi e1] at hi; exact hi
  fp := fun i hi k hk => by
    by_cases e1 : i < nx'
    · rw [lowE_lo e1] at hi hk; exact hI.fp i hi k hk
    · rw [lowE_hi e1] at hi; exact hi.elim
  nxt := fun i hi => by
    by_cases e1 : i < nx'
    · exact e1
    · rw [lowE_hi e1] at hi; exact hi.elim
  kept := hI.kept
theorem Gm.le {cx : Cx} {s s' : St} {a : Act} {w : World} (h : Le s s') (hg : Gm cx s a w) : Gm cx s' a w := by
  obtain ⟨E, S, hI, hT, hn, hdf⟩ := hg
  have hlt := h.lt
  rw [Bool.and_eq_true] at hlt
  refine ⟨lowE s'.nx E, S, hI.low h.ob hlt.2, fun t v hv => ?_, hn, hdf⟩
  have := (carry_low s'.nx).v (hT t v (h.tm.get t v hv))
  rwa [AV.cut_id (by simpa using ltT_get hlt.1 t v hv)] at this
theorem t_le {cx : Cx} {s s' : St} {k : List Item} {R : Ending → World → Prop} (h : Le s s') (hW : Wt cx s' k R) : Wt cx s k R := fun a w hg => hW a w (hg.le h)
theorem r_le {cx : Cx} {s s' : St} {ops : Array Oper} {rest : List Oper} {k : List Item} {R : Ending → World → Prop} (h : Le s s') (hW : Wr cx s' ops rest k R) : Wr cx s ops rest k R := fun a w hg => hW a w (hg.le h)
/-- The answer's objects. -/
theorem post_mk {cx : Cx} {ob ob' : List (Nat × Option Ob)} {nx nx' : Nat} {E : Nat → EE} {S : Nat → Prop} {w : World} {v : AV} {u : Value} {v' : AV} (hI : Inv cx ob nx E S w) (hd : denV E S w v' u) (he : v' = v) (h : LeO ob ob') (hM : cx.M = fun _ => False) (hlt : ltO nx' ob' = true) (hv : v.all (AC.lt nx') = true) : post cx.P cx.f cx.n cx.w0 cx.S0 ob' nx' v (.returned u) w := by
  subst he
  have h1 := hI.low h hlt
  have h2 := (carry_low nx').v hd
  rw [AV.cut_id (by simpa using hv)] at h2
  obtain ⟨P, f, n, w0, S0, M⟩ := cx
  cases hM
  exact ⟨u, _, _, rfl, h1, h2⟩
end Go.Eng
