/- The engine, part P: function values: made and called. -/
import Derived.Test.YtbbpoegdcecopaaGreatEngR
set_option linter.unusedVariables false
set_option linter.unusedSimpArgs false
namespace Go.Eng
open Go Go.RowKit

/-- What the captured variables are to the function called. -/
def pels (cs : List ((Nat → T) × Nat)) : List AV := cs.map fun c => .c (.pel none c.1 c.2)
/-- The function answers res, whatever it makes. -/
def Fu (P : Program) (f : FuncId) (args : List AV) (res : AV) : Prop := Go.Proofs.Enters P f ∧ Pu P f args [] 0 res
theorem denA_app {E : Nat → EE} {S : Nat → Prop} {w : World} {bs0 bs : List AV} {us vs : List Value} (h : denA E S w bs0 us) (k : denA E S w bs vs) : denA E S w (bs0 ++ bs) (us ++ vs) := by
  refine ⟨by simp [h.1, k.1], fun j v hj => ?_⟩
  rw [List.getElem?_append] at hj
  split at hj
  · rename_i hl
    obtain ⟨u, h1, h2⟩ := h.2 j v hj
    exact ⟨u, by rw [List.getElem?_append_left (by rw [h.1]; exact hl)]; exact h1, h2⟩
  · rename_i hl
    obtain ⟨u, h1, h2⟩ := k.2 _ v hj
    exact ⟨u, by rw [List.getElem?_append_right (by rw [h.1]; omega), h.1]; exact h1, h2⟩
section rules
variable {cx : Cx} {s : St} {dst : Option Nat} {ty : TypeId} {pos : String} {aft : Array Edge}
inductive CapX (s : St) : List Operand → List (Nat × Nat) → Prop
  | nil : CapX s [] []
  | cons {x : Operand} {i o : Nat} {xs : List Operand} {ps : List (Nat × Nat)} (hx : s.ev x = some (.c (.ptr i o))) (hr : CapX s xs ps) : CapX s (x :: xs) ((i, o) :: ps)
theorem CapX.den {xs : List Operand} {ps : List (Nat × Nat)} {a : Act} {E : Nat → EE} {S : Nat → Prop} {w : World} (h : CapX s xs ps) (hT : denT E S w s.tm a.tmps) :
    (xs.map a.eval).length = ps.length ∧ ∀ (j : Nat) (p : Nat × Nat), ps[j]? = some p → ∃ u', (xs.map a.eval)[j]? = some u' ∧ denP E p.1 p.2 u' := by
  induction h with
  | nil => exact ⟨rfl, fun j p hj => by simp at hj⟩
  | cons hx hr ih =>
    refine ⟨by simp at ih ⊢; exact ih.1, fun j p hj => ?_⟩
    match j with
    | 0 => cases hj; exact ⟨_, rfl, ev_den hT hx⟩
    | j + 1 => exact ih.2 j p hj
theorem p_makeFunc {f : Nat} {xs : Array Operand} {ps : List (Nat × Nat)} (hx : CapX s xs.toList ps) : Ps cx s (.makeFunc (.func f) #[] xs) (.c (.clo f ps)) := by
  intro a w E S hI hT
  obtain ⟨h1, h2⟩ := hx.den hT
  refine ⟨.func (.func f) #[] (xs.map a.eval), fun _ _ _ _ _ _ _ => ?_, xs.toList.map a.eval, ?_, h1, h2⟩
  · simp [execOp, Instr.makeFunc]
  · congr 1
    apply Array.ext'
    simp
theorem o_makeFunc {f : Nat} {xs : Array Operand} {ps : List (Nat × Nat)} (hd : okd dst cx.n = true) (hx : CapX s xs.toList ps) :
    Os cx s ⟨dst, .makeFunc (.func f) #[] xs, ty, pos, aft, none⟩ (s.sets dst (some (.c (.clo f ps)))) true := o_value hd (p_makeFunc hx)
theorem pels_den {E : Nat → EE} {S : Nat → Prop} {w : World} {cs : List ((Nat → T) × Nat)} {us : List Value} (hl : us.length = cs.length)
    (h : ∀ (j : Nat) (p : (Nat → T) × Nat), cs[j]? = some p → ∃ ad : Addr, us[j]? = some (.pointer (some ad)) ∧ S ad.block ∧ ∀ q, q < p.2 → ∃ u', w.cell? (ad.add q) = some u' ∧ Rd w S (p.1 q) u') : denA E S w (pels cs) us := by
  refine ⟨by simp [pels, hl], fun j v hj => ?_⟩
  unfold pels at hj
  rw [List.getElem?_map] at hj
  obtain ⟨p, hp, rfl⟩ := Option.map_eq_some_iff.mp hj
  obtain ⟨ad, h1, h2, h3⟩ := h j p hp
  exact ⟨_, h1, trivial, ad, rfl, h2, h3⟩
/-- A call of a function value. -/
theorem o_callv (d m : Nat) (sh : Bool) {t : Nat} {f : Nat} {cs : List ((Nat → T) × Nat)} {v : AV} {xs : Array Operand} {ats : Array TypeId} {cargs : List AV} {ob' : List (Nat × Option Ob)} {nx' : Nat} {res : AV} (hE : Go.Proofs.Enters cx.P f) (hC : Pu cx.P f (cargs ++ pels cs) ob' nx' res) (hd : okd dst cx.n = true) (hv : s.ev (.tmp t) = some v) (hf : ArgV s sh v (.c (.fv f cs))) (ha : Args s sh xs.toList cargs) (hns : (sh || (nsO ob' && res.all AC.ns)) = true) (hdx : s.nx = d) (hm : d + nx' = m) :
    Os cx s ⟨dst, .call { callee := .value (.tmp t), args := xs, argTypes := ats }, ty, pos, aft, none⟩ ((⟨s.tm, upO d ob' s.ob, m⟩ : St).sets dst (some (res.up d))) true := by
  subst hdx hm
  intro Q a w hg
  obtain ⟨E, S, hI, hT, hn, hdf⟩ := hg
  obtain ⟨us, hu, hl, hcap⟩ := hf.den hI (ev_den hT hv)
  have hrun : execOp a.eval ⟨dst, .call { callee := .value (.tmp t), args := xs, argTypes := ats }, ty, pos, aft, none⟩ = callFunc f (#[] ++ Array.map a.eval xs ++ us.toArray) := by
    simp [execOp, resolve, Deferred.ofValue, invoke, hu]
  unfold Oper.wp
  rw [hrun, hE]
  have hargs : #[] ++ Array.map a.eval xs ++ us.toArray = (xs.toList.map a.eval ++ us).toArray := by
    apply Array.ext'
    simp
  rw [hargs, Oper.upon_enter]
  refine (hC 0 w (Sc sh S w) (xs.toList.map a.eval ++ us) (fun k hk => ?_) (denA_app (ha.den hI hT) (pels_den hl hcap))).mono ?_
  · unfold Sc at hk
    split at hk
    · exact hI.slt k hk
    · exact hk
  · rintro e w' ⟨u, E', S', rfl, hI', hu⟩
    obtain ⟨h1, h2⟩ := hI.join hI' (by cases sh <;> simp_all)
    refine ⟨⟨_, _, by rw [sets_ob, sets_nx]; exact h1, denT_puts (s := ⟨s.tm, upO s.nx ob' s.ob, s.nx + nx'⟩) hd hn (denT.carry h2 hT) (fun v' e => ?_), by rw [put_size]; exact hn, by rw [put_defers]; exact hdf⟩, fun _ => ⟨hI'.kept.size, fun k hk => hI'.kept.block k hk (fun h => h)⟩⟩
    cases e
    cases hsh : sh
    · have hres : res.all AC.ns = true := by rw [hsh] at hns; simp_all
      exact up_v (S' := fun k => S k ∨ (false = true ∧ S' k)) (fun k hk => hk) (ns_v hres hu)
    · exact up_v (fun k hk => .inr ⟨rfl, hk⟩) hu
end rules
end Go.Eng
