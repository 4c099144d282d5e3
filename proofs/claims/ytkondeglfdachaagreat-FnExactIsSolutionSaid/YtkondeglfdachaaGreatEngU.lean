import Derived.Test.YtkondeglfdachaaGreatEngT
set_option linter.unusedVariables false
set_option linter.unusedSimpArgs false
namespace Go.Eng
open Go Go.RowKit Go.Proofs
def cellF {α : Type} (enc : α → Nat → T) (sz : Nat) (xs : List α) (j : Nat) : T := match xs[j / sz]? with
 | some x => enc x (j % sz)
 | none => .v .nilIface
section
variable {cx : Cx} {s : St} {dst : Option Nat} {ty : TypeId} {pos : String} {aft : Array Edge} {R : Ending → World → Prop} {k : List Item} {ops : Array Oper} {rest : List Oper} {todo : List Item}
def halfE (E : Nat → EE) (i : Nat) : Nat → EE := upd E i ⟨(E i).u, fun k => (E i).F k ∧ (E i).u.ownBlock = some k, (E i).live, (E i).rd⟩
def halfS (E : Nat → EE) (S : Nat → Prop) (i : Nat) : Nat → Prop := fun k => S k ∨ ((E i).F k ∧ (E i).u.ownBlock ≠ some k)
theorem halfE_at {E : Nat → EE} {i : Nat} : halfE E i i = ⟨(E i).u, fun k => (E i).F k ∧ (E i).u.ownBlock = some k, (E i).live, (E i).rd⟩ := upd_at _ _ _
theorem halfE_ne {E : Nat → EE} {i j : Nat} (h : j ≠ i) : halfE E i j = E j := upd_ne h
theorem half_carry {i : Nat} {E : Nat → EE} {S : Nat → Prop} {w : World} : Carry E (halfE E i) S (halfS E S i) w w (fun a => a.reads i) where
 sub := fun _ h => .inl h
 keep := fun _ _ => rfl
 place := fun a ha k hk hlk => by
  by_cases e : k = i
  ·subst e; rw [halfE_at]; exact ⟨hlk, rfl⟩
  ·rw [halfE_ne e]; exact ⟨hlk, rfl⟩
 reads := fun a ha k hk hlk => by
  have : k ≠ i := fun e => by subst e; have h' : a.reads k = false := ha; rw [h'] at hk; cases hk
  rw [halfE_ne this]; exact ⟨hlk, fun _ h => h, fun _ _ => rfl⟩
theorem half_ro {w : World} {S F : Nat → Prop} {e sz : Nat} {α : Type} {enc : α → Nat → T} {xs : List α} {u : Value} (h : OwE w e sz enc xs u F) : Ro w (fun k => S k ∨ (F k ∧ u.ownBlock ≠ some k)) e sz enc xs u (fun k => F k ∧ u.ownBlock = some k) := by
 obtain ⟨cells, G, h1, h2, h3, h4, h5⟩ := h
 refine ⟨cells, h1, fun g hg => ⟨h2 g hg, hg⟩, fun b x hx c hc => ?_⟩
 obtain ⟨u', e1, e2⟩ := h5 b x hx c hc
 refine ⟨u', e1, Rd.move (fun k hk => ?_) (fun _ _ => rfl) _ _ (Ow.rd _ _ e2)⟩
 obtain ⟨r1, r2⟩ := h3 b c k hk
 exact .inr ⟨r1, r2⟩
theorem gm_half (i : Nat) {pn : Option Value} {e sz : Nat} {α : Type} {enc : α → Nat → T} {xs : List α} {a : Act} {w : World} (hb : alook s.ob i = some (.row pn e true sz enc xs)) (hM : ∀ E S w, Inv cx s.ob s.nx E S w → ∀ k, cx.M k → ¬ (E i).F k) (hg : Gm cx s a w) : Gm cx ⟨cutT (AC.reads i) s.tm, (i, some (.row pn e false sz enc xs)) :: cutO (AC.reads i) s.ob, s.nx⟩ a w := by
 obtain ⟨E, S, hI, hT, hsz, hdf⟩ := hg
 have hC := half_carry (i := i) (E := E) (S := S) (w := w)
 obtain ⟨hl, hrd, hpn, ho⟩ := hI.obs _ _ hb
 simp only [if_true] at ho
 have hlv : ∀ j, (halfE E i j).live → (E j).live := fun j hj => by
  by_cases e : j = i
  ·subst e; exact hl
  ·rw [halfE_ne e] at hj; exact hj
 have hF : ∀ j k, (halfE E i j).F k → (E j).F k := fun j k hk => by
  by_cases e : j = i
  ·subst e; rw [halfE_at] at hk; exact hk.1
  ·rw [halfE_ne e] at hk; exact hk
 refine ⟨halfE E i, halfS E S i, ⟨?_, ?_, fun j o hj => ?_, fun j j' hij hj hj' q h1 h2 => hI.dis j j' hij (hlv j hj) (hlv j' hj') q (hF j q h1) (hF j' q h2), fun j hj q hq => ?_, fun j hj => hI.nxt j (hlv j hj), hI.kept⟩, denT.cut hC hT, hsz, hdf⟩
 ·rintro k (h | h)
  ·exact hI.slt k h
  ·exact (hI.fp i hl k h.1).1
 ·rintro k (h | h)
  ·exact hI.snew k h
  ·rcases (hI.fp i hl k h.1).2.2 with q | q
   ·exact .inr q
   ·exact absurd h.1 (hM E S w hI k q)
 ·rw [alook_cons] at hj
  split at hj
  ·rename_i e1
   subst e1
   cases hj
   refine ⟨by rw [halfE_at]; exact hl, by rw [halfE_at]; exact hrd, by rw [halfE_at]; exact hpn, ?_⟩
   simp only [Bool.false_eq_true, if_false]
   rw [halfE_at]
   exact half_ro ho
  ·rename_i hji
   rw [alook_cutO] at hj
   obtain ⟨o0, h0, rfl⟩ := Option.map_eq_some_iff.mp hj
   obtain ⟨h1, h2⟩ := hI.obs j o0 h0
   have hne : j ≠ i := hji
   have eE := halfE_ne (E := E) hne
   refine ⟨by rw [eE]; exact h1, ?_⟩
   exact okOb.carry hC (i := j) (by rw [eE]) (fun k => by rw [eE]) (by rw [eE]) (fun k hk => rfl) h2
 ·refine ⟨(hI.fp j (hlv j hj) q (hF j q hq)).1, ?_, (hI.fp j (hlv j hj) q (hF j q hq)).2.2⟩
  rintro (h | h)
  ·exact (hI.fp j (hlv j hj) q (hF j q hq)).2.1 h
  ·by_cases e1 : j = i
   ·subst e1
    rw [halfE_at] at hq
    exact h.2 hq.2
   ·exact hI.dis j i e1 (hlv j hj) hl q (hF j q hq) h.1
theorem r_half (i : Nat) {pn : Option Value} {e sz : Nat} {α : Type} {enc : α → Nat → T} {xs : List α} (hb : alook s.ob i = some (.row pn e true sz enc xs)) (hM : ∀ E S w, Inv cx s.ob s.nx E S w → ∀ k, cx.M k → ¬ (E i).F k)
  (h : Wr cx ⟨cutT (AC.reads i) s.tm, (i, some (.row pn e false sz enc xs)) :: cutO (AC.reads i) s.ob, s.nx⟩ ops rest k R) : Wr cx s ops rest k R := fun a w hg => h a w (gm_half i hb hM hg)
end
end Go.Eng
