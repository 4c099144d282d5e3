import Derived.Test.YthcggkagkihamaaGreatEngG
set_option linter.unusedVariables false
set_option linter.unusedSimpArgs false
namespace Go.Eng
open Go Go.RowKit
section
variable {cx : Cx} {ob : List (Nat × Option Ob)} {nx : Nat} {E : Nat → EE} {S : Nat → Prop} {w w' : World}
end
inductive ArgsB (s : St) : List Operand → List AV → Prop
 | nil : ArgsB s [] []
 | cons {x : Operand} {y : T} {xs : List Operand} {bs : List AV} (hx : s.ev x = some (.c (.t none y))) (hr : ArgsB s xs bs) : ArgsB s (x :: xs) (.c (.t none y) :: bs)
inductive CapsB (s : St) (i : Nat) : List (Nat × Nat) → List AV → Prop
 | nil : CapsB s i [] []
 | box {ps : List (Nat × Nat)} {bs : List AV} (hr : CapsB s i ps bs) : CapsB s i ((i, 0) :: ps) (.c (.ptr 0 0) :: bs)
 | pel {k : Nat} {c : Nat → T} {cells : List AC} {ps : List (Nat × Nat)} {bs : List AV} (hk : Nat.beq k i = false) (hb : alook s.ob k = some (.box cells)) (hc : cells[0]? = some (.t none (c 0))) (hr : CapsB s i ps bs) : CapsB s i ((k, 0) :: ps) (.c (.pel none c 1) :: bs)
section rules
variable {cx : Cx} {s : St} {dst : Option Nat} {ty : TypeId} {pos : String} {aft : Array Edge}
theorem ArgsB.den {xs : List Operand} {bs : List AV} {a : Act} {E E' : Nat → EE} {S S' : Nat → Prop} {w : World} (h : ArgsB s xs bs) (hS : ∀ k, S k → S' k) (hT : denT E S w s.tm a.tmps) : denA E' S' w bs (xs.map a.eval) := by
 induction h with
 | nil => exact ⟨rfl, fun j v hj => by simp at hj⟩
 | cons hx hr ih =>
  refine ⟨by simp [ih.1], fun j v hj => ?_⟩
  match j with
  | 0 => cases hj; exact ⟨_, rfl, trivial, Rd.move hS (fun _ _ => rfl) _ _ (ev_den hT hx).2⟩
  | j + 1 => exact ih.2 j v hj
theorem CapsB.den {i : Nat} {ps : List (Nat × Nat)} {bs : List AV} {E E' : Nat → EE} {S S' : Nat → Prop} {w : World} (h : CapsB s i ps bs) (hI : Inv cx s.ob s.nx E S w) (hS : ∀ k, S k → S' k) (hB : ∀ k cells, alook s.ob k = some (.box cells) → k ≠ i → ∀ g, (E k).F g → S' g) (h0 : E' 0 = E i) {us : List Value} (hu : us.length = ps.length)
  (hd : ∀ (j : Nat) (p : Nat × Nat), ps[j]? = some p → ∃ u', us[j]? = some u' ∧ denP E p.1 p.2 u') : denA E' S' w bs us := by
 induction h generalizing us with
 | nil =>
  cases us with
  | nil => exact ⟨rfl, fun j v hj => by simp at hj⟩
  | cons u us => simp at hu
 | box hr ih =>
  cases us with
  | nil => simp at hu
  | cons u us =>
   obtain ⟨q1, q2⟩ := ih (us := us) (by simpa using hu) (fun j p hj => hd (j + 1) p hj)
   refine ⟨by simp [q1], fun j v hj => ?_⟩
   match j with
   | 0 =>
    cases hj
    obtain ⟨u', e1, e2⟩ := hd 0 _ rfl
    cases e1
    refine ⟨u, rfl, ?_⟩
    show denP E' 0 0 u
    unfold denP
    rw [h0]
    exact e2
   | j + 1 => exact q2 j v hj
 | @pel k c cells ps bs hk hb hc hr ih =>
  cases us with
  | nil => simp at hu
  | cons u us =>
   obtain ⟨q1, q2⟩ := ih (us := us) (by simpa using hu) (fun j p hj => hd (j + 1) p hj)
   refine ⟨by simp [q1], fun j v hj => ?_⟩
   match j with
   | 0 =>
    cases hj
    obtain ⟨u', e1, hlk, g, e2, e3⟩ := hd 0 _ rfl
    cases e1
    obtain ⟨_, _, g', e, cs, r1, r2, r3, r4⟩ := hI.obs _ _ hb
    rw [e2] at r1
    cases r1
    have hki : k ≠ i := fun e => by rw [e] at hk; simp at hk
    refine ⟨u, rfl, trivial, ⟨g, 0, none⟩, e3, hB _ _ hb hki g ((r2 g).2 rfl), fun q hq => ?_⟩
    obtain rfl : q = 0 := by omega
    obtain ⟨u'', t1, t2⟩ := r4.2 0 _ hc
    refine ⟨u'', ?_, Rd.move hS (fun _ _ => rfl) _ _ t2.2⟩
    have : (⟨g, 0, none⟩ : Addr).add 0 = ⟨g, 0, none⟩ := by unfold Addr.add; split <;> simp_all
    rw [this]
    unfold World.cell?
    simp [r3, t1]
   | j + 1 => exact q2 j v hj
end rules
end Go.Eng
