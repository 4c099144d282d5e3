/- The engine, part N: a nil slice in a box's field taken for an own row. -/
import Derived.Test.YtbbpoegdcecopaaGreatEngM
set_option linter.unusedVariables false
set_option linter.unusedSimpArgs false
namespace Go.Eng
open Go Go.RowKit

theorem Inv.nilrow {cx : Cx} {ob : List (Nat × Option Ob)} {nx : Nat} {E : Nat → EE} {S : Nat → Prop} {w : World} (hI : Inv cx ob nx E S w) (et sz : Nat) (deep : Bool) {α : Type} (enc : α → Nat → T) :
    Inv cx ((nx, some (.row none et deep sz enc [])) :: ob) (nx + 1) (upd E nx ⟨.slice none 0 0, fun _ => False, True, True⟩) S w ∧ Carry E (upd E nx ⟨.slice none 0 0, fun _ => False, True, True⟩) S S w w no := by
  have hC : Carry E (upd E nx ⟨.slice none 0 0, fun _ => False, True, True⟩) S S w w no := {
    sub := fun _ h => h
    keep := fun _ _ => rfl
    place := fun a _ i _ hl => by
      have := hI.nxt i hl
      rw [upd_ne (by omega)]
      exact ⟨hl, rfl⟩
    reads := fun a _ i _ hl => by
      have := hI.nxt i hl.1
      rw [upd_ne (by omega)]
      exact ⟨hl, fun _ q => q, fun _ _ => rfl⟩ }
  refine ⟨⟨hI.slt, hI.snew, fun j o hj => ?_, fun j j' hij hj hj' k h1 h2 => ?_, fun j hj k hk => ?_, fun j hj => ?_, hI.kept⟩, hC⟩
  · rw [alook_cons] at hj
    by_cases e : j = nx
    · subst e
      rw [if_pos rfl] at hj
      cases hj
      refine ⟨by rw [upd_at]; trivial, by rw [upd_at]; trivial, fun v hv => (by cases hv), ?_⟩
      rw [upd_at]
      cases deep
      · exact ⟨[], World.ownsRow_nil _ _ _ _, fun g h => by simp [Value.ownBlock] at h, fun i x h => by simp at h⟩
      · exact ⟨[], fun _ _ _ => False, World.ownsRow_nil _ _ _ _, fun g h => by simp [Value.ownBlock] at h, fun _ _ _ h => h.elim, fun _ _ _ _ _ h => h.elim, fun i x h => by simp at h⟩
    · rw [if_neg e] at hj
      obtain ⟨h1, h2⟩ := hI.obs j o hj
      refine ⟨by rw [upd_ne e]; exact h1, ?_⟩
      have := okOb.carry hC (i := j) (by rw [upd_ne e]) (fun k => by rw [upd_ne e]) (by rw [upd_ne e]) (fun _ _ => rfl) h2
      rwa [Ob.cut_none] at this
  · by_cases e1 : j = nx
    · subst e1; rw [upd_at] at h1; exact h1
    · by_cases e2 : j' = nx
      · subst e2; rw [upd_at] at h2; exact h2
      · rw [upd_ne e1] at h1 hj; rw [upd_ne e2] at h2 hj'
        exact hI.dis j j' hij hj hj' k h1 h2
  · by_cases e1 : j = nx
    · subst e1; rw [upd_at] at hk; exact hk.elim
    · rw [upd_ne e1] at hk hj; exact hI.fp j hj k hk
  · by_cases e1 : j = nx
    · omega
    · rw [upd_ne e1] at hj
      have := hI.nxt j hj
      omega
theorem Gm.nilb {cx : Cx} {s : St} (i : Nat) {b o et sz : Nat} {cells : List AC} (deep : Bool) {α : Type} (enc : α → Nat → T) (hi : s.nx = i) (hb : alook s.ob b = some (.box cells)) (hc : cells[o]? = some (.t none (.v (.slice none 0 0)))) {a : Act} {w : World} (hg : Gm cx s a w) :
    Gm cx ⟨s.tm, (b, some (.box (putL cells o [.own i]))) :: (i, some (.row none et deep sz enc [])) :: s.ob, i + 1⟩ a w := by
  subst hi
  obtain ⟨E, S, hI, hT, hn, hdf⟩ := hg
  obtain ⟨hI', hC⟩ := hI.nilrow et sz deep enc
  refine ⟨_, S, ⟨hI'.slt, hI'.snew, fun j ob' hj => ?_, hI'.dis, hI'.fp, hI'.nxt, hI'.kept⟩, denT.carry hC hT, hn, hdf⟩
  rw [alook_cons] at hj
  split at hj
  · rename_i e
    subst e
    cases hj
    obtain ⟨hlb, hrd, g, e, cs, h3, hF, h4, h5⟩ := hI.obs _ _ hb
    have hne : j ≠ s.nx := by have := hI.nxt j hlb; omega
    obtain ⟨h6, h7⟩ := hI'.obs j (.box cells) (by rw [alook_cons, if_neg hne]; exact hb)
    obtain ⟨hrd', g', e', cs', q3, qF, q4, q5⟩ := h7
    refine ⟨h6, hrd', g', e', cs', q3, qF, q4, ?_⟩
    obtain ⟨u, u1, u2⟩ := q5.2 o _ hc
    have hu : u = .slice none 0 0 := u2.2.1
    have ho := (List.getElem?_eq_some_iff.1 hc).1
    refine ⟨by rw [q5.1, putL_len (by simp; omega)], fun q c hq => ?_⟩
    rw [putL_get (by simp; omega)] at hq
    split at hq
    · exact q5.2 q c hq
    · split at hq
      · rename_i r1 r2
        have r2 : q < o + 1 := by simpa using r2
        have hqo : q = o := by omega
        subst hqo
        rw [Nat.sub_self] at hq
        cases hq
        refine ⟨u, u1, by rw [upd_at]; trivial, by rw [upd_at]; exact hu, by rw [hu]; rfl⟩
      · exact q5.2 q c hq
  · exact hI'.obs j ob' hj
theorem gt_nilb {cx : Cx} {s : St} (i : Nat) {b o et sz : Nat} {cells : List AC} (deep : Bool) {α : Type} (enc : α → Nat → T) (hi : s.nx = i) (hb : alook s.ob b = some (.box cells)) (hc : cells[o]? = some (.t none (.v (.slice none 0 0)))) {todo : List Item} {R : Ending → World → Prop}
    (h : Wt cx ⟨s.tm, (b, some (.box (putL cells o [.own i]))) :: (i, some (.row none et deep sz enc [])) :: s.ob, i + 1⟩ todo R) : Wt cx s todo R := fun a w hg => h a w (hg.nilb i deep enc hi hb hc)
end Go.Eng
