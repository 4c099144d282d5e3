/- The engine, part Zd: a pinned row whose pin is forgotten. -/
import Derived.Test.YtbbpoegdcecopaaGreatEngZc
set_option linter.unusedVariables false
set_option linter.unusedSimpArgs false
namespace Go.Eng
open Go Go.RowKit
theorem gt_unpin {cx : Cx} {s : St} {R : Ending → World → Prop} {todo : List Item} (i : Nat) {pn : Option Value} {e sz : Nat} {deep : Bool} {α : Type} {enc : α → Nat → T} {xs : List α} (hb : alook s.ob i = some (.row pn e deep sz enc xs))
    (h : Wt cx ⟨s.tm, (i, some (.row none e deep sz enc xs)) :: s.ob, s.nx⟩ todo R) : Wt cx s todo R := by
  intro a w hg
  refine h a w ?_
  obtain ⟨E, S, hI, hT, hsz, hdf⟩ := hg
  refine ⟨E, S, ⟨hI.slt, hI.snew, fun j o hj => ?_, hI.dis, hI.fp, hI.nxt, hI.kept⟩, hT, hsz, hdf⟩
  rw [alook_cons] at hj
  split at hj
  · rename_i e
    subst e
    cases hj
    obtain ⟨h1, h2, _, h4⟩ := hI.obs _ _ hb
    exact ⟨h1, h2, fun v hv => (by cases hv), h4⟩
  · exact hI.obs j o hj
end Go.Eng
