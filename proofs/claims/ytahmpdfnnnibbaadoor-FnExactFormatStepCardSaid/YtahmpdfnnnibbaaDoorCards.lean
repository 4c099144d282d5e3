/-
  DERIVED. GIVEN WITH THE SEED: THE CARDS: each row of YtahmpdfnnnibbaaDoorRows.lean that lists a variable, with what it lists TIED to the program's text (the seventh form; the later family's looks); each row that meets fmt, with fmt's text TOLD by the authors' own Lean function (tested against real Go, not proved from fmt's source: count such statements apart). THE CARD IS WHAT COUNTS. Prove the row's statement (the work); the ties are given (YtahmpdfnnnibbaaDoorTie.lean); close each card by the builder's one call (the guide's Derived/Test/ToyasCard.lean, 'card_holds'). Laid BY PROGRAM, IN A SANDBOX (cutbox-door.mjs). By AI agents, Wed Nov 11 2026. No macro, syntax, notation, axiom, sorry.
-/
import Derived.Test.YtahmpdfnnnibbaaDoorRows
import GoSem.ClaimSeven
namespace Go.Proofs.YtahmpdfnnnibbaaDoor
namespace Rows

/-- THE TIED CARD OF 'laws.FnExactFormatTerm'. -/
def fnExactFormatTermCard : Claim7 := { stood := { row := fnExactFormatTermRow, standIns := [], harness := (true, "cb237a1c5d27f55a1e852fbd94036d0ee6c83c59d71fc9da6c973921ac130cc6"), looks := false }, kinds := [], alts := [], laidByText := true, laidKinds := [.data, .data, .data], laidTests := true, laidLooks := .later }
def FnExactFormatTermCardSaid : Prop := Claim7.holds Tryd.pinned (.plain (OpenSpec.ofChange fnExactFormatTermSpec)) fnExactFormatTermCard

/-- THE TIED CARD OF 'laws.FnExactFormatPosition'. -/
def fnExactFormatPositionCard : Claim7 := { stood := { row := fnExactFormatPositionRow, standIns := [], harness := (true, "cb237a1c5d27f55a1e852fbd94036d0ee6c83c59d71fc9da6c973921ac130cc6"), looks := false }, kinds := [], alts := [], laidByText := true, laidKinds := [.data, .data, .data], laidTests := true, laidLooks := .later }
def FnExactFormatPositionCardSaid : Prop := Claim7.holds Tryd.pinned (.plain (OpenSpec.ofChange fnExactFormatPositionSpec)) fnExactFormatPositionCard

/-- THE TIED CARD OF 'laws.FnExactFormatStep'. -/
def fnExactFormatStepCard : Claim7 := { stood := { row := fnExactFormatStepRow, standIns := [], harness := (true, "cb237a1c5d27f55a1e852fbd94036d0ee6c83c59d71fc9da6c973921ac130cc6"), looks := false }, kinds := [], alts := [], laidByText := true, laidKinds := [.data, .data, .data], laidTests := true, laidLooks := .later }
def FnExactFormatStepCardSaid : Prop := Claim7.holds Tryd.pinned (.plain (OpenSpec.ofChange fnExactFormatStepSpec)) fnExactFormatStepCard

/-- THE TIED CARD OF 'laws.FnExactFormatAtom'. -/
def fnExactFormatAtomCard : Claim7 := { stood := { row := fnExactFormatAtomRow, standIns := [], harness := (true, "cb237a1c5d27f55a1e852fbd94036d0ee6c83c59d71fc9da6c973921ac130cc6"), looks := false }, kinds := [], alts := [], laidByText := true, laidKinds := [.data, .data, .data], laidTests := true, laidLooks := .later }
def FnExactFormatAtomCardSaid : Prop := Claim7.holds Tryd.pinned (.plain (OpenSpec.ofChange fnExactFormatAtomSpec)) fnExactFormatAtomCard

/-- THE TIED CARD OF 'laws.FnExactFormatDependency'. -/
def fnExactFormatDependencyCard : Claim7 := { stood := { row := fnExactFormatDependencyRow, standIns := [], harness := (true, "cb237a1c5d27f55a1e852fbd94036d0ee6c83c59d71fc9da6c973921ac130cc6"), looks := false }, kinds := [], alts := [], laidByText := true, laidKinds := [.data, .data, .data], laidTests := true, laidLooks := .later }
def FnExactFormatDependencyCardSaid : Prop := Claim7.holds Tryd.pinned (.plain (OpenSpec.ofChange fnExactFormatDependencySpec)) fnExactFormatDependencyCard

/-- THE SECOND FORM's CARD OF 'laws.FnExactFormatTerm'. -/
def fnExactFormatTermUptoCard : Claim7 := { stood := { row := fnExactFormatTermUptoRow, standIns := [], harness := (true, "cb237a1c5d27f55a1e852fbd94036d0ee6c83c59d71fc9da6c973921ac130cc6"), looks := false }, kinds := [], alts := [], laidByText := true, laidKinds := [.data, .data, .data], laidTests := true, laidLooks := .later }
def FnExactFormatTermUptoCardSaid : Prop := Claim7.holds Tryd.pinned (.plain (OpenSpec.upto fnExactFormatTermSpec)) fnExactFormatTermUptoCard

/-- THE SECOND FORM's CARD OF 'laws.FnExactFormatPosition'. -/
def fnExactFormatPositionUptoCard : Claim7 := { stood := { row := fnExactFormatPositionUptoRow, standIns := [], harness := (true, "cb237a1c5d27f55a1e852fbd94036d0ee6c83c59d71fc9da6c973921ac130cc6"), looks := false }, kinds := [], alts := [], laidByText := true, laidKinds := [.data, .data, .data], laidTests := true, laidLooks := .later }
def FnExactFormatPositionUptoCardSaid : Prop := Claim7.holds Tryd.pinned (.plain (OpenSpec.upto fnExactFormatPositionSpec)) fnExactFormatPositionUptoCard

/-- THE SECOND FORM's CARD OF 'laws.FnExactFormatStep'. -/
def fnExactFormatStepUptoCard : Claim7 := { stood := { row := fnExactFormatStepUptoRow, standIns := [], harness := (true, "cb237a1c5d27f55a1e852fbd94036d0ee6c83c59d71fc9da6c973921ac130cc6"), looks := false }, kinds := [], alts := [], laidByText := true, laidKinds := [.data, .data, .data], laidTests := true, laidLooks := .later }
def FnExactFormatStepUptoCardSaid : Prop := Claim7.holds Tryd.pinned (.plain (OpenSpec.upto fnExactFormatStepSpec)) fnExactFormatStepUptoCard

/-- THE SECOND FORM's CARD OF 'laws.FnExactFormatAtom'. -/
def fnExactFormatAtomUptoCard : Claim7 := { stood := { row := fnExactFormatAtomUptoRow, standIns := [], harness := (true, "cb237a1c5d27f55a1e852fbd94036d0ee6c83c59d71fc9da6c973921ac130cc6"), looks := false }, kinds := [], alts := [], laidByText := true, laidKinds := [.data, .data, .data], laidTests := true, laidLooks := .later }
def FnExactFormatAtomUptoCardSaid : Prop := Claim7.holds Tryd.pinned (.plain (OpenSpec.upto fnExactFormatAtomSpec)) fnExactFormatAtomUptoCard

/-- THE SECOND FORM's CARD OF 'laws.FnExactFormatDependency'. -/
def fnExactFormatDependencyUptoCard : Claim7 := { stood := { row := fnExactFormatDependencyUptoRow, standIns := [], harness := (true, "cb237a1c5d27f55a1e852fbd94036d0ee6c83c59d71fc9da6c973921ac130cc6"), looks := false }, kinds := [], alts := [], laidByText := true, laidKinds := [.data, .data, .data], laidTests := true, laidLooks := .later }
def FnExactFormatDependencyUptoCardSaid : Prop := Claim7.holds Tryd.pinned (.plain (OpenSpec.upto fnExactFormatDependencySpec)) fnExactFormatDependencyUptoCard
end Rows
end Go.Proofs.YtahmpdfnnnibbaaDoor
