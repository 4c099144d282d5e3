/-
  DERIVED. GIVEN WITH THE SEED: THE CARDS: each row of YthcggkagkihamaaGreatDoorRows.lean that lists a variable, with what it lists TIED to the program's text (the seventh form; the later family's looks); each row that meets fmt, with fmt's text TOLD by the authors' own Lean function (tested against real Go, not proved from fmt's source: count such statements apart). THE CARD IS WHAT COUNTS. Prove the row's statement (the work); the ties are given (YthcggkagkihamaaGreatDoorTie.lean); close each card by the builder's one call (the guide's Derived/Test/ToyasCard.lean, 'card_holds'). Laid BY PROGRAM, IN A SANDBOX (cutbox-door.mjs). By AI agents, Wed Nov 11 2026. No macro, syntax, notation, axiom, sorry.
-/
import Derived.Test.YthcggkagkihamaaGreatDoorRows
import GoSem.ClaimSeven
namespace Go.Proofs.YthcggkagkihamaaGreatDoor
namespace Rows

/-- THE TIED CARD OF 'laws.FnFirstStep'. -/
def fnFirstStepCard : Claim7 := { stood := { row := fnFirstStepRow, standIns := [], harness := (true, "b6aded07bc1e4eeddf17ebea9faca0c2f23ded14e50fdc0057f9690ed09784f7"), looks := false }, kinds := [], alts := [], laidByText := true, laidKinds := [.data, .data, .data], laidTests := true, laidLooks := .later }
def FnFirstStepCardSaid : Prop := Claim7.holds Tryz.pinned (.plain (OpenSpec.ofChange fnFirstStepSpec)) fnFirstStepCard

/-- THE TIED CARD OF 'laws.FnDependencyListFormat'. -/
def fnDependencyListFormatCard : Claim7 := { stood := { row := fnDependencyListFormatRow, standIns := [], harness := (true, "b6aded07bc1e4eeddf17ebea9faca0c2f23ded14e50fdc0057f9690ed09784f7"), looks := false }, kinds := [], alts := [], laidByText := true, laidKinds := [.data, .data, .data, .data, .pinned], laidTests := true, laidLooks := .later }
def FnDependencyListFormatCardSaid : Prop := Claim7.holds Tryz.pinned (.plain (OpenSpec.ofChange fnDependencyListFormatSpec)) fnDependencyListFormatCard

/-- THE SECOND FORM's CARD OF 'laws.FnFirstStep'. -/
def fnFirstStepUptoCard : Claim7 := { stood := { row := fnFirstStepUptoRow, standIns := [], harness := (true, "b6aded07bc1e4eeddf17ebea9faca0c2f23ded14e50fdc0057f9690ed09784f7"), looks := false }, kinds := [], alts := [], laidByText := true, laidKinds := [.data, .data, .data], laidTests := true, laidLooks := .later }
def FnFirstStepUptoCardSaid : Prop := Claim7.holds Tryz.pinned (.plain (OpenSpec.upto fnFirstStepSpec)) fnFirstStepUptoCard

/-- THE SECOND FORM's CARD OF 'laws.FnDependencyListFormat'. -/
def fnDependencyListFormatUptoCard : Claim7 := { stood := { row := fnDependencyListFormatUptoRow, standIns := [], harness := (true, "b6aded07bc1e4eeddf17ebea9faca0c2f23ded14e50fdc0057f9690ed09784f7"), looks := false }, kinds := [], alts := [], laidByText := true, laidKinds := [.data, .data, .data, .data, .pinned], laidTests := true, laidLooks := .later }
def FnDependencyListFormatUptoCardSaid : Prop := Claim7.holds Tryz.pinned (.plain (OpenSpec.upto fnDependencyListFormatSpec)) fnDependencyListFormatUptoCard
end Rows
end Go.Proofs.YthcggkagkihamaaGreatDoor
