/-
  DERIVED. GIVEN WITH THE SEED: THE CARDS: each row of YtkondeglfdachaaGreatDoorRows.lean that lists a variable, with what it lists TIED to the program's text (the seventh form; the later family's looks); each row that meets fmt, with fmt's text TOLD by the authors' own Lean function (tested against real Go, not proved from fmt's source: count such statements apart). THE CARD IS WHAT COUNTS. Prove the row's statement (the work); the ties are given (YtkondeglfdachaaGreatDoorTie.lean); close each card by the builder's one call (the guide's Derived/Test/ToyasCard.lean, 'card_holds'). Laid BY PROGRAM, IN A SANDBOX (cutbox-door.mjs). By AI agents, Wed Nov 11 2026. No macro, syntax, notation, axiom, sorry.
-/
import Derived.Test.YtkondeglfdachaaGreatDoorRows
import GoSem.ClaimSeven
namespace Go.Proofs.YtkondeglfdachaaGreatDoor
namespace Rows

/-- THE TIED CARD OF 'laws.FnExactParseDependency'. -/
def fnExactParseDependencyCard : Claim7 := { stood := { row := fnExactParseDependencyRow, standIns := [], harness := (true, "8794874781361364fb30a21de18621226f9418bc0386dd46c761a87c58e4b426"), looks := false }, kinds := [], alts := [], laidByText := true, laidKinds := [.data, .data, .data, .data, .pinned], laidTests := true, laidLooks := .later }
def FnExactParseDependencyCardSaid : Prop := Claim7.holds Tryz.pinned (.plain (OpenSpec.ofChange fnExactParseDependencySpec)) fnExactParseDependencyCard

/-- THE TIED CARD OF 'laws.FnExactParseDependencies'. -/
def fnExactParseDependenciesCard : Claim7 := { stood := { row := fnExactParseDependenciesRow, standIns := [], harness := (true, "8794874781361364fb30a21de18621226f9418bc0386dd46c761a87c58e4b426"), looks := false }, kinds := [], alts := [], laidByText := true, laidKinds := [.data, .data, .data, .data, .pinned], laidTests := true, laidLooks := .later }
def FnExactParseDependenciesCardSaid : Prop := Claim7.holds Tryz.pinned (.plain (OpenSpec.ofChange fnExactParseDependenciesSpec)) fnExactParseDependenciesCard

/-- THE SECOND FORM's CARD OF 'laws.FnExactParseDependency'. -/
def fnExactParseDependencyUptoCard : Claim7 := { stood := { row := fnExactParseDependencyUptoRow, standIns := [], harness := (true, "8794874781361364fb30a21de18621226f9418bc0386dd46c761a87c58e4b426"), looks := false }, kinds := [], alts := [], laidByText := true, laidKinds := [.data, .data, .data, .data, .pinned], laidTests := true, laidLooks := .later }
def FnExactParseDependencyUptoCardSaid : Prop := Claim7.holds Tryz.pinned (.plain (OpenSpec.upto fnExactParseDependencySpec)) fnExactParseDependencyUptoCard

/-- THE SECOND FORM's CARD OF 'laws.FnExactParseDependencies'. -/
def fnExactParseDependenciesUptoCard : Claim7 := { stood := { row := fnExactParseDependenciesUptoRow, standIns := [], harness := (true, "8794874781361364fb30a21de18621226f9418bc0386dd46c761a87c58e4b426"), looks := false }, kinds := [], alts := [], laidByText := true, laidKinds := [.data, .data, .data, .data, .pinned], laidTests := true, laidLooks := .later }
def FnExactParseDependenciesUptoCardSaid : Prop := Claim7.holds Tryz.pinned (.plain (OpenSpec.upto fnExactParseDependenciesSpec)) fnExactParseDependenciesUptoCard
end Rows
end Go.Proofs.YtkondeglfdachaaGreatDoor
