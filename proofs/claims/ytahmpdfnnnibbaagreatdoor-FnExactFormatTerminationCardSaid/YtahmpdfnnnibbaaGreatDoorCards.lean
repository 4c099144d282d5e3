/-
  DERIVED. GIVEN WITH THE SEED: THE CARDS: each row of YtahmpdfnnnibbaaGreatDoorRows.lean that lists a variable, with what it lists TIED to the program's text (the seventh form; the later family's looks); each row that meets fmt, with fmt's text TOLD by the authors' own Lean function (tested against real Go, not proved from fmt's source: count such statements apart). THE CARD IS WHAT COUNTS. Prove the row's statement (the work); the ties are given (YtahmpdfnnnibbaaGreatDoorTie.lean); close each card by the builder's one call (the guide's Derived/Test/ToyasCard.lean, 'card_holds'). Laid BY PROGRAM, IN A SANDBOX (cutbox-door.mjs). By AI agents, Wed Nov 11 2026. No macro, syntax, notation, axiom, sorry.
-/
import Derived.Test.YtahmpdfnnnibbaaGreatDoorRows
import GoSem.ClaimSeven
namespace Go.Proofs.YtahmpdfnnnibbaaGreatDoor
namespace Rows

/-- THE TIED CARD OF 'laws.FnExactFormatDependencies'. -/
def fnExactFormatDependenciesCard : Claim7 := { stood := { row := fnExactFormatDependenciesRow, standIns := [], harness := (true, "b8d559e859dc520b3fa581957ac2faaa9cf6062a62223d9ebc365f786d58c1d6"), looks := false }, kinds := [], alts := [], laidByText := true, laidKinds := [.data, .data, .data], laidTests := true, laidLooks := .later }
def FnExactFormatDependenciesCardSaid : Prop := Claim7.holds Tryz.pinned (.plain (OpenSpec.ofChange fnExactFormatDependenciesSpec)) fnExactFormatDependenciesCard

/-- THE TIED CARD OF 'laws.FnExactFormatTermination'. -/
def fnExactFormatTerminationCard : Claim7 := { stood := { row := fnExactFormatTerminationRow, standIns := [], harness := (true, "b8d559e859dc520b3fa581957ac2faaa9cf6062a62223d9ebc365f786d58c1d6"), looks := false }, kinds := [], alts := [], laidByText := true, laidKinds := [.data, .data, .data], laidTests := true, laidLooks := .later }
def FnExactFormatTerminationCardSaid : Prop := Claim7.holds Tryz.pinned (.plain (OpenSpec.ofChange fnExactFormatTerminationSpec)) fnExactFormatTerminationCard

/-- THE TIED CARD OF 'laws.FnExactParseDependency'. -/
def fnExactParseDependencyCard : Claim7 := { stood := { row := fnExactParseDependencyRow, standIns := [], harness := (true, "b8d559e859dc520b3fa581957ac2faaa9cf6062a62223d9ebc365f786d58c1d6"), looks := false }, kinds := [], alts := [], laidByText := true, laidKinds := [.data, .data, .data, .data, .pinned], laidTests := true, laidLooks := .later }
def FnExactParseDependencyCardSaid : Prop := Claim7.holds Tryz.pinned (.plain (OpenSpec.ofChange fnExactParseDependencySpec)) fnExactParseDependencyCard

/-- THE TIED CARD OF 'laws.FnExactParseDependencies'. -/
def fnExactParseDependenciesCard : Claim7 := { stood := { row := fnExactParseDependenciesRow, standIns := [], harness := (true, "b8d559e859dc520b3fa581957ac2faaa9cf6062a62223d9ebc365f786d58c1d6"), looks := false }, kinds := [], alts := [], laidByText := true, laidKinds := [.data, .data, .data, .data, .pinned], laidTests := true, laidLooks := .later }
def FnExactParseDependenciesCardSaid : Prop := Claim7.holds Tryz.pinned (.plain (OpenSpec.ofChange fnExactParseDependenciesSpec)) fnExactParseDependenciesCard

/-- THE TIED CARD OF 'laws.FnDependencyListFormat'. -/
def fnDependencyListFormatCard : Claim7 := { stood := { row := fnDependencyListFormatRow, standIns := [], harness := (true, "b8d559e859dc520b3fa581957ac2faaa9cf6062a62223d9ebc365f786d58c1d6"), looks := false }, kinds := [], alts := [], laidByText := true, laidKinds := [.data, .data, .data, .data, .pinned], laidTests := true, laidLooks := .later }
def FnDependencyListFormatCardSaid : Prop := Claim7.holds Tryz.pinned (.plain (OpenSpec.ofChange fnDependencyListFormatSpec)) fnDependencyListFormatCard

/-- THE SECOND FORM's CARD OF 'laws.FnExactFormatDependencies'. -/
def fnExactFormatDependenciesUptoCard : Claim7 := { stood := { row := fnExactFormatDependenciesUptoRow, standIns := [], harness := (true, "b8d559e859dc520b3fa581957ac2faaa9cf6062a62223d9ebc365f786d58c1d6"), looks := false }, kinds := [], alts := [], laidByText := true, laidKinds := [.data, .data, .data], laidTests := true, laidLooks := .later }
def FnExactFormatDependenciesUptoCardSaid : Prop := Claim7.holds Tryz.pinned (.plain (OpenSpec.upto fnExactFormatDependenciesSpec)) fnExactFormatDependenciesUptoCard

/-- THE SECOND FORM's CARD OF 'laws.FnExactFormatTermination'. -/
def fnExactFormatTerminationUptoCard : Claim7 := { stood := { row := fnExactFormatTerminationUptoRow, standIns := [], harness := (true, "b8d559e859dc520b3fa581957ac2faaa9cf6062a62223d9ebc365f786d58c1d6"), looks := false }, kinds := [], alts := [], laidByText := true, laidKinds := [.data, .data, .data], laidTests := true, laidLooks := .later }
def FnExactFormatTerminationUptoCardSaid : Prop := Claim7.holds Tryz.pinned (.plain (OpenSpec.upto fnExactFormatTerminationSpec)) fnExactFormatTerminationUptoCard

/-- THE SECOND FORM's CARD OF 'laws.FnExactParseDependency'. -/
def fnExactParseDependencyUptoCard : Claim7 := { stood := { row := fnExactParseDependencyUptoRow, standIns := [], harness := (true, "b8d559e859dc520b3fa581957ac2faaa9cf6062a62223d9ebc365f786d58c1d6"), looks := false }, kinds := [], alts := [], laidByText := true, laidKinds := [.data, .data, .data, .data, .pinned], laidTests := true, laidLooks := .later }
def FnExactParseDependencyUptoCardSaid : Prop := Claim7.holds Tryz.pinned (.plain (OpenSpec.upto fnExactParseDependencySpec)) fnExactParseDependencyUptoCard

/-- THE SECOND FORM's CARD OF 'laws.FnExactParseDependencies'. -/
def fnExactParseDependenciesUptoCard : Claim7 := { stood := { row := fnExactParseDependenciesUptoRow, standIns := [], harness := (true, "b8d559e859dc520b3fa581957ac2faaa9cf6062a62223d9ebc365f786d58c1d6"), looks := false }, kinds := [], alts := [], laidByText := true, laidKinds := [.data, .data, .data, .data, .pinned], laidTests := true, laidLooks := .later }
def FnExactParseDependenciesUptoCardSaid : Prop := Claim7.holds Tryz.pinned (.plain (OpenSpec.upto fnExactParseDependenciesSpec)) fnExactParseDependenciesUptoCard

/-- THE SECOND FORM's CARD OF 'laws.FnDependencyListFormat'. -/
def fnDependencyListFormatUptoCard : Claim7 := { stood := { row := fnDependencyListFormatUptoRow, standIns := [], harness := (true, "b8d559e859dc520b3fa581957ac2faaa9cf6062a62223d9ebc365f786d58c1d6"), looks := false }, kinds := [], alts := [], laidByText := true, laidKinds := [.data, .data, .data, .data, .pinned], laidTests := true, laidLooks := .later }
def FnDependencyListFormatUptoCardSaid : Prop := Claim7.holds Tryz.pinned (.plain (OpenSpec.upto fnDependencyListFormatSpec)) fnDependencyListFormatUptoCard
end Rows
end Go.Proofs.YtahmpdfnnnibbaaGreatDoor
