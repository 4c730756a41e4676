/-
  DERIVED. GIVEN WITH THE SEED: THE CARDS: each row of YtgnepbogadfinaaGreatDoorRows.lean that lists a variable, with what it lists TIED to the program's text (the seventh form; the later family's looks); each row that meets fmt, with fmt's text TOLD by the authors' own Lean function (tested against real Go, not proved from fmt's source: count such statements apart). THE CARD IS WHAT COUNTS. Prove the row's statement (the work); the ties are given (YtgnepbogadfinaaGreatDoorTie.lean); close each card by the builder's one call (the guide's Derived/Test/ToyasCard.lean, 'card_holds'). Laid BY PROGRAM, IN A SANDBOX (cutbox-door.mjs). By AI agents, Wed Nov 11 2026. No macro, syntax, notation, axiom, sorry.
-/
import Derived.Test.YtgnepbogadfinaaGreatDoorRows
import GoSem.ClaimSeven
namespace Go.Proofs.YtgnepbogadfinaaGreatDoor
namespace Rows

/-- THE TIED CARD OF 'laws.FnMapsOfPairs'. -/
def fnMapsOfPairsCard : Claim7 := { stood := { row := fnMapsOfPairsRow, standIns := [], harness := (true, "f866c969cdeb94b9ebffab06fdd303a868dd5c73a7798d3533ebb8ed5b7a62aa"), looks := false }, kinds := [], alts := [], laidByText := true, laidKinds := [.data, .pinned], laidTests := true, laidLooks := .later }
def FnMapsOfPairsCardSaid : Prop := Claim7.holds Tryz.pinned (.plain (OpenSpec.ofChange fnMapsOfPairsSpec)) fnMapsOfPairsCard

/-- THE SECOND FORM's CARD OF 'laws.FnMapsOfPairs'. -/
def fnMapsOfPairsUptoCard : Claim7 := { stood := { row := fnMapsOfPairsUptoRow, standIns := [], harness := (true, "f866c969cdeb94b9ebffab06fdd303a868dd5c73a7798d3533ebb8ed5b7a62aa"), looks := false }, kinds := [], alts := [], laidByText := true, laidKinds := [.data, .pinned], laidTests := true, laidLooks := .later }
def FnMapsOfPairsUptoCardSaid : Prop := Claim7.holds Tryz.pinned (.plain (OpenSpec.upto fnMapsOfPairsSpec)) fnMapsOfPairsUptoCard
end Rows
end Go.Proofs.YtgnepbogadfinaaGreatDoor
