/-
  DERIVED. GIVEN WITH THE SEED: THE CARDS: each row of YtgnepbogadfinaaDoorRows.lean that lists a variable, with what it lists TIED to the program's text (the seventh form; the later family's looks); each row that meets fmt, with fmt's text TOLD by the authors' own Lean function (tested against real Go, not proved from fmt's source: count such statements apart). THE CARD IS WHAT COUNTS. Prove the row's statement (the work); the ties are given (YtgnepbogadfinaaDoorTie.lean); close each card by the builder's one call (the guide's Derived/Test/ToyasCard.lean, 'card_holds'). Laid BY PROGRAM, IN A SANDBOX (cutbox-door.mjs). By AI agents, Wed Nov 11 2026. No macro, syntax, notation, axiom, sorry.
-/
import Derived.Test.YtgnepbogadfinaaDoorRows
import GoSem.ClaimSeven
namespace Go.Proofs.YtgnepbogadfinaaDoor
namespace Rows

/-- THE TIED CARD OF 'laws.FnExactPieceBetween'. -/
def fnExactPieceBetweenCard : Claim7 := { stood := { row := fnExactPieceBetweenRow, standIns := [], harness := (true, "31b9851209445335183f02edbe48b314c7f0033b51c6a7ccfe0a87ec3bedc094"), looks := false }, kinds := [], alts := [], laidByText := true, laidKinds := [.data, .data, .data], laidTests := true, laidLooks := .later }
def FnExactPieceBetweenCardSaid : Prop := Claim7.holds Tryd.pinned (.plain (OpenSpec.ofChange fnExactPieceBetweenSpec)) fnExactPieceBetweenCard

/-- THE TIED CARD OF 'laws.FnExactPiecesOf'. -/
def fnExactPiecesOfCard : Claim7 := { stood := { row := fnExactPiecesOfRow, standIns := [], harness := (true, "31b9851209445335183f02edbe48b314c7f0033b51c6a7ccfe0a87ec3bedc094"), looks := false }, kinds := [], alts := [], laidByText := true, laidKinds := [.data, .data, .data], laidTests := true, laidLooks := .later }
def FnExactPiecesOfCardSaid : Prop := Claim7.holds Tryd.pinned (.plain (OpenSpec.ofChange fnExactPiecesOfSpec)) fnExactPiecesOfCard

/-- THE TIED CARD OF 'laws.FnFractionsByAddresses'. -/
def fnFractionsByAddressesCard : Claim7 := { stood := { row := fnFractionsByAddressesRow, standIns := [], harness := (true, "31b9851209445335183f02edbe48b314c7f0033b51c6a7ccfe0a87ec3bedc094"), looks := false }, kinds := [], alts := [], laidByText := true, laidKinds := [.data, .data, .data, .data, .pinned], laidTests := true, laidLooks := .later }
def FnFractionsByAddressesCardSaid : Prop := Claim7.holds Tryd.pinned (.plain (OpenSpec.ofChange fnFractionsByAddressesSpec)) fnFractionsByAddressesCard

/-- THE SECOND FORM's CARD OF 'laws.FnExactPieceBetween'. -/
def fnExactPieceBetweenUptoCard : Claim7 := { stood := { row := fnExactPieceBetweenUptoRow, standIns := [], harness := (true, "31b9851209445335183f02edbe48b314c7f0033b51c6a7ccfe0a87ec3bedc094"), looks := false }, kinds := [], alts := [], laidByText := true, laidKinds := [.data, .data, .data], laidTests := true, laidLooks := .later }
def FnExactPieceBetweenUptoCardSaid : Prop := Claim7.holds Tryd.pinned (.plain (OpenSpec.upto fnExactPieceBetweenSpec)) fnExactPieceBetweenUptoCard

/-- THE SECOND FORM's CARD OF 'laws.FnExactPiecesOf'. -/
def fnExactPiecesOfUptoCard : Claim7 := { stood := { row := fnExactPiecesOfUptoRow, standIns := [], harness := (true, "31b9851209445335183f02edbe48b314c7f0033b51c6a7ccfe0a87ec3bedc094"), looks := false }, kinds := [], alts := [], laidByText := true, laidKinds := [.data, .data, .data], laidTests := true, laidLooks := .later }
def FnExactPiecesOfUptoCardSaid : Prop := Claim7.holds Tryd.pinned (.plain (OpenSpec.upto fnExactPiecesOfSpec)) fnExactPiecesOfUptoCard

/-- THE SECOND FORM's CARD OF 'laws.FnFractionsByAddresses'. -/
def fnFractionsByAddressesUptoCard : Claim7 := { stood := { row := fnFractionsByAddressesUptoRow, standIns := [], harness := (true, "31b9851209445335183f02edbe48b314c7f0033b51c6a7ccfe0a87ec3bedc094"), looks := false }, kinds := [], alts := [], laidByText := true, laidKinds := [.data, .data, .data, .data, .pinned], laidTests := true, laidLooks := .later }
def FnFractionsByAddressesUptoCardSaid : Prop := Claim7.holds Tryd.pinned (.plain (OpenSpec.upto fnFractionsByAddressesSpec)) fnFractionsByAddressesUptoCard
end Rows
end Go.Proofs.YtgnepbogadfinaaDoor
