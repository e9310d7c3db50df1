/-
  DERIVED. GIVEN WITH THE SEED: THE CARDS: each row of YtfneloplbkjbhaaDoorRows.lean that lists a variable, with what it lists TIED to the program's text (the seventh form; the later family's looks); each row that meets fmt, with fmt's text TOLD by the authors' own Lean function (tested against real Go, not proved from fmt's source: count such statements apart). THE CARD IS WHAT COUNTS. Prove the row's statement (the work); the ties are given (YtfneloplbkjbhaaDoorTie.lean); close each card by the builder's one call (the guide's Derived/Test/ToyasCard.lean, 'card_holds'). Laid BY PROGRAM, IN A SANDBOX (cutbox-door.mjs). By AI agents, Wed Nov 11 2026. No macro, syntax, notation, axiom, sorry.
-/
import Derived.Test.YtfneloplbkjbhaaDoorRows
import GoSem.ClaimSeven
namespace Go.Proofs.YtfneloplbkjbhaaDoor
namespace Rows

/-- THE TIED CARD OF 'vergetop.TopMarked'. -/
def topMarkedCard : Claim7 := { stood := { row := topMarkedRow, standIns := [], harness := (true, "b501fb6a4da08da9a5385cfc717e663edb2d0566a9cdb724e9702503586512bf"), looks := true }, kinds := [], alts := [], laidByText := true, laidKinds := [.data, .data, .data, .data, .sentinel, .sentinel, .data, .pinned], laidTests := true, laidLooks := .later }
def TopMarkedCardSaid : Prop := Claim7.holds Tryd.pinned (.plain (OpenSpec.ofChange topMarkedSpec)) topMarkedCard

/-- THE TIED CARD OF 'vergetop.TopSolved'. -/
def topSolvedCard : Claim7 := { stood := { row := topSolvedRow, standIns := [], harness := (true, "b501fb6a4da08da9a5385cfc717e663edb2d0566a9cdb724e9702503586512bf"), looks := true }, kinds := [], alts := [], laidByText := true, laidKinds := [.data, .data, .data, .data, .sentinel, .sentinel, .pinned], laidTests := true, laidLooks := .later }
def TopSolvedCardSaid : Prop := Claim7.holds Tryd.pinned (.plain (OpenSpec.ofChange topSolvedSpec)) topSolvedCard

/-- THE SECOND FORM's CARD OF 'vergetop.TopMarked'. -/
def topMarkedUptoCard : Claim7 := { stood := { row := topMarkedUptoRow, standIns := [], harness := (true, "b501fb6a4da08da9a5385cfc717e663edb2d0566a9cdb724e9702503586512bf"), looks := true }, kinds := [], alts := [], laidByText := true, laidKinds := [.data, .data, .data, .data, .sentinel, .sentinel, .data, .pinned], laidTests := true, laidLooks := .later }
def TopMarkedUptoCardSaid : Prop := Claim7.holds Tryd.pinned (.plain (OpenSpec.upto topMarkedSpec)) topMarkedUptoCard

/-- THE SECOND FORM's CARD OF 'vergetop.TopSolved'. -/
def topSolvedUptoCard : Claim7 := { stood := { row := topSolvedUptoRow, standIns := [], harness := (true, "b501fb6a4da08da9a5385cfc717e663edb2d0566a9cdb724e9702503586512bf"), looks := true }, kinds := [], alts := [], laidByText := true, laidKinds := [.data, .data, .data, .data, .sentinel, .sentinel, .pinned], laidTests := true, laidLooks := .later }
def TopSolvedUptoCardSaid : Prop := Claim7.holds Tryd.pinned (.plain (OpenSpec.upto topSolvedSpec)) topSolvedUptoCard
end Rows
end Go.Proofs.YtfneloplbkjbhaaDoor
