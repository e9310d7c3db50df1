/-
  DERIVED. GIVEN WITH THE SEED: THE CARDS: each row of YtakkfgkogomjbaaDoorRows.lean that lists a variable, with what it lists TIED to the program's text (the seventh form; the later family's looks); each row that meets fmt, with fmt's text TOLD by the authors' own Lean function (tested against real Go, not proved from fmt's source: count such statements apart). THE CARD IS WHAT COUNTS. Prove the row's statement (the work); the ties are given (YtakkfgkogomjbaaDoorTie.lean); close each card by the builder's one call (the guide's Derived/Test/ToyasCard.lean, 'card_holds'). Laid BY PROGRAM, IN A SANDBOX (cutbox-door.mjs). By AI agents, Wed Nov 11 2026. No macro, syntax, notation, axiom, sorry.
-/
import Derived.Test.YtakkfgkogomjbaaDoorRows
import GoSem.ClaimSeven
namespace Go.Proofs.YtakkfgkogomjbaaDoor
namespace Rows

/-- THE TIED CARD OF 'vergetop.TopDrift'. -/
def topDriftCard : Claim7 := { stood := { row := topDriftRow, standIns := [], harness := (true, "4c08bf6ceba13bb2eaf2f744f45006afd02136976a53b6914e2e20d286edf34f"), looks := false }, kinds := [], alts := [], laidByText := true, laidKinds := [.data], laidTests := true, laidLooks := .later }
def TopDriftCardSaid : Prop := Claim7.holds Tryd.pinned (.plain (OpenSpec.ofChange topDriftSpec)) topDriftCard

/-- THE TIED CARD OF 'vergetop.TopExpires'. -/
def topExpiresCard : Claim7 := { stood := { row := topExpiresRow, standIns := [], harness := (true, "4c08bf6ceba13bb2eaf2f744f45006afd02136976a53b6914e2e20d286edf34f"), looks := false }, kinds := [], alts := [], laidByText := true, laidKinds := [.data], laidTests := true, laidLooks := .later }
def TopExpiresCardSaid : Prop := Claim7.holds Tryd.pinned (.plain (OpenSpec.ofChange topExpiresSpec)) topExpiresCard

/-- THE SECOND FORM's CARD OF 'vergetop.TopDrift'. -/
def topDriftUptoCard : Claim7 := { stood := { row := topDriftUptoRow, standIns := [], harness := (true, "4c08bf6ceba13bb2eaf2f744f45006afd02136976a53b6914e2e20d286edf34f"), looks := false }, kinds := [], alts := [], laidByText := true, laidKinds := [.data], laidTests := true, laidLooks := .later }
def TopDriftUptoCardSaid : Prop := Claim7.holds Tryd.pinned (.plain (OpenSpec.upto topDriftSpec)) topDriftUptoCard

/-- THE SECOND FORM's CARD OF 'vergetop.TopExpires'. -/
def topExpiresUptoCard : Claim7 := { stood := { row := topExpiresUptoRow, standIns := [], harness := (true, "4c08bf6ceba13bb2eaf2f744f45006afd02136976a53b6914e2e20d286edf34f"), looks := false }, kinds := [], alts := [], laidByText := true, laidKinds := [.data], laidTests := true, laidLooks := .later }
def TopExpiresUptoCardSaid : Prop := Claim7.holds Tryd.pinned (.plain (OpenSpec.upto topExpiresSpec)) topExpiresUptoCard
end Rows
end Go.Proofs.YtakkfgkogomjbaaDoor
