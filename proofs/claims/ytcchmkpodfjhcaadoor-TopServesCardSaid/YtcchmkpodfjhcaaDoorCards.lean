/-
  DERIVED. GIVEN WITH THE SEED: THE CARDS: each row of YtcchmkpodfjhcaaDoorRows.lean that lists a variable, with what it lists TIED to the program's text (the seventh form; the later family's looks); each row that meets fmt, with fmt's text TOLD by the authors' own Lean function (tested against real Go, not proved from fmt's source: count such statements apart). THE CARD IS WHAT COUNTS. Prove the row's statement (the work); the ties are given (YtcchmkpodfjhcaaDoorTie.lean); close each card by the builder's one call (the guide's Derived/Test/ToyasCard.lean, 'card_holds'). Laid BY PROGRAM, IN A SANDBOX (cutbox-door.mjs). By AI agents, Wed Nov 11 2026. No macro, syntax, notation, axiom, sorry.
-/
import Derived.Test.YtcchmkpodfjhcaaDoorRows
import GoSem.ClaimSeven
namespace Go.Proofs.YtcchmkpodfjhcaaDoor
namespace Rows

/-- THE TIED CARD OF 'vergetop.TopServes'. -/
def topServesCard : Claim7 := { stood := { row := topServesRow, standIns := [], harness := (true, "a0e6140d507de31e23b90aa356a574270a0e49ab580de8409f1828557dfa465b"), looks := false }, kinds := [], alts := [], laidByText := true, laidKinds := [.data], laidTests := true, laidLooks := .later }
def TopServesCardSaid : Prop := Claim7.holds Tryd.pinned (.plain (OpenSpec.ofChange topServesSpec)) topServesCard

/-- THE TIED CARD OF 'vergelaw05.BitsFinds'. -/
def bitsFindsCard : Claim7 := { stood := { row := bitsFindsRow, standIns := [], harness := (true, "a0e6140d507de31e23b90aa356a574270a0e49ab580de8409f1828557dfa465b"), looks := false }, kinds := [], alts := [], laidByText := true, laidKinds := [.data], laidTests := true, laidLooks := .later }
def BitsFindsCardSaid : Prop := Claim7.holds Tryd.pinned (.plain (OpenSpec.ofChange bitsFindsSpec)) bitsFindsCard

/-- THE TIED CARD OF 'vergelaw05.BitsMakes'. -/
def bitsMakesCard : Claim7 := { stood := { row := bitsMakesRow, standIns := [], harness := (true, "a0e6140d507de31e23b90aa356a574270a0e49ab580de8409f1828557dfa465b"), looks := false }, kinds := [], alts := [], laidByText := true, laidKinds := [.data], laidTests := true, laidLooks := .later }
def BitsMakesCardSaid : Prop := Claim7.holds Tryd.pinned (.plain (OpenSpec.ofChange bitsMakesSpec)) bitsMakesCard

/-- THE TIED CARD OF 'vergelaw05.BitsLists'. -/
def bitsListsCard : Claim7 := { stood := { row := bitsListsRow, standIns := [], harness := (true, "a0e6140d507de31e23b90aa356a574270a0e49ab580de8409f1828557dfa465b"), looks := false }, kinds := [], alts := [], laidByText := true, laidKinds := [.data], laidTests := true, laidLooks := .later }
def BitsListsCardSaid : Prop := Claim7.holds Tryd.pinned (.plain (OpenSpec.ofChange bitsListsSpec)) bitsListsCard

/-- THE TIED CARD OF 'vergelaw05.BitsWalks'. -/
def bitsWalksCard : Claim7 := { stood := { row := bitsWalksRow, standIns := [], harness := (true, "a0e6140d507de31e23b90aa356a574270a0e49ab580de8409f1828557dfa465b"), looks := false }, kinds := [], alts := [], laidByText := true, laidKinds := [.data], laidTests := true, laidLooks := .later }
def BitsWalksCardSaid : Prop := Claim7.holds Tryd.pinned (.plain (OpenSpec.ofChange bitsWalksSpec)) bitsWalksCard

/-- THE SECOND FORM's CARD OF 'vergetop.TopServes'. -/
def topServesUptoCard : Claim7 := { stood := { row := topServesUptoRow, standIns := [], harness := (true, "a0e6140d507de31e23b90aa356a574270a0e49ab580de8409f1828557dfa465b"), looks := false }, kinds := [], alts := [], laidByText := true, laidKinds := [.data], laidTests := true, laidLooks := .later }
def TopServesUptoCardSaid : Prop := Claim7.holds Tryd.pinned (.plain (OpenSpec.upto topServesSpec)) topServesUptoCard

/-- THE SECOND FORM's CARD OF 'vergelaw05.BitsFinds'. -/
def bitsFindsUptoCard : Claim7 := { stood := { row := bitsFindsUptoRow, standIns := [], harness := (true, "a0e6140d507de31e23b90aa356a574270a0e49ab580de8409f1828557dfa465b"), looks := false }, kinds := [], alts := [], laidByText := true, laidKinds := [.data], laidTests := true, laidLooks := .later }
def BitsFindsUptoCardSaid : Prop := Claim7.holds Tryd.pinned (.plain (OpenSpec.upto bitsFindsSpec)) bitsFindsUptoCard

/-- THE SECOND FORM's CARD OF 'vergelaw05.BitsMakes'. -/
def bitsMakesUptoCard : Claim7 := { stood := { row := bitsMakesUptoRow, standIns := [], harness := (true, "a0e6140d507de31e23b90aa356a574270a0e49ab580de8409f1828557dfa465b"), looks := false }, kinds := [], alts := [], laidByText := true, laidKinds := [.data], laidTests := true, laidLooks := .later }
def BitsMakesUptoCardSaid : Prop := Claim7.holds Tryd.pinned (.plain (OpenSpec.upto bitsMakesSpec)) bitsMakesUptoCard

/-- THE SECOND FORM's CARD OF 'vergelaw05.BitsLists'. -/
def bitsListsUptoCard : Claim7 := { stood := { row := bitsListsUptoRow, standIns := [], harness := (true, "a0e6140d507de31e23b90aa356a574270a0e49ab580de8409f1828557dfa465b"), looks := false }, kinds := [], alts := [], laidByText := true, laidKinds := [.data], laidTests := true, laidLooks := .later }
def BitsListsUptoCardSaid : Prop := Claim7.holds Tryd.pinned (.plain (OpenSpec.upto bitsListsSpec)) bitsListsUptoCard

/-- THE SECOND FORM's CARD OF 'vergelaw05.BitsWalks'. -/
def bitsWalksUptoCard : Claim7 := { stood := { row := bitsWalksUptoRow, standIns := [], harness := (true, "a0e6140d507de31e23b90aa356a574270a0e49ab580de8409f1828557dfa465b"), looks := false }, kinds := [], alts := [], laidByText := true, laidKinds := [.data], laidTests := true, laidLooks := .later }
def BitsWalksUptoCardSaid : Prop := Claim7.holds Tryd.pinned (.plain (OpenSpec.upto bitsWalksSpec)) bitsWalksUptoCard
end Rows
end Go.Proofs.YtcchmkpodfjhcaaDoor
