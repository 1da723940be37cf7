/-
  DERIVED. GIVEN WITH THE SEED: THE CARDS: each row of YtklmgcjamifmaaaGreatDoorRows.lean that lists a variable, with what it lists TIED to the program's text (the seventh form; the later family's looks); each row that meets fmt, with fmt's text TOLD by the authors' own Lean function (tested against real Go, not proved from fmt's source: count such statements apart). THE CARD IS WHAT COUNTS. Prove the row's statement (the work); the ties are given (YtklmgcjamifmaaaGreatDoorTie.lean); close each card by the builder's one call (the guide's Derived/Test/ToyasCard.lean, 'card_holds'). Laid BY PROGRAM, IN A SANDBOX (cutbox-door.mjs). By AI agents, Wed Nov 11 2026. No macro, syntax, notation, axiom, sorry.
-/
import Derived.Test.YtklmgcjamifmaaaGreatDoorRows
import GoSem.ClaimSeven
namespace Go.Proofs.YtklmgcjamifmaaaGreatDoor
namespace Rows

/-- THE TIED CARD OF 'laws.FnLinked'. -/
def fnLinkedCard : Claim7 := { stood := { row := fnLinkedRow, standIns := [], harness := (true, "e283d4f1a529082bb63b6f9c821d6241c37443941bf17f221b30a164ad188d6b"), looks := false }, kinds := [], alts := [], laidByText := true, laidKinds := [.data, .pinned], laidTests := true, laidLooks := .later }
def FnLinkedCardSaid : Prop := Claim7.holds Tryz.pinned (.plain (OpenSpec.ofChange fnLinkedSpec)) fnLinkedCard

/-- THE TIED CARD OF 'laws.FnWrite'. -/
def fnWriteCard : Claim7 := { stood := { row := fnWriteRow, standIns := [], harness := (true, "e283d4f1a529082bb63b6f9c821d6241c37443941bf17f221b30a164ad188d6b"), looks := false }, kinds := [], alts := [], laidByText := true, laidKinds := [.data, .pinned], laidTests := true, laidLooks := .later }
def FnWriteCardSaid : Prop := Claim7.holds Tryz.pinned (.plain (OpenSpec.ofChange fnWriteSpec)) fnWriteCard

/-- THE TIED CARD OF 'laws.FnMade'. -/
def fnMadeCard : Claim7 := { stood := { row := fnMadeRow, standIns := [], harness := (true, "e283d4f1a529082bb63b6f9c821d6241c37443941bf17f221b30a164ad188d6b"), looks := false }, kinds := [], alts := [], laidByText := true, laidKinds := [.data, .pinned], laidTests := true, laidLooks := .later }
def FnMadeCardSaid : Prop := Claim7.holds Tryz.pinned (.plain (OpenSpec.ofChange fnMadeSpec)) fnMadeCard

/-- THE TIED CARD OF 'laws.FnVol'. -/
def fnVolCard : Claim7 := { stood := { row := fnVolRow, standIns := [], harness := (true, "e283d4f1a529082bb63b6f9c821d6241c37443941bf17f221b30a164ad188d6b"), looks := false }, kinds := [], alts := [], laidByText := true, laidKinds := [.data, .pinned], laidTests := true, laidLooks := .later }
def FnVolCardSaid : Prop := Claim7.holds Tryz.pinned (.plain (OpenSpec.ofChange fnVolSpec)) fnVolCard

/-- THE TIED CARD OF 'laws.FnRename'. -/
def fnRenameCard : Claim7 := { stood := { row := fnRenameRow, standIns := [], harness := (true, "e283d4f1a529082bb63b6f9c821d6241c37443941bf17f221b30a164ad188d6b"), looks := false }, kinds := [], alts := [], laidByText := true, laidKinds := [.data, .pinned], laidTests := true, laidLooks := .later }
def FnRenameCardSaid : Prop := Claim7.holds Tryz.pinned (.plain (OpenSpec.ofChange fnRenameSpec)) fnRenameCard

/-- THE TIED CARD OF 'laws.FnExactVolDo'. -/
def fnExactVolDoCard : Claim7 := { stood := { row := fnExactVolDoRow, standIns := [], harness := (true, "e283d4f1a529082bb63b6f9c821d6241c37443941bf17f221b30a164ad188d6b"), looks := false }, kinds := [], alts := [], laidByText := true, laidKinds := [.data, .pinned], laidTests := true, laidLooks := .later }
def FnExactVolDoCardSaid : Prop := Claim7.holds Tryz.pinned (.plain (OpenSpec.ofChange fnExactVolDoSpec)) fnExactVolDoCard

/-- THE SECOND FORM's CARD OF 'laws.FnLinked'. -/
def fnLinkedUptoCard : Claim7 := { stood := { row := fnLinkedUptoRow, standIns := [], harness := (true, "e283d4f1a529082bb63b6f9c821d6241c37443941bf17f221b30a164ad188d6b"), looks := false }, kinds := [], alts := [], laidByText := true, laidKinds := [.data, .pinned], laidTests := true, laidLooks := .later }
def FnLinkedUptoCardSaid : Prop := Claim7.holds Tryz.pinned (.plain (OpenSpec.upto fnLinkedSpec)) fnLinkedUptoCard

/-- THE SECOND FORM's CARD OF 'laws.FnWrite'. -/
def fnWriteUptoCard : Claim7 := { stood := { row := fnWriteUptoRow, standIns := [], harness := (true, "e283d4f1a529082bb63b6f9c821d6241c37443941bf17f221b30a164ad188d6b"), looks := false }, kinds := [], alts := [], laidByText := true, laidKinds := [.data, .pinned], laidTests := true, laidLooks := .later }
def FnWriteUptoCardSaid : Prop := Claim7.holds Tryz.pinned (.plain (OpenSpec.upto fnWriteSpec)) fnWriteUptoCard

/-- THE SECOND FORM's CARD OF 'laws.FnMade'. -/
def fnMadeUptoCard : Claim7 := { stood := { row := fnMadeUptoRow, standIns := [], harness := (true, "e283d4f1a529082bb63b6f9c821d6241c37443941bf17f221b30a164ad188d6b"), looks := false }, kinds := [], alts := [], laidByText := true, laidKinds := [.data, .pinned], laidTests := true, laidLooks := .later }
def FnMadeUptoCardSaid : Prop := Claim7.holds Tryz.pinned (.plain (OpenSpec.upto fnMadeSpec)) fnMadeUptoCard

/-- THE SECOND FORM's CARD OF 'laws.FnVol'. -/
def fnVolUptoCard : Claim7 := { stood := { row := fnVolUptoRow, standIns := [], harness := (true, "e283d4f1a529082bb63b6f9c821d6241c37443941bf17f221b30a164ad188d6b"), looks := false }, kinds := [], alts := [], laidByText := true, laidKinds := [.data, .pinned], laidTests := true, laidLooks := .later }
def FnVolUptoCardSaid : Prop := Claim7.holds Tryz.pinned (.plain (OpenSpec.upto fnVolSpec)) fnVolUptoCard

/-- THE SECOND FORM's CARD OF 'laws.FnRename'. -/
def fnRenameUptoCard : Claim7 := { stood := { row := fnRenameUptoRow, standIns := [], harness := (true, "e283d4f1a529082bb63b6f9c821d6241c37443941bf17f221b30a164ad188d6b"), looks := false }, kinds := [], alts := [], laidByText := true, laidKinds := [.data, .pinned], laidTests := true, laidLooks := .later }
def FnRenameUptoCardSaid : Prop := Claim7.holds Tryz.pinned (.plain (OpenSpec.upto fnRenameSpec)) fnRenameUptoCard

/-- THE SECOND FORM's CARD OF 'laws.FnExactVolDo'. -/
def fnExactVolDoUptoCard : Claim7 := { stood := { row := fnExactVolDoUptoRow, standIns := [], harness := (true, "e283d4f1a529082bb63b6f9c821d6241c37443941bf17f221b30a164ad188d6b"), looks := false }, kinds := [], alts := [], laidByText := true, laidKinds := [.data, .pinned], laidTests := true, laidLooks := .later }
def FnExactVolDoUptoCardSaid : Prop := Claim7.holds Tryz.pinned (.plain (OpenSpec.upto fnExactVolDoSpec)) fnExactVolDoUptoCard
end Rows
end Go.Proofs.YtklmgcjamifmaaaGreatDoor
