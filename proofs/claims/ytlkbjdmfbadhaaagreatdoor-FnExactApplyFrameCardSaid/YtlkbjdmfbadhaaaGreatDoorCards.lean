/-
  DERIVED. GIVEN WITH THE SEED: THE CARDS: each row of YtlkbjdmfbadhaaaGreatDoorRows.lean that lists a variable, with what it lists TIED to the program's text (the seventh form; the later family's looks); each row that meets fmt, with fmt's text TOLD by the authors' own Lean function (tested against real Go, not proved from fmt's source: count such statements apart). THE CARD IS WHAT COUNTS. Prove the row's statement (the work); the ties are given (YtlkbjdmfbadhaaaGreatDoorTie.lean); close each card by the builder's one call (the guide's Derived/Test/ToyasCard.lean, 'card_holds'). Laid BY PROGRAM, IN A SANDBOX (cutbox-door.mjs). By AI agents, Wed Nov 11 2026. No macro, syntax, notation, axiom, sorry.
-/
import Derived.Test.YtlkbjdmfbadhaaaGreatDoorRows
import GoSem.ClaimSeven
namespace Go.Proofs.YtlkbjdmfbadhaaaGreatDoor
namespace Rows

/-- THE TIED CARD OF 'laws.FnTenant'. -/
def fnTenantCard : Claim7 := { stood := { row := fnTenantRow, standIns := [], harness := (true, "b7f5cdb075d9496648b75f7ac51c923225f76e4c099563146fe66af0c8358e70"), looks := false }, kinds := [], alts := [], laidByText := true, laidKinds := [.data, .pinned], laidTests := true, laidLooks := .later }
def FnTenantCardSaid : Prop := Claim7.holds Tryz.pinned (.plain (OpenSpec.ofChange fnTenantSpec)) fnTenantCard

/-- THE TIED CARD OF 'laws.FnExactTurnsOf'. -/
def fnExactTurnsOfCard : Claim7 := { stood := { row := fnExactTurnsOfRow, standIns := [], harness := (true, "b7f5cdb075d9496648b75f7ac51c923225f76e4c099563146fe66af0c8358e70"), looks := false }, kinds := [], alts := [], laidByText := true, laidKinds := [.data, .pinned], laidTests := true, laidLooks := .later }
def FnExactTurnsOfCardSaid : Prop := Claim7.holds Tryz.pinned (.plain (OpenSpec.ofChange fnExactTurnsOfSpec)) fnExactTurnsOfCard

/-- THE TIED CARD OF 'laws.FnExactTenantDo'. -/
def fnExactTenantDoCard : Claim7 := { stood := { row := fnExactTenantDoRow, standIns := [], harness := (true, "b7f5cdb075d9496648b75f7ac51c923225f76e4c099563146fe66af0c8358e70"), looks := false }, kinds := [], alts := [], laidByText := true, laidKinds := [.data, .pinned], laidTests := true, laidLooks := .later }
def FnExactTenantDoCardSaid : Prop := Claim7.holds Tryz.pinned (.plain (OpenSpec.ofChange fnExactTenantDoSpec)) fnExactTenantDoCard

/-- THE TIED CARD OF 'laws.FnFold'. -/
def fnFoldCard : Claim7 := { stood := { row := fnFoldRow, standIns := [], harness := (true, "b7f5cdb075d9496648b75f7ac51c923225f76e4c099563146fe66af0c8358e70"), looks := false }, kinds := [], alts := [], laidByText := true, laidKinds := [.data, .pinned], laidTests := true, laidLooks := .later }
def FnFoldCardSaid : Prop := Claim7.holds Tryz.pinned (.plain (OpenSpec.ofChange fnFoldSpec)) fnFoldCard

/-- THE TIED CARD OF 'laws.FnExactFoldTenant'. -/
def fnExactFoldTenantCard : Claim7 := { stood := { row := fnExactFoldTenantRow, standIns := [], harness := (true, "b7f5cdb075d9496648b75f7ac51c923225f76e4c099563146fe66af0c8358e70"), looks := false }, kinds := [], alts := [], laidByText := true, laidKinds := [.data, .pinned], laidTests := true, laidLooks := .later }
def FnExactFoldTenantCardSaid : Prop := Claim7.holds Tryz.pinned (.plain (OpenSpec.ofChange fnExactFoldTenantSpec)) fnExactFoldTenantCard

/-- THE TIED CARD OF 'laws.FnAlone'. -/
def fnAloneCard : Claim7 := { stood := { row := fnAloneRow, standIns := [], harness := (true, "b7f5cdb075d9496648b75f7ac51c923225f76e4c099563146fe66af0c8358e70"), looks := false }, kinds := [], alts := [], laidByText := true, laidKinds := [.data, .pinned], laidTests := true, laidLooks := .later }
def FnAloneCardSaid : Prop := Claim7.holds Tryz.pinned (.plain (OpenSpec.ofChange fnAloneSpec)) fnAloneCard

/-- THE TIED CARD OF 'laws.FnExactApplyFrame'. -/
def fnExactApplyFrameCard : Claim7 := { stood := { row := fnExactApplyFrameRow, standIns := [], harness := (true, "b7f5cdb075d9496648b75f7ac51c923225f76e4c099563146fe66af0c8358e70"), looks := false }, kinds := [], alts := [], laidByText := true, laidKinds := [.data, .pinned], laidTests := true, laidLooks := .later }
def FnExactApplyFrameCardSaid : Prop := Claim7.holds Tryz.pinned (.plain (OpenSpec.ofChange fnExactApplyFrameSpec)) fnExactApplyFrameCard

/-- THE SECOND FORM's CARD OF 'laws.FnTenant'. -/
def fnTenantUptoCard : Claim7 := { stood := { row := fnTenantUptoRow, standIns := [], harness := (true, "b7f5cdb075d9496648b75f7ac51c923225f76e4c099563146fe66af0c8358e70"), looks := false }, kinds := [], alts := [], laidByText := true, laidKinds := [.data, .pinned], laidTests := true, laidLooks := .later }
def FnTenantUptoCardSaid : Prop := Claim7.holds Tryz.pinned (.plain (OpenSpec.upto fnTenantSpec)) fnTenantUptoCard

/-- THE SECOND FORM's CARD OF 'laws.FnExactTurnsOf'. -/
def fnExactTurnsOfUptoCard : Claim7 := { stood := { row := fnExactTurnsOfUptoRow, standIns := [], harness := (true, "b7f5cdb075d9496648b75f7ac51c923225f76e4c099563146fe66af0c8358e70"), looks := false }, kinds := [], alts := [], laidByText := true, laidKinds := [.data, .pinned], laidTests := true, laidLooks := .later }
def FnExactTurnsOfUptoCardSaid : Prop := Claim7.holds Tryz.pinned (.plain (OpenSpec.upto fnExactTurnsOfSpec)) fnExactTurnsOfUptoCard

/-- THE SECOND FORM's CARD OF 'laws.FnExactTenantDo'. -/
def fnExactTenantDoUptoCard : Claim7 := { stood := { row := fnExactTenantDoUptoRow, standIns := [], harness := (true, "b7f5cdb075d9496648b75f7ac51c923225f76e4c099563146fe66af0c8358e70"), looks := false }, kinds := [], alts := [], laidByText := true, laidKinds := [.data, .pinned], laidTests := true, laidLooks := .later }
def FnExactTenantDoUptoCardSaid : Prop := Claim7.holds Tryz.pinned (.plain (OpenSpec.upto fnExactTenantDoSpec)) fnExactTenantDoUptoCard

/-- THE SECOND FORM's CARD OF 'laws.FnFold'. -/
def fnFoldUptoCard : Claim7 := { stood := { row := fnFoldUptoRow, standIns := [], harness := (true, "b7f5cdb075d9496648b75f7ac51c923225f76e4c099563146fe66af0c8358e70"), looks := false }, kinds := [], alts := [], laidByText := true, laidKinds := [.data, .pinned], laidTests := true, laidLooks := .later }
def FnFoldUptoCardSaid : Prop := Claim7.holds Tryz.pinned (.plain (OpenSpec.upto fnFoldSpec)) fnFoldUptoCard

/-- THE SECOND FORM's CARD OF 'laws.FnExactFoldTenant'. -/
def fnExactFoldTenantUptoCard : Claim7 := { stood := { row := fnExactFoldTenantUptoRow, standIns := [], harness := (true, "b7f5cdb075d9496648b75f7ac51c923225f76e4c099563146fe66af0c8358e70"), looks := false }, kinds := [], alts := [], laidByText := true, laidKinds := [.data, .pinned], laidTests := true, laidLooks := .later }
def FnExactFoldTenantUptoCardSaid : Prop := Claim7.holds Tryz.pinned (.plain (OpenSpec.upto fnExactFoldTenantSpec)) fnExactFoldTenantUptoCard

/-- THE SECOND FORM's CARD OF 'laws.FnAlone'. -/
def fnAloneUptoCard : Claim7 := { stood := { row := fnAloneUptoRow, standIns := [], harness := (true, "b7f5cdb075d9496648b75f7ac51c923225f76e4c099563146fe66af0c8358e70"), looks := false }, kinds := [], alts := [], laidByText := true, laidKinds := [.data, .pinned], laidTests := true, laidLooks := .later }
def FnAloneUptoCardSaid : Prop := Claim7.holds Tryz.pinned (.plain (OpenSpec.upto fnAloneSpec)) fnAloneUptoCard

/-- THE SECOND FORM's CARD OF 'laws.FnExactApplyFrame'. -/
def fnExactApplyFrameUptoCard : Claim7 := { stood := { row := fnExactApplyFrameUptoRow, standIns := [], harness := (true, "b7f5cdb075d9496648b75f7ac51c923225f76e4c099563146fe66af0c8358e70"), looks := false }, kinds := [], alts := [], laidByText := true, laidKinds := [.data, .pinned], laidTests := true, laidLooks := .later }
def FnExactApplyFrameUptoCardSaid : Prop := Claim7.holds Tryz.pinned (.plain (OpenSpec.upto fnExactApplyFrameSpec)) fnExactApplyFrameUptoCard
end Rows
end Go.Proofs.YtlkbjdmfbadhaaaGreatDoor
