/-
  DERIVED. GIVEN WITH THE SEED: THE CARDS: each row of YtoijpmokcdifnaaGreatDoorRows.lean that lists a variable, with what it lists TIED to the program's text (the seventh form; the later family's looks); each row that meets fmt, with fmt's text TOLD by the authors' own Lean function (tested against real Go, not proved from fmt's source: count such statements apart). THE CARD IS WHAT COUNTS. Prove the row's statement (the work); the ties are given (YtoijpmokcdifnaaGreatDoorTie.lean); close each card by the builder's one call (the guide's Derived/Test/ToyasCard.lean, 'card_holds'). Laid BY PROGRAM, IN A SANDBOX (cutbox-door.mjs). By AI agents, Wed Nov 11 2026. No macro, syntax, notation, axiom, sorry.
-/
import Derived.Test.YtoijpmokcdifnaaGreatDoorRows
import GoSem.ClaimSeven
namespace Go.Proofs.YtoijpmokcdifnaaGreatDoor
namespace Rows

/-- THE TIED CARD OF 'laws.FnExactRoomPut'. -/
def fnExactRoomPutCard : Claim7 := { stood := { row := fnExactRoomPutRow, standIns := [], harness := (true, "6e777a16231047c08a520e5cc2bc2b37e3236107f5f8828560249da8bb24f6f7"), looks := true }, kinds := [], alts := [], laidByText := true, laidKinds := [.data, .data, .data, .data, .pinned], laidTests := true, laidLooks := .later }
def FnExactRoomPutCardSaid : Prop := Claim7.holds Tryz.pinned (.plain (OpenSpec.ofChange fnExactRoomPutSpec)) fnExactRoomPutCard

/-- THE TIED CARD OF 'laws.FnExactRoomGet'. -/
def fnExactRoomGetCard : Claim7 := { stood := { row := fnExactRoomGetRow, standIns := [], harness := (true, "6e777a16231047c08a520e5cc2bc2b37e3236107f5f8828560249da8bb24f6f7"), looks := true }, kinds := [], alts := [], laidByText := true, laidKinds := [.data, .data, .data, .data, .sentinel, .sentinel, .pinned], laidTests := true, laidLooks := .later }
def FnExactRoomGetCardSaid : Prop := Claim7.holds Tryz.pinned (.plain (OpenSpec.ofChange fnExactRoomGetSpec)) fnExactRoomGetCard

/-- THE TIED CARD OF 'laws.FnRoomPut'. -/
def fnRoomPutCard : Claim7 := { stood := { row := fnRoomPutRow, standIns := [], harness := (true, "6e777a16231047c08a520e5cc2bc2b37e3236107f5f8828560249da8bb24f6f7"), looks := true }, kinds := [], alts := [], laidByText := true, laidKinds := [.data, .data, .data, .data, .sentinel, .sentinel, .pinned], laidTests := true, laidLooks := .later }
def FnRoomPutCardSaid : Prop := Claim7.holds Tryz.pinned (.plain (OpenSpec.ofChange fnRoomPutSpec)) fnRoomPutCard

/-- THE TIED CARD OF 'laws.FnRoomGet'. -/
def fnRoomGetCard : Claim7 := { stood := { row := fnRoomGetRow, standIns := [], harness := (true, "6e777a16231047c08a520e5cc2bc2b37e3236107f5f8828560249da8bb24f6f7"), looks := true }, kinds := [], alts := [], laidByText := true, laidKinds := [.data, .data, .data, .data, .sentinel, .sentinel, .pinned], laidTests := true, laidLooks := .later }
def FnRoomGetCardSaid : Prop := Claim7.holds Tryz.pinned (.plain (OpenSpec.ofChange fnRoomGetSpec)) fnRoomGetCard

/-- THE SECOND FORM's CARD OF 'laws.FnExactRoomPut'. -/
def fnExactRoomPutUptoCard : Claim7 := { stood := { row := fnExactRoomPutUptoRow, standIns := [], harness := (true, "6e777a16231047c08a520e5cc2bc2b37e3236107f5f8828560249da8bb24f6f7"), looks := true }, kinds := [], alts := [], laidByText := true, laidKinds := [.data, .data, .data, .data, .pinned], laidTests := true, laidLooks := .later }
def FnExactRoomPutUptoCardSaid : Prop := Claim7.holds Tryz.pinned (.plain (OpenSpec.upto fnExactRoomPutSpec)) fnExactRoomPutUptoCard

/-- THE SECOND FORM's CARD OF 'laws.FnExactRoomGet'. -/
def fnExactRoomGetUptoCard : Claim7 := { stood := { row := fnExactRoomGetUptoRow, standIns := [], harness := (true, "6e777a16231047c08a520e5cc2bc2b37e3236107f5f8828560249da8bb24f6f7"), looks := true }, kinds := [], alts := [], laidByText := true, laidKinds := [.data, .data, .data, .data, .sentinel, .sentinel, .pinned], laidTests := true, laidLooks := .later }
def FnExactRoomGetUptoCardSaid : Prop := Claim7.holds Tryz.pinned (.plain (OpenSpec.upto fnExactRoomGetSpec)) fnExactRoomGetUptoCard

/-- THE SECOND FORM's CARD OF 'laws.FnRoomPut'. -/
def fnRoomPutUptoCard : Claim7 := { stood := { row := fnRoomPutUptoRow, standIns := [], harness := (true, "6e777a16231047c08a520e5cc2bc2b37e3236107f5f8828560249da8bb24f6f7"), looks := true }, kinds := [], alts := [], laidByText := true, laidKinds := [.data, .data, .data, .data, .sentinel, .sentinel, .pinned], laidTests := true, laidLooks := .later }
def FnRoomPutUptoCardSaid : Prop := Claim7.holds Tryz.pinned (.plain (OpenSpec.upto fnRoomPutSpec)) fnRoomPutUptoCard

/-- THE SECOND FORM's CARD OF 'laws.FnRoomGet'. -/
def fnRoomGetUptoCard : Claim7 := { stood := { row := fnRoomGetUptoRow, standIns := [], harness := (true, "6e777a16231047c08a520e5cc2bc2b37e3236107f5f8828560249da8bb24f6f7"), looks := true }, kinds := [], alts := [], laidByText := true, laidKinds := [.data, .data, .data, .data, .sentinel, .sentinel, .pinned], laidTests := true, laidLooks := .later }
def FnRoomGetUptoCardSaid : Prop := Claim7.holds Tryz.pinned (.plain (OpenSpec.upto fnRoomGetSpec)) fnRoomGetUptoCard
end Rows
end Go.Proofs.YtoijpmokcdifnaaGreatDoor
