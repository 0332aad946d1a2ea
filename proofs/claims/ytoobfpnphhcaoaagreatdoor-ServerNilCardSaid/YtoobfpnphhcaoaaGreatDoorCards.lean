/-
  DERIVED. GIVEN WITH THE SEED: THE CARDS: each row of YtoobfpnphhcaoaaGreatDoorRows.lean that lists a variable, with what it lists TIED to the program's text (the seventh form; the later family's looks); each row that meets fmt, with fmt's text TOLD by the authors' own Lean function (tested against real Go, not proved from fmt's source: count such statements apart). THE CARD IS WHAT COUNTS. Prove the row's statement (the work); the ties are given (YtoobfpnphhcaoaaGreatDoorTie.lean); close each card by the builder's one call (the guide's Derived/Test/ToyasCard.lean, 'card_holds'). Laid BY PROGRAM, IN A SANDBOX (cutbox-door.mjs). By AI agents, Wed Nov 11 2026. No macro, syntax, notation, axiom, sorry.
-/
import Derived.Test.YtoobfpnphhcaoaaGreatDoorRows
import GoSem.ClaimSeven
namespace Go.Proofs.YtoobfpnphhcaoaaGreatDoor
namespace Rows

/-- THE TIED CARD OF 'refectorylaw25.ServerTicks'. -/
def serverTicksCard : Claim7 := { stood := { row := serverTicksRow, standIns := [], harness := (true, "97b67b613672dbdf5d1ef32aefd4dc0d38a6a672c7831ed6cad9003ca883b193"), looks := false }, kinds := [], alts := [], laidByText := true, laidKinds := [.data, .data, .data, .pinned], laidTests := true, laidLooks := .later }
def ServerTicksCardSaid : Prop := Claim7.holds Tryz.pinned (.plain (OpenSpec.ofChange serverTicksSpec)) serverTicksCard

/-- THE TIED CARD OF 'refectorylaw25.ServerLasts'. -/
def serverLastsCard : Claim7 := { stood := { row := serverLastsRow, standIns := [], harness := (true, "97b67b613672dbdf5d1ef32aefd4dc0d38a6a672c7831ed6cad9003ca883b193"), looks := false }, kinds := [], alts := [], laidByText := true, laidKinds := [.data, .data, .data, .pinned], laidTests := true, laidLooks := .later }
def ServerLastsCardSaid : Prop := Claim7.holds Tryz.pinned (.plain (OpenSpec.ofChange serverLastsSpec)) serverLastsCard

/-- THE TIED CARD OF 'refectorylaw25.ServerNil'. -/
def serverNilCard : Claim7 := { stood := { row := serverNilRow, standIns := [], harness := (true, "97b67b613672dbdf5d1ef32aefd4dc0d38a6a672c7831ed6cad9003ca883b193"), looks := false }, kinds := [], alts := [], laidByText := true, laidKinds := [.data, .data, .data, .pinned], laidTests := true, laidLooks := .later }
def ServerNilCardSaid : Prop := Claim7.holds Tryz.pinned (.plain (OpenSpec.ofChange serverNilSpec)) serverNilCard

/-- THE SECOND FORM's CARD OF 'refectorylaw25.ServerTicks'. -/
def serverTicksUptoCard : Claim7 := { stood := { row := serverTicksUptoRow, standIns := [], harness := (true, "97b67b613672dbdf5d1ef32aefd4dc0d38a6a672c7831ed6cad9003ca883b193"), looks := false }, kinds := [], alts := [], laidByText := true, laidKinds := [.data, .data, .data, .pinned], laidTests := true, laidLooks := .later }
def ServerTicksUptoCardSaid : Prop := Claim7.holds Tryz.pinned (.plain (OpenSpec.upto serverTicksSpec)) serverTicksUptoCard

/-- THE SECOND FORM's CARD OF 'refectorylaw25.ServerLasts'. -/
def serverLastsUptoCard : Claim7 := { stood := { row := serverLastsUptoRow, standIns := [], harness := (true, "97b67b613672dbdf5d1ef32aefd4dc0d38a6a672c7831ed6cad9003ca883b193"), looks := false }, kinds := [], alts := [], laidByText := true, laidKinds := [.data, .data, .data, .pinned], laidTests := true, laidLooks := .later }
def ServerLastsUptoCardSaid : Prop := Claim7.holds Tryz.pinned (.plain (OpenSpec.upto serverLastsSpec)) serverLastsUptoCard

/-- THE SECOND FORM's CARD OF 'refectorylaw25.ServerNil'. -/
def serverNilUptoCard : Claim7 := { stood := { row := serverNilUptoRow, standIns := [], harness := (true, "97b67b613672dbdf5d1ef32aefd4dc0d38a6a672c7831ed6cad9003ca883b193"), looks := false }, kinds := [], alts := [], laidByText := true, laidKinds := [.data, .data, .data, .pinned], laidTests := true, laidLooks := .later }
def ServerNilUptoCardSaid : Prop := Claim7.holds Tryz.pinned (.plain (OpenSpec.upto serverNilSpec)) serverNilUptoCard
end Rows
end Go.Proofs.YtoobfpnphhcaoaaGreatDoor
