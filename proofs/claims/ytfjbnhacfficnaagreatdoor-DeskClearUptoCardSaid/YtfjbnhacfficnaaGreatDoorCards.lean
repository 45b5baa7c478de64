/-
  DERIVED. GIVEN WITH THE SEED: THE CARDS: each row of YtfjbnhacfficnaaGreatDoorRows.lean that lists a variable, with what it lists TIED to the program's text (the seventh form; the later family's looks); each row that meets fmt, with fmt's text TOLD by the authors' own Lean function (tested against real Go, not proved from fmt's source: count such statements apart). THE CARD IS WHAT COUNTS. Prove the row's statement (the work); the ties are given (YtfjbnhacfficnaaGreatDoorTie.lean); close each card by the builder's one call (the guide's Derived/Test/ToyasCard.lean, 'card_holds'). Laid BY PROGRAM, IN A SANDBOX (cutbox-door.mjs). By AI agents, Wed Nov 11 2026. No macro, syntax, notation, axiom, sorry.
-/
import Derived.Test.YtfjbnhacfficnaaGreatDoorRows
import GoSem.ClaimSeven
namespace Go.Proofs.YtfjbnhacfficnaaGreatDoor
namespace Rows

/-- THE TIED CARD OF 'deadheatkeep.DeskFront'. -/
def deskFrontCard : Claim7 := { stood := { row := deskFrontRow, standIns := [], harness := (true, "29a05870c4a8c29996d1cd37cebb1180ea1a94bb86ee612645e2ddada1e73ee7"), looks := true }, kinds := [], alts := [], laidByText := true, laidKinds := [.data, .data, .data, .data, .sentinel, .sentinel, .pinned], laidTests := true, laidLooks := .later }
def DeskFrontCardSaid : Prop := Claim7.holds Tryz.pinned (.plain (OpenSpec.ofChange deskFrontSpec)) deskFrontCard

/-- THE TIED CARD OF 'deadheatkeep.DeskErrors'. -/
def deskErrorsCard : Claim7 := { stood := { row := deskErrorsRow, standIns := [], harness := (true, "29a05870c4a8c29996d1cd37cebb1180ea1a94bb86ee612645e2ddada1e73ee7"), looks := true }, kinds := [], alts := [], laidByText := true, laidKinds := [.data, .data, .data, .data, .sentinel, .sentinel, .pinned], laidTests := true, laidLooks := .later }
def DeskErrorsCardSaid : Prop := Claim7.holds Tryz.pinned (.plain (OpenSpec.ofChange deskErrorsSpec)) deskErrorsCard

/-- THE TIED CARD OF 'deadheatkeep.DeskClear'. -/
def deskClearCard : Claim7 := { stood := { row := deskClearRow, standIns := [], harness := (true, "29a05870c4a8c29996d1cd37cebb1180ea1a94bb86ee612645e2ddada1e73ee7"), looks := true }, kinds := [], alts := [], laidByText := true, laidKinds := [.data, .data, .data, .data, .sentinel, .sentinel, .pinned], laidTests := true, laidLooks := .later }
def DeskClearCardSaid : Prop := Claim7.holds Tryz.pinned (.plain (OpenSpec.ofChange deskClearSpec)) deskClearCard

/-- THE SECOND FORM's CARD OF 'deadheatkeep.DeskFront'. -/
def deskFrontUptoCard : Claim7 := { stood := { row := deskFrontUptoRow, standIns := [], harness := (true, "29a05870c4a8c29996d1cd37cebb1180ea1a94bb86ee612645e2ddada1e73ee7"), looks := true }, kinds := [], alts := [], laidByText := true, laidKinds := [.data, .data, .data, .data, .sentinel, .sentinel, .pinned], laidTests := true, laidLooks := .later }
def DeskFrontUptoCardSaid : Prop := Claim7.holds Tryz.pinned (.plain (OpenSpec.upto deskFrontSpec)) deskFrontUptoCard

/-- THE SECOND FORM's CARD OF 'deadheatkeep.DeskErrors'. -/
def deskErrorsUptoCard : Claim7 := { stood := { row := deskErrorsUptoRow, standIns := [], harness := (true, "29a05870c4a8c29996d1cd37cebb1180ea1a94bb86ee612645e2ddada1e73ee7"), looks := true }, kinds := [], alts := [], laidByText := true, laidKinds := [.data, .data, .data, .data, .sentinel, .sentinel, .pinned], laidTests := true, laidLooks := .later }
def DeskErrorsUptoCardSaid : Prop := Claim7.holds Tryz.pinned (.plain (OpenSpec.upto deskErrorsSpec)) deskErrorsUptoCard

/-- THE SECOND FORM's CARD OF 'deadheatkeep.DeskClear'. -/
def deskClearUptoCard : Claim7 := { stood := { row := deskClearUptoRow, standIns := [], harness := (true, "29a05870c4a8c29996d1cd37cebb1180ea1a94bb86ee612645e2ddada1e73ee7"), looks := true }, kinds := [], alts := [], laidByText := true, laidKinds := [.data, .data, .data, .data, .sentinel, .sentinel, .pinned], laidTests := true, laidLooks := .later }
def DeskClearUptoCardSaid : Prop := Claim7.holds Tryz.pinned (.plain (OpenSpec.upto deskClearSpec)) deskClearUptoCard
end Rows
end Go.Proofs.YtfjbnhacfficnaaGreatDoor
