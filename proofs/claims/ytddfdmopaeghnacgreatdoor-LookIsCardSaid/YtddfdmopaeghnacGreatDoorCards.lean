/-
  DERIVED. GIVEN WITH THE SEED: THE CARDS: each row of YtddfdmopaeghnacGreatDoorRows.lean that lists a variable, with what it lists TIED to the program's text (the seventh form; the later family's looks); each row that meets fmt, with fmt's text TOLD by the authors' own Lean function (tested against real Go, not proved from fmt's source: count such statements apart). THE CARD IS WHAT COUNTS. Prove the row's statement (the work); the ties are given (YtddfdmopaeghnacGreatDoorTie.lean); close each card by the builder's one call (the guide's Derived/Test/ToyasCard.lean, 'card_holds'). Laid BY PROGRAM, IN A SANDBOX (cutbox-door.mjs). By AI agents, Wed Nov 11 2026. No macro, syntax, notation, axiom, sorry.
-/
import Derived.Test.YtddfdmopaeghnacGreatDoorRows
import GoSem.ClaimSeven
namespace Go.Proofs.YtddfdmopaeghnacGreatDoor
namespace Rows

/-- THE TIED CARD OF 'pargetrylaw2.LayFlat'. -/
def layFlatCard : Claim7 := { stood := { row := layFlatRow, standIns := [], harness := (true, "76e2c8bec05b6814a2d79bd4bc89444b3aa53f61ad2e56dc7e609abda594e26a"), looks := true }, kinds := [], alts := [], laidByText := true, laidKinds := [.data, .data, .data, .data, .pinned], laidTests := true, laidLooks := .later }
def LayFlatCardSaid : Prop := Claim7.holds Tryz.pinned (.plain (OpenSpec.ofChange layFlatSpec)) layFlatCard

/-- THE TIED CARD OF 'pargetrylaw2.LookEqual'. -/
def lookEqualCard : Claim7 := { stood := { row := lookEqualRow, standIns := [], harness := (true, "76e2c8bec05b6814a2d79bd4bc89444b3aa53f61ad2e56dc7e609abda594e26a"), looks := true }, kinds := [], alts := [], laidByText := true, laidKinds := [.data, .data, .data, .data, .sentinel, .sentinel, .pinned], laidTests := true, laidLooks := .later }
def LookEqualCardSaid : Prop := Claim7.holds Tryz.pinned (.plain (OpenSpec.ofChange lookEqualSpec)) lookEqualCard

/-- THE TIED CARD OF 'pargetrylaw2.FormFits'. -/
def formFitsCard : Claim7 := { stood := { row := formFitsRow, standIns := [], harness := (true, "76e2c8bec05b6814a2d79bd4bc89444b3aa53f61ad2e56dc7e609abda594e26a"), looks := true }, kinds := [], alts := [], laidByText := true, laidKinds := [.data, .data, .data, .data, .pinned], laidTests := true, laidLooks := .later }
def FormFitsCardSaid : Prop := Claim7.holds Tryz.pinned (.plain (OpenSpec.ofChange formFitsSpec)) formFitsCard

/-- THE TIED CARD OF 'pargetrylaw2.SynIs'. -/
def synIsCard : Claim7 := { stood := { row := synIsRow, standIns := [], harness := (true, "76e2c8bec05b6814a2d79bd4bc89444b3aa53f61ad2e56dc7e609abda594e26a"), looks := true }, kinds := [], alts := [], laidByText := true, laidKinds := [.data, .data, .data, .data, .handle, .sentinel, .sentinel, .pinned], laidTests := true, laidLooks := .later }
def SynIsCardSaid : Prop := Claim7.holds Tryz.pinned (.plain (OpenSpec.ofChange synIsSpec)) synIsCard

/-- THE TIED CARD OF 'pargetrylaw2.SynBack'. -/
def synBackCard : Claim7 := { stood := { row := synBackRow, standIns := [], harness := (true, "76e2c8bec05b6814a2d79bd4bc89444b3aa53f61ad2e56dc7e609abda594e26a"), looks := true }, kinds := [], alts := [], laidByText := true, laidKinds := [.data, .data, .data, .data, .handle, .sentinel, .sentinel, .pinned], laidTests := true, laidLooks := .later }
def SynBackCardSaid : Prop := Claim7.holds Tryz.pinned (.plain (OpenSpec.ofChange synBackSpec)) synBackCard

/-- THE TIED CARD OF 'pargetrylaw2.FormBack'. -/
def formBackCard : Claim7 := { stood := { row := formBackRow, standIns := [], harness := (true, "76e2c8bec05b6814a2d79bd4bc89444b3aa53f61ad2e56dc7e609abda594e26a"), looks := true }, kinds := [], alts := [], laidByText := true, laidKinds := [.data, .data, .data, .data, .sentinel, .sentinel, .pinned], laidTests := true, laidLooks := .later }
def FormBackCardSaid : Prop := Claim7.holds Tryz.pinned (.plain (OpenSpec.ofChange formBackSpec)) formBackCard

/-- THE TIED CARD OF 'pargetrylaw2.DeskSame'. -/
def deskSameCard : Claim7 := { stood := { row := deskSameRow, standIns := [], harness := (true, "76e2c8bec05b6814a2d79bd4bc89444b3aa53f61ad2e56dc7e609abda594e26a"), looks := true }, kinds := [], alts := [], laidByText := true, laidKinds := [.data, .data, .data, .data, .sentinel, .sentinel, .pinned], laidTests := true, laidLooks := .later }
def DeskSameCardSaid : Prop := Claim7.holds Tryz.pinned (.plain (OpenSpec.ofChange deskSameSpec)) deskSameCard

/-- THE TIED CARD OF 'pargetrylaw2.DeskWide'. -/
def deskWideCard : Claim7 := { stood := { row := deskWideRow, standIns := [], harness := (true, "76e2c8bec05b6814a2d79bd4bc89444b3aa53f61ad2e56dc7e609abda594e26a"), looks := true }, kinds := [], alts := [], laidByText := true, laidKinds := [.data, .data, .data, .data, .sentinel, .sentinel, .pinned], laidTests := true, laidLooks := .later }
def DeskWideCardSaid : Prop := Claim7.holds Tryz.pinned (.plain (OpenSpec.ofChange deskWideSpec)) deskWideCard

/-- THE TIED CARD OF 'pargetrylaw2.FormIs'. -/
def formIsCard : Claim7 := { stood := { row := formIsRow, standIns := [], harness := (true, "76e2c8bec05b6814a2d79bd4bc89444b3aa53f61ad2e56dc7e609abda594e26a"), looks := true }, kinds := [], alts := [], laidByText := true, laidKinds := [.data, .data, .data, .data, .handle, .sentinel, .sentinel, .pinned], laidTests := true, laidLooks := .later }
def FormIsCardSaid : Prop := Claim7.holds Tryz.pinned (.plain (OpenSpec.ofChange formIsSpec)) formIsCard

/-- THE TIED CARD OF 'pargetrylaw2.LookIs'. -/
def lookIsCard : Claim7 := { stood := { row := lookIsRow, standIns := [], harness := (true, "76e2c8bec05b6814a2d79bd4bc89444b3aa53f61ad2e56dc7e609abda594e26a"), looks := true }, kinds := [], alts := [], laidByText := true, laidKinds := [.data, .data, .data, .data, .handle, .sentinel, .sentinel, .pinned], laidTests := true, laidLooks := .later }
def LookIsCardSaid : Prop := Claim7.holds Tryz.pinned (.plain (OpenSpec.ofChange lookIsSpec)) lookIsCard

/-- THE SECOND FORM's CARD OF 'pargetrylaw2.LayFlat'. -/
def layFlatUptoCard : Claim7 := { stood := { row := layFlatUptoRow, standIns := [], harness := (true, "76e2c8bec05b6814a2d79bd4bc89444b3aa53f61ad2e56dc7e609abda594e26a"), looks := true }, kinds := [], alts := [], laidByText := true, laidKinds := [.data, .data, .data, .data, .pinned], laidTests := true, laidLooks := .later }
def LayFlatUptoCardSaid : Prop := Claim7.holds Tryz.pinned (.plain (OpenSpec.upto layFlatSpec)) layFlatUptoCard

/-- THE SECOND FORM's CARD OF 'pargetrylaw2.LookEqual'. -/
def lookEqualUptoCard : Claim7 := { stood := { row := lookEqualUptoRow, standIns := [], harness := (true, "76e2c8bec05b6814a2d79bd4bc89444b3aa53f61ad2e56dc7e609abda594e26a"), looks := true }, kinds := [], alts := [], laidByText := true, laidKinds := [.data, .data, .data, .data, .sentinel, .sentinel, .pinned], laidTests := true, laidLooks := .later }
def LookEqualUptoCardSaid : Prop := Claim7.holds Tryz.pinned (.plain (OpenSpec.upto lookEqualSpec)) lookEqualUptoCard

/-- THE SECOND FORM's CARD OF 'pargetrylaw2.FormFits'. -/
def formFitsUptoCard : Claim7 := { stood := { row := formFitsUptoRow, standIns := [], harness := (true, "76e2c8bec05b6814a2d79bd4bc89444b3aa53f61ad2e56dc7e609abda594e26a"), looks := true }, kinds := [], alts := [], laidByText := true, laidKinds := [.data, .data, .data, .data, .pinned], laidTests := true, laidLooks := .later }
def FormFitsUptoCardSaid : Prop := Claim7.holds Tryz.pinned (.plain (OpenSpec.upto formFitsSpec)) formFitsUptoCard

/-- THE SECOND FORM's CARD OF 'pargetrylaw2.SynIs'. -/
def synIsUptoCard : Claim7 := { stood := { row := synIsUptoRow, standIns := [], harness := (true, "76e2c8bec05b6814a2d79bd4bc89444b3aa53f61ad2e56dc7e609abda594e26a"), looks := true }, kinds := [], alts := [], laidByText := true, laidKinds := [.data, .data, .data, .data, .handle, .sentinel, .sentinel, .pinned], laidTests := true, laidLooks := .later }
def SynIsUptoCardSaid : Prop := Claim7.holds Tryz.pinned (.plain (OpenSpec.upto synIsSpec)) synIsUptoCard

/-- THE SECOND FORM's CARD OF 'pargetrylaw2.SynBack'. -/
def synBackUptoCard : Claim7 := { stood := { row := synBackUptoRow, standIns := [], harness := (true, "76e2c8bec05b6814a2d79bd4bc89444b3aa53f61ad2e56dc7e609abda594e26a"), looks := true }, kinds := [], alts := [], laidByText := true, laidKinds := [.data, .data, .data, .data, .handle, .sentinel, .sentinel, .pinned], laidTests := true, laidLooks := .later }
def SynBackUptoCardSaid : Prop := Claim7.holds Tryz.pinned (.plain (OpenSpec.upto synBackSpec)) synBackUptoCard

/-- THE SECOND FORM's CARD OF 'pargetrylaw2.FormBack'. -/
def formBackUptoCard : Claim7 := { stood := { row := formBackUptoRow, standIns := [], harness := (true, "76e2c8bec05b6814a2d79bd4bc89444b3aa53f61ad2e56dc7e609abda594e26a"), looks := true }, kinds := [], alts := [], laidByText := true, laidKinds := [.data, .data, .data, .data, .sentinel, .sentinel, .pinned], laidTests := true, laidLooks := .later }
def FormBackUptoCardSaid : Prop := Claim7.holds Tryz.pinned (.plain (OpenSpec.upto formBackSpec)) formBackUptoCard

/-- THE SECOND FORM's CARD OF 'pargetrylaw2.DeskSame'. -/
def deskSameUptoCard : Claim7 := { stood := { row := deskSameUptoRow, standIns := [], harness := (true, "76e2c8bec05b6814a2d79bd4bc89444b3aa53f61ad2e56dc7e609abda594e26a"), looks := true }, kinds := [], alts := [], laidByText := true, laidKinds := [.data, .data, .data, .data, .sentinel, .sentinel, .pinned], laidTests := true, laidLooks := .later }
def DeskSameUptoCardSaid : Prop := Claim7.holds Tryz.pinned (.plain (OpenSpec.upto deskSameSpec)) deskSameUptoCard

/-- THE SECOND FORM's CARD OF 'pargetrylaw2.DeskWide'. -/
def deskWideUptoCard : Claim7 := { stood := { row := deskWideUptoRow, standIns := [], harness := (true, "76e2c8bec05b6814a2d79bd4bc89444b3aa53f61ad2e56dc7e609abda594e26a"), looks := true }, kinds := [], alts := [], laidByText := true, laidKinds := [.data, .data, .data, .data, .sentinel, .sentinel, .pinned], laidTests := true, laidLooks := .later }
def DeskWideUptoCardSaid : Prop := Claim7.holds Tryz.pinned (.plain (OpenSpec.upto deskWideSpec)) deskWideUptoCard

/-- THE SECOND FORM's CARD OF 'pargetrylaw2.FormIs'. -/
def formIsUptoCard : Claim7 := { stood := { row := formIsUptoRow, standIns := [], harness := (true, "76e2c8bec05b6814a2d79bd4bc89444b3aa53f61ad2e56dc7e609abda594e26a"), looks := true }, kinds := [], alts := [], laidByText := true, laidKinds := [.data, .data, .data, .data, .handle, .sentinel, .sentinel, .pinned], laidTests := true, laidLooks := .later }
def FormIsUptoCardSaid : Prop := Claim7.holds Tryz.pinned (.plain (OpenSpec.upto formIsSpec)) formIsUptoCard

/-- THE SECOND FORM's CARD OF 'pargetrylaw2.LookIs'. -/
def lookIsUptoCard : Claim7 := { stood := { row := lookIsUptoRow, standIns := [], harness := (true, "76e2c8bec05b6814a2d79bd4bc89444b3aa53f61ad2e56dc7e609abda594e26a"), looks := true }, kinds := [], alts := [], laidByText := true, laidKinds := [.data, .data, .data, .data, .handle, .sentinel, .sentinel, .pinned], laidTests := true, laidLooks := .later }
def LookIsUptoCardSaid : Prop := Claim7.holds Tryz.pinned (.plain (OpenSpec.upto lookIsSpec)) lookIsUptoCard
end Rows
end Go.Proofs.YtddfdmopaeghnacGreatDoor
