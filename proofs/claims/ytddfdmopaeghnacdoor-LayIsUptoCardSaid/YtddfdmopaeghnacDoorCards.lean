/-
  DERIVED. GIVEN WITH THE SEED: THE CARDS: each row of YtddfdmopaeghnacDoorRows.lean that lists a variable, with what it lists TIED to the program's text (the seventh form; the later family's looks); each row that meets fmt, with fmt's text TOLD by the authors' own Lean function (tested against real Go, not proved from fmt's source: count such statements apart). THE CARD IS WHAT COUNTS. Prove the row's statement (the work); the ties are given (YtddfdmopaeghnacDoorTie.lean); close each card by the builder's one call (the guide's Derived/Test/ToyasCard.lean, 'card_holds'). Laid BY PROGRAM, IN A SANDBOX (cutbox-door.mjs). By AI agents, Wed Nov 11 2026. No macro, syntax, notation, axiom, sorry.
-/
import Derived.Test.YtddfdmopaeghnacDoorRows
import GoSem.ClaimSeven
namespace Go.Proofs.YtddfdmopaeghnacDoor
namespace Rows

/-- THE TIED CARD OF 'pargetrylaw1.BestIs'. -/
def bestIsCard : Claim7 := { stood := { row := bestIsRow, standIns := [], harness := (true, "63e24484599c0e3c1e45ffd094fb03435edd425756e7fb9628bd76e2ec71d1eb"), looks := true }, kinds := [], alts := [], laidByText := true, laidKinds := [.handle], laidTests := true, laidLooks := .later }
def BestIsCardSaid : Prop := Claim7.holds Tryd.pinned (.plain (OpenSpec.ofChange bestIsSpec)) bestIsCard

/-- THE TIED CARD OF 'pargetrylaw2.LayIs'. -/
def layIsCard : Claim7 := { stood := { row := layIsRow, standIns := [], harness := (true, "63e24484599c0e3c1e45ffd094fb03435edd425756e7fb9628bd76e2ec71d1eb"), looks := true }, kinds := [], alts := [], laidByText := true, laidKinds := [.data, .data, .data, .data, .handle, .pinned], laidTests := true, laidLooks := .later }
def LayIsCardSaid : Prop := Claim7.holds Tryd.pinned (.plain (OpenSpec.ofChange layIsSpec)) layIsCard

/-- THE SECOND FORM's CARD OF 'pargetrylaw1.BestIs'. -/
def bestIsUptoCard : Claim7 := { stood := { row := bestIsUptoRow, standIns := [], harness := (true, "63e24484599c0e3c1e45ffd094fb03435edd425756e7fb9628bd76e2ec71d1eb"), looks := true }, kinds := [], alts := [], laidByText := true, laidKinds := [.handle], laidTests := true, laidLooks := .later }
def BestIsUptoCardSaid : Prop := Claim7.holds Tryd.pinned (.plain (OpenSpec.upto bestIsSpec)) bestIsUptoCard

/-- THE SECOND FORM's CARD OF 'pargetrylaw2.LayIs'. -/
def layIsUptoCard : Claim7 := { stood := { row := layIsUptoRow, standIns := [], harness := (true, "63e24484599c0e3c1e45ffd094fb03435edd425756e7fb9628bd76e2ec71d1eb"), looks := true }, kinds := [], alts := [], laidByText := true, laidKinds := [.data, .data, .data, .data, .handle, .pinned], laidTests := true, laidLooks := .later }
def LayIsUptoCardSaid : Prop := Claim7.holds Tryd.pinned (.plain (OpenSpec.upto layIsSpec)) layIsUptoCard
end Rows
end Go.Proofs.YtddfdmopaeghnacDoor
