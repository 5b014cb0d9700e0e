/-
  DERIVED. GIVEN WITH THE SEED: THE CARDS: each row of YtddfdmopaeghnabDoorRows.lean that lists a variable, with what it lists TIED to the program's text (the seventh form; the later family's looks); each row that meets fmt, with fmt's text TOLD by the authors' own Lean function (tested against real Go, not proved from fmt's source: count such statements apart). THE CARD IS WHAT COUNTS. Prove the row's statement (the work); the ties are given (YtddfdmopaeghnabDoorTie.lean); close each card by the builder's one call (the guide's Derived/Test/ToyasCard.lean, 'card_holds'). Laid BY PROGRAM, IN A SANDBOX (cutbox-door.mjs). By AI agents, Wed Nov 11 2026. No macro, syntax, notation, axiom, sorry.
-/
import Derived.Test.YtddfdmopaeghnabDoorRows
import GoSem.ClaimSeven
namespace Go.Proofs.YtddfdmopaeghnabDoor
namespace Rows

/-- THE TIED CARD OF 'pargetrylaw1.CostIs'. -/
def costIsCard : Claim7 := { stood := { row := costIsRow, standIns := [], harness := (true, "8b6621fd50a86ae2d20fef09de6578e5c6266eca45540b3cf13f143a6ec30110"), looks := true }, kinds := [], alts := [], laidByText := true, laidKinds := [.data, .handle, .pinned], laidTests := true, laidLooks := .later }
def CostIsCardSaid : Prop := Claim7.holds Tryd.pinned (.plain (OpenSpec.ofChange costIsSpec)) costIsCard

/-- THE TIED CARD OF 'pargetrylaw2.LexIs'. -/
def lexIsCard : Claim7 := { stood := { row := lexIsRow, standIns := [], harness := (true, "8b6621fd50a86ae2d20fef09de6578e5c6266eca45540b3cf13f143a6ec30110"), looks := true }, kinds := [], alts := [], laidByText := true, laidKinds := [.data, .handle, .pinned], laidTests := true, laidLooks := .later }
def LexIsCardSaid : Prop := Claim7.holds Tryd.pinned (.plain (OpenSpec.ofChange lexIsSpec)) lexIsCard

/-- THE TIED CARD OF 'pargetrylaw2.LexParts'. -/
def lexPartsCard : Claim7 := { stood := { row := lexPartsRow, standIns := [], harness := (true, "8b6621fd50a86ae2d20fef09de6578e5c6266eca45540b3cf13f143a6ec30110"), looks := true }, kinds := [], alts := [], laidByText := true, laidKinds := [.data, .handle, .pinned], laidTests := true, laidLooks := .later }
def LexPartsCardSaid : Prop := Claim7.holds Tryd.pinned (.plain (OpenSpec.ofChange lexPartsSpec)) lexPartsCard

/-- THE TIED CARD OF 'pargetrylaw1.FlatShows'. -/
def flatShowsCard : Claim7 := { stood := { row := flatShowsRow, standIns := [], harness := (true, "8b6621fd50a86ae2d20fef09de6578e5c6266eca45540b3cf13f143a6ec30110"), looks := true }, kinds := [], alts := [], laidByText := true, laidKinds := [.handle], laidTests := true, laidLooks := .later }
def FlatShowsCardSaid : Prop := Claim7.holds Tryd.pinned (.plain (OpenSpec.ofChange flatShowsSpec)) flatShowsCard

/-- THE TIED CARD OF 'pargetrylaw1.DocIs'. -/
def docIsCard : Claim7 := { stood := { row := docIsRow, standIns := [], harness := (true, "8b6621fd50a86ae2d20fef09de6578e5c6266eca45540b3cf13f143a6ec30110"), looks := true }, kinds := [], alts := [], laidByText := true, laidKinds := [.data, .data, .data, .handle], laidTests := true, laidLooks := .later }
def DocIsCardSaid : Prop := Claim7.holds Tryd.pinned (.plain (OpenSpec.ofChange docIsSpec)) docIsCard

/-- THE TIED CARD OF 'pargetrylaw1.WayIs'. -/
def wayIsCard : Claim7 := { stood := { row := wayIsRow, standIns := [], harness := (true, "8b6621fd50a86ae2d20fef09de6578e5c6266eca45540b3cf13f143a6ec30110"), looks := true }, kinds := [], alts := [], laidByText := true, laidKinds := [.handle], laidTests := true, laidLooks := .later }
def WayIsCardSaid : Prop := Claim7.holds Tryd.pinned (.plain (OpenSpec.ofChange wayIsSpec)) wayIsCard

/-- THE TIED CARD OF 'pargetrylaw2.TreeIs'. -/
def treeIsCard : Claim7 := { stood := { row := treeIsRow, standIns := [], harness := (true, "8b6621fd50a86ae2d20fef09de6578e5c6266eca45540b3cf13f143a6ec30110"), looks := true }, kinds := [], alts := [], laidByText := true, laidKinds := [.data, .handle, .pinned], laidTests := true, laidLooks := .later }
def TreeIsCardSaid : Prop := Claim7.holds Tryd.pinned (.plain (OpenSpec.ofChange treeIsSpec)) treeIsCard

/-- THE SECOND FORM's CARD OF 'pargetrylaw1.CostIs'. -/
def costIsUptoCard : Claim7 := { stood := { row := costIsUptoRow, standIns := [], harness := (true, "8b6621fd50a86ae2d20fef09de6578e5c6266eca45540b3cf13f143a6ec30110"), looks := true }, kinds := [], alts := [], laidByText := true, laidKinds := [.data, .handle, .pinned], laidTests := true, laidLooks := .later }
def CostIsUptoCardSaid : Prop := Claim7.holds Tryd.pinned (.plain (OpenSpec.upto costIsSpec)) costIsUptoCard

/-- THE SECOND FORM's CARD OF 'pargetrylaw2.LexIs'. -/
def lexIsUptoCard : Claim7 := { stood := { row := lexIsUptoRow, standIns := [], harness := (true, "8b6621fd50a86ae2d20fef09de6578e5c6266eca45540b3cf13f143a6ec30110"), looks := true }, kinds := [], alts := [], laidByText := true, laidKinds := [.data, .handle, .pinned], laidTests := true, laidLooks := .later }
def LexIsUptoCardSaid : Prop := Claim7.holds Tryd.pinned (.plain (OpenSpec.upto lexIsSpec)) lexIsUptoCard

/-- THE SECOND FORM's CARD OF 'pargetrylaw2.LexParts'. -/
def lexPartsUptoCard : Claim7 := { stood := { row := lexPartsUptoRow, standIns := [], harness := (true, "8b6621fd50a86ae2d20fef09de6578e5c6266eca45540b3cf13f143a6ec30110"), looks := true }, kinds := [], alts := [], laidByText := true, laidKinds := [.data, .handle, .pinned], laidTests := true, laidLooks := .later }
def LexPartsUptoCardSaid : Prop := Claim7.holds Tryd.pinned (.plain (OpenSpec.upto lexPartsSpec)) lexPartsUptoCard

/-- THE SECOND FORM's CARD OF 'pargetrylaw1.FlatShows'. -/
def flatShowsUptoCard : Claim7 := { stood := { row := flatShowsUptoRow, standIns := [], harness := (true, "8b6621fd50a86ae2d20fef09de6578e5c6266eca45540b3cf13f143a6ec30110"), looks := true }, kinds := [], alts := [], laidByText := true, laidKinds := [.handle], laidTests := true, laidLooks := .later }
def FlatShowsUptoCardSaid : Prop := Claim7.holds Tryd.pinned (.plain (OpenSpec.upto flatShowsSpec)) flatShowsUptoCard

/-- THE SECOND FORM's CARD OF 'pargetrylaw1.DocIs'. -/
def docIsUptoCard : Claim7 := { stood := { row := docIsUptoRow, standIns := [], harness := (true, "8b6621fd50a86ae2d20fef09de6578e5c6266eca45540b3cf13f143a6ec30110"), looks := true }, kinds := [], alts := [], laidByText := true, laidKinds := [.data, .data, .data, .handle], laidTests := true, laidLooks := .later }
def DocIsUptoCardSaid : Prop := Claim7.holds Tryd.pinned (.plain (OpenSpec.upto docIsSpec)) docIsUptoCard

/-- THE SECOND FORM's CARD OF 'pargetrylaw1.WayIs'. -/
def wayIsUptoCard : Claim7 := { stood := { row := wayIsUptoRow, standIns := [], harness := (true, "8b6621fd50a86ae2d20fef09de6578e5c6266eca45540b3cf13f143a6ec30110"), looks := true }, kinds := [], alts := [], laidByText := true, laidKinds := [.handle], laidTests := true, laidLooks := .later }
def WayIsUptoCardSaid : Prop := Claim7.holds Tryd.pinned (.plain (OpenSpec.upto wayIsSpec)) wayIsUptoCard

/-- THE SECOND FORM's CARD OF 'pargetrylaw2.TreeIs'. -/
def treeIsUptoCard : Claim7 := { stood := { row := treeIsUptoRow, standIns := [], harness := (true, "8b6621fd50a86ae2d20fef09de6578e5c6266eca45540b3cf13f143a6ec30110"), looks := true }, kinds := [], alts := [], laidByText := true, laidKinds := [.data, .handle, .pinned], laidTests := true, laidLooks := .later }
def TreeIsUptoCardSaid : Prop := Claim7.holds Tryd.pinned (.plain (OpenSpec.upto treeIsSpec)) treeIsUptoCard
end Rows
end Go.Proofs.YtddfdmopaeghnabDoor
