/-
  DERIVED. GIVEN WITH THE SEED: THE CARDS: each row of YtddfdmopaeghnaaDoorRows.lean that lists a variable, with what it lists TIED to the program's text (the seventh form; the later family's looks); each row that meets fmt, with fmt's text TOLD by the authors' own Lean function (tested against real Go, not proved from fmt's source: count such statements apart). THE CARD IS WHAT COUNTS. Prove the row's statement (the work); the ties are given (YtddfdmopaeghnaaDoorTie.lean); close each card by the builder's one call (the guide's Derived/Test/ToyasCard.lean, 'card_holds'). Laid BY PROGRAM, IN A SANDBOX (cutbox-door.mjs). By AI agents, Wed Nov 11 2026. No macro, syntax, notation, axiom, sorry.
-/
import Derived.Test.YtddfdmopaeghnaaDoorRows
import GoSem.ClaimSeven
namespace Go.Proofs.YtddfdmopaeghnaaDoor
namespace Rows

/-- THE TIED CARD OF 'pargetrylaw1.CostOrder'. -/
def costOrderCard : Claim7 := { stood := { row := costOrderRow, standIns := [], harness := (true, "33d9f6a9f85c0d2709e53d95729c2a8d034c9fff4e674aea9c1123ace2ced66c"), looks := true }, kinds := [], alts := [], laidByText := true, laidKinds := [.data, .pinned], laidTests := true, laidLooks := .later }
def CostOrderCardSaid : Prop := Claim7.holds Tryd.pinned (.plain (OpenSpec.ofChange costOrderSpec)) costOrderCard

/-- THE TIED CARD OF 'pargetrylaw1.FlatIs'. -/
def flatIsCard : Claim7 := { stood := { row := flatIsRow, standIns := [], harness := (true, "33d9f6a9f85c0d2709e53d95729c2a8d034c9fff4e674aea9c1123ace2ced66c"), looks := true }, kinds := [], alts := [], laidByText := true, laidKinds := [.handle], laidTests := true, laidLooks := .later }
def FlatIsCardSaid : Prop := Claim7.holds Tryd.pinned (.plain (OpenSpec.ofChange flatIsSpec)) flatIsCard

/-- THE TIED CARD OF 'pargetrylaw2.LexSpaces'. -/
def lexSpacesCard : Claim7 := { stood := { row := lexSpacesRow, standIns := [], harness := (true, "33d9f6a9f85c0d2709e53d95729c2a8d034c9fff4e674aea9c1123ace2ced66c"), looks := true }, kinds := [], alts := [], laidByText := true, laidKinds := [.data, .pinned], laidTests := true, laidLooks := .later }
def LexSpacesCardSaid : Prop := Claim7.holds Tryd.pinned (.plain (OpenSpec.ofChange lexSpacesSpec)) lexSpacesCard

/-- THE TIED CARD OF 'pargetrylaw1.FillIs'. -/
def fillIsCard : Claim7 := { stood := { row := fillIsRow, standIns := [], harness := (true, "33d9f6a9f85c0d2709e53d95729c2a8d034c9fff4e674aea9c1123ace2ced66c"), looks := true }, kinds := [], alts := [], laidByText := true, laidKinds := [.handle], laidTests := true, laidLooks := .later }
def FillIsCardSaid : Prop := Claim7.holds Tryd.pinned (.plain (OpenSpec.ofChange fillIsSpec)) fillIsCard

/-- THE TIED CARD OF 'pargetrylaw1.DocEnds'. -/
def docEndsCard : Claim7 := { stood := { row := docEndsRow, standIns := [], harness := (true, "33d9f6a9f85c0d2709e53d95729c2a8d034c9fff4e674aea9c1123ace2ced66c"), looks := true }, kinds := [], alts := [], laidByText := true, laidKinds := [.data, .data, .data], laidTests := true, laidLooks := .later }
def DocEndsCardSaid : Prop := Claim7.holds Tryd.pinned (.plain (OpenSpec.ofChange docEndsSpec)) docEndsCard

/-- THE TIED CARD OF 'pargetrylaw2.TreeKids'. -/
def treeKidsCard : Claim7 := { stood := { row := treeKidsRow, standIns := [], harness := (true, "33d9f6a9f85c0d2709e53d95729c2a8d034c9fff4e674aea9c1123ace2ced66c"), looks := true }, kinds := [], alts := [], laidByText := true, laidKinds := [.data, .pinned], laidTests := true, laidLooks := .later }
def TreeKidsCardSaid : Prop := Claim7.holds Tryd.pinned (.plain (OpenSpec.ofChange treeKidsSpec)) treeKidsCard

/-- THE SECOND FORM's CARD OF 'pargetrylaw1.CostOrder'. -/
def costOrderUptoCard : Claim7 := { stood := { row := costOrderUptoRow, standIns := [], harness := (true, "33d9f6a9f85c0d2709e53d95729c2a8d034c9fff4e674aea9c1123ace2ced66c"), looks := true }, kinds := [], alts := [], laidByText := true, laidKinds := [.data, .pinned], laidTests := true, laidLooks := .later }
def CostOrderUptoCardSaid : Prop := Claim7.holds Tryd.pinned (.plain (OpenSpec.upto costOrderSpec)) costOrderUptoCard

/-- THE SECOND FORM's CARD OF 'pargetrylaw1.FlatIs'. -/
def flatIsUptoCard : Claim7 := { stood := { row := flatIsUptoRow, standIns := [], harness := (true, "33d9f6a9f85c0d2709e53d95729c2a8d034c9fff4e674aea9c1123ace2ced66c"), looks := true }, kinds := [], alts := [], laidByText := true, laidKinds := [.handle], laidTests := true, laidLooks := .later }
def FlatIsUptoCardSaid : Prop := Claim7.holds Tryd.pinned (.plain (OpenSpec.upto flatIsSpec)) flatIsUptoCard

/-- THE SECOND FORM's CARD OF 'pargetrylaw2.LexSpaces'. -/
def lexSpacesUptoCard : Claim7 := { stood := { row := lexSpacesUptoRow, standIns := [], harness := (true, "33d9f6a9f85c0d2709e53d95729c2a8d034c9fff4e674aea9c1123ace2ced66c"), looks := true }, kinds := [], alts := [], laidByText := true, laidKinds := [.data, .pinned], laidTests := true, laidLooks := .later }
def LexSpacesUptoCardSaid : Prop := Claim7.holds Tryd.pinned (.plain (OpenSpec.upto lexSpacesSpec)) lexSpacesUptoCard

/-- THE SECOND FORM's CARD OF 'pargetrylaw1.FillIs'. -/
def fillIsUptoCard : Claim7 := { stood := { row := fillIsUptoRow, standIns := [], harness := (true, "33d9f6a9f85c0d2709e53d95729c2a8d034c9fff4e674aea9c1123ace2ced66c"), looks := true }, kinds := [], alts := [], laidByText := true, laidKinds := [.handle], laidTests := true, laidLooks := .later }
def FillIsUptoCardSaid : Prop := Claim7.holds Tryd.pinned (.plain (OpenSpec.upto fillIsSpec)) fillIsUptoCard

/-- THE SECOND FORM's CARD OF 'pargetrylaw1.DocEnds'. -/
def docEndsUptoCard : Claim7 := { stood := { row := docEndsUptoRow, standIns := [], harness := (true, "33d9f6a9f85c0d2709e53d95729c2a8d034c9fff4e674aea9c1123ace2ced66c"), looks := true }, kinds := [], alts := [], laidByText := true, laidKinds := [.data, .data, .data], laidTests := true, laidLooks := .later }
def DocEndsUptoCardSaid : Prop := Claim7.holds Tryd.pinned (.plain (OpenSpec.upto docEndsSpec)) docEndsUptoCard

/-- THE SECOND FORM's CARD OF 'pargetrylaw2.TreeKids'. -/
def treeKidsUptoCard : Claim7 := { stood := { row := treeKidsUptoRow, standIns := [], harness := (true, "33d9f6a9f85c0d2709e53d95729c2a8d034c9fff4e674aea9c1123ace2ced66c"), looks := true }, kinds := [], alts := [], laidByText := true, laidKinds := [.data, .pinned], laidTests := true, laidLooks := .later }
def TreeKidsUptoCardSaid : Prop := Claim7.holds Tryd.pinned (.plain (OpenSpec.upto treeKidsSpec)) treeKidsUptoCard
end Rows
end Go.Proofs.YtddfdmopaeghnaaDoor
