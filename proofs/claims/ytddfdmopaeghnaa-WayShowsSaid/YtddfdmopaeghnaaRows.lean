/-
  No cell of these rows narrows 'for every input' (looked for: loops, veiled, ifaces, maps, wideKeys, modest, calm, conditions, laid).
  DERIVED. THE GIVEN ROWS OF THIS SEAT. 5 by the template 'for every input the law returns true; each argument reads behind the call as it read before'; 0 by the template 'total and deterministic' (their statements: YtddfdmopaeghnaaTotals.lean).
  GIVEN WITH THE SEED: the statements are not yours to turn. If you find one false, say at which input.
  Laid BY PROGRAM, IN A SANDBOX (cutbox-rows.mjs): the forced cells as the released guide's own fill.sh prints them over the translation 201c13e0fb182c7c… (all of the seat's roots in one cut). By AI agents, Wed Nov 11 2026. No macro, syntax, notation, axiom, sorry.
-/
import Derived.Test.YtddfdmopaeghnaaChecked
import GoSem.Claim
import GoSem.ClaimJoined
import GoSem.ClaimMapViews
import Derived.JoinedTies
import Derived.KernelRfl
namespace Go.Proofs.Ytddfdmopaeghnaa
/- THE CELL 'sum', in the pinned program and in every row, IS THE sha256 OF THE DUMP (.gsa) THAT YtddfdmopaeghnaaProg.lean LOADS. Nothing in Lean hashes anything: it is a label: what it is worth is what the hold of that sum in a sandbox is worth. -/
noncomputable def Try.pinned : Pinned := { name := "ytddfdmopaeghnaa", sum := "201c13e0fb182c7ca39d4b89b40e601651aed34d8bbb260b5ca779bd16da7d18", checked := Try.checked }
namespace Rows
def none {H : Type} : Left H := { results := [], args := [] }

/-- 'pargetrylaw1.Names': WHATEVER THE INPUT: true; the input reads as it did. -/
def namesSpec : ChangeSpec := { name := "names", fn := fun _ => fun
  | [] => { results := [.lit (.bool true)], args := [] }
  | _ => none }
def namesRow : OpenClaim := { program := "ytddfdmopaeghnaa", sum := "201c13e0fb182c7ca39d4b89b40e601651aed34d8bbb260b5ca779bd16da7d18", func := "pargetry/pargetrylaw1.Names", spec := "names", apart := false }
def NamesSaid : Prop := namesRow.holds Try.pinned (OpenSpec.ofChange namesSpec)

/-- ITS FALSE NEIGHBOUR: 'it returns false'. Refute it at one input. -/
def namesWrong : ChangeSpec := { name := "names", fn := fun _ => fun
  | [] => { results := [.lit (.bool false)], args := [] }
  | _ => none }
def NamesWrongFalsely : Prop := namesRow.holds Try.pinned (OpenSpec.ofChange namesWrong)

/-- 'pargetrylaw1.FlatParts': WHATEVER THE INPUT: true; the input reads as it did. -/
def flatPartsSpec : ChangeSpec := { name := "flatParts", fn := fun _ => fun
  | [d1, d2, d3] => { results := [.lit (.bool true)], args := [d1, d2, d3] }
  | _ => none }
def flatPartsRow : OpenClaim := { program := "ytddfdmopaeghnaa", sum := "201c13e0fb182c7ca39d4b89b40e601651aed34d8bbb260b5ca779bd16da7d18", func := "pargetry/pargetrylaw1.FlatParts", spec := "flatParts", apart := false }
def FlatPartsSaid : Prop := flatPartsRow.holds Try.pinned (OpenSpec.ofChange flatPartsSpec)

/-- ITS FALSE NEIGHBOUR: 'it returns false'. Refute it at one input. -/
def flatPartsWrong : ChangeSpec := { name := "flatParts", fn := fun _ => fun
  | [d1, d2, d3] => { results := [.lit (.bool false)], args := [d1, d2, d3] }
  | _ => none }
def FlatPartsWrongFalsely : Prop := flatPartsRow.holds Try.pinned (OpenSpec.ofChange flatPartsWrong)

/-- 'pargetrylaw1.FillLeast': WHATEVER THE INPUT: true; the input reads as it did. -/
def fillLeastSpec : ChangeSpec := { name := "fillLeast", fn := fun _ => fun
  | [d1, d2, d3] => { results := [.lit (.bool true)], args := [d1, d2, d3] }
  | _ => none }
def fillLeastRow : OpenClaim := { program := "ytddfdmopaeghnaa", sum := "201c13e0fb182c7ca39d4b89b40e601651aed34d8bbb260b5ca779bd16da7d18", func := "pargetry/pargetrylaw1.FillLeast", spec := "fillLeast", inPlace := ["internal/abi.NoEscape", "internal/bytealg.MakeNoZero"], apart := false }
def FillLeastSaid : Prop := fillLeastRow.holds Try.pinned (OpenSpec.ofChange fillLeastSpec)

/-- ITS FALSE NEIGHBOUR: 'it returns false'. Refute it at one input. -/
def fillLeastWrong : ChangeSpec := { name := "fillLeast", fn := fun _ => fun
  | [d1, d2, d3] => { results := [.lit (.bool false)], args := [d1, d2, d3] }
  | _ => none }
def FillLeastWrongFalsely : Prop := fillLeastRow.holds Try.pinned (OpenSpec.ofChange fillLeastWrong)

/-- 'pargetrylaw1.WayParts': WHATEVER THE INPUT: true; the input reads as it did. -/
def wayPartsSpec : ChangeSpec := { name := "wayParts", fn := fun _ => fun
  | [d1, d2, d3, d4, d5] => { results := [.lit (.bool true)], args := [d1, d2, d3, d4, d5] }
  | _ => none }
def wayPartsRow : OpenClaim := { program := "ytddfdmopaeghnaa", sum := "201c13e0fb182c7ca39d4b89b40e601651aed34d8bbb260b5ca779bd16da7d18", func := "pargetry/pargetrylaw1.WayParts", spec := "wayParts", inPlace := ["internal/abi.NoEscape", "internal/bytealg.MakeNoZero"], apart := false }
def WayPartsSaid : Prop := wayPartsRow.holds Try.pinned (OpenSpec.ofChange wayPartsSpec)

/-- ITS FALSE NEIGHBOUR: 'it returns false'. Refute it at one input. -/
def wayPartsWrong : ChangeSpec := { name := "wayParts", fn := fun _ => fun
  | [d1, d2, d3, d4, d5] => { results := [.lit (.bool false)], args := [d1, d2, d3, d4, d5] }
  | _ => none }
def WayPartsWrongFalsely : Prop := wayPartsRow.holds Try.pinned (OpenSpec.ofChange wayPartsWrong)

/-- 'pargetrylaw1.WayShows': WHATEVER THE INPUT: true; the input reads as it did. -/
def wayShowsSpec : ChangeSpec := { name := "wayShows", fn := fun _ => fun
  | [d1, d2] => { results := [.lit (.bool true)], args := [d1, d2] }
  | _ => none }
def wayShowsRow : OpenClaim := { program := "ytddfdmopaeghnaa", sum := "201c13e0fb182c7ca39d4b89b40e601651aed34d8bbb260b5ca779bd16da7d18", func := "pargetry/pargetrylaw1.WayShows", spec := "wayShows", inPlace := ["internal/abi.NoEscape", "internal/bytealg.MakeNoZero"], recurses := true, apart := false }
def WayShowsSaid : Prop := wayShowsRow.holds Try.pinned (OpenSpec.ofChange wayShowsSpec)

/-- ITS FALSE NEIGHBOUR: 'it returns false'. Refute it at one input. -/
def wayShowsWrong : ChangeSpec := { name := "wayShows", fn := fun _ => fun
  | [d1, d2] => { results := [.lit (.bool false)], args := [d1, d2] }
  | _ => none }
def WayShowsWrongFalsely : Prop := wayShowsRow.holds Try.pinned (OpenSpec.ofChange wayShowsWrong)

/- THE SECOND FORM. 'bulk': how many values and letters a reading holds, each counted each time it is reached (what is shared counts as often as it is met; a slice's spare places count too). A statement '..UptoSaid' is the law's where the arguments, and the package variables that the reading takes, are together of bulk at most 1048576: NARROWER than '..Said'. Prove '..Said' where nothing that the law and all that it calls make is longer than what came in: it says more and counts as full. Else prove '..UptoSaid'. A law counts once. -/
mutual
def uptoBulk {H : Type} : DataW H → Nat
  | .lit (.string bytes) => bytes.length + 1
  | .lit _ => 1
  | .nil => 1
  | .ptr d => uptoBulk d + 1
  | .slice elems spare => uptoBulkAll elems + uptoBulkAll spare + 1
  | .agg parts => uptoBulkAll parts + 1
  | .iface _ d => uptoBulk d + 1
  | .map entries => uptoBulkEntries entries + 1
  | .held _ => 1
def uptoBulkAll {H : Type} : List (DataW H) → Nat
  | [] => 0
  | d :: r => uptoBulk d + uptoBulkAll r
def uptoBulkEntries {H : Type} : List (Lit × DataW H) → Nat
  | [] => 0
  | x :: r => uptoBulkEntry x + uptoBulkEntries r
def uptoBulkEntry {H : Type} : Lit × DataW H → Nat
  | (.string bytes, d) => bytes.length + uptoBulk d + 1
  | (_, d) => uptoBulk d + 1
 end
def uptoSmall : (H : Type) → List (DataW H) → Bool := fun _ ds => decide (uptoBulkAll ds ≤ 1048576)
def OpenSpec.upto (s : _root_.Go.ChangeSpec) : _root_.Go.OpenSpec := { _root_.Go.OpenSpec.ofChange s with cond := some uptoSmall }

/-- 'pargetrylaw1.Names', WHERE WHAT IT READS IS OF BULK AT MOST 1048576: true; the input reads as it did. -/
def namesUptoRow : OpenClaim := { program := "ytddfdmopaeghnaa", sum := "201c13e0fb182c7ca39d4b89b40e601651aed34d8bbb260b5ca779bd16da7d18", func := "pargetry/pargetrylaw1.Names", spec := "names", apart := false, narrowed := true }
def NamesUptoSaid : Prop := namesUptoRow.holds Try.pinned (OpenSpec.upto namesSpec)

/-- 'pargetrylaw1.FlatParts', WHERE WHAT IT READS IS OF BULK AT MOST 1048576: true; the input reads as it did. -/
def flatPartsUptoRow : OpenClaim := { program := "ytddfdmopaeghnaa", sum := "201c13e0fb182c7ca39d4b89b40e601651aed34d8bbb260b5ca779bd16da7d18", func := "pargetry/pargetrylaw1.FlatParts", spec := "flatParts", apart := false, narrowed := true }
def FlatPartsUptoSaid : Prop := flatPartsUptoRow.holds Try.pinned (OpenSpec.upto flatPartsSpec)

/-- 'pargetrylaw1.FillLeast', WHERE WHAT IT READS IS OF BULK AT MOST 1048576: true; the input reads as it did. -/
def fillLeastUptoRow : OpenClaim := { program := "ytddfdmopaeghnaa", sum := "201c13e0fb182c7ca39d4b89b40e601651aed34d8bbb260b5ca779bd16da7d18", func := "pargetry/pargetrylaw1.FillLeast", spec := "fillLeast", inPlace := ["internal/abi.NoEscape", "internal/bytealg.MakeNoZero"], apart := false, narrowed := true }
def FillLeastUptoSaid : Prop := fillLeastUptoRow.holds Try.pinned (OpenSpec.upto fillLeastSpec)

/-- 'pargetrylaw1.WayParts', WHERE WHAT IT READS IS OF BULK AT MOST 1048576: true; the input reads as it did. -/
def wayPartsUptoRow : OpenClaim := { program := "ytddfdmopaeghnaa", sum := "201c13e0fb182c7ca39d4b89b40e601651aed34d8bbb260b5ca779bd16da7d18", func := "pargetry/pargetrylaw1.WayParts", spec := "wayParts", inPlace := ["internal/abi.NoEscape", "internal/bytealg.MakeNoZero"], apart := false, narrowed := true }
def WayPartsUptoSaid : Prop := wayPartsUptoRow.holds Try.pinned (OpenSpec.upto wayPartsSpec)

/-- 'pargetrylaw1.WayShows', WHERE WHAT IT READS IS OF BULK AT MOST 1048576: true; the input reads as it did. -/
def wayShowsUptoRow : OpenClaim := { program := "ytddfdmopaeghnaa", sum := "201c13e0fb182c7ca39d4b89b40e601651aed34d8bbb260b5ca779bd16da7d18", func := "pargetry/pargetrylaw1.WayShows", spec := "wayShows", inPlace := ["internal/abi.NoEscape", "internal/bytealg.MakeNoZero"], recurses := true, apart := false, narrowed := true }
def WayShowsUptoSaid : Prop := wayShowsUptoRow.holds Try.pinned (OpenSpec.upto wayShowsSpec)

end Rows
end Go.Proofs.Ytddfdmopaeghnaa
