/-
  No cell of these rows narrows 'for every input' (looked for: loops, veiled, ifaces, maps, wideKeys, modest, calm, conditions, laid).
  DERIVED. THE GIVEN ROWS OF THIS SEAT. 3 by the template 'for every input the law returns true; each argument reads behind the call as it read before'; 0 by the template 'total and deterministic' (their statements: YtddfdmopaeghnabTotals.lean).
  GIVEN WITH THE SEED: the statements are not yours to turn. If you find one false, say at which input.
  Laid BY PROGRAM, IN A SANDBOX (cutbox-rows.mjs): the forced cells as the released guide's own fill.sh prints them over the translation f9948f70e4159587… (all of the seat's roots in one cut). By AI agents, Wed Nov 11 2026. No macro, syntax, notation, axiom, sorry.
-/
import Derived.Test.YtddfdmopaeghnabChecked
import GoSem.Claim
import GoSem.ClaimJoined
import GoSem.ClaimMapViews
import Derived.JoinedTies
import Derived.KernelRfl
namespace Go.Proofs.Ytddfdmopaeghnab
/- THE CELL 'sum', in the pinned program and in every row, IS THE sha256 OF THE DUMP (.gsa) THAT YtddfdmopaeghnabProg.lean LOADS. Nothing in Lean hashes anything: it is a label: what it is worth is what the hold of that sum in a sandbox is worth. -/
noncomputable def Try.pinned : Pinned := { name := "ytddfdmopaeghnab", sum := "f9948f70e41595877644e21a88df9e80c900828c208f629d8c3a8cb04579a3d7", checked := Try.checked }
namespace Rows
def none {H : Type} : Left H := { results := [], args := [] }

/-- 'pargetrylaw1.BestWider': WHATEVER THE INPUT: true; the input reads as it did. -/
def bestWiderSpec : ChangeSpec := { name := "bestWider", fn := fun _ => fun
  | [d1, d2, d3] => { results := [.lit (.bool true)], args := [d1, d2, d3] }
  | _ => none }
def bestWiderRow : OpenClaim := { program := "ytddfdmopaeghnab", sum := "f9948f70e41595877644e21a88df9e80c900828c208f629d8c3a8cb04579a3d7", func := "pargetry/pargetrylaw1.BestWider", spec := "bestWider", inPlace := ["internal/abi.NoEscape", "internal/bytealg.MakeNoZero"], recurses := true, plainKeys := false, apart := false }
def BestWiderSaid : Prop := bestWiderRow.holds Try.pinned (OpenSpec.ofChange bestWiderSpec)

/-- ITS FALSE NEIGHBOUR: 'it returns false'. Refute it at one input. -/
def bestWiderWrong : ChangeSpec := { name := "bestWider", fn := fun _ => fun
  | [d1, d2, d3] => { results := [.lit (.bool false)], args := [d1, d2, d3] }
  | _ => none }
def BestWiderWrongFalsely : Prop := bestWiderRow.holds Try.pinned (OpenSpec.ofChange bestWiderWrong)

/-- 'pargetrylaw1.BestParts': WHATEVER THE INPUT: true; the input reads as it did. -/
def bestPartsSpec : ChangeSpec := { name := "bestParts", fn := fun _ => fun
  | [d1, d2, d3] => { results := [.lit (.bool true)], args := [d1, d2, d3] }
  | _ => none }
def bestPartsRow : OpenClaim := { program := "ytddfdmopaeghnab", sum := "f9948f70e41595877644e21a88df9e80c900828c208f629d8c3a8cb04579a3d7", func := "pargetry/pargetrylaw1.BestParts", spec := "bestParts", inPlace := ["internal/abi.NoEscape", "internal/bytealg.MakeNoZero"], recurses := true, plainKeys := false, apart := false }
def BestPartsSaid : Prop := bestPartsRow.holds Try.pinned (OpenSpec.ofChange bestPartsSpec)

/-- ITS FALSE NEIGHBOUR: 'it returns false'. Refute it at one input. -/
def bestPartsWrong : ChangeSpec := { name := "bestParts", fn := fun _ => fun
  | [d1, d2, d3] => { results := [.lit (.bool false)], args := [d1, d2, d3] }
  | _ => none }
def BestPartsWrongFalsely : Prop := bestPartsRow.holds Try.pinned (OpenSpec.ofChange bestPartsWrong)

/-- 'pargetrylaw1.BestLeast': WHATEVER THE INPUT: true; the input reads as it did. -/
def bestLeastSpec : ChangeSpec := { name := "bestLeast", fn := fun _ => fun
  | [d1, d2, d3] => { results := [.lit (.bool true)], args := [d1, d2, d3] }
  | _ => none }
def bestLeastRow : OpenClaim := { program := "ytddfdmopaeghnab", sum := "f9948f70e41595877644e21a88df9e80c900828c208f629d8c3a8cb04579a3d7", func := "pargetry/pargetrylaw1.BestLeast", spec := "bestLeast", inPlace := ["internal/abi.NoEscape", "internal/bytealg.MakeNoZero"], recurses := true, plainKeys := false, apart := false }
def BestLeastSaid : Prop := bestLeastRow.holds Try.pinned (OpenSpec.ofChange bestLeastSpec)

/-- ITS FALSE NEIGHBOUR: 'it returns false'. Refute it at one input. -/
def bestLeastWrong : ChangeSpec := { name := "bestLeast", fn := fun _ => fun
  | [d1, d2, d3] => { results := [.lit (.bool false)], args := [d1, d2, d3] }
  | _ => none }
def BestLeastWrongFalsely : Prop := bestLeastRow.holds Try.pinned (OpenSpec.ofChange bestLeastWrong)

/- THE SECOND FORM. 'bulk': how many values and letters a reading holds, each counted each time it is reached (what is shared counts as often as it is met; a slice's spare places count too). A statement '..UptoSaid' is the law's where the arguments, and the package variables that the reading takes, are together of bulk at most 1048576: NARROWER than '..Said'. Prove '..Said' where nothing that the law and all that it calls make is longer than what came in: it says more and counts as full. Else prove '..UptoSaid'. A law counts once. -/
mutual
def uptoBulk {H : Type} : DataW H → Nat
  | .lit (.string bytes) => bytes.length + 1
  | .lit _ => 1
  | .nil => 1
  | .ptr d => uptoBulk d + 1
  | .slice elems spare => uptoBulkAll elems + uptoBulkAll spare + 1
  | .agg parts => uptoBulkAll parts + 1
  | .iface _ d => uptoBulk d + 1
  | .map entries => uptoBulkEntries entries + 1
  | .held _ => 1
def uptoBulkAll {H : Type} : List (DataW H) → Nat
  | [] => 0
  | d :: r => uptoBulk d + uptoBulkAll r
def uptoBulkEntries {H : Type} : List (Lit × DataW H) → Nat
  | [] => 0
  | x :: r => uptoBulkEntry x + uptoBulkEntries r
def uptoBulkEntry {H : Type} : Lit × DataW H → Nat
  | (.string bytes, d) => bytes.length + uptoBulk d + 1
  | (_, d) => uptoBulk d + 1
 end
def uptoSmall : (H : Type) → List (DataW H) → Bool := fun _ ds => decide (uptoBulkAll ds ≤ 1048576)
def OpenSpec.upto (s : _root_.Go.ChangeSpec) : _root_.Go.OpenSpec := { _root_.Go.OpenSpec.ofChange s with cond := some uptoSmall }

/-- 'pargetrylaw1.BestWider', WHERE WHAT IT READS IS OF BULK AT MOST 1048576: true; the input reads as it did. -/
def bestWiderUptoRow : OpenClaim := { program := "ytddfdmopaeghnab", sum := "f9948f70e41595877644e21a88df9e80c900828c208f629d8c3a8cb04579a3d7", func := "pargetry/pargetrylaw1.BestWider", spec := "bestWider", inPlace := ["internal/abi.NoEscape", "internal/bytealg.MakeNoZero"], recurses := true, plainKeys := false, apart := false, narrowed := true }
def BestWiderUptoSaid : Prop := bestWiderUptoRow.holds Try.pinned (OpenSpec.upto bestWiderSpec)

/-- 'pargetrylaw1.BestParts', WHERE WHAT IT READS IS OF BULK AT MOST 1048576: true; the input reads as it did. -/
def bestPartsUptoRow : OpenClaim := { program := "ytddfdmopaeghnab", sum := "f9948f70e41595877644e21a88df9e80c900828c208f629d8c3a8cb04579a3d7", func := "pargetry/pargetrylaw1.BestParts", spec := "bestParts", inPlace := ["internal/abi.NoEscape", "internal/bytealg.MakeNoZero"], recurses := true, plainKeys := false, apart := false, narrowed := true }
def BestPartsUptoSaid : Prop := bestPartsUptoRow.holds Try.pinned (OpenSpec.upto bestPartsSpec)

/-- 'pargetrylaw1.BestLeast', WHERE WHAT IT READS IS OF BULK AT MOST 1048576: true; the input reads as it did. -/
def bestLeastUptoRow : OpenClaim := { program := "ytddfdmopaeghnab", sum := "f9948f70e41595877644e21a88df9e80c900828c208f629d8c3a8cb04579a3d7", func := "pargetry/pargetrylaw1.BestLeast", spec := "bestLeast", inPlace := ["internal/abi.NoEscape", "internal/bytealg.MakeNoZero"], recurses := true, plainKeys := false, apart := false, narrowed := true }
def BestLeastUptoSaid : Prop := bestLeastUptoRow.holds Try.pinned (OpenSpec.upto bestLeastSpec)

end Rows
end Go.Proofs.Ytddfdmopaeghnab
