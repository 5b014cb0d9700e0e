/- A world that holds the listed tables unicode/utf8.first, acceptRanges. No condition. -/
import Derived.Test.YtddfdmopaeghnaaDoorRows
import Derived.Lib.LaidTab
import Derived.LaidHandle
import Derived.LaidLaws
import Derived.RowKit
namespace Go.Proofs.YtddfdmopaeghnaaDoor
open Go.RowKit

/-- A world that holds the listed tables. -/
noncomputable def tabWorld (os : Os) : World :=
  let w0 := World.holding Tryd.prog os ⟨#[], #[], []⟩
  { w0 with heap := (w0.heap.modify 1 fun
      | .cells _ t frozen => .cells (Go.Pinned.utf8FirstZ.map fun n : Nat => Value.int .u8 n).toArray t frozen
      | o => o).modify 2 fun
      | .cells _ t frozen => .cells (([128, 191, 160, 191, 128, 159, 144, 191, 128, 143] ++ List.replicate 22 0).map fun n : Nat => Value.int .u8 n).toArray t frozen
      | o => o }
end Go.Proofs.YtddfdmopaeghnaaDoor
