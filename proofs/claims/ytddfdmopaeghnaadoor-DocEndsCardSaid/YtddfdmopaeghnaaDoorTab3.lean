/- A world that holds the listed tables math/bits.deBruijn32tab, deBruijn64tab, internal/strconv.uint64pow10. No condition. -/
import Derived.Test.YtddfdmopaeghnaaDoorRows
import Derived.Lib.LaidTab
import Derived.LaidHandle
import Derived.LaidLaws
import Derived.RowKit
import Derived.Lib.TrailingZeros
import Derived.Lib.ItoaNum
namespace Go.Proofs.YtddfdmopaeghnaaDoor
open Go.RowKit

/-- A world that holds the listed tables. -/
noncomputable def tabWorld3 (os : Os) : World :=
  let w0 := World.holding Tryd.prog os ⟨#[], #[], []⟩
  { w0 with heap := ((w0.heap.modify 5 fun
      | .cells _ t frozen => .cells (Lib.deBruijn32tab.map fun n : Nat => Value.int .u8 n).toArray t frozen
      | o => o).modify 6 fun
      | .cells _ t frozen => .cells (Lib.deBruijn64tab.map fun n : Nat => Value.int .u8 n).toArray t frozen
      | o => o).modify 4 fun
      | .cells _ t frozen => .cells (Lib.pow10Tab.map fun n : Int => Value.int .u64 n).toArray t frozen
      | o => o }
end Go.Proofs.YtddfdmopaeghnaaDoor
