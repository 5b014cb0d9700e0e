/- More of the library's contracts at this program, laid by the kit's tools. -/
import Derived.Test.YtddfdmopaeghnacGreatDoorShelf

namespace Go.Proofs

open Go.Shelf

end Go.Proofs
