/- way.Of's contract as its callers name it. No condition. -/
import Derived.Test.YtddfdmopaeghnaaGreatDoorOfQ
namespace Go.Proofs.YtddfdmopaeghnaaGreatDoor
open Go.RowKit

/-- way.Of, as its callers know it. -/
def OfSaid : Prop := ∀ (l : List Nd) (x : D) (A : Option Addr) (c : Nat) (w : World), Nds w w.heap.size A l → Doc l x → Calls Tryz.prog 47 #[.slice A l.length c] w (OfTo l A c w)
end Go.Proofs.YtddfdmopaeghnaaGreatDoor
