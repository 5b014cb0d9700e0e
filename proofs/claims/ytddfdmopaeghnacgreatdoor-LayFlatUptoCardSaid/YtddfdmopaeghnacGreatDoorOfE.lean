/- Walk: way.Of, its parts joined. Condition: the slice lies below the call's own blocks. -/
import Derived.Test.YtddfdmopaeghnacGreatDoorOfE1
import Derived.Test.YtddfdmopaeghnacGreatDoorOfE2
import Derived.Test.YtddfdmopaeghnacGreatDoorOfE3
namespace Go.Proofs.YtddfdmopaeghnacGreatDoor
open Go.RowKit
/-- The plan of a doc that may be, with where it lies. -/
theorem of_from (l : List Nd) (x : D) (A : Option Addr) (c : Nat) (w : World) (hl : Nds w w.heap.size A l) (hd : Doc l x) :
    Calls Tryz.prog 50 #[.slice A l.length c] w (OfFrom l A c w) :=
  of_pre.2.2.2 of_part1 of_part2 of_part3 l x A c w hl hd
/-- The plan of a doc that may be. -/
theorem of_any (l : List Nd) (x : D) (A : Option Addr) (c : Nat) (w : World) (hl : Nds w w.heap.size A l) (hd : Doc l x) :
    Calls Tryz.prog 50 #[.slice A l.length c] w (OfTo l A c w) :=
  OfFromSaid.said (fun l x A c w hl hd => of_from l x A c w hl hd) l x A c w hl hd
end Go.Proofs.YtddfdmopaeghnacGreatDoor
