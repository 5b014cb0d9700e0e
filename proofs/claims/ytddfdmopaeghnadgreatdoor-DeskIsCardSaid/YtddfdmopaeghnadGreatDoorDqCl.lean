/- The closed facts of a row. No condition. -/
import Derived.Test.YtddfdmopaeghnadGreatDoorCards
import Derived.Test.YtddfdmopaeghnadGreatDoorTie
import Derived.RowKitTokens
import Derived.Deep.DeepHandedRow
namespace Go.Proofs.YtddfdmopaeghnadGreatDoor.deskIs
open Go.ChangeShapes Go.WideShapes Go.ChangeAt Go.RowKit
set_option maxHeartbeats 8000000 in
theorem closed:joinedFacts Tryz.pinned.checked.prog 3 Tryz.f3 (OpenSpec.ofChange Rows.deskIsSpec).bare Rows.deskIsRow=true:=by
  unfold joinedFacts
  simp only [Bool.and_eq_true]
  and_intros
  all_goals (as_aux_lemma=>kernel_rfl)
end Go.Proofs.YtddfdmopaeghnadGreatDoor.deskIs
