/- The closed facts of a row. No condition. -/
import Derived.Test.YtddfdmopaeghnacGreatDoorRows
import Derived.SevenTiedAt
import Derived.JoinedCond
import Derived.Deep.DeepHandedRow
import Derived.RowKit
namespace Go.Proofs.YtddfdmopaeghnacGreatDoor.formBack
open Go.RowKit
set_option maxHeartbeats 8000000 in
/-- The closed facts, each checked by itself: together they outgrow the memory. -/
theorem closed : joinedFacts Tryz.pinned.checked.prog 8 Tryz.f8 (OpenSpec.ofChange Rows.formBackSpec).bare Rows.formBackRow = true := by
  unfold joinedFacts
  simp only [Bool.and_eq_true]
  and_intros
  all_goals (as_aux_lemma => kernel_rfl)

end Go.Proofs.YtddfdmopaeghnacGreatDoor.formBack
