/- pargetrysame.Error at the number told. Condition: the variable errors.errorType holds the type error's handle. -/
import Derived.Test.YtddfdmopaeghnacDoorTold
namespace Go.Proofs.YtddfdmopaeghnacDoor
open Go.RowKit

theorem ErrT.past {w w' : World} (h : ErrT w) (hs : 0 + 1 ≤ w.heap.size) (hb : Below w.heap.size w w') : ErrT w' :=
  (hb.cell (p := ⟨0, 0, none⟩) (Nat.lt_of_lt_of_le (by decide) hs)).trans h
theorem Below.next {a b c : World} (h : Below a.heap.size a b) (h2 : Below b.heap.size b c) : Below a.heap.size a c := h.trans (h2.mono h.size)
theorem ErrT.drew {w : World} (h : ErrT w) : ErrT w.drew := h

theorem error_nil (w : World) (hg : ErrT w) (hs : 0 + 1 ≤ w.heap.size) : Calls Tryd.prog 8 #[.nilIface, .int .i64 0] w (Ret w (.bool true)) := by
  have h := same_error 0 0 w hg hs
  rw [← errV_zero rfl] at h
  exact h
theorem error_same (k : Int) (hk : k ≠ 0) (w : World) (hg : ErrT w) (hs : 0 + 1 ≤ w.heap.size) : Calls Tryd.prog 8 #[.iface 23 (.int .i64 k), .int .i64 k] w (Ret w (.bool true)) := by
  have h := same_error k k w hg hs
  rw [← errV_pos hk, beq_self_eq_true] at h
  exact h

end Go.Proofs.YtddfdmopaeghnacDoor
