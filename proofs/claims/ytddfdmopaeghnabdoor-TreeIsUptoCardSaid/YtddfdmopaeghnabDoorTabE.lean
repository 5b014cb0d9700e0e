/- A world that holds the listed tables unicode/utf8.first, acceptRanges and the listed variable errors.errorType; what the latter gives a walk. No condition. -/
import Derived.Test.YtddfdmopaeghnabDoorErrT
import Derived.Lib.LaidTab
namespace Go.Proofs.YtddfdmopaeghnabDoor
open Go.ChangeShapes Go.WideShapes Go.RowKit

theorem errT_of_three {a b : DataW Unit} (ha : a.handleName?.isSome = false) (hb : b.handleName?.isSome = false) {W : World} (h : laidMetH Tryd.prog [("unicode/utf8.acceptRanges", a), ("errors.errorType", Rows.laid_errors_errorType), ("unicode/utf8.first", b)] W) : ErrT W := by
  refine errT_of_laid ?_
  unfold laidMetH at h ⊢
  have e : ([("unicode/utf8.acceptRanges", a), ("errors.errorType", Rows.laid_errors_errorType), ("unicode/utf8.first", b)] : List (String × DataW Unit)).filter (fun x => x.2.handleName?.isSome) = [("errors.errorType", Rows.laid_errors_errorType)] := by
    have hr : (Rows.laid_errors_errorType : DataW Unit).handleName?.isSome = true := rfl
    simp [List.filter, ha, hb, hr]
  rw [e] at h
  have e2 : ([("errors.errorType", Rows.laid_errors_errorType)] : List (String × DataW Unit)).filter (fun x => x.2.handleName?.isSome) = [("errors.errorType", Rows.laid_errors_errorType)] := rfl
  rw [e2]
  exact ⟨laidMet_nil _ _, h.2⟩

/-- A world that holds them. -/
noncomputable def tabWorldE (os : Os) : World :=
  let w0 := World.holding Tryd.prog os ⟨#[], #[], []⟩
  { w0 with heap := ((w0.heap.modify 1 fun
      | .cells _ t frozen => .cells (Go.Pinned.utf8FirstZ.map fun n : Nat => Value.int .u8 n).toArray t frozen
      | o => o).modify 2 fun
      | .cells _ t frozen => .cells (([128, 191, 160, 191, 128, 159, 144, 191, 128, 143] ++ List.replicate 22 0).map fun n : Nat => Value.int .u8 n).toArray t frozen
      | o => o).modify 0 fun
      | .cells _ t frozen => .cells #[.iface 183 (.agg #[.pointer (some ⟨7, 28, none⟩)])] t frozen
      | o => o }
end Go.Proofs.YtddfdmopaeghnabDoor
