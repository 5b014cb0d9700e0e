/- What the listed variable errors.errorType gives a walk: its one cell; and a world that has it. No condition. -/
import Derived.Test.YtddfdmopaeghnacDoorRows
import Derived.Test.YtddfdmopaeghnacDoorTold
import Derived.Test.YtddfdmopaeghnacDoorLaw
import Derived.ChangeSame
import Derived.ChangeVars
import Derived.JoinedOf
import Derived.RowKit
import Derived.RowKitTokens
import Derived.LaidLaws
import Derived.LaidHandle
import Derived.Stop.Joined
namespace Go.Proofs.YtddfdmopaeghnacDoor
open Go.ChangeShapes Go.WideShapes Go.RowKit

theorem etName : Tryd.prog.globalNamed "errors.errorType" = some 0 := by kernel_rfl
theorem rtType : (Tryd.prog.cutTypes.find? (·.1 == "internal/reflectlite.rtype")).map (·.2) = some 164 := by kernel_rfl
theorem oneError : ((List.range 236).filter fun t => Tryd.prog.rowNamed t [101, 114, 114, 111, 114]) = [31] := by kernel_rfl
theorem manyTypes : Tryd.prog.types.size = 236 := by kernel_rfl

theorem errT_of_laid {W : World} (h : laidMetH Tryd.prog [("errors.errorType", Rows.laid_errors_errorType)] W) : ErrT W := by
  have h' : laidMet Tryd.prog [] W ∧ handlesMet Tryd.prog [("errors.errorType", Rows.laid_errors_errorType)] W := h
  obtain ⟨name, u, ty, e1, e2, e3, e4, e5⟩ := h'.2 _ (List.mem_singleton.2 rfl)
  have en : name = [101, 114, 114, 111, 114] := (Option.some.inj e1).symm
  subst en
  obtain rfl := Option.some.inj (rtType.symm.trans e2)
  have hm : ty ∈ (List.range 236).filter fun t => Tryd.prog.rowNamed t [101, 114, 114, 111, 114] := List.mem_filter.2 ⟨List.mem_range.2 (by rw [← manyTypes]; exact e3), e4⟩
  rw [oneError] at hm
  obtain rfl := List.mem_singleton.1 hm
  have hh : typeHandle Tryd.prog 31 = .pointer (some ⟨7, 31, none⟩) := by kernel_rfl
  rw [hh] at e5
  have := World.var?_cell etName e5 0
  simpa [ErrT] using this

theorem ErrT.size {W : World} (h : ErrT W) : 0 + 1 ≤ W.heap.size := by
  rcases Nat.lt_or_ge 0 W.heap.size with h1 | h1
  · exact h1
  · unfold ErrT World.cell? at h
    simp [Array.getElem?_eq_none h1] at h

/-- A world that meets the condition. -/
noncomputable def laidWorld (os : Os) : World :=
  let w0 := World.holding Tryd.prog os ⟨#[], #[], []⟩
  { w0 with heap := w0.heap.modify 0 fun
      | .cells _ t frozen => .cells #[.iface 164 (.agg #[.pointer (some ⟨7, 31, none⟩)])] t frozen
      | o => o }
theorem laidWorld_met (os : Os) (args : Array Value) : laidMetH Tryd.prog [("errors.errorType", Rows.laid_errors_errorType)] ((laidWorld os).forCall (fun _ _ => 0) ⟨#[], args, []⟩).memory :=
  laidMetH_of_parts (laidMet_nil _ _) (by kernel_rfl)
end Go.Proofs.YtddfdmopaeghnacDoor
