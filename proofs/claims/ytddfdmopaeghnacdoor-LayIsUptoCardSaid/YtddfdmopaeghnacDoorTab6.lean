/- A world that holds the listed tables math/bits.deBruijn32tab, deBruijn64tab, internal/strconv.uint64pow10, unicode/utf8.first, acceptRanges and the listed variable errors.errorType; what they give a walk. No condition. -/
import Derived.Test.YtddfdmopaeghnacDoorErrT
import Derived.Test.YtddfdmopaeghnacDoorMkV
import Derived.Lib.LaidTab
import Derived.Lib.TrailingZeros
import Derived.Lib.ItoaNum
namespace Go.Proofs.YtddfdmopaeghnacDoor
open Go.ChangeShapes Go.WideShapes Go.RowKit

theorem errT_of_six {l : List (String × DataW Unit)} (hf : l.filter (fun x => x.2.handleName?.isSome) = [("errors.errorType", Rows.laid_errors_errorType)]) {W : World} (h : laidMetH Tryd.prog l W) : ErrT W := by
  refine errT_of_laid ?_
  unfold laidMetH at h ⊢
  rw [hf] at h
  have e2 : ([("errors.errorType", Rows.laid_errors_errorType)] : List (String × DataW Unit)).filter (fun x => x.2.handleName?.isSome) = [("errors.errorType", Rows.laid_errors_errorType)] := rfl
  rw [e2]
  exact ⟨laidMet_nil _ _, h.2⟩
/-- The table of the powers of ten stands third on the list. -/
theorem powT_of_six {a b : String × DataW Unit} {l rest : List (String × DataW Unit)} (hf : l.filter (fun x => x.2.handleName?.isSome) = [("errors.errorType", Rows.laid_errors_errorType)])
    (hn : l.filter (fun x => x.2.handleName?.isNone) = a :: b :: ("internal/strconv.uint64pow10", Lib.tabData .u64 Lib.pow10Tab) :: rest) {W : World} (h : laidMetH Tryd.prog l W) : PowT W := by
  unfold laidMetH at h
  rw [hf] at h
  have h1 := h.1
  rw [hn] at h1
  obtain ⟨ps, ⟨_, _, _, _, _, q1, _, _, _, _, ⟨_, _, _, _, _, q2, _, _, _, _, ⟨g', t', cs, fuel, p, q, hg', ht', hvar, hd, _, _⟩, _⟩, _⟩, _⟩ := h1
  have hg : Tryd.prog.globalNamed "internal/strconv.uint64pow10" = some 1 := by kernel_rfl
  obtain rfl := Option.some.inj (hg.symm.trans hg')
  have hty : (Tryd.prog.globals[1]?).map (·.type) = some 199 := by kernel_rfl
  obtain rfl := Option.some.inj (hty.symm.trans ht')
  unfold PowT Lib.TabIs
  rw [hvar, ← Lib.cells_of_tab Tryd.underlying199 Tryd.underlying185 (by kernel_rfl) (by kernel_rfl) hd]

/-- A world that holds them. -/
noncomputable def tabWorld6 (os : Os) : World :=
  let w0 := World.holding Tryd.prog os ⟨#[], #[], []⟩
  { w0 with heap := (((((w0.heap.modify 5 fun
      | .cells _ t frozen => .cells (Lib.deBruijn32tab.map fun n : Nat => Value.int .u8 n).toArray t frozen
      | o => o).modify 6 fun
      | .cells _ t frozen => .cells (Lib.deBruijn64tab.map fun n : Nat => Value.int .u8 n).toArray t frozen
      | o => o).modify 1 fun
      | .cells _ t frozen => .cells (Lib.pow10Tab.map fun n : Int => Value.int .u64 n).toArray t frozen
      | o => o).modify 3 fun
      | .cells _ t frozen => .cells (Go.Pinned.utf8FirstZ.map fun n : Nat => Value.int .u8 n).toArray t frozen
      | o => o).modify 4 fun
      | .cells _ t frozen => .cells (([128, 191, 160, 191, 128, 159, 144, 191, 128, 143] ++ List.replicate 22 0).map fun n : Nat => Value.int .u8 n).toArray t frozen
      | o => o).modify 0 fun
      | .cells _ t frozen => .cells #[.iface 164 (.agg #[.pointer (some ⟨7, 31, none⟩)])] t frozen
      | o => o }
end Go.Proofs.YtddfdmopaeghnacDoor
