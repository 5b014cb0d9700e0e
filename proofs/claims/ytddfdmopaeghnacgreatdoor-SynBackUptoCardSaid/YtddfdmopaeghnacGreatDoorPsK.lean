/- Walk: the closure that syn's parser's program defers, over a frame that returns. No condition. -/
import Derived.Test.YtddfdmopaeghnacGreatDoorPsL
namespace Go.Proofs.YtddfdmopaeghnacGreatDoor
open Go.RowKit

theorem stop_info : (Tryz.prog.info? 193).map (fun i => (i.zero, i.size, i.bytes)) = some (some (.agg #[.int .i64 0]), 1, 8) := by kernel_rfl
set_option maxRecDepth 100000 in
set_option maxHeartbeats 1000000 in
theorem pcatch_idle (p0 p1 p2 : Value) (w : World) :
    CallsD Tryz.prog 111 #[p0, p1, p2] .returning w fun e u' w' => e = .returned (.tuple #[]) ∧ u' = .returning ∧ Below w.heap.size w w' := by
  obtain ⟨i0, hi0, hz0, hz1, hz2⟩ := info_parts stop_info
  have hta : ∀ (xt : TypeId) (w' : World), (Instr.typeAssert .nilIface xt 193 true).run Tryz.prog w' = .ok (.tuple #[.agg #[.int .i64 0], .bool false]) w' := fun xt w' => by
    simp [Instr.typeAssert, run_underlying Tryz.underlying193, zeroValue, typeInfo, hi0, hz0, go_sem]
  refine callsD_of_wpS Tryz.func111 rfl fun c₀ cs hu => ?_
  apply wpS_seq
  apply wpS_region
  simp [wpOpsS, go_sem, recoverD, hu, Tryz.ntmps111, Exit.thenS, hta, Array.replicate]
  refine wpS_of_wp ?_
  go_wp2
  cases c₀
  refine ⟨rfl, .returning, by simp_all, .tuple #[], by simp [results, Tryz.results111, go_sem], rfl, rfl, (Below.refl _ _).alloc (Nat.le_refl _) _⟩
end Go.Proofs.YtddfdmopaeghnacGreatDoor
