/- Walks: the closure that syn's parser's program defers: over a frame that panics with a stop, over one that returns. Conditions: the three results' variables are blocks of their own. -/
import Derived.Test.YtddfdmopaeghnacGreatDoorPsM
import Derived.Recover
import Derived.Defers
import Derived.Laws.Pointers
namespace Go.Proofs.YtddfdmopaeghnacGreatDoor
open Go.RowKit

set_option maxRecDepth 100000 in
set_option maxHeartbeats 2000000 in
theorem pcatch_bad (b0 b1 b2 : Nat) (x : Int) (vo vp ve : Value) (older : List PanicEntry) (w : World) (h0 : w.heap[b0]? = some (.cells #[vo] 35 (0, 0))) (h1 : w.heap[b1]? = some (.cells #[vp] 3 (0, 0))) (h2 : w.heap[b2]? = some (.cells #[ve] 28 (0, 0))) (l01 : b0 < b1) (l12 : b1 < b2) :
    CallsD Tryz.prog 111 #[.pointer (some ⟨b0, 0, none⟩), .pointer (some ⟨b1, 0, none⟩), .pointer (some ⟨b2, 0, none⟩)] (.panicking ({ v := .iface 193 (.agg #[.int .i64 x]), recovered := false } :: older)) w fun e u' w' =>
      e = .returned (.tuple #[]) ∧ u' = .panicking ({ v := .iface 193 (.agg #[.int .i64 x]), recovered := true } :: older) ∧ w'.cell? ⟨b0, 0, none⟩ = some (.slice none 0 0) ∧ w'.cell? ⟨b1, 0, none⟩ = some (.int .i64 x) ∧ w'.cell? ⟨b2, 0, none⟩ = some (errV 5) ∧ Below b0 w w' := by
  have n01 : b0 ≠ b1 := by omega
  have n02 : b0 ≠ b2 := by omega
  have n12 : b1 ≠ b2 := by omega
  have c0 : w.cell? ⟨b0, 0, none⟩ = some vo := by rw [Lib.cell_of_heap h0]; rfl
  have c1 : w.cell? ⟨b1, 0, none⟩ = some vp := by rw [Lib.cell_of_heap h1]; rfl
  have c2 : w.cell? ⟨b2, 0, none⟩ = some ve := by rw [Lib.cell_of_heap h2]; rfl
  have f0 := Lib.frozen_of_heap h0 0
  have f1 := Lib.frozen_of_heap h1 0
  have f2 := Lib.frozen_of_heap h2 0
  have hta : ∀ (xt : TypeId) (w' : World), (Instr.typeAssert (.iface 193 (.agg #[.int .i64 x])) xt 193 true).run Tryz.prog w' = .ok (.tuple #[.agg #[.int .i64 x], .bool true]) w' := fun xt w' => by
    simp [Instr.typeAssert, run_underlying Tryz.underlying193]
  refine callsD_of_wpS Tryz.func111 rfl fun c₀ cs hu => ?_
  apply wpS_seq
  apply wpS_region
  simp [wpOpsS, go_sem, recoverD, hu, Tryz.ntmps111, Exit.thenS, hta, Array.replicate]
  refine wpS_of_wp ?_
  have a0 : (w.alloc (.cells #[.int .i64 x] 193)).cell? ⟨b0, 0, none⟩ = some vo := (World.cell?_of_block (Below.heap_alloc _ _ _ (Array.getElem?_eq_some_iff.1 h0).1)).trans c0
  have a1 : (w.alloc (.cells #[.int .i64 x] 193)).cell? ⟨b1, 0, none⟩ = some vp := (World.cell?_of_block (Below.heap_alloc _ _ _ (Array.getElem?_eq_some_iff.1 h1).1)).trans c1
  have a2 : (w.alloc (.cells #[.int .i64 x] 193)).cell? ⟨b2, 0, none⟩ = some ve := (World.cell?_of_block (Below.heap_alloc _ _ _ (Array.getElem?_eq_some_iff.1 h2).1)).trans c2
  have a3 : (w.alloc (.cells #[.int .i64 x] 193)).frozen? ⟨b0, 0, none⟩ = false := (World.frozen?_of_block (Below.heap_alloc _ _ _ (Array.getElem?_eq_some_iff.1 h0).1)).trans f0
  have a4 : (w.alloc (.cells #[.int .i64 x] 193)).frozen? ⟨b1, 0, none⟩ = false := (World.frozen?_of_block (Below.heap_alloc _ _ _ (Array.getElem?_eq_some_iff.1 h1).1)).trans f1
  have a5 : (w.alloc (.cells #[.int .i64 x] 193)).frozen? ⟨b2, 0, none⟩ = false := (World.frozen?_of_block (Below.heap_alloc _ _ _ (Array.getElem?_eq_some_iff.1 h2).1)).trans f2
  have a6 : (w.alloc (.cells #[.int .i64 x] 193)).cell? ⟨w.heap.size, 0, none⟩ = some (.int .i64 x) := by rw [Lib.cell_of_heap (heap_new rfl)]; rfl
  have hz : Below b0 w (w.alloc (.cells #[.int .i64 x] 193)) := (Below.refl _ _).alloc (Nat.le_of_lt (Array.getElem?_eq_some_iff.1 h0).1) _
  have HL1 := Lib.hid l01
  have HL2 := Lib.hid l12
  clear l01 l12
  refine ps_named (fun w5 => w5.cell? ⟨b0, 0, none⟩ = some vo ∧ w5.cell? ⟨b1, 0, none⟩ = some vp ∧ w5.cell? ⟨b2, 0, none⟩ = some ve ∧ w5.frozen? ⟨b0, 0, none⟩ = false ∧ w5.frozen? ⟨b1, 0, none⟩ = false ∧ w5.frozen? ⟨b2, 0, none⟩ = false ∧ w5.cell? ⟨w.heap.size, 0, none⟩ = some (.int .i64 x) ∧ Below b0 w w5) ⟨a0, a1, a2, a3, a4, a5, a6, hz⟩ ?_
  clear a0 a1 a2 a3 a4 a5 a6 hz
  rintro w5 ⟨a0, a1, a2, a3, a4, a5, a6, hz⟩
  have HZ := Lib.hid hz
  clear hz
  have s0 := (Array.getElem?_eq_some_iff.1 h0).1
  have s1 := (Array.getElem?_eq_some_iff.1 h1).1
  have s2 := (Array.getElem?_eq_some_iff.1 h2).1
  have n3 : b0 ≠ w.heap.size := Nat.ne_of_lt s0
  have n4 : b1 ≠ w.heap.size := Nat.ne_of_lt s1
  have n5 : b2 ≠ w.heap.size := Nat.ne_of_lt s2
  clear h0 h1 h2 c0 c1 c2 f0 f1 f2
  go_upto_region 2 with fail
  go_region
  go_wp2
  have m01 := n01.symm
  have m02 := n02.symm
  have m12 := n12.symm
  refine ⟨rfl, _, rfl, .tuple #[], by simp [results, Tryz.results111, go_sem], rfl, rfl, ?_, ?_, ?_, ?_⟩
  · simp [go_sem, *]
  · simp [go_sem, *]
  · simp [go_sem, errV, *]
  · have l01 := HL1.out
    have l12 := HL2.out
    repeat (first | exact HZ.out | refine Below.drew ?_ | refine Below.setCell ?_ (by simp only; omega) _)
end Go.Proofs.YtddfdmopaeghnacGreatDoor
