/- Walks of package cost: Less, Add. Condition: the numbers are small, or it is refused. -/
import Derived.Test.YtddfdmopaeghnabDoorCostW
namespace Go.Proofs.YtddfdmopaeghnabDoor
open Go.RowKit

theorem blk_cellC {w : World} {g j : Nat} {cs : Array Value} {T : TypeId} {fr : Nat × Nat} (h : w.heap[g]? = some (.cells cs T fr)) : w.cell? ⟨g, j, none⟩ = cs[j]? := cell_of_row w g j cs T fr h
theorem blk_freeC {w : World} {g j : Nat} {cs : Array Value} {T : TypeId} (h : w.heap[g]? = some (.cells cs T (0, 0))) : w.frozen? ⟨g, j, none⟩ = false := by simp [World.frozen?, h]
theorem blk_setC {w : World} {b : Nat} {x y p q : Value} {T : TypeId} {fr : Nat × Nat} (h : w.heap[b]? = some (.cells #[x, y] T fr)) : ((w.setCell ⟨b, 0, none⟩ p).setCell ⟨b, 1, none⟩ q).heap[b]? = some (.cells #[p, q] T fr) := by
  simp [World.setCell, Array.getElem?_modify, h]
theorem blk_belowC {w w' : World} {g : Nat} {o : Obj} (h : w.heap[g]? = some o) (hb : Below w.heap.size w w') : w'.heap[g]? = some o := (hb.block g (Array.getElem?_eq_some_iff.1 h).1).trans h

def costV (a : Int × Int) : Value := .agg #[.int .i64 a.1, .int .i64 a.2]

set_option maxRecDepth 100000 in
set_option maxHeartbeats 2000000 in
theorem less_bad (a b : Int × Int) (h : goodC a = false ∨ goodC b = false) (w : World) :
    Calls Tryd.prog 12 #[.agg #[.int .i64 a.1, .int .i64 a.2], .agg #[.int .i64 b.1, .int .i64 b.2]] w (Ret w (.tuple #[.bool false, .iface 24 (.int .i64 1)])) := by
  obtain ⟨a1, a2⟩ := a
  obtain ⟨b1, b2⟩ := b
  have hall : ([(a1, a2), (b1, b2)] : List (Int × Int)).all goodC = false := by
    simp only [List.all_cons, List.all_nil, Bool.and_true]
    rcases h with h | h <;> rw [h] <;> simp
  have HG := Lib.hid hall
  clear hall h
  simp only
  go_enter Tryd.func12, Tryd.ntmps12
  go_wp2_with (go_at_call 40; refine (good_two _ _ _ _ HG.out _ _ _ (costs_lit2 _ _ _ _ _ _ (by simp))).mono ?_; rintro e w1 ⟨rfl, hB1⟩)
  go_ret2
  exact ⟨rfl, Below.trans (by repeat (first | exact Below.refl _ _ | assumption | apply Below.drew | refine below_drewN ?_ _ | apply Below.setCell _ (by first | omega | (simp; done) | (simp; omega)) | apply Below.alloc _ (by first | omega | (simp; done) | (simp; omega)))) (hB1.mono (by simp; omega))⟩

set_option maxRecDepth 100000 in
set_option maxHeartbeats 2000000 in
theorem less_ok (a b : Nat × Nat) (ha : a.1 ≤ 1000000 ∧ a.2 ≤ 1000000) (hb : b.1 ≤ 1000000 ∧ b.2 ≤ 1000000) (w : World) :
    Calls Tryd.prog 12 #[.agg #[.int .i64 (a.1 : Nat), .int .i64 (a.2 : Nat)], .agg #[.int .i64 (b.1 : Nat), .int .i64 (b.2 : Nat)]] w (Ret w (.tuple #[.bool (cLess a b), .nilIface])) := by
  have HU := Lib.hid (fun w' => under_c a b rfl w')
  obtain ⟨a1, a2⟩ := a
  obtain ⟨b1, b2⟩ := b
  simp only at ha hb HU
  have hall : ([((a1 : Int), (a2 : Int)), ((b1 : Int), (b2 : Int))] : List (Int × Int)).all goodC = true := by
    simp [goodC]; omega
  have HG := Lib.hid hall
  generalize cLess (a1, a2) (b1, b2) = r at *
  clear hall ha hb
  simp only
  go_enter Tryd.func12, Tryd.ntmps12
  go_wp2_with fail
  refine (good_two _ _ _ _ HG.out _ _ _ (costs_lit2 _ _ _ _ _ _ (by simp))).mono ?_
  rintro e w1 ⟨rfl, hB1⟩
  have hR : w1.heap[w.heap.size]? = some (.cells #[.int .i64 a1, .int .i64 a2] 23 (0, 0)) := by
    refine blk_belowC ?_ hB1
    exact (Below.heap_alloc _ _ _ (by simp; omega)).trans ((Below.heap_alloc _ _ _ (by simp)).trans (heap_new (by simp)))
  have hS : w1.heap[w.heap.size + 1]? = some (.cells #[.int .i64 b1, .int .i64 b2] 23 (0, 0)) := by
    refine blk_belowC ?_ hB1
    exact (Below.heap_alloc _ _ _ (by simp)).trans (heap_new (by simp))
  have r0 := blk_cellC (j := 0) hR; have r1 := blk_cellC (j := 1) hR; have s0 := blk_cellC (j := 0) hS; have s1 := blk_cellC (j := 1) hS
  simp at r0 r1 s0 s1
  have HB1 : Hid (Below w.heap.size w w1) := Lib.hid (Below.trans (by repeat (first | exact Below.refl _ _ | assumption | apply Below.drew | refine below_drewN ?_ _ | apply Below.setCell _ (by first | omega | (simp; done) | (simp; omega)) | apply Below.alloc _ (by first | omega | (simp; done) | (simp; omega)))) (hB1.mono (by simp; omega)))
  clear hR hS hB1
  go_wp2_with (go_at_call 41; refine (HU.out _).mono ?_; rintro e w2 ⟨rfl, hB2⟩)
  go_ret2
  exact ⟨rfl, HB1.out.trans (hB2.mono HB1.out.size)⟩
set_option maxRecDepth 100000 in
set_option maxHeartbeats 2000000 in
/-- Numbers that may not be are refused, whatever the sum. -/
theorem add_bad (a b : Int × Int) (h : goodC a = false ∨ goodC b = false) (w : World) :
    Calls Tryd.prog 14 #[.agg #[.int .i64 a.1, .int .i64 a.2], .agg #[.int .i64 b.1, .int .i64 b.2]] w (Ret w (.tuple #[.agg #[.int .i64 0, .int .i64 0], .iface 24 (.int .i64 1)])) := by
  obtain ⟨a1, a2⟩ := a
  obtain ⟨b1, b2⟩ := b
  have hall : ([(a1, a2), (b1, b2)] : List (Int × Int)).all goodC = false := by
    simp only [List.all_cons, List.all_nil, Bool.and_true]
    rcases h with h | h <;> rw [h] <;> simp
  have HG := Lib.hid hall
  clear hall h
  simp only
  go_enter Tryd.func14, Tryd.ntmps14
  go_wp2_with fail
  refine (good_two _ _ _ _ HG.out _ _ _ (costs_lit2 _ _ _ _ _ _ (by simp))).mono ?_
  rintro e w1 ⟨rfl, hB1⟩
  have hR : w1.heap[w.heap.size + 1 + 1]? = some (.cells #[.int .i64 0, .int .i64 0] 23 (0, 0)) := by
    refine blk_belowC ?_ hB1
    exact (Below.heap_alloc _ _ _ (by simp)).trans ((Below.heap_alloc _ _ _ (by simp)).trans (heap_new (by simp)))
  have HB1 : Hid (Below w.heap.size w w1) := Lib.hid (Below.trans (by repeat (first | exact Below.refl _ _ | assumption | apply Below.drew | refine below_drewN ?_ _ | apply Below.setCell _ (by first | omega | (simp; done) | (simp; omega)) | apply Below.alloc _ (by first | omega | (simp; done) | (simp; omega)))) (hB1.mono (by simp; omega)))
  have r0 := blk_cellC (j := 0) hR; have r1 := blk_cellC (j := 1) hR; have r2 := blk_freeC (j := 0) hR; have r3 := blk_freeC (j := 1) hR
  simp at r0 r1
  have HR := Lib.hid hR
  clear hR hB1
  go_wp2_with fail
  have b0 := blk_setC (p := .int .i64 0) (q := .int .i64 0) HR.out
  have b1 := blk_cellC (j := 0) b0
  have b2 := blk_cellC (j := 1) b0
  simp at b1 b2
  simp [bodyPost, results, Tryd.results14, go_sem, b1, b2]
  exact ⟨rfl, (HB1.out.setCell (p := ⟨w.heap.size + 1 + 1, 0, none⟩) (by simp; omega) _).setCell (p := ⟨w.heap.size + 1 + 1, 1, none⟩) (by simp; omega) _⟩

set_option maxRecDepth 100000 in
set_option maxHeartbeats 2000000 in
/-- Numbers that may be: their sum, or it is refused. -/
theorem add_ok (a b : Nat × Nat) (ha : a.1 ≤ 1000000 ∧ a.2 ≤ 1000000) (hb : b.1 ≤ 1000000 ∧ b.2 ≤ 1000000) (w : World) :
    Calls Tryd.prog 14 #[.agg #[.int .i64 (a.1 : Nat), .int .i64 (a.2 : Nat)], .agg #[.int .i64 (b.1 : Nat), .int .i64 (b.2 : Nat)]] w
      (Ret w (if a.1 + b.1 ≤ 1000000 ∧ a.2 + b.2 ≤ 1000000 then .tuple #[.agg #[.int .i64 ((a.1 + b.1 : Nat) : Int), .int .i64 ((a.2 + b.2 : Nat) : Int)], .nilIface] else .tuple #[.agg #[.int .i64 0, .int .i64 0], .iface 24 (.int .i64 1)])) := by
  obtain ⟨a1, a2⟩ := a
  obtain ⟨b1, b2⟩ := b
  simp only at ha hb ⊢
  have hall : ([((a1 : Int), (a2 : Int)), ((b1 : Int), (b2 : Int))] : List (Int × Int)).all goodC = true := by
    simp [goodC]; omega
  have HG := Lib.hid hall
  obtain ⟨r, hr⟩ : ∃ r, [((a1 : Int) + (b1 : Int), (a2 : Int) + (b2 : Int))].all goodC = r := ⟨_, rfl⟩
  have HR2 := Lib.hid hr
  have hr' : r = decide (a1 + b1 ≤ 1000000 ∧ a2 + b2 ≤ 1000000) := by
    rw [← hr, Bool.eq_iff_iff]; simp [goodC]; omega
  have HRR := Lib.hid hr'
  generalize hq : (if a1 + b1 ≤ 1000000 ∧ a2 + b2 ≤ 1000000 then (.tuple #[.agg #[.int .i64 ((a1 + b1 : Nat) : Int), .int .i64 ((a2 + b2 : Nat) : Int)], .nilIface] : Value) else .tuple #[.agg #[.int .i64 0, .int .i64 0], .iface 24 (.int .i64 1)]) = res
  have HQ := Lib.hid hq
  clear hq
  clear hall hr hr'
  go_enter Tryd.func14, Tryd.ntmps14
  go_wp2_with fail
  refine (good_two _ _ _ _ HG.out _ _ _ (costs_lit2 _ _ _ _ _ _ (by simp))).mono ?_
  rintro e w1 ⟨rfl, hB1⟩
  have hR : w1.heap[w.heap.size + 1 + 1]? = some (.cells #[.int .i64 0, .int .i64 0] 23 (0, 0)) := by
    refine blk_belowC ?_ hB1
    exact (Below.heap_alloc _ _ _ (by simp)).trans ((Below.heap_alloc _ _ _ (by simp)).trans (heap_new (by simp)))
  have hS : w1.heap[w.heap.size + 1 + 1 + 1]? = some (.cells #[.int .i64 ((a1 : Int) + (b1 : Int)), .int .i64 ((a2 : Int) + (b2 : Int))] 23 (0, 0)) := by
    refine blk_belowC ?_ hB1
    exact (Below.heap_alloc _ _ _ (by simp)).trans (heap_new (by simp))
  have HB1 : Hid (Below w.heap.size w w1) := Lib.hid (Below.trans (by repeat (first | exact Below.refl _ _ | assumption | apply Below.drew | refine below_drewN ?_ _ | apply Below.setCell _ (by first | omega | (simp; done) | (simp; omega)) | apply Below.alloc _ (by first | omega | (simp; done) | (simp; omega)))) (hB1.mono (by simp; omega)))
  have s0 := blk_cellC (j := 0) hS; have s1 := blk_cellC (j := 1) hS
  simp at s0 s1
  have HS := Lib.hid hS; have HR := Lib.hid hR
  clear hR hS hB1
  go_wp2_with fail
  refine (good_one _ _ HR2.out _ _ _ (costs_lit1 _ _ _ _ (by simp))).mono ?_
  rintro e w2 ⟨rfl, hB2⟩
  have hR2 := blk_belowC ((Below.heap_alloc _ _ _ (Array.getElem?_eq_some_iff.1 HR.out).1).trans HR.out) hB2
  have hS2 := blk_belowC ((Below.heap_alloc _ _ _ (Array.getElem?_eq_some_iff.1 HS.out).1).trans HS.out) hB2
  have s0 := blk_cellC (j := 0) hS2; have s1 := blk_cellC (j := 1) hS2
  have r0 := blk_cellC (j := 0) hR2; have r1 := blk_cellC (j := 1) hR2; have r2 := blk_freeC (j := 0) hR2; have r3 := blk_freeC (j := 1) hR2
  simp at s0 s1 r0 r1
  have HS2 := Lib.hid hS2; have HR3 := Lib.hid hR2
  have HB2 : Hid (Below w.heap.size w w2) := Lib.hid (HB1.out.trans (Below.trans ((Below.refl _ _).alloc HB1.out.size _) (hB2.mono (by have := HB1.out.size; simp; omega))))
  clear hS2 hR2 hB2
  have e := HRR.out
  by_cases hs : a1 + b1 ≤ 1000000 ∧ a2 + b2 ≤ 1000000
  · rw [decide_eq_true hs] at e
    subst e
    have hq := HQ.out
    rw [if_pos hs] at hq
    subst hq
    go_wp2_with fail
    have b0 := blk_setC (p := .int .i64 ((a1 : Int) + (b1 : Int))) (q := .int .i64 ((a2 : Int) + (b2 : Int))) HR3.out
    have b1' := blk_cellC (j := 0) b0
    have b2' := blk_cellC (j := 1) b0
    simp at b1' b2'
    simp [bodyPost, results, Tryd.results14, go_sem, b1', b2']
    exact ⟨rfl, (HB2.out.setCell (p := ⟨w.heap.size + 1 + 1, 0, none⟩) (by simp; omega) _).setCell (p := ⟨w.heap.size + 1 + 1, 1, none⟩) (by simp; omega) _⟩
  · rw [decide_eq_false hs] at e
    subst e
    have hq := HQ.out
    rw [if_neg hs] at hq
    subst hq
    go_wp2_with fail
    have b0 := blk_setC (p := .int .i64 0) (q := .int .i64 0) HR3.out
    have b1' := blk_cellC (j := 0) b0
    have b2' := blk_cellC (j := 1) b0
    simp at b1' b2'
    simp [bodyPost, results, Tryd.results14, go_sem, b1', b2']
    exact ⟨rfl, (HB2.out.setCell (p := ⟨w.heap.size + 1 + 1, 0, none⟩) (by simp; omega) _).setCell (p := ⟨w.heap.size + 1 + 1, 1, none⟩) (by simp; omega) _⟩
end Go.Proofs.YtddfdmopaeghnabDoor
