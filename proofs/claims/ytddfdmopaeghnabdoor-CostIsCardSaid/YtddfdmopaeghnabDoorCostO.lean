/- Walk of cost.Of: what a text costs; too long a text, a width that may not be. No condition. -/
import Derived.Test.YtddfdmopaeghnabDoorSplitW
import Derived.Test.YtddfdmopaeghnabDoorCostX
namespace Go.Proofs.YtddfdmopaeghnabDoor
open Go.RowKit Go.Shelf

set_option maxHeartbeats 1000000 in
theorem of_full (s : ByteArray) (hs : 60000 < s.size) (hs2 : s.size ≤ maxLen) (width : Int) (w : World) :
    Calls Tryd.prog 16 #[.string s, .int .i64 width] w (Ret w (.tuple #[.agg #[.int .i64 0, .int .i64 0], .iface 24 (.int .i64 3)])) := by
  unfold maxLen at hs2
  go_enter Tryd.func16, Tryd.ntmps16
  go_wp2_with fail
  simp [bodyPost, results, Tryd.results16, go_sem]
  exact ⟨rfl, (by repeat (first | exact Below.refl _ _ | assumption | apply Below.drew | refine below_drewN ?_ _ | apply Below.setCell _ (by first | omega | (simp; done) | (simp; omega)) | apply Below.alloc _ (by first | omega | (simp; done) | (simp; omega))))⟩
set_option maxHeartbeats 1000000 in
theorem of_wide (s : ByteArray) (hs : s.size ≤ 60000) (width : Int) (hw : width < 0 ∨ 100 < width) (w : World) :
    Calls Tryd.prog 16 #[.string s, .int .i64 width] w (Ret w (.tuple #[.agg #[.int .i64 0, .int .i64 0], .iface 24 (.int .i64 1)])) := by
  by_cases hw0 : width < 0
  · have k1 : decide (width < 0) = true := decide_eq_true hw0
    clear hw hw0
    go_enter Tryd.func16, Tryd.ntmps16
    go_wp2_with fail
    simp [bodyPost, results, Tryd.results16, go_sem]
    exact ⟨rfl, (by repeat (first | exact Below.refl _ _ | assumption | apply Below.drew | refine below_drewN ?_ _ | apply Below.setCell _ (by first | omega | (simp; done) | (simp; omega)) | apply Below.alloc _ (by first | omega | (simp; done) | (simp; omega))))⟩
  · have k1 : decide (width < 0) = false := decide_eq_false hw0
    have k2 : decide (100 < width) = true := decide_eq_true (by omega)
    clear hw hw0
    go_enter Tryd.func16, Tryd.ntmps16
    go_wp2_with fail
    simp [bodyPost, results, Tryd.results16, go_sem]
    exact ⟨rfl, (by repeat (first | exact Below.refl _ _ | assumption | apply Below.drew | refine below_drewN ?_ _ | apply Below.setCell _ (by first | omega | (simp; done) | (simp; omega)) | apply Below.alloc _ (by first | omega | (simp; done) | (simp; omega))))⟩

theorem overs_bd (W : Nat) (s : ByteArray) : overs W (splitL s.data.toList) ≤ s.size ∧ (splitL s.data.toList).length ≤ s.size + 1 := by
  have h := split_cost W s.data.toList
  have h1 := ovr_le W s.data.toList 0
  have h2 := lns_le s.data.toList
  have e : s.data.toList.length = s.size := by simp
  simp only [cst, Prod.mk.injEq] at h
  omega
/-- Between two rounds. -/
structure OfI (w : World) (W : Nat) (n0 : Nat) (pre : List (List UInt8)) (X : World) : Prop where
  wd : X.heap[w.heap.size]? = some (.cells #[.int .i64 (W : Nat)] 3 (0, 0))
  res : X.heap[w.heap.size + 1]? = some (.cells #[.int .i64 0, .int .i64 0] 23 (0, 0))
  own : X.heap[w.heap.size + 1 + 1]? = some (.cells #[.int .i64 (overs W pre : Nat), .int .i64 ((pre.length : Int) - 1)] 23 (0, 0))
  bel : Below w.heap.size w X
  sz : n0 ≤ X.heap.size

section
attribute [local go_sem] Oper.semAt_some
set_option maxRecDepth 100000 in
set_option maxHeartbeats 1000000 in
theorem of_good (s : ByteArray) (hs : s.size ≤ 60000) (W : Nat) (hW : W ≤ 100) (w : World) :
    Calls Tryd.prog 16 #[.string s, .int .i64 (W : Nat)] w (Ret w (.tuple #[.agg #[.int .i64 ((cst W 0 s.data.toList).1 : Nat), .int .i64 ((cst W 0 s.data.toList).2 : Nat)], .nilIface])) := by
  have k1 : decide (60000 < (s.size : Int)) = false := decide_eq_false (by omega)
  have k2 : decide ((W : Int) < 0) = false := decide_eq_false (by omega)
  have k3 : decide (100 < (W : Int)) = false := decide_eq_false (by omega)
  refine (callsIn_wide (n := 6)).1 ?_
  refine callsIn_of_wp_marks Tryd.func16 rfl trivial ?_ rfl
  simp only [Tryd.ntmps16, List.size_toArray, List.length_cons, List.length_nil, Nat.reduceAdd, Nat.reduceSub, Array.replicate_succ, Array.replicate_zero, List.push_toArray, List.append_toArray, List.nil_append, List.cons_append]
  gi_wp2_with (refine ⟨trivial, ?_⟩; gi_at_call 43; refine (callsIn_wide.2 (splitSeq_all _ _)).mono ?_; rintro e w' ⟨rfl, rfl⟩)
  obtain ⟨X, hX⟩ : ∃ X, splitWorld (((w.alloc (.cells #[.int .i64 (W : Nat)] 3)).alloc (.cells #[.int .i64 0, .int .i64 0] 23)).alloc (.cells #[.int .i64 0, .int .i64 (-1)] 23)) s = X := ⟨_, rfl⟩
  rw [hX]
  have hsz : X.heap.size = w.heap.size + 6 := by rw [← hX]; simp [splitWorld]
  have h0 : OfI w W X.heap.size [] X := by
    have e1 := fun (o : Obj) => (Below.refl w.heap.size w).alloc (Nat.le_refl _) o
    refine ⟨?_, ?_, ?_, ?_, Nat.le_refl _⟩ <;> rw [← hX] <;> simp only [splitWorld]
    · exact (Below.heap_alloc _ _ _ (by first | (simp; done) | (simp; omega))).trans ((Below.heap_alloc _ _ _ (by first | (simp; done) | (simp; omega))).trans ((Below.heap_alloc _ _ _ (by first | (simp; done) | (simp; omega))).trans ((Below.heap_alloc _ _ _ (by first | (simp; done) | (simp; omega))).trans ((Below.heap_alloc _ _ _ (by first | (simp; done) | (simp; omega))).trans (heap_new (by simp))))))
    · exact (Below.heap_alloc _ _ _ (by first | (simp; done) | (simp; omega))).trans ((Below.heap_alloc _ _ _ (by first | (simp; done) | (simp; omega))).trans ((Below.heap_alloc _ _ _ (by first | (simp; done) | (simp; omega))).trans ((Below.heap_alloc _ _ _ (by first | (simp; done) | (simp; omega))).trans (heap_new (by simp)))))
    · exact (Below.heap_alloc _ _ _ (by first | (simp; done) | (simp; omega))).trans ((Below.heap_alloc _ _ _ (by first | (simp; done) | (simp; omega))).trans ((Below.heap_alloc _ _ _ (by first | (simp; done) | (simp; omega))).trans (heap_new (by simp))))
    · exact (by repeat (first | exact Below.refl _ _ | assumption | apply Below.drew | refine below_drewN ?_ _ | apply Below.setCell _ (by first | omega | (simp; done) | (simp; omega)) | apply Below.alloc _ (by first | omega | (simp; done) | (simp; omega))))
  have hb : X.heap[w.heap.size + 1 + 1 + 1]? = some (.cells #[.string s] 9 (0, 0)) := by
    rw [← hX]
    exact (Below.heap_alloc _ _ _ (by first | (simp; done) | (simp; omega))).trans ((Below.heap_alloc _ _ _ (by first | (simp; done) | (simp; omega))).trans (heap_new (by simp)))
  have hb1 : X.heap[w.heap.size + 1 + 1 + 1 + 1]? = some (.cells #[.string ⟨#[10]⟩] 9 (0, 0)) := by
    rw [← hX]
    exact (Below.heap_alloc _ _ _ (by first | (simp; done) | (simp; omega))).trans (heap_new (by simp))
  have hb2 : X.heap[w.heap.size + 1 + 1 + 1 + 1 + 1]? = some (.cells #[.int .i64 0] 3 (0, 0)) := by
    rw [← hX]
    exact heap_new (by simp)
  clear hX
  refine wpIn_range_cell (F := Fence.wide) rfl (by omega) (gf := 100) (lb := #[.pointer (some ⟨w.heap.size + 1 + 1 + 1 + 1, 0, none⟩), .pointer (some ⟨w.heap.size + 1 + 1 + 1, 0, none⟩), .pointer (some ⟨w.heap.size + 1 + 1 + 1 + 1 + 1, 0, none⟩)]) rfl trivial (enters_of Tryd.func100 (by kernel_rfl) rfl)
    (split_seq 5 (by omega) (w.heap.size + 1 + 1 + 1) s (by omega) X hb hb1 hb2) (by omega) rfl (OfI w W X.heap.size) ?hput ?hset ?halloc h0
    (fun x => { tmps := #[.string s, .int .i64 (W : Nat), undef, .pointer (some ⟨w.heap.size, 0, none⟩), .pointer (some ⟨w.heap.size + 1, 0, none⟩), .nilIface, .pointer (some ⟨w.heap.size + 1 + 1, 0, none⟩), .string ⟨x.toArray⟩, .string s, .int .i64 (s.size : Nat), .bool false, undef, undef, .int .i64 (W : Nat), .bool false, .bool false, .int .i64 (W : Nat), .bool false, .bool false, undef, undef, .agg #[.int .i64 0, .int .i64 (-1)], .string s, splitVal (w.heap.size + 1 + 1 + 1), .string ⟨x.toArray⟩, undef, undef, undef, undef, undef, undef, undef, undef, undef, undef, undef, undef, undef, undef], defers := [] }) ?assign ?body ?done
  case hput =>
    rintro pre Y r o o' h hr ho hle
    exact ⟨putObj_at h.wd (by omega), putObj_at h.res (by omega), putObj_at h.own (by omega), h.bel.grown (grownBy_putObj' Y r o') h.bel.size (fun k e => by cases e; omega), by simpa [World.putObj] using h.sz⟩
  case hset =>
    rintro pre Y v h
    exact ⟨(Below.heap_setCell _ _ _ _ (by simp only; omega)).trans h.wd, (Below.heap_setCell _ _ _ _ (by simp only; omega)).trans h.res, (Below.heap_setCell _ _ _ _ (by simp only; omega)).trans h.own, h.bel.setCell (p := ⟨w.heap.size + 1 + 1 + 1, 0, none⟩) (by simp only; omega) _, by simpa [World.setCell] using h.sz⟩
  case halloc =>
    rintro pre Y o h
    have := h.sz
    exact ⟨(Below.heap_alloc _ _ _ (by omega)).trans h.wd, (Below.heap_alloc _ _ _ (by omega)).trans h.res, (Below.heap_alloc _ _ _ (by omega)).trans h.own, h.bel.alloc h.bel.size _, by simp; omega⟩
  case assign =>
    intro l x Y K hK
    gi_wp2
    exact hK
  case body =>
    rintro l pre x Y h hpre
    obtain ⟨rest, hrest⟩ := hpre
    have hbd := overs_bd W s
    rw [← hrest, overs_app, overs_app] at hbd
    simp only [List.length_append, List.length_cons, List.length_nil, overs] at hbd
    obtain ⟨bx, hbx⟩ : ∃ bx : ByteArray, (⟨x.toArray⟩ : ByteArray) = bx := ⟨_, rfl⟩
    have hbz : bx.size = x.length := by rw [← hbx]; simp [ByteArray.size]
    simp only [hbx]
    have c0 : Y.cell? ⟨w.heap.size, 0, none⟩ = some (.int .i64 (W : Nat)) := blk_cellC h.wd
    have o0 : Y.cell? ⟨w.heap.size + 1 + 1, 0, none⟩ = some (.int .i64 (overs W pre : Nat)) := blk_cellC h.own
    have o1 : Y.cell? ⟨w.heap.size + 1 + 1, 1, none⟩ = some (.int .i64 ((pre.length : Int) - 1)) := blk_cellC h.own
    have f0 := blk_freeC (j := 0) h.own
    have f1 := blk_freeC (j := 1) h.own
    have e1 : ((overs W (pre ++ [x]) : Nat) : Int) = (overs W pre : Nat) + max 0 ((bx.size : Int) - (W : Int)) := by
      rw [overs_app, hbz]; simp only [overs]; omega
    have e2 : (((pre ++ [x]).length : Nat) : Int) - 1 = (pre.length : Int) := by simp
    have HI := Lib.hid h; have HE1 := Lib.hid e1; have HE2 := Lib.hid e2
    have hov : overs W pre ≤ 60000 := by omega
    have hbs : bx.size ≤ 60200 := by omega
    have hpl : pre.length ≤ 60001 := by omega
    clear h e1 e2 hrest hbx hbd hbz h0 hb hb1 hb2
    gi_wp2
    refine ⟨(KeepsOthers.setCell _ _ _).trans (KeepsOthers.setCell _ _ _), (Keep.setCell (by simp only; omega) _).trans (Keep.setCell (by simp only; omega) _), ?_⟩
    refine ⟨?_, ?_, ?_, ?_, ?_⟩
    · exact (Below.heap_setCell _ _ _ _ (by simp only; omega)).trans ((Below.heap_setCell _ _ _ _ (by simp only; omega)).trans HI.out.wd)
    · exact (Below.heap_setCell _ _ _ _ (by simp only; omega)).trans ((Below.heap_setCell _ _ _ _ (by simp only; omega)).trans HI.out.res)
    · rw [HE1.out, HE2.out]
      exact blk_setC HI.out.own
    · exact (HI.out.bel.setCell (p := ⟨w.heap.size + 1 + 1, 0, none⟩) (by simp only; omega) _).setCell (p := ⟨w.heap.size + 1 + 1, 1, none⟩) (by simp only; omega) _
    · simpa [World.setCell] using HI.out.sz
  case done =>
    rintro D Y hD h hK
    have o0 : Y.cell? ⟨w.heap.size + 1 + 1, 0, none⟩ = some (.int .i64 (overs W (splitL s.data.toList) : Nat)) := blk_cellC h.own
    have o1 : Y.cell? ⟨w.heap.size + 1 + 1, 1, none⟩ = some (.int .i64 (((splitL s.data.toList).length : Int) - 1)) := blk_cellC h.own
    have r0 : Y.cell? ⟨w.heap.size + 1, 0, none⟩ = some (.int .i64 0) := blk_cellC h.res
    have r1 : Y.cell? ⟨w.heap.size + 1, 1, none⟩ = some (.int .i64 0) := blk_cellC h.res
    have f0 := blk_freeC (j := 0) h.res
    have f1 := blk_freeC (j := 1) h.res
    have HI := Lib.hid h
    have hlt := (Array.getElem?_eq_some_iff.1 h.wd).1
    clear h h0 hb hb1 hb2
    have hcs := split_cost W s.data.toList
    have hne := splitL_ne s.data.toList
    have hpos : 0 < (splitL s.data.toList).length := List.length_pos_iff.2 hne
    simp only [Prod.ext_iff] at hcs
    have E1 : Hid (((cst W 0 s.data.toList).1 : Int) = (overs W (splitL s.data.toList) : Nat)) := Lib.hid (by rw [hcs.1])
    have E2 : Hid (((cst W 0 s.data.toList).2 : Int) = ((splitL s.data.toList).length : Int) - 1) := Lib.hid (by rw [hcs.2]; omega)

    clear hcs hne hpos
    generalize hov : (overs W (splitL s.data.toList) : Int) = ov at *
    generalize hll : ((splitL s.data.toList).length : Int) - 1 = ll at *
    gi_wp2
    refine ⟨by simp, .inl ⟨_, _, rfl, run_takeDeferred (((KeepsOthers.setCell _ _ _).trans (KeepsOthers.setCell _ _ _)).same D _ hK rfl), ?_⟩⟩
    have hres := putObj_at (l := D) (o' := .deferred none) (blk_setC (p := .int .i64 ov) (q := .int .i64 ll) HI.out.res) (by omega)
    have x0 := blk_cellC (j := 0) hres
    have x1 := blk_cellC (j := 1) hres
    simp at x0 x1
    refine ⟨.tuple #[.agg #[.int .i64 ov, .int .i64 ll], .nilIface], by simp [results, Tryd.results16, go_sem, x0, x1], by rw [E1.out, E2.out], ?_⟩
    exact ((HI.out.bel.setCell (p := ⟨w.heap.size + 1, 0, none⟩) (by simp only; omega) _).setCell (p := ⟨w.heap.size + 1, 1, none⟩) (by simp only; omega) _).grown (grownBy_putObj' _ D _) (by simpa [World.setCell] using HI.out.bel.size) (fun k e => by cases e; omega)
end
end Go.Proofs.YtddfdmopaeghnabDoor
