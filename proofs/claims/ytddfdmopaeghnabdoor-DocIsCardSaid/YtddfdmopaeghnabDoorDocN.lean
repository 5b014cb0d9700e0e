/- Walk: doc.End. Condition: the slice of nodes lies below the call's own blocks. -/
import Derived.Test.YtddfdmopaeghnabDoorEndsW
import Derived.Deep.RegionHeld3
namespace Go.Proofs.YtddfdmopaeghnabDoor
open Go.RowKit

set_option maxHeartbeats 1000000 in
theorem end_bad (l : List Nd) (A : Option Addr) (c : Nat) (i : Int) (w : World) (hl : Nds w w.heap.size A l) (he : checkF l ≠ 0) :
    Calls Tryd.prog 28 #[.slice A l.length c, .int .i64 i] w (Ret w (.tuple #[.int .i64 0, .iface 24 (.int .i64 (checkF l))])) := by
  have HC := Lib.hid (check_any l A c w hl)
  rw [← errV_pos he] at HC
  generalize checkF l = k at HC ⊢
  clear he hl
  go_enter Tryd.func28, Tryd.ntmps28
  go_wp2_with (go_at_call 24; refine HC.out.mono ?_; rintro e w1 ⟨rfl, hB1⟩)
  go_ret2
  exact ⟨rfl, (by repeat (first | exact Below.refl _ _ | assumption | apply Below.drew | refine below_drewN ?_ _ | apply Below.setCell _ (by first | omega | (simp; done) | (simp; omega)) | apply Below.alloc _ (by first | omega | (simp; done) | (simp; omega))))⟩

set_option maxHeartbeats 1000000 in
theorem end_out (l : List Nd) (A : Option Addr) (c : Nat) (i : Int) (w : World) (hl : Nds w w.heap.size A l) (he : checkF l = 0) (hi : i < 0 ∨ (l.length : Int) ≤ i) :
    Calls Tryd.prog 28 #[.slice A l.length c, .int .i64 i] w (Ret w (.tuple #[.int .i64 0, .iface 24 (.int .i64 1)])) := by
  have HC := Lib.hid (check_any l A c w hl)
  rw [← errV_zero he] at HC
  clear he hl
  rcases hi with hi | hi
  all_goals
    go_enter Tryd.func28, Tryd.ntmps28
    go_wp2_with (go_at_call 24; refine HC.out.mono ?_; rintro e w1 ⟨rfl, hB1⟩)
    go_ret2
    exact ⟨rfl, (by repeat (first | exact Below.refl _ _ | assumption | apply Below.drew | refine below_drewN ?_ _ | apply Below.setCell _ (by first | omega | (simp; done) | (simp; omega)) | apply Below.alloc _ (by first | omega | (simp; done) | (simp; omega))))⟩

set_option maxHeartbeats 1000000 in
theorem end_in {l : List Nd} {x : D} (hd : Doc l x) (A : Option Addr) (c : Nat) (i : Nat) (w : World) (hl : Nds w w.heap.size A l) (hi : i < l.length) :
    Calls Tryd.prog 28 #[.slice A l.length c, .int .i64 i] w (Ret w (.tuple #[.int .i64 (endAt l i : Nat), .nilIface])) := by
  have hm := hl.2.1
  unfold maxLen at hm
  have HC := Lib.hid (check_any l A c w hl)
  rw [← errV_zero hd.check] at HC
  have hv : (endsL l)[i]? = some (.int .i64 (endAt l i : Nat)) := by simp [endsL, hi]
  have HV := Lib.hid hv; clear hv
  have HD := Lib.hid hd; clear hd
  have HN := Lib.hid hl; clear hl
  generalize hE : endAt l i = E at HV ⊢
  clear hE
  go_enter Tryd.func28, Tryd.ntmps28
  go_wp2_with (first
    | (go_at_call 24; refine HC.out.mono ?_; rintro e w1 ⟨rfl, hB1⟩)
    | (go_at_call 60; refine (ends_any l x A c w1 (HN.out.past hB1) HD.out).mono ?_; rintro e w2 ⟨g, rfl, hown, hB2⟩; have hc := (hown.cellAt i (by omega)).trans HV.out; clear hown))
  go_ret2
  exact ⟨rfl, hB1.trans (hB2.mono hB1.size)⟩

end Go.Proofs.YtddfdmopaeghnabDoor
