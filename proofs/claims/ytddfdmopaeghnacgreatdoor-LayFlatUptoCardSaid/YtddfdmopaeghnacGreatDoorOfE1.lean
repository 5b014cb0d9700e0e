/- way.Of: the walk's heavy part 1. Nothing else. -/
import Derived.Test.YtddfdmopaeghnacGreatDoorOfE0
namespace Go.Proofs.YtddfdmopaeghnacGreatDoor
open Go.RowKit
set_option maxRecDepth 100000 in
set_option maxHeartbeats 40000000 in
theorem of_part1 : of_pre.1 := by
  intro l x A c w h400 i0 iS hiS hzS hzS1 hzS2 iT hiT hzT hzT1 hzT2 hmk HM HN HD zK_0 za_0 zJ_0 zKq_0 za_1 za_2
  go_region_with (go_at_call 90; refine (ends_any l x A c _ (HN.out.past (by repeat (first | exact Below.refl _ _ | assumption | apply Below.drew | refine below_drewN ?_ _ | apply Below.setCell _ (by first | omega | (simp; done) | (simp; omega)) | apply Below.alloc _ (by first | omega | (simp; done) | (simp; omega))))) HD.out).mono ?_; rintro e w2 ⟨g2, rfl, hown2, hB2⟩; have HW2 := Lib.hid hown2; clear hown2)
  all_goals go_wp2_with fail
  all_goals go_meet
  all_goals
    refine ps_mk (by first | rfl | (simp; done)) (by have := hB2.size; simp at this ⊢; first | done | omega) ?_ ?_ ?_ (by have := hB2.size; have := (HW2.out.lt g2 rfl).1; simp at *; first | done | omega) (by have := hB2.size; have := (HW2.out.lt g2 rfl); simp at *; first | done | omega) (by have := hB2.size; have := (HW2.out.lt g2 rfl); simp at *; first | done | omega) ?_
    · (repeat (first | ((refine own_made ?_ ?_ HM.out); (focus (first | rfl | (simp; done))); (focus (have hq := hB2.size; first | omega | (simp at hq ⊢; done) | (simp at hq ⊢; omega)))) | apply World.ownsRow.alloc | refine own_below ?_ hB2))
    · (repeat (first | ((refine own_made ?_ ?_ HM.out); (focus (first | rfl | (simp; done))); (focus (have hq := hB2.size; first | omega | (simp at hq ⊢; done) | (simp at hq ⊢; omega)))) | apply World.ownsRow.alloc | refine own_below ?_ hB2))
    · (repeat (first | exact own_more HW2.out (by simp; first | done | omega) | apply World.ownsRow.alloc))
    · have hsz := hB2.size
      (repeat (first | exact Below.refl _ _ | apply Below.drew | refine below_drewN ?_ _ | (refine Below.alloc ?_ (by simp at *; first | done | omega) _) | (refine Below.trans ?_ (hB2.mono (by simp; first | done | omega)))))
end Go.Proofs.YtddfdmopaeghnacGreatDoor
