/- plain.Told and pargetrysame.Error at nil and at an Errno. Condition: the variable errors.errorType holds the type error's handle. -/
import Derived.Test.YtddfdmopaeghnacDoorAs
import Derived.WalkSpells
import Derived.WalkLawsBesides
namespace Go.Proofs.YtddfdmopaeghnacDoor
open Go.RowKit

/-- The variable errors.errorType holds the handle of error. -/
def ErrT (w : World) : Prop := w.cell? ⟨0, 0, none⟩ = some (.iface 164 (.agg #[.pointer (some ⟨7, 31, none⟩)]))

set_option maxHeartbeats 1000000 in
theorem told_nil (w : World) : Calls Tryd.prog 26 #[.nilIface] w fun e w' => e = .returned (.int .i64 0) ∧ w = w' := by
  go_enter Tryd.func26, Tryd.ntmps26
  go_wp2_with fail
  go_ret
  exact ⟨rfl, rfl⟩

set_option maxHeartbeats 1000000 in
theorem told_hit (k : Int) (w : World) (hg : ErrT w) (hs : 0 + 1 ≤ w.heap.size) : Calls Tryd.prog 26 #[.iface 23 (.int .i64 k)] w (Ret w (.int .i64 k)) := by
  have hlt : (0 : Nat) < w.heap.size := by omega
  go_enter Tryd.func26, Tryd.ntmps26
  have hg2 : (w.alloc (.cells #[.int .i64 0] 23)).cell? ⟨0, 0, none⟩ = some (.iface 164 (.agg #[.pointer (some ⟨7, 31, none⟩)])) := by
    rw [World.cell?_alloc_lt _ _ ⟨0, 0, none⟩ hlt]; exact hg
  have HG := Lib.hid hg2; clear hg2 hg
  go_wp2_with (go_at_call 54; refine (as_hit k ⟨w.heap.size, 0, none⟩ (.int .i64 0) _ HG.out (by simp) (by simp)).mono ?_; rintro e w1 ⟨rfl, rfl⟩)
  go_ret
  exact ⟨rfl, (by repeat (first | exact Below.refl _ _ | assumption | apply Below.drew | refine below_drewN ?_ _ | apply Below.setCell _ (by first | omega | (simp; done) | (simp; omega)) | apply Below.alloc _ (by first | omega | (simp; done) | (simp; omega))))⟩

/-- pargetrysame.Error: is the error's number this one? -/
theorem same_error (n e : Int) (w : World) (hg : ErrT w) (hs : 0 + 1 ≤ w.heap.size) : Calls Tryd.prog 8 #[errV n, .int .i64 e] w (Ret w (.bool (n == e))) := by
  by_cases hn : n = 0
  · subst hn
    rw [← errV_zero rfl]
    clear hg
    by_cases he : e = 0
    · subst he
      go_enter Tryd.func8, Tryd.ntmps8
      go_wp2_with (go_at_call 26; refine (told_nil _).mono ?_; rintro e w1 ⟨rfl, rfl⟩)
      go_ret
      exact ⟨by simp, Below.refl _ _⟩
    · have h0 : ((0 : Int) == e) = false := by simp; omega
      have H0 := Lib.hid h0
      go_enter Tryd.func8, Tryd.ntmps8
      go_wp2_with (go_at_call 26; refine (told_nil _).mono ?_; rintro e w1 ⟨rfl, rfl⟩)
      go_ret
      exact ⟨by rw [H0.out]; rfl, Below.refl _ _⟩
  · rw [← errV_pos hn]
    have HG := Lib.hid hg; clear hg
    clear hn
    go_enter Tryd.func8, Tryd.ntmps8
    go_wp2_with (go_at_call 26; refine (told_hit n _ HG.out hs).mono ?_; rintro e w1 ⟨rfl, hB1⟩)
    go_ret
    exact ⟨rfl, hB1⟩
end Go.Proofs.YtddfdmopaeghnacDoor
