/- The contract of flat.Flat, whatever the nodes. Condition: the slice lies below the call's own blocks. -/
import Derived.Test.YtddfdmopaeghnacGreatDoorFlatW
namespace Go.Proofs.YtddfdmopaeghnacGreatDoor
open Go.RowKit

def flatF (l : List Nd) : (ByteArray × Bool) × Int := if checkF l = 0 then (lineAt l 0, 0) else ((.empty, false), checkF l)

theorem flatF_err {l : List Nd} (h : checkF l ≠ 0) : flatF l = ((.empty, false), checkF l) := by rw [flatF, if_neg h]
theorem Doc.flatF {l : List Nd} {x : D} (h : Doc l x) : flatF l = (lineOf x.flat, 0) := by rw [Go.Proofs.YtddfdmopaeghnacGreatDoor.flatF, if_pos h.check, lineAt, h.root]

set_option maxHeartbeats 1000000 in
theorem flat_any (l : List Nd) (n : Nat) (hn : l.length = n) (A : Option Addr) (c : Nat) (w : World) (hl : Nds w w.heap.size A l) :
    Calls Tryz.prog 14 #[.slice A n c] w (Ret w (.tuple #[.string (flatF l).1.1, .bool (flatF l).1.2, errV (flatF l).2])) := by
  subst hn
  by_cases he : checkF l = 0
  · obtain ⟨x, hd⟩ := Doc.of_check he
    have hp := hd.pos
    have hF := Lib.hid hd.flatF
    have HN := Lib.hid hl; clear hl
    have HD := Lib.hid hd; clear hd
    have HE := Lib.hid he; clear he
    rw [hF.out]
    go_enter Tryz.func14, Tryz.ntmps14
    go_wp2_with (first
      | (go_at_call 43; refine (check_any l A c w HN.out).mono ?_; rintro e w1 ⟨rfl, hB1⟩; rw [← errV_zero HE.out])
      | (go_at_call 44; refine (lines_any l x A c w1 (HN.out.past hB1) HD.out).mono ?_; rintro e w2 ⟨g, rfl, hown, hB2⟩; have hc1 := (hown.cellAt 0 (by omega)).trans (linesL_at l 0 hp).1; have hc2 := (hown.cellAt 1 (by omega)).trans (linesL_at l 0 hp).2; clear hown; rw [lineAt, HD.out.root] at hc1 hc2)
      | (go_at_call 45; refine (lineText_any _ _ _).mono ?_; rintro e w3 ⟨rfl, hB3⟩))
    go_ret3
    exact ⟨rfl, (hB1.trans (hB2.mono hB1.size)).trans (hB3.mono (Nat.le_trans hB1.size hB2.size))⟩
  · rw [flatF_err he]
    have HN := Lib.hid hl; clear hl
    have HE := Lib.hid he; clear he
    go_enter Tryz.func14, Tryz.ntmps14
    go_wp2_with (go_at_call 43; refine (check_any l A c w HN.out).mono ?_; rintro e w1 ⟨rfl, hB1⟩; rw [← errV_pos HE.out])
    go_ret3
    exact ⟨by rw [← errV_pos HE.out]; rfl, hB1⟩
theorem flat_ok {l : List Nd} {x : D} (hd : Doc l x) {s : ByteArray} {b : Bool} (hf : lineOf x.flat = (s, b)) (n : Nat) (hn : l.length = n) (A : Option Addr) (c : Nat) (w : World) (hl : Nds w w.heap.size A l) :
    Calls Tryz.prog 14 #[.slice A n c] w (Ret w (.tuple #[.string s, .bool b, .nilIface])) := by
  have h := flat_any l n hn A c w hl
  rw [hd.flatF, hf] at h
  exact h
theorem flat_bad {l : List Nd} (he : checkF l ≠ 0) (n : Nat) (hn : l.length = n) (A : Option Addr) (c : Nat) (w : World) (hl : Nds w w.heap.size A l) :
    Calls Tryz.prog 14 #[.slice A n c] w (Ret w (.tuple #[.string .empty, .bool false, .iface 43 (.int .i64 (checkF l))])) := by
  have h := flat_any l n hn A c w hl
  rw [flatF_err he, ← errV_pos he] at h
  exact h
end Go.Proofs.YtddfdmopaeghnacGreatDoor
