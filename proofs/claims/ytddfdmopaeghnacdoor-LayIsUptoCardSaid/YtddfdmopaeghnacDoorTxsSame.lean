/- Walk of pargetrysame.Texts at two slices that read alike. Condition: both lie below the call's own blocks. -/
import Derived.Test.YtddfdmopaeghnacDoorTreeW
import Derived.BigQuiet
import Derived.Deep.QuietTactic
namespace Go.Proofs.YtddfdmopaeghnacDoor
open Go.RowKit

theorem bytes_same (t : ByteArray) : (t.toList == t.toList) = true := by simp

set_option maxHeartbeats 1000000 in
theorem texts_same (a : List ByteArray) (n : Nat) (e1 : a.length = n) (A B : Option Addr) (c d : Nat) (w : World) (ha : Txs w w.heap.size A a) (hb : Txs w w.heap.size B a) :
    Calls Tryd.prog 16 #[.slice A n c, .slice B n d] w (Ret w (.bool true)) := by
  have hm := ha.2.1
  unfold maxLen at hm
  have HA := Lib.hid ha; clear ha
  have HB := Lib.hid hb; clear hb
  go_enter Tryd.func16, Tryd.ntmps16
  go_wp2
  go_loopw [5] (fun i wr => ∃ k : Nat, k ≤ n ∧ i = .int .i64 k ∧ Below w.heap.size w wr) (fun i _ => n - (intOf i).toNat)
  case atStart => exact ⟨0, by omega, rfl, Below.refl _ _⟩
  case round =>
    obtain ⟨k, hk, rfl, hBw⟩ := hrel
    by_cases hlt : k < n
    · obtain ⟨b1, off, t, rfl, hb, ht, hts, d1⟩ := HA.out.one hBw (k := k) (by omega)
      obtain ⟨b2, off2, t2, rfl, hb2, ht2, hts2, d4⟩ := HB.out.one hBw (k := k) (by omega)
      obtain rfl : t = t2 := by rw [← ht, ← ht2]
      clear ht ht2
      go_wp2
      go_quiet (fail)
      go_wp2
      go_roundw
      case rel => exact ⟨k + 1, by omega, by go_num, below_drewN hBw _⟩
      case measure => simp [intOf]; omega
    · go_wp2
      go_ret
      exact ⟨rfl, hBw⟩

end Go.Proofs.YtddfdmopaeghnacDoor
