/- Walk of pargetrysame.Ints: are two lists of numbers the same. Condition: both lie below the call's own blocks. -/
import Derived.Test.YtddfdmopaeghnabDoorNums
import Derived.Test.YtddfdmopaeghnabDoorDocW
import Derived.BigQuiet
import Derived.Deep.QuietTactic
namespace Go.Proofs.YtddfdmopaeghnabDoor
open Go.RowKit

theorem take_same {a b : List Int} {k : Nat} (h : a.take k = b.take k) (ha : k < a.length) (hb : k < b.length) (he : a[k] = b[k]) : a.take (k + 1) = b.take (k + 1) := by
  rw [List.take_succ_eq_append_getElem ha, List.take_succ_eq_append_getElem hb, h, he]

set_option maxHeartbeats 1000000 in
theorem ints_any (a b : List Int) (n m : Nat) (e1 : a.length = n) (e2 : b.length = m) (A B : Option Addr) (c d : Nat) (w : World) (ha : NumsI w w.heap.size A a) (hb : NumsI w w.heap.size B b) :
    Calls Tryd.prog 20 #[.slice A n c, .slice B m d] w (Ret w (.bool (decide (a = b)))) := by
  have hm := ha.2
  have hm2 := hb.2
  unfold maxLen at hm hm2
  have HA := Lib.hid ha; clear ha
  have HB := Lib.hid hb; clear hb
  by_cases hnm : n = m
  · subst hnm
    go_enter Tryd.func20, Tryd.ntmps20
    go_wp2
    go_loopw [5] (fun i wr => ∃ k : Nat, k ≤ n ∧ i = .int .i64 k ∧ a.take k = b.take k ∧ Below w.heap.size w wr) (fun i _ => n - (intOf i).toNat)
    case atStart => exact ⟨0, by omega, rfl, rfl, Below.refl _ _⟩
    case round =>
      obtain ⟨k, hk, rfl, ht, hBw⟩ := hrel
      have HT := Lib.hid ht; clear ht
      by_cases hlt : k < n
      · obtain ⟨b1, off, t, rfl, hb, ht, d1⟩ := HA.out.one hBw (k := k) (by omega)
        obtain ⟨b2, off2, t2, rfl, hb2, ht2, d4⟩ := HB.out.one hBw (k := k) (by omega)
        have HT1 := Lib.hid ht; have HT2 := Lib.hid ht2; clear ht ht2
        by_cases h : t = t2
        · subst h
          have HS := Lib.hid (take_same HT.out (by omega) (by omega) (by rw [HT1.out, HT2.out]))
          go_wp2
          go_quiet (fail)
          go_wp2
          go_roundw
          case rel => exact ⟨k + 1, by omega, by go_num, HS.out, below_drewN hBw _⟩
          case measure => simp [intOf]; omega
        · have k1 : decide (t = t2) = false := decide_eq_false h
          have HS : Hid (decide (a = b) = false) := Lib.hid (decide_eq_false (fun e => h (by rw [← HT1.out, ← HT2.out]; subst e; rfl)))
          go_wp2
          go_quiet (fail)
          go_wp2
          go_ret
          exact ⟨by rw [HS.out]; rfl, below_drewN hBw _⟩
      · have HS : Hid (decide (a = b) = true) := Lib.hid (decide_eq_true (by have := HT.out; rwa [List.take_of_length_le (by omega), List.take_of_length_le (by omega)] at this))
        go_wp2
        go_ret
        exact ⟨by rw [HS.out]; rfl, hBw⟩
  · have HS : Hid (decide (a = b) = false) := Lib.hid (decide_eq_false (fun e => hnm (by rw [← e1, ← e2, e])))
    have k1 : decide (n = m) = false := decide_eq_false hnm
    have k2 : decide ((n : Int) = (m : Int)) = false := decide_eq_false (by omega)
    go_enter Tryd.func20, Tryd.ntmps20
    go_wp2
    go_ret
    exact ⟨by rw [HS.out]; rfl, Below.refl _ _⟩
end Go.Proofs.YtddfdmopaeghnabDoor
