/- Walk of the law's helper ahead, in the form that a drawn region wants. Condition: both lists lie below the call's own blocks. -/
import Derived.Test.YtddfdmopaeghnabIntsW
namespace Go.Proofs.Ytddfdmopaeghnab
open Go.RowKit

set_option maxHeartbeats 1000000 in
theorem ahead_q (a b : List Int) (n m : Nat) (e1 : a.length = n) (e2 : b.length = m) (A B : Option Addr) (c d : Nat) (w : World) (ha : NumsI w w.heap.size A a) (hb : NumsI w w.heap.size B b) :
    Calls Try.prog 13 #[.slice A n c, .slice B m d] w fun e w' => e = .returned (.bool (aheadL a b)) ∧ ∃ m, w' = w.drewN m := by
  have hm := ha.2
  have hm2 := hb.2
  unfold maxLen at hm hm2
  have HA := Lib.hid ha; clear ha
  have HB := Lib.hid hb; clear hb
  go_enter Try.func13, Try.ntmps13
  go_wp2
  go_loopw [5] (fun i wr => ∃ k : Nat, k ≤ n ∧ k ≤ m ∧ i = .int .i64 k ∧ aheadL a b = aheadL (a.drop k) (b.drop k) ∧ ∃ q, wr = w.drewN q) (fun i _ => n - (intOf i).toNat)
  case atStart => exact ⟨0, by omega, by omega, rfl, rfl, 0, rfl⟩
  case round =>
    obtain ⟨k, hk, hk2, rfl, ht, dq, hdq⟩ := hrel
    have hBw : Below w.heap.size w wr := by rw [hdq]; exact below_drewN (Below.refl _ _) _
    have HDQ := Lib.hid hdq; clear hdq
    have HT := Lib.hid ht; clear ht
    by_cases hlt : k < n
    · have q1 : decide (k < n) = true := decide_eq_true hlt
      have q2 : decide ((k : Int) < (n : Int)) = true := decide_eq_true (by omega)
      by_cases hlt2 : k < m
      · have q3 : decide (k < m) = true := decide_eq_true hlt2
        have q4 : decide ((k : Int) < (m : Int)) = true := decide_eq_true (by omega)
        obtain ⟨b1, off, t, rfl, hb, ht, d1⟩ := HA.out.one hBw (k := k) (by omega)
        obtain ⟨b2, off2, t2, rfl, hb2, ht2, d4⟩ := HB.out.one hBw (k := k) (by omega)
        have HT1 := Lib.hid ht; have HT2 := Lib.hid ht2; clear ht ht2
        by_cases h : t = t2
        · subst h
          have HS := Lib.hid (ahead_step HT.out (by omega) (by omega) (by rw [HT1.out, HT2.out]))
          go_wp2
          go_quiet (fail)
          go_wp2
          go_roundw
          case rel => exact ⟨k + 1, by omega, by omega, by go_num, HS.out, by rw [HDQ.out, World.drewN_drewN]; exact ⟨_, rfl⟩⟩
          case measure => simp [intOf]; omega
        · have k1 : decide (t = t2) = false := decide_eq_false h
          have HS : Hid (aheadL a b = decide (t < t2)) := Lib.hid (by have := ahead_here HT.out (by omega) (by omega) (by rw [HT1.out, HT2.out]; exact h); rw [HT1.out, HT2.out] at this; exact this)
          go_wp2
          go_quiet (fail)
          go_wp2
          go_quiet (fail)
          go_wp2
          go_ret
          exact ⟨by rw [HS.out]; rfl, by rw [HDQ.out, World.drewN_drewN, World.drewN_drewN]; exact ⟨_, rfl⟩⟩
      · have q3 : decide (k < m) = false := decide_eq_false hlt2
        have q4 : decide ((k : Int) < (m : Int)) = false := decide_eq_false (by omega)
        have HS := Lib.hid (ahead_none HT.out (.inr (by omega)))
        go_wp2
        go_ret
        exact ⟨by rw [HS.out]; rfl, _, HDQ.out⟩
    · have q1 : decide (k < n) = false := decide_eq_false hlt
      have q2 : decide ((k : Int) < (n : Int)) = false := decide_eq_false (by omega)
      have HS := Lib.hid (ahead_none HT.out (.inl (by omega)))
      go_wp2
      go_ret
      exact ⟨by rw [HS.out]; rfl, _, HDQ.out⟩
end Go.Proofs.Ytddfdmopaeghnab
