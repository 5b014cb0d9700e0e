/- Walks of package lex: the classes of bytes, long, note, first, many. Conditions: a slice of texts lies below the call's own blocks; the text of first is not empty. -/
import Derived.Test.YtddfdmopaeghnacGreatDoorTreeW
import Derived.Test.YtddfdmopaeghnacGreatDoorLexP
import Derived.Test.YtddfdmopaeghnacGreatDoorShelf
namespace Go.Proofs.YtddfdmopaeghnacGreatDoor
open Go.RowKit

theorem runB_at {p : UInt8 → Bool} {l : List UInt8} {k : Nat} (ha : (l.take k).all p = true) (hk : k < l.length) (hp : p l[k] = false) : runB p l = k := by
  induction l generalizing k with
  | nil => simp at hk
  | cons c r ih =>
    cases k with
    | zero => simp at hp; simp [runB, hp]
    | succ k =>
      simp only [List.take_succ_cons, List.all_cons, Bool.and_eq_true] at ha
      rw [runB, if_pos ha.1, ih ha.2 (by simpa using hk) (by simpa using hp)]
theorem runB_end {p : UInt8 → Bool} {s : ByteArray} {k : Nat} (ha : (s.data.toList.take k).all p = true) (hk : s.size ≤ k) (hk2 : k ≤ s.size) : runB p s.data.toList = k := by
  have h := all_yes ha hk
  rw [runB_all (fun c hc => List.all_eq_true.1 h c hc)]
  simp; omega
theorem runB_stop {p : UInt8 → Bool} {s : ByteArray} {k : Nat} (ha : (s.data.toList.take k).all p = true) (hk : k < s.size) (hp : p s[k] = false) : runB p s.data.toList = k :=
  runB_at ha (by simpa using hk) hp

set_option maxHeartbeats 400000 in
theorem letter_is {c : UInt8} {b : Bool} (h : lowB c = b) (w : World) : Calls Tryz.prog 116 #[.int .u8 (c.toNat : Int)] w fun e w' => e = .returned (.bool b) ∧ w = w' := by
  have hc := c.toNat_lt
  generalize hn : c.toNat = n at *
  unfold lowB at h
  rw [hn] at h
  clear hn
  have hcs : n < 97 ∨ 122 < n ∨ (97 ≤ n ∧ n ≤ 122) := by omega
  rcases hcs with h1 | h1 | ⟨h1, h2⟩
  · have hb : b = false := by rw [← h]; simp; omega
    subst hb; clear h
    go_enter Tryz.func116, Tryz.ntmps116
    go_wp2
    go_ret
    exact ⟨by first | rfl | (simp; done) | (simp; omega), rfl⟩
  · have hb : b = false := by rw [← h]; simp; omega
    have h3 : 97 ≤ n := by omega
    subst hb; clear h
    go_enter Tryz.func116, Tryz.ntmps116
    go_wp2
    go_ret
    exact ⟨by first | rfl | (simp; done) | (simp; omega), rfl⟩
  · have hb : b = true := by rw [← h]; simp; omega
    subst hb; clear h
    go_enter Tryz.func116, Tryz.ntmps116
    go_wp2
    go_ret
    exact ⟨by first | rfl | (simp; done) | (simp; omega), rfl⟩

set_option maxHeartbeats 400000 in
theorem digit_is {c : UInt8} {b : Bool} (h : digB c = b) (w : World) : Calls Tryz.prog 118 #[.int .u8 (c.toNat : Int)] w fun e w' => e = .returned (.bool b) ∧ w = w' := by
  have hc := c.toNat_lt
  generalize hn : c.toNat = n at *
  unfold digB at h
  rw [hn] at h
  clear hn
  have hcs : n < 48 ∨ 57 < n ∨ (48 ≤ n ∧ n ≤ 57) := by omega
  rcases hcs with h1 | h1 | ⟨h1, h2⟩
  · have hb : b = false := by rw [← h]; simp; omega
    subst hb; clear h
    go_enter Tryz.func118, Tryz.ntmps118
    go_wp2
    go_ret
    exact ⟨by first | rfl | (simp; done) | (simp; omega), rfl⟩
  · have hb : b = false := by rw [← h]; simp; omega
    have h3 : 48 ≤ n := by omega
    subst hb; clear h
    go_enter Tryz.func118, Tryz.ntmps118
    go_wp2
    go_ret
    exact ⟨by first | rfl | (simp; done) | (simp; omega), rfl⟩
  · have hb : b = true := by rw [← h]; simp; omega
    subst hb; clear h
    go_enter Tryz.func118, Tryz.ntmps118
    go_wp2
    go_ret
    exact ⟨by first | rfl | (simp; done) | (simp; omega), rfl⟩

set_option maxHeartbeats 400000 in
theorem vis_is {c : UInt8} {b : Bool} (h : prB c = b) (w : World) : Calls Tryz.prog 169 #[.int .u8 (c.toNat : Int)] w fun e w' => e = .returned (.bool b) ∧ w = w' := by
  have hc := c.toNat_lt
  generalize hn : c.toNat = n at *
  unfold prB at h
  rw [hn] at h
  clear hn
  have hcs : n < 32 ∨ 126 < n ∨ (32 ≤ n ∧ n ≤ 126) := by omega
  rcases hcs with h1 | h1 | ⟨h1, h2⟩
  · have hb : b = false := by rw [← h]; simp; omega
    subst hb; clear h
    go_enter Tryz.func169, Tryz.ntmps169
    go_wp2
    go_ret
    exact ⟨by first | rfl | (simp; done) | (simp; omega), rfl⟩
  · have hb : b = false := by rw [← h]; simp; omega
    have h3 : 32 ≤ n := by omega
    subst hb; clear h
    go_enter Tryz.func169, Tryz.ntmps169
    go_wp2
    go_ret
    exact ⟨by first | rfl | (simp; done) | (simp; omega), rfl⟩
  · have hb : b = true := by rw [← h]; simp; omega
    subst hb; clear h
    go_enter Tryz.func169, Tryz.ntmps169
    go_wp2
    go_ret
    exact ⟨by first | rfl | (simp; done) | (simp; omega), rfl⟩

set_option maxHeartbeats 400000 in
theorem noline_is {c : UInt8} {b : Bool} (h : nlB c = b) (w : World) : Calls Tryz.prog 168 #[.int .u8 (c.toNat : Int)] w fun e w' => e = .returned (.bool b) ∧ w = w' := by
  have hn : nlB c = !((c.toNat : Int) == 10) := by
    unfold nlB
    congr 1
    rw [Bool.eq_iff_iff]
    simp only [beq_iff_eq]
    constructor
    · rintro rfl; rfl
    · intro h; exact UInt8.toNat_inj.1 (by have : c.toNat = 10 := by omega
                                           rw [this]; rfl)
  rw [h] at hn
  generalize c.toNat = n at *
  cases b with
  | true =>
    have h1 : ((n : Int) == 10) = false := by simpa using hn
    have h2 : ((n : Int) != 10) = true := by simpa using hn
    clear hn h
    go_enter Tryz.func168, Tryz.ntmps168
    go_wp2
    go_ret
    exact ⟨rfl, rfl⟩
  | false =>
    have h1 : ((n : Int) == 10) = true := by simpa using hn
    have h2 : ((n : Int) != 10) = false := by simpa using hn
    clear hn h
    go_enter Tryz.func168, Tryz.ntmps168
    go_wp2
    go_ret
    exact ⟨rfl, rfl⟩

set_option maxHeartbeats 1000000 in
theorem long_letter (s : ByteArray) (w : World) (hs : s.size ≤ maxLen) : Calls Tryz.prog 117 #[.func (.func 116) #[] #[], .string s] w fun e w' => e = .returned (.int .i64 (runB lowB s.data.toList : Nat)) ∧ w = w' := by
  unfold maxLen at hs
  go_enter Tryz.func117, Tryz.ntmps117
  go_wp2
  go_loop [5] (fun i => ∃ k : Nat, k ≤ s.size ∧ i = .int .i64 k ∧ (s.data.toList.take k).all lowB = true) (fun i => s.size - (intOf i).toNat)
  case atStart => exact ⟨0, Nat.zero_le _, rfl, rfl⟩
  case round =>
    obtain ⟨k, hk, rfl, ha⟩ := hrel
    have HA := Lib.hid ha; clear ha
    by_cases hlt : k < s.size
    · cases hb : lowB s[k] with
      | true =>
        have HC := Lib.hid (letter_is hb)
        have HG := Lib.hid (all_more HA.out hlt hb); clear hb
        go_wp2_with (go_at_call 116; refine (HC.out _).mono ?_; rintro e w' ⟨rfl, rfl⟩)
        go_round
        case rel => exact ⟨k + 1, by omega, by go_num, HG.out⟩
        case measure => simp [intOf]; omega
      | false =>
        have HC := Lib.hid (letter_is hb)
        have HG := Lib.hid (runB_stop HA.out hlt hb); clear hb
        go_wp2_with (go_at_call 116; refine (HC.out _).mono ?_; rintro e w' ⟨rfl, rfl⟩)
        go_ret
        exact ⟨by rw [HG.out]; rfl, rfl⟩
    · have HG := Lib.hid (runB_end HA.out (by omega) hk)
      go_wp2
      go_ret
      exact ⟨by rw [HG.out]; rfl, rfl⟩

set_option maxHeartbeats 1000000 in
theorem long_digit (s : ByteArray) (w : World) (hs : s.size ≤ maxLen) : Calls Tryz.prog 117 #[.func (.func 118) #[] #[], .string s] w fun e w' => e = .returned (.int .i64 (runB digB s.data.toList : Nat)) ∧ w = w' := by
  unfold maxLen at hs
  go_enter Tryz.func117, Tryz.ntmps117
  go_wp2
  go_loop [5] (fun i => ∃ k : Nat, k ≤ s.size ∧ i = .int .i64 k ∧ (s.data.toList.take k).all digB = true) (fun i => s.size - (intOf i).toNat)
  case atStart => exact ⟨0, Nat.zero_le _, rfl, rfl⟩
  case round =>
    obtain ⟨k, hk, rfl, ha⟩ := hrel
    have HA := Lib.hid ha; clear ha
    by_cases hlt : k < s.size
    · cases hb : digB s[k] with
      | true =>
        have HC := Lib.hid (digit_is hb)
        have HG := Lib.hid (all_more HA.out hlt hb); clear hb
        go_wp2_with (go_at_call 118; refine (HC.out _).mono ?_; rintro e w' ⟨rfl, rfl⟩)
        go_round
        case rel => exact ⟨k + 1, by omega, by go_num, HG.out⟩
        case measure => simp [intOf]; omega
      | false =>
        have HC := Lib.hid (digit_is hb)
        have HG := Lib.hid (runB_stop HA.out hlt hb); clear hb
        go_wp2_with (go_at_call 118; refine (HC.out _).mono ?_; rintro e w' ⟨rfl, rfl⟩)
        go_ret
        exact ⟨by rw [HG.out]; rfl, rfl⟩
    · have HG := Lib.hid (runB_end HA.out (by omega) hk)
      go_wp2
      go_ret
      exact ⟨by rw [HG.out]; rfl, rfl⟩

set_option maxHeartbeats 1000000 in
theorem long_vis (s : ByteArray) (w : World) (hs : s.size ≤ maxLen) : Calls Tryz.prog 117 #[.func (.func 169) #[] #[], .string s] w fun e w' => e = .returned (.int .i64 (runB prB s.data.toList : Nat)) ∧ w = w' := by
  unfold maxLen at hs
  go_enter Tryz.func117, Tryz.ntmps117
  go_wp2
  go_loop [5] (fun i => ∃ k : Nat, k ≤ s.size ∧ i = .int .i64 k ∧ (s.data.toList.take k).all prB = true) (fun i => s.size - (intOf i).toNat)
  case atStart => exact ⟨0, Nat.zero_le _, rfl, rfl⟩
  case round =>
    obtain ⟨k, hk, rfl, ha⟩ := hrel
    have HA := Lib.hid ha; clear ha
    by_cases hlt : k < s.size
    · cases hb : prB s[k] with
      | true =>
        have HC := Lib.hid (vis_is hb)
        have HG := Lib.hid (all_more HA.out hlt hb); clear hb
        go_wp2_with (go_at_call 169; refine (HC.out _).mono ?_; rintro e w' ⟨rfl, rfl⟩)
        go_round
        case rel => exact ⟨k + 1, by omega, by go_num, HG.out⟩
        case measure => simp [intOf]; omega
      | false =>
        have HC := Lib.hid (vis_is hb)
        have HG := Lib.hid (runB_stop HA.out hlt hb); clear hb
        go_wp2_with (go_at_call 169; refine (HC.out _).mono ?_; rintro e w' ⟨rfl, rfl⟩)
        go_ret
        exact ⟨by rw [HG.out]; rfl, rfl⟩
    · have HG := Lib.hid (runB_end HA.out (by omega) hk)
      go_wp2
      go_ret
      exact ⟨by rw [HG.out]; rfl, rfl⟩

set_option maxHeartbeats 1000000 in
theorem long_noline (s : ByteArray) (w : World) (hs : s.size ≤ maxLen) : Calls Tryz.prog 117 #[.func (.func 168) #[] #[], .string s] w fun e w' => e = .returned (.int .i64 (runB nlB s.data.toList : Nat)) ∧ w = w' := by
  unfold maxLen at hs
  go_enter Tryz.func117, Tryz.ntmps117
  go_wp2
  go_loop [5] (fun i => ∃ k : Nat, k ≤ s.size ∧ i = .int .i64 k ∧ (s.data.toList.take k).all nlB = true) (fun i => s.size - (intOf i).toNat)
  case atStart => exact ⟨0, Nat.zero_le _, rfl, rfl⟩
  case round =>
    obtain ⟨k, hk, rfl, ha⟩ := hrel
    have HA := Lib.hid ha; clear ha
    by_cases hlt : k < s.size
    · cases hb : nlB s[k] with
      | true =>
        have HC := Lib.hid (noline_is hb)
        have HG := Lib.hid (all_more HA.out hlt hb); clear hb
        go_wp2_with (go_at_call 168; refine (HC.out _).mono ?_; rintro e w' ⟨rfl, rfl⟩)
        go_round
        case rel => exact ⟨k + 1, by omega, by go_num, HG.out⟩
        case measure => simp [intOf]; omega
      | false =>
        have HC := Lib.hid (noline_is hb)
        have HG := Lib.hid (runB_stop HA.out hlt hb); clear hb
        go_wp2_with (go_at_call 168; refine (HC.out _).mono ?_; rintro e w' ⟨rfl, rfl⟩)
        go_ret
        exact ⟨by rw [HG.out]; rfl, rfl⟩
    · have HG := Lib.hid (runB_end HA.out (by omega) hk)
      go_wp2
      go_ret
      exact ⟨by rw [HG.out]; rfl, rfl⟩

set_option maxHeartbeats 1000000 in
theorem note_any (s : ByteArray) (w : World) (hs : s.size ≤ maxLen) : Calls Tryz.prog 119 #[.string s] w fun e w' => e = .returned (.tuple #[.int .i64 (runB nlB s.data.toList : Nat), .bool (decide (runB nlB s.data.toList ≤ runB prB s.data.toList))]) ∧ w = w' := by
  have H1 := Lib.hid (fun w' => long_noline s w' hs)
  have H2 := Lib.hid (fun w' => long_vis s w' hs)
  generalize runB nlB s.data.toList = x at *
  generalize runB prB s.data.toList = y at *
  clear hs
  by_cases h : x ≤ y
  · have hd : decide (x ≤ y) = true := by simpa using h
    rw [hd]
    go_enter Tryz.func119, Tryz.ntmps119
    go_wp2_with (first
      | (go_at_call 117; (fail_if_success have hz := T1); refine (H1.out _).mono ?_; rintro e w' ⟨rfl, rfl⟩; have T1 : True := trivial)
      | (go_at_call 117; refine (H2.out _).mono ?_; rintro e w' ⟨rfl, rfl⟩))
    go_ret2
    exact ⟨by first | rfl | (simp; done) | (simp; omega), rfl⟩
  · have hd : decide (x ≤ y) = false := by simpa using h
    rw [hd]
    go_enter Tryz.func119, Tryz.ntmps119
    go_wp2_with (first
      | (go_at_call 117; (fail_if_success have hz := T1); refine (H1.out _).mono ?_; rintro e w' ⟨rfl, rfl⟩; have T1 : True := trivial)
      | (go_at_call 117; refine (H2.out _).mono ?_; rintro e w' ⟨rfl, rfl⟩))
    go_ret2
    exact ⟨by first | rfl | (simp; done) | (simp; omega), rfl⟩
end Go.Proofs.YtddfdmopaeghnacGreatDoor
