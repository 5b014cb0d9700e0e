/- Walks of package lex: first, many. Conditions: a slice of texts lies below the call's own blocks; no text is empty. -/
import Derived.Test.YtddfdmopaeghnacGreatDoorManyP
import Derived.Test.YtddfdmopaeghnacGreatDoorLexW
namespace Go.Proofs.YtddfdmopaeghnacGreatDoor
open Go.RowKit

theorem sign_all : ∀ n : Fin 256, decide (0 ≤ Lib.indexByte [40, 41, 91, 93, 44, 43, 42, 61, 59] (UInt8.ofNat n.val)) = signs.contains (UInt8.ofNat n.val) := by decide +kernel
theorem sign_is (c : UInt8) : decide (0 ≤ Lib.indexByte [40, 41, 91, 93, 44, 43, 42, 61, 59] c) = signs.contains c := by
  have h := sign_all ⟨c.toNat, c.toNat_lt⟩
  simpa using h

theorem byte_cons {s : ByteArray} (h0 : 0 < s.size) : ∃ r, s.data.toList = s[0] :: r := by
  have h : 0 < s.data.toList.length := by simpa using h0
  cases hl : s.data.toList with
  | nil => rw [hl] at h; simp at h
  | cons c r =>
    refine ⟨r, ?_⟩
    have : s[0] = s.data.toList[0] := rfl
    rw [this]
    simp [hl]

theorem byte_eq (c d : UInt8) : ((c.toNat : Int) == (d.toNat : Int)) = (c == d) := by
  rw [Bool.eq_iff_iff]
  simp only [beq_iff_eq]
  constructor
  · intro h; exact UInt8.toNat_inj.1 (by omega)
  · rintro rfl; rfl

set_option maxHeartbeats 2000000 in
theorem first_any (s : ByteArray) (w : World) (hs : s.size ≤ maxLen) (h0 : 0 < s.size) :
    Calls Tryz.prog 71 #[.string s] w fun e w' => e = .returned (.tuple #[.int .i64 ((firstW s.data.toList).1 : Nat), .bool (firstW s.data.toList).2]) ∧ w = w' := by
  obtain ⟨r, hr⟩ := byte_cons h0
  have hf := firstW_cons s[0] r
  rw [← hr] at hf
  have HF := Lib.hid hf; clear hf hr
  have hs2 := hs
  unfold maxLen at hs2
  have h35 := byte_eq s[0] 35
  have h48 := byte_eq s[0] 48
  cases hlo : lowB s[0] with
  | true =>
    have HB := Lib.hid (letter_is hlo)
    have HL := Lib.hid (fun w' => long_letter s w' hs)
    rw [HF.out, if_pos hlo]
    clear h35 h48 hlo HF
    generalize runB lowB s.data.toList = n at *
    by_cases h8 : n ≤ 8
    · have hd : decide (n ≤ 8) = true := by simpa using h8
      rw [hd]; clear hd
      go_enter Tryz.func71, Tryz.ntmps71
      go_wp2_with (first
        | (go_at_call 116; refine (HB.out _).mono ?_; rintro e w' ⟨rfl, rfl⟩)
        | (go_at_call 117; refine (HL.out _).mono ?_; rintro e w' ⟨rfl, rfl⟩))
      go_ret2
      exact ⟨by first | rfl | (simp; done) | (simp; omega), rfl⟩
    · have hd : decide (n ≤ 8) = false := by simpa using h8
      rw [hd]; clear hd
      go_enter Tryz.func71, Tryz.ntmps71
      go_wp2_with (first
        | (go_at_call 116; refine (HB.out _).mono ?_; rintro e w' ⟨rfl, rfl⟩)
        | (go_at_call 117; refine (HL.out _).mono ?_; rintro e w' ⟨rfl, rfl⟩))
      go_ret2
      exact ⟨by first | rfl | (simp; done) | (simp; omega), rfl⟩
  | false =>
    have HB := Lib.hid (letter_is hlo)
    cases hdi : digB s[0] with
    | true =>
      have HD := Lib.hid (digit_is hdi)
      have HL := Lib.hid (fun w' => long_digit s w' hs)
      rw [HF.out, if_neg (by simp [hlo]), if_pos hdi]
      clear h35 hlo HF hdi
      generalize runB digB s.data.toList = n at *
      have hcs : (6 < n) ∨ (n ≤ 6 ∧ n = 1) ∨ (n ≤ 6 ∧ n ≠ 1) := by omega
      rcases hcs with h6 | ⟨h6, rfl⟩ | ⟨h6, hn1⟩
      · have hd : (decide (n ≤ 6) && (decide (n = 1) || !(s[0] == 48))) = false := by
          have : decide (n ≤ 6) = false := by simp; omega
          rw [this]; rfl
        rw [hd]; clear hd h48
        go_enter Tryz.func71, Tryz.ntmps71
        go_wp2_with (first
          | (go_at_call 116; refine (HB.out _).mono ?_; rintro e w' ⟨rfl, rfl⟩)
          | (go_at_call 118; refine (HD.out _).mono ?_; rintro e w' ⟨rfl, rfl⟩)
          | (go_at_call 117; refine (HL.out _).mono ?_; rintro e w' ⟨rfl, rfl⟩))
        go_ret2
        exact ⟨by first | rfl | (simp; done) | (simp; omega), rfl⟩
      · have hd : (decide (1 ≤ 6) && (decide (1 = 1) || !(s[0] == 48))) = true := rfl
        rw [hd]; clear hd h48
        go_enter Tryz.func71, Tryz.ntmps71
        go_wp2_with (first
          | (go_at_call 116; refine (HB.out _).mono ?_; rintro e w' ⟨rfl, rfl⟩)
          | (go_at_call 118; refine (HD.out _).mono ?_; rintro e w' ⟨rfl, rfl⟩)
          | (go_at_call 117; refine (HL.out _).mono ?_; rintro e w' ⟨rfl, rfl⟩))
        go_ret2
        exact ⟨by first | rfl | (simp; done) | (simp; omega), rfl⟩
      · have hb1 : ((n : Int) == 1) = false := by simp; omega
        have hd : (decide (n ≤ 6) && (decide (n = 1) || !(s[0] == 48))) = !(s[0] == 48) := by
          have h1 : decide (n ≤ 6) = true := by simpa using h6
          have h2 : decide (n = 1) = false := by simpa using hn1
          rw [h1, h2]; simp
        rw [hd]; clear hd
        rw [← h48]
        clear h48 hn1
        cases h4 : ((s[0].toNat : Int) == ((48 : UInt8).toNat : Int)) with
        | true =>
          have h5 : ((s[0].toNat : Int) == 48) = true := h4
          have h6 : ((s[0].toNat : Int) != 48) = false := by simp [bne, h5]
          go_enter Tryz.func71, Tryz.ntmps71
          go_wp2_with (first
            | (go_at_call 116; refine (HB.out _).mono ?_; rintro e w' ⟨rfl, rfl⟩)
            | (go_at_call 118; refine (HD.out _).mono ?_; rintro e w' ⟨rfl, rfl⟩)
            | (go_at_call 117; refine (HL.out _).mono ?_; rintro e w' ⟨rfl, rfl⟩))
          go_ret2
          exact ⟨rfl, rfl⟩
        | false =>
          have h5 : ((s[0].toNat : Int) == 48) = false := h4
          have h6 : ((s[0].toNat : Int) != 48) = true := by simp [bne, h5]
          go_enter Tryz.func71, Tryz.ntmps71
          go_wp2_with (first
            | (go_at_call 116; refine (HB.out _).mono ?_; rintro e w' ⟨rfl, rfl⟩)
            | (go_at_call 118; refine (HD.out _).mono ?_; rintro e w' ⟨rfl, rfl⟩)
            | (go_at_call 117; refine (HL.out _).mono ?_; rintro e w' ⟨rfl, rfl⟩))
          go_ret2
          exact ⟨rfl, rfl⟩
    | false =>
      have HD := Lib.hid (digit_is hdi)
      cases h4 : (s[0] == 35) with
      | true =>
        have h5 : ((s[0].toNat : Int) == 35) = true := by rw [← h4]; exact h35
        have HL := Lib.hid (fun w' => note_any s w' hs)
        rw [HF.out, if_neg (by simp [hlo]), if_neg (by simp [hdi]), if_pos h4]
        generalize decide (runB nlB s.data.toList ≤ runB prB s.data.toList) = b at *
        generalize runB nlB s.data.toList = n at *
        clear h35 h48 hlo HF hdi h4
        go_enter Tryz.func71, Tryz.ntmps71
        go_wp2_with (first
          | (go_at_call 116; refine (HB.out _).mono ?_; rintro e w' ⟨rfl, rfl⟩)
          | (go_at_call 118; refine (HD.out _).mono ?_; rintro e w' ⟨rfl, rfl⟩)
          | (go_at_call 119; refine (HL.out _).mono ?_; rintro e w' ⟨rfl, rfl⟩))
        go_ret2
        exact ⟨rfl, rfl⟩
      | false =>
        have h5 : ((s[0].toNat : Int) == 35) = false := by rw [← h4]; exact h35
        have HI := Lib.hid (fun w' => Tryz.strings_IndexByte ⟨#[40, 41, 91, 93, 44, 43, 42, 61, 59]⟩ (s[0].toNat : Int) w')
        have hsi := sign_is s[0]
        have hcc : ((s[0].toNat : Int)).toNat.toUInt8 = s[0] := by simp
        rw [hcc] at HI
        rw [HF.out, if_neg (by simp [hlo]), if_neg (by simp [hdi]), if_neg (by simp [h4]), ← hsi]
        have hx : Lib.indexByte (⟨#[40, 41, 91, 93, 44, 43, 42, 61, 59]⟩ : ByteArray).data.toList s[0] = Lib.indexByte [40, 41, 91, 93, 44, 43, 42, 61, 59] s[0] := rfl
        rw [hx] at HI
        generalize Lib.indexByte [40, 41, 91, 93, 44, 43, 42, 61, 59] s[0] = x at *
        clear h35 h48 hlo HF hdi h4 hsi hcc hx
        by_cases hx0 : 0 ≤ x
        · have hd : decide (0 ≤ x) = true := by simpa using hx0
          rw [hd]; clear hd
          go_enter Tryz.func71, Tryz.ntmps71
          go_wp2_with (first
            | (go_at_call 116; refine (HB.out _).mono ?_; rintro e w' ⟨rfl, rfl⟩)
            | (go_at_call 118; refine (HD.out _).mono ?_; rintro e w' ⟨rfl, rfl⟩)
            | (go_at_call 120; refine (HI.out _).mono ?_; rintro e w' ⟨rfl, rfl⟩))
          go_ret2
          exact ⟨by first | rfl | (simp; done) | (simp; omega), rfl⟩
        · have hd : decide (0 ≤ x) = false := by simpa using hx0
          rw [hd]; clear hd
          go_enter Tryz.func71, Tryz.ntmps71
          go_wp2_with (first
            | (go_at_call 116; refine (HB.out _).mono ?_; rintro e w' ⟨rfl, rfl⟩)
            | (go_at_call 118; refine (HD.out _).mono ?_; rintro e w' ⟨rfl, rfl⟩)
            | (go_at_call 120; refine (HI.out _).mono ?_; rintro e w' ⟨rfl, rfl⟩))
          go_ret2
          exact ⟨by first | rfl | (simp; done) | (simp; omega), rfl⟩

set_option maxHeartbeats 1000000 in
theorem many_w (l : List ByteArray) (A : Option Addr) (n c : Nat) (hn : l.length = n) (w : World) (hl : Txs w w.heap.size A l) (hne : ∀ t ∈ l, 0 < t.size) :
    Calls Tryz.prog 73 #[.slice A n c] w fun e w' => e = .returned (.int .i64 (manyW l : Nat)) ∧ w = w' := by
  subst hn
  have hm := hl.2.1
  unfold maxLen at hm
  have HN := Lib.hid hl; have HE := Lib.hid hne; clear hl hne
  go_enter Tryz.func73, Tryz.ntmps73
  go_wp2
  go_loop [3, 5, 8] (fun m _ i => ∃ k q : Nat, k ≤ l.length ∧ i = .int .i64 k ∧ m = .int .i64 q ∧ manyW (l.take k) = q ∧ q ≤ k) (fun _ _ i => l.length - (intOf i).toNat)
  case atStart => exact ⟨0, 0, Nat.zero_le _, rfl, rfl, rfl, by omega⟩
  case round =>
    obtain ⟨k, q, hk, rfl, rfl, hq, hqk⟩ := hrel
    have HQ := Lib.hid hq; clear hq
    by_cases hlt : k < l.length
    · obtain ⟨b, off, t, rfl, hb, ht, hts, hc⟩ := HN.out.one (Below.refl _ _) hlt
      have h0 : 0 < t.size := by have := HE.out _ (List.getElem_mem hlt); rw [ht] at this; exact this
      obtain ⟨r, hr⟩ := byte_cons h0
      have hst := manyW_take hlt
      rw [ht, hr, HQ.out] at hst
      simp only [List.head?_cons, Option.some.injEq] at hst
      have h35 := byte_eq t[0] 35
      clear hr ht
      cases h4 : (t[0] == 35) with
      | true =>
        have h5 : ((t[0].toNat : Int) == 35) = true := by rw [← h4]; exact h35
        have h6 : ((t[0].toNat : Int) != 35) = false := by simp [bne, h5]
        rw [if_pos (by simpa using h4)] at hst
        have HST := Lib.hid hst; clear hst h35 h4
        go_wp2
        go_round
        case rel => exact ⟨k + 1, q, by omega, by go_num, rfl, HST.out, by omega⟩
        case measure => simp [intOf]; omega
      | false =>
        have h5 : ((t[0].toNat : Int) == 35) = false := by rw [← h4]; exact h35
        have h6 : ((t[0].toNat : Int) != 35) = true := by simp [bne, h5]
        rw [if_neg (by simpa using h4)] at hst
        have HST := Lib.hid hst; clear hst h35 h4
        go_wp2
        go_round
        case rel => exact ⟨k + 1, q + 1, by omega, by go_num, by go_num, HST.out, by omega⟩
        case measure => simp [intOf]; omega
    · have hz : manyW l = q := by rw [← HQ.out, List.take_of_length_le (by omega)]
      have HZ := Lib.hid hz; clear hz
      go_wp2
      go_ret
      exact ⟨by rw [HZ.out]; rfl, rfl⟩
end Go.Proofs.YtddfdmopaeghnacGreatDoor
