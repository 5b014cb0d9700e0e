/- Walks: the reference's WordsFault, NoteWords. Condition: a slice of texts lies below the call's own blocks. -/
import Derived.Test.YtddfdmopaeghnacGreatDoorTRefA
namespace Go.Proofs.YtddfdmopaeghnacGreatDoor
open Go.RowKit

theorem word_size {t : ByteArray} : (t.toList.isEmpty = true) ↔ t.size < 1 := by
  rw [ByteArray.toList_eq]
  have h : t.data.toList.length = t.size := by simp
  cases hl : t.data.toList with
  | nil => rw [hl] at h; exact ⟨fun _ => by simp only [List.length_nil] at h; omega, fun _ => rfl⟩
  | cons a r => rw [hl] at h; exact ⟨fun h' => by (cases h'), fun h' => by simp only [List.length_cons] at h; omega⟩
theorem wordF_short {t : ByteArray} (h : t.size < 1 ∨ 20 < t.size) : wordF t = false := by
  unfold wordF
  rcases h with h | h
  · have h2 := word_size.2 h
    rw [h2]; rfl
  · have h2 : decide (t.size ≤ 20) = false := by simp; omega
    rw [h2]; simp
theorem wordF_odd {t : ByteArray} {k : Nat} (hk : k < t.size) (h : t[k].toNat < 33 ∨ 126 < t[k].toNat) : wordF t = false := by
  have h1 : visC t[k] = false := by unfold visC; simp; omega
  unfold wordF
  rw [all_no hk h1]; simp
theorem wordF_good {t : ByteArray} (h1 : 1 ≤ t.size) (h2 : t.size ≤ 20) (h3 : t.data.toList.all visC = true) : wordF t = true := by
  have e1 : t.toList.isEmpty = false := by
    cases h : t.toList.isEmpty with
    | false => rfl
    | true => have := word_size.1 h; omega
  unfold wordF
  rw [e1, h3]
  simp; omega


set_option maxRecDepth 100000 in
set_option maxHeartbeats 2000000 in
theorem wordsFault_any (l : List ByteArray) (A : Option Addr) (n c : Nat) (hn : l.length = n) (w : World) (hl : Txs w w.heap.size A l) :
    Calls Tryz.prog 58 #[.slice A n c] w fun e w' => e = .returned (.int .i64 (wordsF l)) ∧ w = w' := by
  have hm := hl.2.1
  unfold maxLen at hm
  subst hn
  by_cases h60 : 60 < l.length
  · have k1 : decide (60 < l.length) = true := by simpa using h60
    have hw : wordsF l = 3 := by rw [wordsF, if_pos h60]
    have HW := Lib.hid hw; clear hw
    go_enter Tryz.func58, Tryz.ntmps58
    go_wp2
    go_ret
    exact ⟨by rw [HW.out]; rfl, rfl⟩
  · have k1 : decide (60 < l.length) = false := by simpa using h60
    have HN := Lib.hid hl; clear hl
    go_enter Tryz.func58, Tryz.ntmps58
    go_wp2
    go_loop [3, 4] (fun i _ => ∃ k : Nat, k ≤ l.length ∧ i = .int .i64 k ∧ (l.take k).all wordF = true) (fun i _ => l.length - (intOf i).toNat)
    case atStart => exact ⟨0, by omega, rfl, rfl⟩
    case round =>
      obtain ⟨k, hk, rfl, ha⟩ := hrel
      have HA := Lib.hid ha; clear ha
      by_cases hlt : k < l.length
      · obtain ⟨b, off, t, rfl, hb, ht, hts, hc⟩ := HN.out.one (Below.refl _ _) hlt
        unfold maxLen at hts
        have HNO : Hid (wordF t = false → wordsF l = 5) := Lib.hid (fun h => words_no h60 hlt (by rw [ht]; exact h))
        have HMO : Hid (wordF t = true → (l.take (k + 1)).all wordF = true) := Lib.hid (fun h => words_more hlt HA.out (by rw [ht]; exact h))
        clear ht
        by_cases h1 : t.size < 1
        · have k2 : decide (t.size < 1) = true := decide_eq_true h1
          have k3 : decide ((t.size : Int) < 1) = true := decide_eq_true (by omega)
          have HB := Lib.hid (HNO.out (wordF_short (.inl h1)))
          go_wp2
          go_ret
          exact ⟨by rw [HB.out]; rfl, rfl⟩
        · have k2 : decide (t.size < 1) = false := decide_eq_false h1
          have k3 : decide ((t.size : Int) < 1) = false := decide_eq_false (by omega)
          by_cases h2 : 20 < t.size
          · have k4 : decide (20 < t.size) = true := decide_eq_true h2
            have k5 : decide ((20 : Int) < (t.size : Int)) = true := decide_eq_true (by omega)
            have HB := Lib.hid (HNO.out (wordF_short (.inr h2)))
            go_wp2
            go_ret
            exact ⟨by rw [HB.out]; rfl, rfl⟩
          · have k4 : decide (20 < t.size) = false := decide_eq_false h2
            have k5 : decide ((20 : Int) < (t.size : Int)) = false := decide_eq_false (by omega)
            go_wp2
            go_loop [4] (fun j => ∃ m : Nat, m ≤ t.size ∧ j = .int .i64 m ∧ (t.data.toList.take m).all visC = true) (fun j => t.size - (intOf j).toNat)
            case atStart => exact ⟨0, by omega, rfl, rfl⟩
            case round =>
              obtain ⟨m, hm2, rfl, hv⟩ := hrel
              have HV := Lib.hid hv; clear hv
              by_cases hlt2 : m < t.size
              · have HO := Lib.hid (wordF_odd hlt2)
                have HM : Hid (33 ≤ t[m].toNat ∧ t[m].toNat ≤ 126 → (t.data.toList.take (m + 1)).all visC = true) := Lib.hid (fun h => all_more HV.out hlt2 (by unfold visC; simp; omega))
                by_cases hc1 : t[m].toNat < 33
                · have HB := Lib.hid (HNO.out (HO.out (.inl hc1)))
                  have q1 : decide (t[m].toNat < 33) = true := decide_eq_true hc1
                  have q2 : decide ((t[m].toNat : Int) < 33) = true := decide_eq_true (by omega)
                  go_wp2
                  go_ret
                  exact ⟨by rw [HB.out]; rfl, rfl⟩
                · have q1 : decide (t[m].toNat < 33) = false := decide_eq_false hc1
                  have q2 : decide ((t[m].toNat : Int) < 33) = false := decide_eq_false (by omega)
                  by_cases hc2 : 126 < t[m].toNat
                  · have HB := Lib.hid (HNO.out (HO.out (.inr hc2)))
                    have q3 : decide (126 < t[m].toNat) = true := decide_eq_true hc2
                    have q4 : decide ((126 : Int) < (t[m].toNat : Int)) = true := decide_eq_true (by omega)
                    go_wp2
                    go_ret
                    exact ⟨by rw [HB.out]; rfl, rfl⟩
                  · have q3 : decide (126 < t[m].toNat) = false := decide_eq_false hc2
                    have q4 : decide ((126 : Int) < (t[m].toNat : Int)) = false := decide_eq_false (by omega)
                    have HB := Lib.hid (HM.out ⟨by omega, by omega⟩)
                    go_wp2
                    go_round
                    case rel => exact ⟨m + 1, by omega, by go_num, HB.out⟩
                    case measure => simp [intOf]; omega
              · have HG := Lib.hid (HMO.out (wordF_good (by omega) (by omega) (all_yes HV.out (by omega))))
                go_wp2
                go_round
                case rel => exact ⟨k + 1, by omega, by go_num, HG.out⟩
                case measure => simp [intOf]; omega
      · have hz := words_yes h60 (show l.length ≤ k by omega) HA.out
        have HZ := Lib.hid hz; clear hz
        go_wp2
        go_ret
        exact ⟨by rw [HZ.out]; rfl, rfl⟩


theorem noteL_small {s : ByteArray} {done : List ByteArray} {m : Nat} (h : done ++ tailN s m = noteL s) (hm : s.size < 4294967281) : (∀ x ∈ done, x.size ≤ maxLen) ∧ (∀ x ∈ noteL s, x.size ≤ maxLen) := by
  have hz : ∀ x ∈ noteL s, x.size ≤ s.size := by
    unfold noteL
    split
    · intro x hx; cases hx
    · exact splitB_size spB 0 _ s
  exact ⟨fun x hx => by have := hz x (by rw [← h]; simp [hx]); simp only [maxLen]; omega, fun x hx => by have := hz x hx; simp only [maxLen]; omega⟩

set_option maxRecDepth 100000 in
set_option maxHeartbeats 2000000 in
theorem noteWords_any (s : ByteArray) (w : World) (hs : s.size < 4294967281) :
    Calls Tryz.prog 59 #[.string s] w (NoteTo s w) := by
  by_cases he : s.size < 1
  · have hn : noteL s = [] := by rw [noteL, if_pos (by simpa using sizeT.2 he)]
    have HN := Lib.hid hn; clear hn
    go_enter Tryz.func59, Tryz.ntmps59
    go_wp2
    go_ret
    exact ⟨none, 0, by rw [HN.out]; rfl, by rw [HN.out]; exact ⟨Sl.nil_, by simp [maxLen], by simp⟩, Below.refl _ _⟩
  · obtain ⟨iS, hiS, hzS, hzS1, hzS2⟩ := info_parts str_infoT
    have hne : s.toList ≠ [] := fun h => he (sizeT.1 (by simp [h]))
    have HTL := Lib.hid (noteL_tail hne); clear hne
    have hz0 : ((s.size : Int) == 0) = false := by rw [beq_eq_false_iff_ne]; omega
    go_enter Tryz.func59, Tryz.ntmps59
    go_wp2
    go_loopw [3, 4, 5] (fun out from' i wr => ∃ (m k : Nat) (done : List ByteArray) (v : Value), i = .int .i64 k ∧ from' = .int .i64 m ∧ out = v ∧ m ≤ k ∧ k ≤ s.size ∧ done.length ≤ m ∧ noSp s m k ∧ done ++ tailN s m = noteL s ∧ wr.ownsRow w.heap.size 9 1 v done.length (done.map .string) ∧ Below w.heap.size w wr) (fun _ _ i _ => s.size - (intOf i).toNat)
    case atStart => exact ⟨0, 0, [], _, rfl, rfl, rfl, by omega, by omega, by simp, noSp.nil s 0, by rw [HTL.out]; rfl, World.ownsRow_nil _ _ _ _, Below.refl _ _⟩
    case round =>
      obtain ⟨m, k, done, v, rfl, rfl, rfl, hmk, hk, hdm, hsp, hdn, hown, hB⟩ := hrel
      have HO := Lib.hid hown; have HSP := Lib.hid hsp; have HD := Lib.hid hdn; clear hown hsp hdn
      have hsz := hB.size
      by_cases hlt : k < s.size
      · have hb1 := s[k].toNat_lt
        by_cases hc : s[k] = 32
        · have h8 : ((s[k].toNat : Int) == 32) = true := by rw [hc]; rfl
          have HD2 : Hid ((done ++ [s.extract m k]) ++ tailN s (k + 1) = noteL s) := Lib.hid (by rw [List.append_assoc, ← HD.out, tail_hit hmk hlt HSP.out hc]; rfl)
          have HNS := Lib.hid (noSp.nil s (k + 1))
          have q1 : (0 : Int) ≤ (m : Int) := by omega
          have q2 : (m : Int) ≤ (k : Int) := by omega
          have q3 : (k : Int) ≤ (s.size : Int) := by omega
          clear hc
          go_wp2_with (at_builtin; refine wpList_app _ rfl (.tmp 19) (.tmp 24) _ rfl w.heap.size 9 iS (.string .empty) 1 16 Tryz.underlying60 hiS hzS hzS1 hzS2 rfl (by decide) _ done.length _ rfl (HO.out.alloc _) _ _ 1 1 [.string (s.extract m k)] rfl (Sl.lit (sz := 1) _ #[.string (s.extract m k)] 9 1 rfl) (by simp [Value.oneCell']) (by simp only [maxLen]; omega) (by omega) (by simp; omega) ?_; intro v3 w3 hown3 hgr3 _; have hB3 : Below w.heap.size w w3 := below_app (hB.alloc hsz _) (HO.out.alloc _) hgr3 (hB.alloc hsz _).size (Nat.le_refl _); have HO3 := Lib.hid hown3; clear hown3 hgr3)
          go_roundw
          case measure => simp [intOf]; omega
          case rel => exact ⟨k + 1, k + 1, done ++ [s.extract m k], v3, by go_num, by go_num, rfl, by omega, by omega, by simp; omega, HNS.out, HD2.out, by rw [List.length_append, List.map_append]; exact HO3.out, hB3⟩
        · have h8 : ((s[k].toNat : Int) == 32) = false := by
            have : s[k].toNat ≠ 32 := fun e => hc (by apply UInt8.toNat_inj.1; rw [e]; rfl)
            simp; omega
          have HNS := Lib.hid (HSP.out.more hlt hc)
          clear hc
          go_wp2
          go_roundw
          case measure => simp [intOf]; omega
          case rel => exact ⟨m, k + 1, done, _, by go_num, rfl, rfl, by omega, by omega, by omega, HNS.out, HD.out, HO.out, hB⟩
      · obtain rfl : k = s.size := by omega
        have HD2 : Hid (done ++ [s.extract m s.size] = noteL s) := Lib.hid (by rw [← HD.out, tail_miss HSP.out])
        have HSM := Lib.hid (noteL_small HD.out hs)
        have q1 : (0 : Int) ≤ (m : Int) := by omega
        have q2 : (m : Int) ≤ (s.size : Int) := by omega
        go_wp2_with (at_builtin; refine wpList_app _ rfl (.tmp 28) (.tmp 32) _ rfl w.heap.size 9 iS (.string .empty) 1 16 Tryz.underlying60 hiS hzS hzS1 hzS2 rfl (by decide) _ done.length _ rfl (HO.out.alloc _) _ _ 1 1 [.string (s.extract m s.size)] rfl (Sl.lit (sz := 1) _ #[.string (s.extract m s.size)] 9 1 rfl) (by simp [Value.oneCell']) (by simp only [maxLen]; omega) (by omega) (by simp; omega) ?_; intro v3 w3 hown3 hgr3 _; have hB3 : Below w.heap.size w w3 := below_app (hB.alloc hsz _) (HO.out.alloc _) hgr3 (hB.alloc hsz _).size (Nat.le_refl _); have HO3 := Lib.hid hown3; clear hown3 hgr3)
        obtain ⟨A3, c3, rfl⟩ := own_sliceT HO3.out
        have HL : Hid ((noteL s).length = done.length + 1) := Lib.hid (by rw [← HD2.out]; simp)
        go_ret
        have HS := Sl.of_own HO3.out
        refine ⟨A3, c3, by rw [HL.out]; rfl, ⟨?_, by rw [HL.out]; simp only [maxLen]; omega, HSM.out.2⟩, hB3⟩
        rw [HL.out, ← HD2.out, List.map_append]
        exact HS
end Go.Proofs.YtddfdmopaeghnacGreatDoor
