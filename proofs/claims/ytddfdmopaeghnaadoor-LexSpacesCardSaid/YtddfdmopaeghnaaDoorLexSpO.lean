/- Walk of the law LexSpaces: true, where the text is one of words. No condition but the text's own size. -/
import Derived.Test.YtddfdmopaeghnaaDoorLexSpW
import Derived.IntWalk
namespace Go.Proofs.YtddfdmopaeghnaaDoor
open Go.RowKit

set_option maxHeartbeats 2000000 in
set_option maxRecDepth 100000 in
theorem lexSpaces_ok (s : ByteArray) (w : World) (hs : s.size ≤ maxLen) (he : (lexE s).1 = 0) :
    Calls Tryd.prog 5 #[.string s] w (Ret w (.bool true)) := by
  have HL := Lib.hid (fun w' => lex_ok_c he w' hs)
  have hsz := (lexE_parts he).1
  have hcn := lexWs_count he
  have hrz := rowsB_size hsz
  have HRZ := Lib.hid hrz; have HE := Lib.hid he
  clear he hrz
  go_enter Tryd.func5, Tryd.ntmps5
  go_wp2_with (first
    | (go_at_call 17; (fail_if_success have hz := T1); refine (fact5_any _).mono ?_; rintro e w1 ⟨A1, c1, A2, c2, rfl, ht1, hB1⟩; have T1 : True := trivial; have HT1 := Lib.hid ht1; clear ht1)
    | (go_at_call 18; refine (texts_same _ 5 rfl _ _ _ _ _ (HT1.out.past (by repeat (first | exact Below.refl _ _ | assumption | apply Below.drew | refine below_drewN ?_ _ | apply Below.setCell _ (by first | omega | (simp; done) | (simp; omega)) | apply Below.alloc _ (by first | omega | (simp; done) | (simp; omega))))) (fact5_lit _)).mono ?_; rintro e w2 ⟨rfl, hB2⟩; have hB2w : Below w.heap.size w w2 := (hB1.alloc hB1.size _).trans (hB2.mono (hB1.alloc hB1.size _).size); clear hB2)
    | (go_at_call 17; refine (HL.out _).mono ?_; rintro e w3 ⟨A3, c3, A4, c4, rfl, ht3, hp3, hB3⟩))
  have hB3w : Below w.heap.size w w3 := hB2w.trans (hB3.mono hB2w.size)
  have HTX := Lib.hid ht3; have HPL := Lib.hid hp3
  clear ht3 hp3 hB3 hB1 hB2w
  obtain ⟨n, hn⟩ : ∃ n, (lexWs s).length = n := ⟨_, rfl⟩
  rw [hn] at hcn ⊢
  have HN := Lib.hid hn; clear hn
  go_loopw [12, 13] (fun t i wr => ∃ k : Nat, k ≤ n ∧ i = .int .i64 k ∧ t = .string (rowsB s k) ∧ Below w3.heap.size w3 wr) (fun _ i _ => n - (intOf i).toNat)
  case atStart => exact ⟨0, by omega, rfl, by rw [rowsB_zero]; rfl, Below.refl _ _⟩
  case round =>
    obtain ⟨k, hk, rfl, rfl, hBr⟩ := hrel
    have hTb : (rowsB s k).size ≤ 3600060000 := by
      have h1 := HRZ.out k (by rw [HN.out]; exact hk)
      have h2 : k * 60001 ≤ 60000 * 60001 := Nat.mul_le_mul_right _ (by omega)
      omega
    by_cases hlt : k < n
    · have hkl : k < (lexWs s).length := by rw [HN.out]; exact hlt
      obtain ⟨b, off, b2, off2, a, t, rfl, rfl, hb, hb2, hc, hc2, ha, ht, haz, hx⟩ := word_at HTX.out HPL.out hkl
      have d1 := (hBr.cell (p := ⟨b, off + k, none⟩) hb).trans hc
      have d2 := (hBr.cell (p := ⟨b2, off2 + k, none⟩) hb2).trans hc2
      have hstep := rowsB_succ hkl
      rw [← ht] at hstep
      have HS := Lib.hid hstep; clear hstep hc hc2
      rcases Nat.eq_zero_or_pos k with hk0 | hk0
      · have hk2 : decide (0 < k) = false := by simp; omega
        have hk3 : decide (0 < (k : Int)) = false := by simp; omega
        generalize rowsB s k = T at *
        clear hk0 ha ht hkl
        have k1 : IntKind.i64.wrap ((a : Int) + (t.size : Int)) = (a : Int) + (t.size : Int) := IntWalk.i64_in _ (by omega)
        have k2 : decide ((s.size : Int) < (a : Int) + (t.size : Int)) = false := by simp; omega
        have n4 : decide ((a : Int) < 0) = false := by simp
        have n2 : decide (s.size < a + t.size) = false := by simp; omega
        have n3 : decide (n ≤ k) = false := by simp; omega
        have k3 : ((a : Int) + (t.size : Int)).toNat = a + t.size := by omega
        go_wp2
        simp only [List.append]
        go_quiet (fail)
        clear k1 k2 k3 n2 n3 n4
        go_wp2
        go_roundw
        case rel => exact ⟨k + 1, by omega, by go_num, by rw [HS.out], below_drewN hBr _⟩
        case measure => simp [intOf]; omega
      · obtain ⟨j, rfl⟩ : ∃ j, k = j + 1 := ⟨k - 1, by omega⟩
        have hjl : j < (lexWs s).length := by omega
        obtain ⟨b', off', b2', off2', a', t', e1, e2, _, _, hc', hc2', ha', ht', haz', _⟩ := word_at HTX.out HPL.out hjl
        cases e1; cases e2
        have d1' := (hBr.cell (p := ⟨b, off + j, none⟩) hb).trans hc'
        have d2' := (hBr.cell (p := ⟨b2, off2 + j, none⟩) hb2).trans hc2'
        have hnx := word_next hkl
        have hsz' : t'.size = ((lexWs s)[j]).2.length := by rw [ht']; simp [ByteArray.size]
        have hnx2 : a' + t'.size ≤ a := by omega
        generalize rowsB s (j + 1) = T at *
        clear ha ht hkl hjl ha' ht' hnx hsz' hk0 hc' hc2'
        have k1 : IntKind.i64.wrap ((a : Int) + (t.size : Int)) = (a : Int) + (t.size : Int) := IntWalk.i64_in _ (by omega)
        have k2 : decide ((s.size : Int) < (a : Int) + (t.size : Int)) = false := by simp; omega
        have n4 : decide ((a : Int) < 0) = false := by simp
        have n2 : decide (s.size < a + t.size) = false := by simp; omega
        have n3 : decide (n ≤ j + 1) = false := by simp; omega
        have k3 : ((a : Int) + (t.size : Int)).toNat = a + t.size := by omega
        have k4 : IntKind.i64.wrap ((a' : Int) + (t'.size : Int)) = (a' : Int) + (t'.size : Int) := IntWalk.i64_in _ (by omega)
        have k5 : decide ((a : Int) < (a' : Int) + (t'.size : Int)) = false := by simp; omega
        have n5 : decide (a < a' + t'.size) = false := by simp; omega
        have n6 : decide (0 < j + 1) = true := by simp
        have n7 : decide ((n : Int) ≤ (j : Int) + 1) = false := by simp; omega
        have k6 : decide ((0 : Int) < (j : Int) + 1) = true := by simp; try omega
        have k7 : (j : Int) + 1 - 1 = (j : Int) := by omega
        have k8 : IntKind.i64.wrap (j : Int) = (j : Int) := IntWalk.i64_in _ (by omega)
        go_wp2
        simp only [List.append]
        go_quiet (fail)
        clear k1 k2 k3 k4 k5 k6 k7 k8 n2 n3 n4 n5 n6 n7
        go_wp2
        go_roundw
        case rel => exact ⟨j + 1 + 1, by omega, by go_num, by rw [HS.out], below_drewN hBr _⟩
        case measure => simp [intOf]; omega
    · obtain rfl : k = n := by omega
      by_cases hz : 60000 < (rowsB s k).size
      · generalize rowsB s k = T at *
        go_wp2
        go_ret
        exact ⟨rfl, hB3w.trans (hBr.mono hB3w.size)⟩
      · have hag := lex_again HE.out (by rw [HN.out]; omega)
        rw [HN.out] at hag
        have hlen : (lexWs (rowsB s k)).length = k := by
          have h := congrArg List.length hag.2
          simp only [wordBs, List.length_map] at h
          rw [h]; exact HN.out
        have HL2 := Lib.hid (fun w' => lex_ok_c hag.1 w' (by simp only [maxLen]; omega))
        have HA := Lib.hid hag.2; have HLN := Lib.hid hlen
        clear hag hlen
        generalize rowsB s k = T at *
        go_wp2_with (first
          | (go_at_call 17; refine (HL2.out _).mono ?_; rintro e w4 ⟨A5, c5, A6, c6, rfl, ht5, _, hB4⟩; rw [HLN.out]; rw [HA.out] at ht5; have HT5 := Lib.hid ht5; clear ht5)
          | (go_at_call 18; refine (texts_same (wordBs (lexWs s)) k (by simp [wordBs]; exact HN.out) _ _ _ _ _ HT5.out ((HTX.out.past hBr).past hB4)).mono ?_; rintro e w5 ⟨rfl, hB5⟩))
        go_ret
        exact ⟨rfl, hB3w.trans (((hBr.trans (hB4.mono hBr.size)).trans (hB5.mono (Nat.le_trans hBr.size hB4.size))).mono hB3w.size)⟩
end Go.Proofs.YtddfdmopaeghnaaDoor
