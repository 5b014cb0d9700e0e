/- Walk of pargetrylaw2.dense. Condition: the text is shorter than 1000000000 bytes. -/
import Derived.Test.YtddfdmopaeghnacGreatDoorRmW
namespace Go.Proofs.YtddfdmopaeghnacGreatDoor
open Go.RowKit

def densB (s : ByteArray) : ByteArray := ⟨(densL s.data.toList).toArray⟩
def densTo (s : ByteArray) (k : Nat) : ByteArray := ⟨(densL (s.data.toList.take k)).toArray⟩
theorem densTo_end {s : ByteArray} {k : Nat} (h : s.size ≤ k) : densTo s k = densB s := by
  unfold densTo densB
  rw [List.take_of_length_le (by simpa using h)]
theorem densTo_size (s : ByteArray) (k : Nat) : (densTo s k).size ≤ s.size := by
  unfold densTo densL
  simp only [ByteArray.size, List.size_toArray]
  refine Nat.le_trans (List.length_filter_le _ _) ?_
  rw [List.length_take]
  have : s.data.toList.length = s.data.size := by simp
  omega
theorem densTo_take {s : ByteArray} {k : Nat} (hk : k < s.size) : densL (s.data.toList.take (k + 1)) = densL (s.data.toList.take k) ++ densL [s[k]] := by
  have hk' : k < s.data.toList.length := by simpa using hk
  rw [List.take_succ_eq_append_getElem hk', densL_app]; rfl
theorem dens_byte {s : ByteArray} {k : Nat} (hk : k < s.size) : (s.extract k (k + 1)).data.toList = [s[k]] := by
  have hk' : k < s.data.toList.length := by simpa using hk
  rw [ByteArray.data_extract, Array.toList_extract, List.extract_eq_take_drop, show k + 1 - k = 1 by omega, List.drop_eq_getElem_cons hk']
  rfl
theorem densTo_no {s : ByteArray} {k : Nat} (hk : k < s.size) (h : s[k] = 32 ∨ s[k] = 10) : densTo s (k + 1) = densTo s k := by
  unfold densTo
  rw [densTo_take hk]
  have : densL [s[k]] = [] := by rcases h with h | h <;> simp [densL, h]
  rw [this, List.append_nil]
theorem densTo_yes {s : ByteArray} {k : Nat} (hk : k < s.size) (h1 : s[k] ≠ 32) (h2 : s[k] ≠ 10) : densTo s (k + 1) = densTo s k ++ s.extract k (k + 1) := by
  apply ByteArray.ext
  apply Array.toList_inj.1
  rw [ByteArray.data_append, Array.toList_append, dens_byte hk]
  unfold densTo
  simp only
  rw [densTo_take hk]
  have : densL [s[k]] = [s[k]] := by simp [densL, h1, h2]
  rw [this]
theorem byte_toNat {c d : UInt8} (h : c ≠ d) : c.toNat ≠ d.toNat := fun e => h (UInt8.toNat_inj.1 e)

set_option maxRecDepth 100000 in
set_option maxHeartbeats 2000000 in
theorem dense_any (s : ByteArray) (hs : s.size ≤ 1000000000) (w : World) : Calls Tryz.prog 17 #[.string s] w fun e w' => e = .returned (.string (densB s)) ∧ w = w' := by
  have HZ := Lib.hid (densTo_size s)
  have HE : Hid (∀ k, s.size ≤ k → densTo s k = densB s) := Lib.hid (fun k hk => densTo_end hk)
  go_enter Tryz.func17, Tryz.ntmps17
  go_wp2
  go_loop [3, 4] (fun o i => ∃ (k : Nat) (t : ByteArray), k ≤ s.size ∧ i = .int .i64 k ∧ o = .string t ∧ Hid (t = densTo s k)) (fun _ i => s.size - (intOf i).toNat)
  case atStart => exact ⟨0, .empty, by omega, rfl, rfl, Lib.hid rfl⟩
  case round =>
    obtain ⟨k, t, hk, rfl, rfl, HT⟩ := hrel
    have htz : t.size ≤ s.size := by rw [HT.out]; exact HZ.out k
    by_cases hlt : k < s.size
    · by_cases h32 : s[k] = 32
      · have HN := Lib.hid (densTo_no hlt (.inl h32))
        have hb : ((s[k].toNat : Int) == 32) = true := by rw [h32]; rfl
        have hb2 : ((s[k].toNat : Int) != 32) = false := by rw [h32]; rfl
        clear h32
        go_wp2
        go_round
        case rel => exact ⟨k + 1, t, by omega, by go_num, rfl, Lib.hid (by rw [HT.out, HN.out])⟩
        case measure => simp [intOf]; omega
      · by_cases h10 : s[k] = 10
        · have HN := Lib.hid (densTo_no hlt (.inr h10))
          have hb : ((s[k].toNat : Int) != 32) = true := by rw [h10]; rfl
          have hb2 : ((s[k].toNat : Int) != 10) = false := by rw [h10]; rfl
          clear h32 h10
          go_wp2
          go_round
          case rel => exact ⟨k + 1, t, by omega, by go_num, rfl, Lib.hid (by rw [HT.out, HN.out])⟩
          case measure => simp [intOf]; omega
        · have HY := Lib.hid (densTo_yes hlt h32 h10)
          have n1 := byte_toNat h32
          have n2 := byte_toNat h10
          have n1' : s[k].toNat ≠ 32 := n1
          have n2' : s[k].toNat ≠ 10 := n2
          have hb : ((s[k].toNat : Int) != 32) = true := by simp; omega
          have hb2 : ((s[k].toNat : Int) != 10) = true := by simp; omega
          have hez : (s.extract k (k + 1)).size = 1 := by rw [ByteArray.size_extract]; omega
          have hsl : ∀ w', (Instr.slice 9 (.string s) (some (.int .i64 (k : Nat))) (some (.int .i64 ((k : Int) + 1))) none).run Tryz.prog w' = .ok (.string (s.extract k (k + 1))) w' := fun w' => by
            have h := run_slice_strM (P := Tryz.prog) w' 9 s Tryz.underlying9 (k : Int) ((k : Int) + 1) (by omega) (by omega) (by omega)
            rw [h, show ((k : Int)).toNat = k by omega, show ((k : Int) + 1).toNat = k + 1 by omega]
          generalize s.extract k (k + 1) = X at *
          have hcat : ∀ w', (Op.stringOp .add t X).run Tryz.prog w' = .ok (.string (t ++ X)) w' := fun w' => run_string_add_sum w' _ _ (by omega)
          clear h32 h10 n1 n2 n1' n2'
          go_wp2
          go_round
          case rel => exact ⟨k + 1, t ++ X, by omega, by go_num, rfl, Lib.hid (by rw [HY.out, HT.out])⟩
          case measure => simp [intOf]; omega
    · have HQ := Lib.hid (HE.out k (by omega))
      go_wp2
      go_ret
      exact ⟨by rw [← HQ.out, ← HT.out]; rfl, rfl⟩
end Go.Proofs.YtddfdmopaeghnacGreatDoor
