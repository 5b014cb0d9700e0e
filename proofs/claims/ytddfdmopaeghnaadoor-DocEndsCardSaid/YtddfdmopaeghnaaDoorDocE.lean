/- Walks: doc.End, the law's quoted. Condition: the slice of nodes lies below the call's own blocks. -/
import Derived.Test.YtddfdmopaeghnaaDoorEndsW
import Derived.Deep.RegionHeld3
namespace Go.Proofs.YtddfdmopaeghnaaDoor
open Go.RowKit

set_option maxHeartbeats 1000000 in
theorem end_bad (l : List Nd) (A : Option Addr) (c : Nat) (i : Int) (w : World) (hl : Nds w w.heap.size A l) (he : checkF l ≠ 0) :
    Calls Tryd.prog 28 #[.slice A l.length c, .int .i64 i] w (Ret w (.tuple #[.int .i64 0, .iface 33 (.int .i64 (checkF l))])) := by
  have HC := Lib.hid (check_any l A c w hl)
  rw [← errV_pos he] at HC
  generalize checkF l = k at HC ⊢
  clear he hl
  go_enter Tryd.func28, Tryd.ntmps28
  go_wp2_with (go_at_call 29; refine HC.out.mono ?_; rintro e w1 ⟨rfl, hB1⟩)
  go_ret2
  exact ⟨rfl, (by repeat (first | exact Below.refl _ _ | assumption | apply Below.drew | refine below_drewN ?_ _ | apply Below.setCell _ (by first | omega | (simp; done) | (simp; omega)) | apply Below.alloc _ (by first | omega | (simp; done) | (simp; omega))))⟩

set_option maxHeartbeats 1000000 in
theorem end_out (l : List Nd) (A : Option Addr) (c : Nat) (i : Int) (w : World) (hl : Nds w w.heap.size A l) (he : checkF l = 0) (hi : i < 0 ∨ (l.length : Int) ≤ i) :
    Calls Tryd.prog 28 #[.slice A l.length c, .int .i64 i] w (Ret w (.tuple #[.int .i64 0, .iface 33 (.int .i64 1)])) := by
  have HC := Lib.hid (check_any l A c w hl)
  rw [← errV_zero he] at HC
  clear he hl
  rcases hi with hi | hi
  all_goals
    go_enter Tryd.func28, Tryd.ntmps28
    go_wp2_with (go_at_call 29; refine HC.out.mono ?_; rintro e w1 ⟨rfl, hB1⟩)
    go_ret2
    exact ⟨rfl, (by repeat (first | exact Below.refl _ _ | assumption | apply Below.drew | refine below_drewN ?_ _ | apply Below.setCell _ (by first | omega | (simp; done) | (simp; omega)) | apply Below.alloc _ (by first | omega | (simp; done) | (simp; omega))))⟩

set_option maxHeartbeats 1000000 in
theorem end_in {l : List Nd} {x : D} (hd : Doc l x) (A : Option Addr) (c : Nat) (i : Nat) (w : World) (hl : Nds w w.heap.size A l) (hi : i < l.length) :
    Calls Tryd.prog 28 #[.slice A l.length c, .int .i64 i] w (Ret w (.tuple #[.int .i64 (endAt l i : Nat), .nilIface])) := by
  have hm := hl.2.1
  unfold maxLen at hm
  have HC := Lib.hid (check_any l A c w hl)
  rw [← errV_zero hd.check] at HC
  have hv : (endsL l)[i]? = some (.int .i64 (endAt l i : Nat)) := by simp [endsL, hi]
  have HV := Lib.hid hv; clear hv
  have HD := Lib.hid hd; clear hd
  have HN := Lib.hid hl; clear hl
  generalize hE : endAt l i = E at HV ⊢
  clear hE
  go_enter Tryd.func28, Tryd.ntmps28
  go_wp2_with (first
    | (go_at_call 29; refine HC.out.mono ?_; rintro e w1 ⟨rfl, hB1⟩)
    | (go_at_call 53; refine (ends_any l x A c w1 (HN.out.past hB1) HD.out).mono ?_; rintro e w2 ⟨g, rfl, hown, hB2⟩; have hc := (hown.cellAt i (by omega)).trans HV.out; clear hown))
  go_ret2
  exact ⟨rfl, hB1.trans (hB2.mono hB1.size)⟩

/-- Has a word a quote? -/
def quotedL (l : List Nd) : Bool := l.any fun d => d.text.data.toList.any (· == 34)

theorem quoted_no {l : List Nd} {k : Nat} {op n : Int} {t : ByteArray} (h : quotedL (l.take k) = false) (hk : k < l.length) (hd : l[k] = Nd.mk op t n) (ht : t.data.toList.any (· == 34) = false) : quotedL (l.take (k + 1)) = false := by
  unfold quotedL at h ⊢
  rw [List.take_succ_eq_append_getElem hk, List.any_append, h, hd]
  show (false || (t.data.toList.any (· == 34) || false)) = false
  rw [ht]; rfl
theorem quoted_yes {l : List Nd} {k : Nat} {op n : Int} {t : ByteArray} (hk : k < l.length) (hd : l[k] = Nd.mk op t n) (ht : t.data.toList.any (· == 34) = true) : quotedL l = true := by
  unfold quotedL
  rw [List.any_eq_true]
  exact ⟨l[k], List.getElem_mem hk, by rw [hd]; exact ht⟩
theorem any_yes {t : ByteArray} {k : Nat} (hk : k < t.size) (h' : t[k].toNat = 34) : t.data.toList.any (· == 34) = true := by
  have hk' : k < t.data.toList.length := by simpa using hk
  have h : t[k] = 34 := UInt8.toNat_inj.1 h'
  rw [List.any_eq_true]
  exact ⟨t[k], List.mem_of_getElem (i := k) (h := hk') rfl, by simp [h]⟩
theorem any_more {t : ByteArray} {k : Nat} (ha : (t.data.toList.take k).any (· == 34) = false) (hk : k < t.size) (h' : t[k].toNat ≠ 34) : (t.data.toList.take (k + 1)).any (· == 34) = false := by
  have hk' : k < t.data.toList.length := by simpa using hk
  have h : t[k] ≠ 34 := fun e => h' (by rw [e]; rfl)
  rw [List.take_succ_eq_append_getElem hk', List.any_append, ha]
  show (false || (t[k] == 34 || false)) = false
  simp [h]

theorem byte_ne {n : Nat} (h : ((n : Int) == 34) = false) : n ≠ 34 := by
  rintro rfl
  exact absurd h (by decide)

set_option maxHeartbeats 2000000 in
theorem quoted_any (l : List Nd) (A : Option Addr) (c : Nat) (w : World) (hl : Nds w w.heap.size A l) :
    Calls Tryd.prog 27 #[.slice A l.length c] w fun e w' => e = .returned (.bool (quotedL l)) ∧ w = w' := by
  have hm := hl.2.1
  unfold maxLen at hm
  have HN := Lib.hid hl; clear hl
  go_enter Tryd.func27, Tryd.ntmps27
  go_wp2
  go_loop [3, 4] (fun i _ => ∃ k : Nat, k ≤ l.length ∧ i = .int .i64 k ∧ quotedL (l.take k) = false) (fun i _ => l.length - (intOf i).toNat)
  case atStart => exact ⟨0, by omega, rfl, rfl⟩
  case round =>
    obtain ⟨k, hk, rfl, hq⟩ := hrel
    have HQ := Lib.hid hq; clear hq
    by_cases hlt : k < l.length
    · obtain ⟨b, off, op, t, n, rfl, hb, hd, hts, d1, d2, d3⟩ := HN.out.node (Below.refl _ _) hlt
      unfold maxLen at hts
      have HF := Lib.hid (quoted_no HQ.out hlt hd)
      have HY := Lib.hid (quoted_yes hlt hd)
      clear hd
      go_wp2
      go_loop [4] (fun j => ∃ m : Nat, m ≤ t.size ∧ j = .int .i64 m ∧ (t.data.toList.take m).any (· == 34) = false) (fun j => t.size - (intOf j).toNat)
      case atStart => exact ⟨0, by omega, rfl, rfl⟩
      case round =>
        obtain ⟨m, hm2, rfl, ha⟩ := hrel
        have HA := Lib.hid ha; clear ha
        by_cases hlt2 : m < t.size
        · have HM := Lib.hid (any_more HA.out hlt2)
          have HZ := Lib.hid (any_yes hlt2)
          go_wp2
          · go_ret
            exact ⟨by rw [HY.out (HZ.out (by have hh : ((t[m].toNat : Int) == 34) = true := by assumption
                                             have := eq_of_beq hh
                                             omega))]; rfl, rfl⟩
          · go_round
            case rel => exact ⟨m + 1, by omega, by go_num, HM.out (byte_ne ‹_›)⟩
            case measure => simp [intOf]; omega
        · have hz : t.data.toList.any (· == 34) = false := by
            have := HA.out
            rwa [List.take_of_length_le (by simp; omega)] at this
          have HZ := Lib.hid (HF.out hz); clear hz
          go_wp2
          go_round
          case rel => exact ⟨k + 1, by omega, by go_num, HZ.out⟩
          case measure => simp [intOf]; omega
    · have hz : quotedL l = false := by
        have := HQ.out
        rwa [List.take_of_length_le (by omega)] at this
      have HZ := Lib.hid hz; clear hz
      go_wp2
      go_ret
      exact ⟨by rw [HZ.out]; rfl, rfl⟩
end Go.Proofs.YtddfdmopaeghnaaDoor
