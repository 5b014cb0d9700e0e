/- Walks of package fill: long, bad, checked. Conditions: the slice of words lies below the call's own blocks; the words are few and short. -/
import Derived.Test.YtddfdmopaeghnaaDoorTreeW
import Derived.Test.YtddfdmopaeghnaaDoorFillP
import Derived.BigQuiet
import Derived.Deep.QuietTactic
import Derived.IntWalk
namespace Go.Proofs.YtddfdmopaeghnaaDoor
open Go.RowKit

def longTo (l : List ByteArray) (k : Nat) : Int := (((l.take k).map ByteArray.size).sum : Nat) + (l.length : Int) - 1
theorem longTo_zero (l : List ByteArray) : longTo l 0 = (l.length : Int) - 1 := by simp [longTo]
theorem longTo_end {l : List ByteArray} {k : Nat} (h : l.length ≤ k) : longTo l k = longW l := by rw [longTo, List.take_of_length_le h]; rfl
theorem longTo_succ {l : List ByteArray} {k : Nat} (hk : k < l.length) {t : ByteArray} (ht : l[k] = t) : longTo l (k + 1) = longTo l k + t.size := by
  unfold longTo
  rw [List.take_succ_eq_append_getElem hk, ht, List.map_append, List.sum_append]
  simp; omega
theorem longTo_bd {l : List ByteArray} (h : ∀ t ∈ l, t.size ≤ 20) (h60 : l.length ≤ 60) (k : Nat) : -1 ≤ longTo l k ∧ longTo l k ≤ 1300 := by
  have h1 := sum_le (l.take k) (fun t ht => h t (List.mem_of_mem_take ht))
  have h2 : (l.take k).length ≤ l.length := by rw [List.length_take]; omega
  unfold longTo; omega

set_option maxHeartbeats 1000000 in
theorem long_any (l : List ByteArray) (A : Option Addr) (n c : Nat) (hn : l.length = n) (w : World) (hl : Txs w w.heap.size A l) (h60 : n ≤ 60) (h20 : ∀ t ∈ l, t.size ≤ 20) :
    Calls Tryd.prog 49 #[.slice A n c] w fun e w' => e = .returned (.int .i64 (longW l)) ∧ w = w' := by
  subst hn
  have HN := Lib.hid hl; have HS := Lib.hid h20; clear hl h20
  go_enter Tryd.func49, Tryd.ntmps49
  go_wp2
  go_loop [3, 11] (fun m i => ∃ k : Nat, k ≤ l.length ∧ i = .int .i64 k ∧ m = .int .i64 (longTo l k)) (fun _ i => l.length - (intOf i).toNat)
  case atStart => exact ⟨0, Nat.zero_le _, rfl, by rw [longTo_zero]⟩
  case round =>
    obtain ⟨k, hk, rfl, rfl⟩ := hrel
    obtain ⟨b1, b2⟩ := longTo_bd HS.out h60 k
    by_cases hlt : k < l.length
    · obtain ⟨b, off, t, rfl, hb, ht, hts, hc⟩ := HN.out.one (Below.refl _ _) hlt
      have h2 := HS.out _ (List.getElem_mem hlt)
      rw [ht] at h2
      have HST := Lib.hid (longTo_succ hlt ht)
      clear ht
      generalize longTo l k = L at *
      go_wp2
      go_round
      case rel => exact ⟨k + 1, by omega, by go_num, by rw [HST.out]⟩
      case measure => simp [intOf]; omega
    · have hz := longTo_end (show l.length ≤ k by omega)
      have HZ := Lib.hid hz; clear hz
      go_wp2
      go_ret
      exact ⟨by rw [HZ.out]; rfl, rfl⟩

theorem mul_bd {a : Int} (h0 : 0 ≤ a) (h1 : a ≤ 100) : 0 ≤ a * a ∧ a * a ≤ 10000 := by
  have h2 : a * a ≤ 100 * 100 := Int.mul_le_mul h1 h1 h0 (by decide)
  have h3 : 0 ≤ a * a := Int.mul_nonneg h0 h0
  omega

set_option maxHeartbeats 400000 in
theorem bad_any (n width : Int) (last : Bool) (w : World) (hn0 : 0 ≤ n) (hn : n ≤ 1300) (h1 : 1 ≤ width) (h2 : width ≤ 100) :
    Calls Tryd.prog 48 #[.int .i64 n, .int .i64 width, .bool last] w fun e w' => e = .returned (.int .i64 (badW n width last)) ∧ w = w' := by
  by_cases h : width < n
  · rw [badW, if_pos h]
    go_enter Tryd.func48, Tryd.ntmps48
    go_wp2
    go_ret
    exact ⟨rfl, rfl⟩
  · rw [badW, if_neg h]
    cases last with
    | true =>
      go_enter Tryd.func48, Tryd.ntmps48
      go_wp2
      go_ret
      exact ⟨rfl, rfl⟩
    | false =>
      obtain ⟨g1, g2⟩ := mul_bd (a := width - n) (by omega) (by omega)
      go_enter Tryd.func48, Tryd.ntmps48
      go_wp2
      go_ret
      exact ⟨rfl, rfl⟩

/-- Words and a width: the fault. -/
def checkedF (l : List ByteArray) (width : Int) : Int := if wordsF l ≠ 0 then wordsF l else if width < 1 ∨ 100 < width then 1 else 0

set_option maxHeartbeats 400000 in
theorem checked_any (l : List ByteArray) (A : Option Addr) (n c : Nat) (hn : l.length = n) (width : Int) (w : World) (hl : Txs w w.heap.size A l) :
    Calls Tryd.prog 47 #[.slice A n c, .int .i64 width] w (Ret w (errV (checkedF l width))) := by
  have HC := Lib.hid (words_any l A n c hn w hl)
  by_cases he : wordsF l = 0
  · rw [he, ← errV_zero rfl] at HC
    rw [checkedF, if_neg (by simp [he])]
    clear he hl hn
    by_cases h1 : width < 1
    · have k1 : decide (width < 1) = true := by simpa using h1
      rw [if_pos (.inl h1), ← errV_pos (by decide)]
      go_enter Tryd.func47, Tryd.ntmps47
      go_wp2_with (go_at_call 20; refine HC.out.mono ?_; rintro e w1 ⟨rfl, rfl⟩)
      go_ret
      exact ⟨rfl, (by repeat (first | exact Below.refl _ _ | assumption | apply Below.drew | refine below_drewN ?_ _ | apply Below.setCell _ (by first | omega | (simp; done) | (simp; omega)) | apply Below.alloc _ (by first | omega | (simp; done) | (simp; omega))))⟩
    · have k1 : decide (width < 1) = false := by simpa using h1
      by_cases h2 : 100 < width
      · have k2 : decide (100 < width) = true := by simpa using h2
        rw [if_pos (.inr h2), ← errV_pos (by decide)]
        go_enter Tryd.func47, Tryd.ntmps47
        go_wp2_with (go_at_call 20; refine HC.out.mono ?_; rintro e w1 ⟨rfl, rfl⟩)
        go_ret
        exact ⟨rfl, (by repeat (first | exact Below.refl _ _ | assumption | apply Below.drew | refine below_drewN ?_ _ | apply Below.setCell _ (by first | omega | (simp; done) | (simp; omega)) | apply Below.alloc _ (by first | omega | (simp; done) | (simp; omega))))⟩
      · have k2 : decide (100 < width) = false := by simpa using h2
        rw [if_neg (by omega), ← errV_zero rfl]
        go_enter Tryd.func47, Tryd.ntmps47
        go_wp2_with (go_at_call 20; refine HC.out.mono ?_; rintro e w1 ⟨rfl, rfl⟩)
        go_ret
        exact ⟨rfl, (by repeat (first | exact Below.refl _ _ | assumption | apply Below.drew | refine below_drewN ?_ _ | apply Below.setCell _ (by first | omega | (simp; done) | (simp; omega)) | apply Below.alloc _ (by first | omega | (simp; done) | (simp; omega))))⟩
  · rw [← errV_pos he] at HC
    rw [checkedF, if_pos he, ← errV_pos he]
    generalize wordsF l = q at *
    clear he hl hn
    go_enter Tryd.func47, Tryd.ntmps47
    go_wp2_with (go_at_call 20; refine HC.out.mono ?_; rintro e w1 ⟨rfl, rfl⟩)
    go_ret
    exact ⟨rfl, (by repeat (first | exact Below.refl _ _ | assumption | apply Below.drew | refine below_drewN ?_ _ | apply Below.setCell _ (by first | omega | (simp; done) | (simp; omega)) | apply Below.alloc _ (by first | omega | (simp; done) | (simp; omega))))⟩
end Go.Proofs.YtddfdmopaeghnaaDoor
