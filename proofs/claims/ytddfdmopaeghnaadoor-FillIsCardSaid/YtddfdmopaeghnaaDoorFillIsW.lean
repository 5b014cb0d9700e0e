/- Walk of the law FillIs: true, whatever the words. Conditions: the slices lie below the call's own blocks; errors.errorType holds the type error's handle. -/
import Derived.Test.YtddfdmopaeghnaaDoorFillB
import Derived.Test.YtddfdmopaeghnaaDoorErrW
import Derived.Test.YtddfdmopaeghnaaDoorTxsSame
namespace Go.Proofs.YtddfdmopaeghnaaDoor
open Go.RowKit

theorem wordF_size {t : ByteArray} (h : wordF t = true) : t.size ≤ 20 := by
  rcases Nat.lt_or_ge 20 t.size with h1 | h1
  · rw [wordF_short (.inr h1)] at h; cases h
  · exact h1
theorem few_of {l : List ByteArray} {width : Int} (h : checkedF l width = 0) : Few width l ∧ wordsF l = 0 := by
  unfold checkedF at h
  by_cases h0 : wordsF l = 0
  · rw [if_neg (by simp [h0])] at h
    have hw : 1 ≤ width ∧ width ≤ 100 := by
      split at h
      · cases h
      · omega
    refine ⟨?_, h0⟩
    unfold wordsF at h0
    split at h0
    · cases h0
    · split at h0
      · rename_i hl ha
        exact ⟨by omega, fun t ht => wordF_size (List.all_eq_true.1 ha t ht), hw.1, hw.2⟩
      · cases h0
  · rw [if_pos h0] at h; exact absurd h h0

set_option maxHeartbeats 400000 in
theorem fill_bad (l : List ByteArray) (A : Option Addr) (n c : Nat) (hn : l.length = n) (width : Int) (w : World) (hl : Txs w w.heap.size A l) (he : checkedF l width ≠ 0) :
    Calls Tryd.prog 23 #[.slice A n c, .int .i64 width] w (Ret w (.tuple #[.slice none 0 0, .iface 33 (.int .i64 (checkedF l width))])) := by
  have HC := Lib.hid (checked_any l A n c hn width w hl)
  rw [← errV_pos he] at HC
  generalize checkedF l width = q at *
  clear he hl hn
  go_enter Tryd.func23, Tryd.ntmps23
  go_wp2_with (go_at_call 47; refine HC.out.mono ?_; rintro e w1 ⟨rfl, hB1⟩)
  go_ret2
  exact ⟨rfl, (by repeat (first | exact Below.refl _ _ | assumption | apply Below.drew | refine below_drewN ?_ _ | apply Below.setCell _ (by first | omega | (simp; done) | (simp; omega)) | apply Below.alloc _ (by first | omega | (simp; done) | (simp; omega))))⟩
set_option maxHeartbeats 400000 in
theorem ragged_bad (l : List ByteArray) (A : Option Addr) (n c : Nat) (hn : l.length = n) (M : Option Addr) (m cm : Nat) (width : Int) (w : World) (hl : Txs w w.heap.size A l) (he : checkedF l width ≠ 0) :
    Calls Tryd.prog 24 #[.slice A n c, .slice M m cm, .int .i64 width] w (Ret w (.tuple #[.int .i64 0, .iface 33 (.int .i64 (checkedF l width))])) := by
  have HC := Lib.hid (checked_any l A n c hn width w hl)
  rw [← errV_pos he] at HC
  generalize checkedF l width = q at *
  clear he hl hn
  go_enter Tryd.func24, Tryd.ntmps24
  go_wp2_with (go_at_call 47; refine HC.out.mono ?_; rintro e w1 ⟨rfl, hB1⟩)
  go_ret2
  exact ⟨rfl, (by repeat (first | exact Below.refl _ _ | assumption | apply Below.drew | refine below_drewN ?_ _ | apply Below.setCell _ (by first | omega | (simp; done) | (simp; omega)) | apply Below.alloc _ (by first | omega | (simp; done) | (simp; omega))))⟩

theorem txs_nil (w : World) (B : Nat) : Txs w B none [] := ⟨⟨by simp, fun h => by simp at h⟩, by simp, fun t ht => by cases ht⟩

/-- The words have a fault. -/
theorem fillIs_1 (l : List ByteArray) (A : Option Addr) (n c : Nat) (hn : l.length = n) (M : Option Addr) (m cm : Nat) (width : Int) (w : World) (hl : Txs w w.heap.size A l) (he : wordsF l ≠ 0) (hg : ErrT w) (hs : 0 + 1 ≤ w.heap.size) :
    Calls Tryd.prog 6 #[.slice A n c, .slice M m cm, .int .i64 width] w (Ret w (.bool true)) := by
  have hq : checkedF l width = wordsF l := by rw [checkedF, if_pos he]
  have HW := Lib.hid (fun w' hl' => wordsFault_any l A n c hn w' hl')
  have HC := Lib.hid (fun w' hl' => words_any l A n c hn w' hl')
  have HF := Lib.hid (fun w' hl' => fill_bad l A n c hn width w' hl' (by rw [hq]; exact he))
  have HR := Lib.hid (fun w' hl' => ragged_bad l A n c hn M m cm width w' hl' (by rw [hq]; exact he))
  rw [hq] at HF HR
  rw [← errV_pos he] at HC
  generalize wordsF l = q at *
  have HE := Lib.hid (fun w' hg' hs' => error_same q he w' hg' hs')
  have h0 : (q == 0) = false := by simpa using he
  have HN := Lib.hid hl; have HT := Lib.hid hg
  clear he hl hg hq hn
  go_enter Tryd.func6, Tryd.ntmps6
  go_wp2_with (first
    | (go_at_call 19; refine (HW.out _ HN.out).mono ?_; rintro e w1 ⟨rfl, rfl⟩)
    | (go_at_call 20; refine (HC.out _ HN.out).mono ?_; rintro e w1 ⟨rfl, rfl⟩)
    | (go_at_call 15; (fail_if_success have hz := hB1); refine (HE.out _ HT.out hs).mono ?_; rintro e w1 ⟨rfl, hB1⟩; have HN1 := Lib.hid (HN.out.past hB1); have HT1 := Lib.hid (HT.out.past hs hB1); have hs1 := Nat.le_trans hs hB1.size)
    | (go_at_call 23; refine (HF.out _ HN1.out).mono ?_; rintro e w2 ⟨rfl, hB2⟩; have HN2 := Lib.hid (HN1.out.past hB2); have HT2 := Lib.hid (HT1.out.past hs1 hB2); have hs2 := Nat.le_trans hs1 hB2.size)
    | (go_at_call 15; (fail_if_success have hz := hB3); refine (HE.out _ HT2.out hs2).mono ?_; rintro e w3 ⟨rfl, hB3⟩; have HN3 := Lib.hid (HN2.out.past hB3); have HT3 := Lib.hid (HT2.out.past hs2 hB3); have hs3 := Nat.le_trans hs2 hB3.size)
    | (go_at_call 18; refine (texts_same [] 0 rfl none none 0 0 _ (txs_nil _ _) (txs_nil _ _)).mono ?_; rintro e w4 ⟨rfl, hB4⟩; have HN4 := Lib.hid (HN3.out.past hB4); have HT4 := Lib.hid (HT3.out.past hs3 hB4); have hs4 := Nat.le_trans hs3 hB4.size)
    | (go_at_call 24; refine (HR.out _ HN4.out).mono ?_; rintro e w5 ⟨rfl, hB5⟩; have HT5 := Lib.hid (HT4.out.past hs4 hB5); have hs5 := Nat.le_trans hs4 hB5.size)
    | (go_at_call 15; refine (HE.out _ HT5.out hs5).mono ?_; rintro e w6 ⟨rfl, hB6⟩))
  go_ret
  exact ⟨rfl, Below.next (Below.next (Below.next (Below.next (Below.next hB1 hB2) hB3) hB4) hB5) hB6⟩

/-- The width has. -/
theorem fillIs_2 (l : List ByteArray) (A : Option Addr) (n c : Nat) (hn : l.length = n) (M : Option Addr) (m cm : Nat) (width : Int) (w : World) (hl : Txs w w.heap.size A l) (he : wordsF l = 0) (hw : width < 1 ∨ 100 < width) (hg : ErrT w) (hs : 0 + 1 ≤ w.heap.size) :
    Calls Tryd.prog 6 #[.slice A n c, .slice M m cm, .int .i64 width] w (Ret w (.bool true)) := by
  have hq : checkedF l width = 1 := by rw [checkedF, if_neg (by simp [he]), if_pos hw]
  have HW := Lib.hid (fun w' hl' => wordsFault_any l A n c hn w' hl')
  have HC := Lib.hid (fun w' hl' => words_any l A n c hn w' hl')
  have HF := Lib.hid (fun w' hl' => fill_bad l A n c hn width w' hl' (by rw [hq]; decide))
  have HR := Lib.hid (fun w' hl' => ragged_bad l A n c hn M m cm width w' hl' (by rw [hq]; decide))
  rw [hq] at HF HR
  rw [he, ← errV_zero rfl] at HC
  rw [he] at HW
  have HE := Lib.hid (fun w' hg' hs' => error_same 1 (by decide) w' hg' hs')
  have HN := Lib.hid hl; have HT := Lib.hid hg
  clear he hl hg hq hn
  rcases hw with hw | hw
  · have k1 : decide (width < 1) = true := decide_eq_true hw
    go_enter Tryd.func6, Tryd.ntmps6
    go_wp2_with (first
      | (go_at_call 19; refine (HW.out _ HN.out).mono ?_; rintro e w1 ⟨rfl, rfl⟩)
      | (go_at_call 20; refine (HC.out _ HN.out).mono ?_; rintro e w1 ⟨rfl, rfl⟩)
      | (go_at_call 15; (fail_if_success have hz := hB1); refine (error_nil _ HT.out hs).mono ?_; rintro e w1 ⟨rfl, hB1⟩; have HN1 := Lib.hid (HN.out.past hB1); have HT1 := Lib.hid (HT.out.past hs hB1); have hs1 := Nat.le_trans hs hB1.size)
      | (go_at_call 23; refine (HF.out _ HN1.out).mono ?_; rintro e w2 ⟨rfl, hB2⟩; have HN2 := Lib.hid (HN1.out.past hB2); have HT2 := Lib.hid (HT1.out.past hs1 hB2); have hs2 := Nat.le_trans hs1 hB2.size)
      | (go_at_call 15; (fail_if_success have hz := hB3); refine (HE.out _ HT2.out hs2).mono ?_; rintro e w3 ⟨rfl, hB3⟩; have HN3 := Lib.hid (HN2.out.past hB3); have HT3 := Lib.hid (HT2.out.past hs2 hB3); have hs3 := Nat.le_trans hs2 hB3.size)
      | (go_at_call 18; refine (texts_same [] 0 rfl none none 0 0 _ (txs_nil _ _) (txs_nil _ _)).mono ?_; rintro e w4 ⟨rfl, hB4⟩; have HN4 := Lib.hid (HN3.out.past hB4); have HT4 := Lib.hid (HT3.out.past hs3 hB4); have hs4 := Nat.le_trans hs3 hB4.size)
      | (go_at_call 24; refine (HR.out _ HN4.out).mono ?_; rintro e w5 ⟨rfl, hB5⟩; have HT5 := Lib.hid (HT4.out.past hs4 hB5); have hs5 := Nat.le_trans hs4 hB5.size)
      | (go_at_call 15; refine (HE.out _ HT5.out hs5).mono ?_; rintro e w6 ⟨rfl, hB6⟩))
    go_ret
    exact ⟨rfl, Below.next (Below.next (Below.next (Below.next (Below.next hB1 hB2) hB3) hB4) hB5) hB6⟩
  · have k1 : decide (width < 1) = false := decide_eq_false (by omega)
    have k2 : decide (100 < width) = true := decide_eq_true hw
    go_enter Tryd.func6, Tryd.ntmps6
    go_wp2_with (first
      | (go_at_call 19; refine (HW.out _ HN.out).mono ?_; rintro e w1 ⟨rfl, rfl⟩)
      | (go_at_call 20; refine (HC.out _ HN.out).mono ?_; rintro e w1 ⟨rfl, rfl⟩)
      | (go_at_call 15; (fail_if_success have hz := hB1); refine (error_nil _ HT.out hs).mono ?_; rintro e w1 ⟨rfl, hB1⟩; have HN1 := Lib.hid (HN.out.past hB1); have HT1 := Lib.hid (HT.out.past hs hB1); have hs1 := Nat.le_trans hs hB1.size)
      | (go_at_call 23; refine (HF.out _ HN1.out).mono ?_; rintro e w2 ⟨rfl, hB2⟩; have HN2 := Lib.hid (HN1.out.past hB2); have HT2 := Lib.hid (HT1.out.past hs1 hB2); have hs2 := Nat.le_trans hs1 hB2.size)
      | (go_at_call 15; (fail_if_success have hz := hB3); refine (HE.out _ HT2.out hs2).mono ?_; rintro e w3 ⟨rfl, hB3⟩; have HN3 := Lib.hid (HN2.out.past hB3); have HT3 := Lib.hid (HT2.out.past hs2 hB3); have hs3 := Nat.le_trans hs2 hB3.size)
      | (go_at_call 18; refine (texts_same [] 0 rfl none none 0 0 _ (txs_nil _ _) (txs_nil _ _)).mono ?_; rintro e w4 ⟨rfl, hB4⟩; have HN4 := Lib.hid (HN3.out.past hB4); have HT4 := Lib.hid (HT3.out.past hs3 hB4); have hs4 := Nat.le_trans hs3 hB4.size)
      | (go_at_call 24; refine (HR.out _ HN4.out).mono ?_; rintro e w5 ⟨rfl, hB5⟩; have HT5 := Lib.hid (HT4.out.past hs4 hB5); have hs5 := Nat.le_trans hs4 hB5.size)
      | (go_at_call 15; refine (HE.out _ HT5.out hs5).mono ?_; rintro e w6 ⟨rfl, hB6⟩))
    go_ret
    exact ⟨rfl, Below.next (Below.next (Below.next (Below.next (Below.next hB1 hB2) hB3) hB4) hB5) hB6⟩

set_option maxHeartbeats 2000000 in
/-- All may be. -/
theorem fillIs_3 (l : List ByteArray) (many : List Int) (A : Option Addr) (n c : Nat) (hn : l.length = n) (hcap : n ≤ c) (M : Option Addr) (m cm : Nat) (hm : many.length = m) (width : Int) (w : World) (hl : Txs w w.heap.size A l) (hM : NumsI w w.heap.size M many) (he : checkedF l width = 0) (hg : ErrT w) (hs : 0 + 1 ≤ w.heap.size) :
    Calls Tryd.prog 6 #[.slice A n c, .slice M m cm, .int .i64 width] w (Ret w (.bool true)) := by
  obtain ⟨hf, he0⟩ := few_of he
  have HW := Lib.hid (fun w' hl' => wordsFault_any l A n c hn w' hl')
  have HC := Lib.hid (fun w' hl' => words_any l A n c hn w' hl')
  have HF := Lib.hid (fun w' hl' => fill_ok l A n c hn hcap width w' hl' hf he)
  have HO := Lib.hid (fun w' hl' => fillOf_ok l A n c hn hcap width w' hl' hf)
  have HG := Lib.hid (fun w' hl' hM' => ragged_any l many A n c hn hcap M m cm hm width w' hl' hM' hf he)
  have HQ := Lib.hid (fun w' hl' hM' => raggedOf_any l many A n c hn hcap M m cm hm width w' hl' hM' hf)
  rw [he0, ← errV_zero rfl] at HC
  rw [he0] at HW
  have HN := Lib.hid hl; have HM := Lib.hid hM; have HT := Lib.hid hg
  have hw1 := hf.lo
  have hw2 := hf.hi
  have k1 : decide (width < 1) = false := decide_eq_false (by omega)
  have k2 : decide (100 < width) = false := decide_eq_false (by omega)
  generalize fillW width l = XS at *
  cases hr : raggedW width l many 0 with
  | some s =>
    have HRV := Lib.hid hr
    clear he hl hM hg hn hm hf he0 hr hw1 hw2
    go_enter Tryd.func6, Tryd.ntmps6
    go_wp2_with (first
      | (go_at_call 19; refine (HW.out _ HN.out).mono ?_; rintro e w1 ⟨rfl, rfl⟩)
      | (go_at_call 20; refine (HC.out _ HN.out).mono ?_; rintro e w1 ⟨rfl, rfl⟩)
      | (go_at_call 15; (fail_if_success have hz := hB1); refine (error_nil _ HT.out hs).mono ?_; rintro e w1 ⟨rfl, hB1⟩; have HN1 := Lib.hid (HN.out.past hB1); have HM1 := Lib.hid (HM.out.past hB1); have HT1 := Lib.hid (HT.out.past hs hB1); have hs1 := Nat.le_trans hs hB1.size)
      | (go_at_call 21; refine (HO.out _ HN1.out).mono ?_; rintro e w4 ⟨A4, c4, rfl, ht4, hB4⟩; have HX4 := Lib.hid ht4; clear ht4; have HN4 := Lib.hid (HN1.out.past hB4); have HM4 := Lib.hid (HM1.out.past hB4); have HT4 := Lib.hid (HT1.out.past hs1 hB4); have hs4 := Nat.le_trans hs1 hB4.size)
      | (go_at_call 22; refine (HQ.out _ HN4.out HM4.out).mono ?_; rintro e w5 ⟨v, he5, hv5, rfl⟩; rw [HRV.out] at he5 hv5; subst he5; obtain rfl := hv5 s rfl)
      | (go_at_call 23; refine (HF.out _ HN4.out).mono ?_; rintro e w6 ⟨A6, c6, rfl, ht6, hB6⟩; have HX6 := Lib.hid ht6; clear ht6; have HX46 := Lib.hid (HX4.out.past hB6); have HN6 := Lib.hid (HN4.out.past hB6); have HM6 := Lib.hid (HM4.out.past hB6); have HT6 := Lib.hid (HT4.out.past hs4 hB6); have hs6 := Nat.le_trans hs4 hB6.size)
      | (go_at_call 15; (fail_if_success have hz := hB7); refine (error_nil _ HT6.out hs6).mono ?_; rintro e w7 ⟨rfl, hB7⟩; have HX7 := Lib.hid (HX6.out.past hB7); have HX47 := Lib.hid (HX46.out.past hB7); have HN7 := Lib.hid (HN6.out.past hB7); have HM7 := Lib.hid (HM6.out.past hB7); have HT7 := Lib.hid (HT6.out.past hs6 hB7); have hs7 := Nat.le_trans hs6 hB7.size)
      | (go_at_call 18; refine (texts_same XS XS.length rfl _ _ _ _ _ HX7.out HX47.out).mono ?_; rintro e w8 ⟨rfl, hB8⟩; have HN8 := Lib.hid (HN7.out.past hB8); have HM8 := Lib.hid (HM7.out.past hB8); have HT8 := Lib.hid (HT7.out.past hs7 hB8); have hs8 := Nat.le_trans hs7 hB8.size)
      | (go_at_call 24; refine (HG.out _ HN8.out HM8.out).mono ?_; rintro e w9 ⟨he9, hB9⟩; rw [HRV.out] at he9; subst he9; have HT9 := Lib.hid (HT8.out.past hs8 hB9); have hs9 := Nat.le_trans hs8 hB9.size)
      | (go_at_call 15; refine (error_nil _ HT9.out hs9).mono ?_; rintro e w10 ⟨rfl, hB10⟩))
    go_ret
    exact ⟨rfl, Below.next (Below.next (Below.next (Below.next (Below.next (Below.next hB1 hB4) hB6) hB7) hB8) hB9) hB10⟩
  | none =>
    have HRV := Lib.hid hr
    clear he hl hM hg hn hm hf he0 hr hw1 hw2
    go_enter Tryd.func6, Tryd.ntmps6
    go_wp2_with (first
      | (go_at_call 19; refine (HW.out _ HN.out).mono ?_; rintro e w1 ⟨rfl, rfl⟩)
      | (go_at_call 20; refine (HC.out _ HN.out).mono ?_; rintro e w1 ⟨rfl, rfl⟩)
      | (go_at_call 15; (fail_if_success have hz := hB1); refine (error_nil _ HT.out hs).mono ?_; rintro e w1 ⟨rfl, hB1⟩; have HN1 := Lib.hid (HN.out.past hB1); have HM1 := Lib.hid (HM.out.past hB1); have HT1 := Lib.hid (HT.out.past hs hB1); have hs1 := Nat.le_trans hs hB1.size)
      | (go_at_call 21; refine (HO.out _ HN1.out).mono ?_; rintro e w4 ⟨A4, c4, rfl, ht4, hB4⟩; have HX4 := Lib.hid ht4; clear ht4; have HN4 := Lib.hid (HN1.out.past hB4); have HM4 := Lib.hid (HM1.out.past hB4); have HT4 := Lib.hid (HT1.out.past hs1 hB4); have hs4 := Nat.le_trans hs1 hB4.size)
      | (go_at_call 22; refine (HQ.out _ HN4.out HM4.out).mono ?_; rintro e w5 ⟨v, he5, hv5, rfl⟩; rw [HRV.out] at he5; subst he5; clear hv5)
      | (go_at_call 23; refine (HF.out _ HN4.out).mono ?_; rintro e w6 ⟨A6, c6, rfl, ht6, hB6⟩; have HX6 := Lib.hid ht6; clear ht6; have HX46 := Lib.hid (HX4.out.past hB6); have HN6 := Lib.hid (HN4.out.past hB6); have HM6 := Lib.hid (HM4.out.past hB6); have HT6 := Lib.hid (HT4.out.past hs4 hB6); have hs6 := Nat.le_trans hs4 hB6.size)
      | (go_at_call 15; (fail_if_success have hz := hB7); refine (error_nil _ HT6.out hs6).mono ?_; rintro e w7 ⟨rfl, hB7⟩; have HX7 := Lib.hid (HX6.out.past hB7); have HX47 := Lib.hid (HX46.out.past hB7); have HN7 := Lib.hid (HN6.out.past hB7); have HM7 := Lib.hid (HM6.out.past hB7); have HT7 := Lib.hid (HT6.out.past hs6 hB7); have hs7 := Nat.le_trans hs6 hB7.size)
      | (go_at_call 18; refine (texts_same XS XS.length rfl _ _ _ _ _ HX7.out HX47.out).mono ?_; rintro e w8 ⟨rfl, hB8⟩; have HN8 := Lib.hid (HN7.out.past hB8); have HM8 := Lib.hid (HM7.out.past hB8); have HT8 := Lib.hid (HT7.out.past hs7 hB8); have hs8 := Nat.le_trans hs7 hB8.size)
      | (go_at_call 24; refine (HG.out _ HN8.out HM8.out).mono ?_; rintro e w9 ⟨he9, hB9⟩; rw [HRV.out] at he9; subst he9; have HT9 := Lib.hid (HT8.out.past hs8 hB9); have hs9 := Nat.le_trans hs8 hB9.size)
      | (go_at_call 15; refine (error_same 2 (by decide) _ HT9.out hs9).mono ?_; rintro e w10 ⟨rfl, hB10⟩))
    go_ret
    exact ⟨rfl, Below.next (Below.next (Below.next (Below.next (Below.next (Below.next hB1 hB4) hB6) hB7) hB8) hB9) hB10⟩
end Go.Proofs.YtddfdmopaeghnaaDoor
