/- Walk of pargetrylaw2.DeskSame. Conditions: the text is not longer than a slice may be; the steps lie below the call's own blocks; internal/bytealg.MaxLen holds some number; the table of the powers of ten reads as the program's text lays it. -/
import Derived.Test.YtddfdmopaeghnacGreatDoorDkDe
namespace Go.Proofs.YtddfdmopaeghnacGreatDoor
open Go.RowKit Go.Maps
theorem deskS_set {w0 w : World} {d : Nat} (h : DkS w0 d 40 [] [] w) (hm : MaxL w0) (hpw : PowT w0) :
  Calls Tryz.prog 32 #[.pointer (some ⟨d, 0, none⟩), .string deskSI] w fun e w' => e = .returned (.tuple #[.int .i64 2, .int .i64 0, .nilIface]) ∧ DkS w0 d 40 [deskSA, deskSB, deskSA] (seenL [] [deskSA, deskSB, deskSA]) w' := by
 have := dk_set_ok h hm hpw (by decide) deskS_parse deskS_err
 rw [deskS_new] at this
 exact this
theorem dk_set_again {w0 w : World} {d : Nat} {W : Int} {p : List (List Nd)} (h : DkS w0 d W p (seenL [] p) w) (hm : MaxL w0) (hpw : PowT w0) {s : ByteArray} (hs : s.size ≤ maxLen) {k : Nat} (hp : parseF s = (0, k, p)) (hq : formE W p = 0) :
  Calls Tryz.prog 32 #[.pointer (some ⟨d, 0, none⟩), .string s] w fun e w' => e = .returned (.tuple #[.int .i64 0, .int .i64 0, .nilIface]) ∧ DkS w0 d W p (seenL [] p) w' := by
 have := dk_set_ok h hm hpw hs hp hq
 rw [newN_none (K := seenL [] p) (fun u hu => seenL_all.2 u hu)] at this
 exact this
set_option maxRecDepth 100000 in
set_option maxHeartbeats 8000000 in
theorem deskSame_new (W : Int) (A : Option Addr) (n c : Nat) (s : ByteArray) (w : World) (hm : MaxL w) (hp : PowT w) (hW : wideF W = false) :
  Calls Tryz.prog 9 #[.int .i64 W, .slice A n c, .string s] w (Ret w (.bool true)) := by
 have HB : Hid (Below w.heap.size w w) := Lib.hid (Below.refl _ _)
 have HN0 := Lib.hid (fun (w' : World) (hB : Below w.heap.size w w') => dk_new (W := 40) rfl hB)
 have HS0 := Lib.hid (fun (w' : World) (d : Nat) (hD : DkS w d 40 [] [] w') => deskS_set hD hm hp)
 have HT0 := Lib.hid (fun (w' : World) (d : Nat) (hD : DkS w d 40 [deskSA, deskSB, deskSA] (seenL [] [deskSA, deskSB, deskSA]) w') => dk_textx hD hp deskS_text)
 unfold deskSI at HS0
 unfold deskSO at HT0
 have HN1 := Lib.hid (fun w' => dnew_bad hW w')
 have hw : W < 10 ∨ 100 < W := by
  unfold wideF at hW
  rw [Bool.and_eq_false_iff] at hW
  rcases hW with h | h
  ·left; simpa using h
  ·right; simpa using h
 clear hm hp hW
 by_cases h10 : W < 10
 ·have d1 : decide (W < 10) = true := by simpa using h10
  clear hw h10
  go_enter Tryz.func9, Tryz.ntmps9
  go_wp2_with (first
   | (go_at_call 31; (fail_if_success have z := T0); refine (HN0.out _ HB.out).mono ?_; rintro e w1 ⟨z, rfl, hD⟩; have HZ := Lib.hid hD; have HB := Lib.hid hD.2.2; clear hD; have T0 := Lib.hid True.intro)
   | (go_at_call 32; (have z := T0; clear z); (fail_if_success have z := T1); refine (HS0.out _ _ HZ.out).mono ?_; rintro e w2 ⟨rfl, hD⟩; have HZ := Lib.hid hD; have HB := Lib.hid hD.2.2; clear hD; have T1 := Lib.hid True.intro)
   | (go_at_call 33; (have z := T1; clear z); (fail_if_success have z := T2); refine (HT0.out _ _ HZ.out).mono ?_; rintro e w3 ⟨rfl, hD⟩; have HZ := Lib.hid hD; have HB := Lib.hid hD.2.2; clear hD; have T2 := Lib.hid True.intro)
   | (go_at_call 31; (have z := T2; clear z); (fail_if_success have z := T3); refine (HN1.out _).mono ?_; rintro e w4 ⟨rfl, hB⟩; have HB := Lib.hid (HB.out.trans (hB.mono HB.out.size)); clear hB; have T3 := Lib.hid True.intro))
  go_ret
  exact ⟨by first | rfl | (simp; done), HB.out⟩
 ·have h11 : 100 < W := hw.resolve_left h10
  have d1 : decide (W < 10) = false := by simpa using h10
  have d2 : decide (100 < W) = true := by simpa using h11
  clear hw h10 h11
  go_enter Tryz.func9, Tryz.ntmps9
  go_wp2_with (first
   | (go_at_call 31; (fail_if_success have z := T0); refine (HN0.out _ HB.out).mono ?_; rintro e w1 ⟨z, rfl, hD⟩; have HZ := Lib.hid hD; have HB := Lib.hid hD.2.2; clear hD; have T0 := Lib.hid True.intro)
   | (go_at_call 32; (have z := T0; clear z); (fail_if_success have z := T1); refine (HS0.out _ _ HZ.out).mono ?_; rintro e w2 ⟨rfl, hD⟩; have HZ := Lib.hid hD; have HB := Lib.hid hD.2.2; clear hD; have T1 := Lib.hid True.intro)
   | (go_at_call 33; (have z := T1; clear z); (fail_if_success have z := T2); refine (HT0.out _ _ HZ.out).mono ?_; rintro e w3 ⟨rfl, hD⟩; have HZ := Lib.hid hD; have HB := Lib.hid hD.2.2; clear hD; have T2 := Lib.hid True.intro)
   | (go_at_call 31; (have z := T2; clear z); (fail_if_success have z := T3); refine (HN1.out _).mono ?_; rintro e w4 ⟨rfl, hB⟩; have HB := Lib.hid (HB.out.trans (hB.mono HB.out.size)); clear hB; have T3 := Lib.hid True.intro))
  go_ret
  exact ⟨by first | rfl | (simp; done), HB.out⟩
set_option maxRecDepth 100000 in
set_option maxHeartbeats 16000000 in
theorem deskSame_main (W : Int) (l : List Nd) (n : Nat) (hn : l.length = n) (A : Option Addr) (c : Nat) (s : ByteArray) (w : World) (hs : s.size ≤ maxLen) (hm : MaxL w) (hp : PowT w) (hW : wideF W = true) (hl : Nds w w.heap.size A l) :
  Calls Tryz.prog 9 #[.int .i64 W, .slice A n c, .string s] w (Ret w (.bool true)) := by
 have HB : Hid (Below w.heap.size w w) := Lib.hid (Below.refl _ _)
 have HN0 := Lib.hid (fun (w' : World) (hB : Below w.heap.size w w') => dk_new (W := 40) rfl hB)
 have HS0 := Lib.hid (fun (w' : World) (d : Nat) (hD : DkS w d 40 [] [] w') => deskS_set hD hm hp)
 have HT0 := Lib.hid (fun (w' : World) (d : Nat) (hD : DkS w d 40 [deskSA, deskSB, deskSA] (seenL [] [deskSA, deskSB, deskSA]) w') => dk_textx hD hp deskS_text)
 unfold deskSI at HS0
 unfold deskSO at HT0
 have HN1 := Lib.hid (fun (w' : World) (hB : Below w.heap.size w w') => dk_new hW hB)
 have HM := Lib.hid hm; have HPW := Lib.hid hp; have HSS := Lib.hid hs; have HL := Lib.hid hl
 have hnm : n ≤ maxLen := by rw [← hn]; exact hl.2.1
 unfold maxLen at hnm
 have HSA := Lib.hid (fun (w' : World) (d : Nat) (U : Int) (q : List (List Nd)) (L : List ByteArray) (hD : DkS w d U q L w') (t : ByteArray) (ht : t.size ≤ maxLen) => dk_set_any hD hm hp ht)
 have HWA := Lib.hid (fun (w' : World) (d : Nat) (U : Int) (q : List (List Nd)) (L : List ByteArray) (hD : DkS w d U q L w') (V : Int) => dk_wide_any (V := V) hD hm hp)
 have HSZ := Lib.hid True.intro
 clear hs hm hp hW hl
 go_enter Tryz.func9, Tryz.ntmps9
 go_wp2_with (first
   | (go_at_call 31; (fail_if_success have z := T0); refine (HN0.out _ HB.out).mono ?_; rintro e w1 ⟨z, rfl, hD⟩; have HZ := Lib.hid hD; have HB := Lib.hid hD.2.2; clear hD; have T0 := Lib.hid True.intro)
   | (go_at_call 32; (have z := T0; clear z); (fail_if_success have z := T1); refine (HS0.out _ _ HZ.out).mono ?_; rintro e w2 ⟨rfl, hD⟩; have HZ := Lib.hid hD; have HB := Lib.hid hD.2.2; clear hD; have T1 := Lib.hid True.intro)
   | (go_at_call 33; (have z := T1; clear z); (fail_if_success have z := T2); refine (HT0.out _ _ HZ.out).mono ?_; rintro e w3 ⟨rfl, hD⟩; have HZ := Lib.hid hD; have HB := Lib.hid hD.2.2; clear hD; have T2 := Lib.hid True.intro)
   | (go_at_call 31; (have z := T2; clear z); (fail_if_success have z := T3); refine (HN1.out _ HB.out).mono ?_; rintro e w4 ⟨dd, rfl, hD⟩; have HD := Lib.hid hD; have HB := Lib.hid hD.2.2; clear hD; have T3 := Lib.hid True.intro))
 clear HN0 HS0 HT0 HN1
 go_loopw [13] (fun i wr => ∃ (k : Nat) (U : Int) (q : List (List Nd)) (L : List ByteArray), k ≤ n ∧ k ≤ 12 ∧ i = .int .i64 k ∧ Hid (DkS w dd U q L wr)) (fun i _ => 12 - (intOf i).toNat)
 case atStart => exact ⟨0, _, _, _, by omega, by omega, rfl, HD⟩
 case round =>
  clear HD HB HZ
  obtain ⟨k, U, q, L, hk, hk12, rfl, HD⟩ := hrel
  have HB := Lib.hid HD.out.2.2
  by_cases hkn : k < n
  ·by_cases hk2 : k < 12
   ·have e1 : decide ((k : Int) < (n : Int)) = true := by simp; omega
    have e2 : decide ((k : Int) < 12) = true := by simp; omega
    obtain ⟨b, off, op, t, m, rfl, hb, hx, hts, c1, c2, c3⟩ := HL.out.node HB.out (k := k) (by omega)
    have HS1 := Lib.hid (fun (w' : World) (hD : DkS w dd U q L w') => HSA.out w' dd U q L hD t hts)
    have HW1 := Lib.hid (fun (w' : World) (hD : DkS w dd U q L w') => HWA.out w' dd U q L hD m)
    clear hx HSA HWA
    by_cases hop : op = 0
    ·subst hop
     go_wp2_with (go_at_call 34; refine (HW1.out _ HD.out).mono ?_; rintro e v1 ⟨⟨v, rfl⟩, U2, q2, L2, hD⟩; have HD2 := Lib.hid hD; clear hD)
     go_roundw
     case measure => simp [intOf]; omega
     case rel => exact ⟨k + 1, U2, q2, L2, by omega, by omega, by go_num, HD2⟩
    ·have e3 : decide (op = 0) = false := by simpa using hop
     go_wp2_with (go_at_call 32; refine (HS1.out _ HD.out).mono ?_; rintro e v1 ⟨⟨va, vb, vc, rfl⟩, U2, q2, L2, hD⟩; have HD2 := Lib.hid hD; clear hD)
     go_roundw
     case measure => simp [intOf]; omega
     case rel => exact ⟨k + 1, U2, q2, L2, by omega, by omega, by go_num, HD2⟩
   ·have e1 : decide ((k : Int) < (n : Int)) = true := by simp; omega
    have e2 : decide ((k : Int) < 12) = false := by simp; omega
    have HTU := Lib.hid (fun (w' : World) (hD : DkS w dd U q L w') => dk_text hD HPW.out)
    by_cases hs1 : (parseF s).1 ≠ 0 ∨ formE U (parseF s).2.2 ≠ 0
    ·have HS1 := Lib.hid (fun (w' : World) (hD : DkS w dd U q L w') => dk_set_no hD HM.out HPW.out HSS.out hs1)
     clear hs1 HSA HWA HSZ
     generalize formT U q = T at *
     have hb1 : (T.toList == T.toList) = true := by simp
     have hb2 : (T.toList != T.toList) = false := by simp
     go_wp2_with (first
         | (go_at_call 33; (fail_if_success have z := R0); refine (HTU.out _ HD.out).mono ?_; rintro e v1 ⟨rfl, hD⟩; have HD := Lib.hid hD; have HB := Lib.hid hD.2.2; clear hD; have R0 := Lib.hid True.intro)
         | (go_at_call 32; (have z := R0; clear z); (fail_if_success have z := R1); refine (HS1.out _ HD.out).mono ?_; rintro e v2 ⟨⟨k2, f, rfl⟩, hD⟩; have HD := Lib.hid hD; have HB := Lib.hid hD.2.2; clear hD; have R1 := Lib.hid True.intro)
         | (go_at_call 33; (have z := R1; clear z); (fail_if_success have z := R2); refine (HTU.out _ HD.out).mono ?_; rintro e v3 ⟨rfl, hD⟩; have HD := Lib.hid hD; have HB := Lib.hid hD.2.2; clear hD; have R2 := Lib.hid True.intro))
     go_ret
     exact ⟨by first | rfl | (simp; done), HB.out⟩
    ·obtain ⟨f, k2, q2, he⟩ : ∃ f k q, parseF s = (f, k, q) := ⟨_, _, _, rfl⟩
     rw [he] at hs1
     have h1 : f = 0 := by
      by_cases hx : f = 0
      ·exact hx
      ·exact absurd (.inl hx) hs1
     subst h1
     have h2 : formE U q2 = 0 := by
      by_cases hx : formE U q2 = 0
      ·exact hx
      ·exact absurd (.inr hx) hs1
     have hUw : wideF U = true := HD.out.1.onDesk.1.wide
     have hw0 := parsed_words (s := s) (by rw [he])
     rw [he] at hw0
     simp only at hw0
     obtain ⟨h5, h6⟩ := parse_form hw0.1 hw0.2 h2
     have ht : (formT U q2).size ≤ maxLen := by simp only [maxLen]; omega
     have h7 := fmt_of he U
     rw [if_neg (by simp [hUw]), if_neg (by simp [h2])] at h7
     have HS1 := Lib.hid (fun (w' : World) (hD : DkS w dd U q L w') => dk_set_ok hD HM.out HPW.out HSS.out he h2)
     have HWD := Lib.hid (fun (w' : World) (hD : DkS w dd U q2 (seenL [] q2) w') => dk_width hD)
     have HF := Lib.hid (fun (w' : World) (hB : Below w.heap.size w w') => fmt_ok_is h7 w' HSS.out (HM.out.past hB) (HPW.out.past hB))
     have HTV := Lib.hid (fun (w' : World) (hD : DkS w dd U q2 (seenL [] q2) w') => dk_text hD HPW.out)
     have HS2 := Lib.hid (fun (w' : World) (hD : DkS w dd U q2 (seenL [] q2) w') => dk_set_again hD HM.out HPW.out ht h5 h2)
     have hnn : decide (((newN L [] q2 : Nat) : Int) < 0) = false := by simp
     clear hs1 HSA HWA HSZ hw0 h5 h6 ht h7 h2 hUw
     generalize newN L [] q2 = nn at *
     generalize formT U q = T0' at *
     generalize formT U q2 = T at *
     have hb1 : (T.toList == T.toList) = true := by simp
     have hb2 : (T.toList != T.toList) = false := by simp
     go_wp2_with (first
         | (go_at_call 33; (fail_if_success have z := R0); refine (HTU.out _ HD.out).mono ?_; rintro e v1 ⟨rfl, hD⟩; have HD := Lib.hid hD; have HB := Lib.hid hD.2.2; clear hD; have R0 := Lib.hid True.intro)
         | (go_at_call 32; (have z := R0; clear z); (fail_if_success have z := R1); refine (HS1.out _ HD.out).mono ?_; rintro e v2 ⟨rfl, hD⟩; have HD := Lib.hid hD; have HB := Lib.hid hD.2.2; clear hD; have R1 := Lib.hid True.intro)
         | (go_at_call 35; (have z := R1; clear z); (fail_if_success have z := R2); refine (HWD.out _ HD.out).mono ?_; rintro e v3 ⟨rfl, hD⟩; have HD := Lib.hid hD; have HB := Lib.hid hD.2.2; clear hD; have R2 := Lib.hid True.intro)
         | (go_at_call 30; (have z := R2; clear z); (fail_if_success have z := R3); refine (HF.out _ HB.out).mono ?_; rintro e v4 ⟨rfl, hB⟩; have HD := Lib.hid (HD.out.past hB); have HB := Lib.hid (HB.out.trans (hB.mono HB.out.size)); clear hB; have R3 := Lib.hid True.intro)
         | (go_at_call 33; (have z := R3; clear z); (fail_if_success have z := R4); refine (HTV.out _ HD.out).mono ?_; rintro e v5 ⟨rfl, hD⟩; have HD := Lib.hid hD; have HB := Lib.hid hD.2.2; clear hD; have R4 := Lib.hid True.intro)
         | (go_at_call 32; (have z := R4; clear z); (fail_if_success have z := R5); refine (HS2.out _ HD.out).mono ?_; rintro e v6 ⟨rfl, hD⟩; have HD := Lib.hid hD; have HB := Lib.hid hD.2.2; clear hD; have R5 := Lib.hid True.intro)
         | (go_at_call 33; (have z := R5; clear z); (fail_if_success have z := R6); refine (HTV.out _ HD.out).mono ?_; rintro e v7 ⟨rfl, hD⟩; have HD := Lib.hid hD; have HB := Lib.hid hD.2.2; clear hD; have R6 := Lib.hid True.intro))
     go_ret
     exact ⟨by first | rfl | (simp; done), HB.out⟩
  ·have e1 : decide ((k : Int) < (n : Int)) = false := by simp; omega
   have HTU := Lib.hid (fun (w' : World) (hD : DkS w dd U q L w') => dk_text hD HPW.out)
   by_cases hs1 : (parseF s).1 ≠ 0 ∨ formE U (parseF s).2.2 ≠ 0
   ·have HS1 := Lib.hid (fun (w' : World) (hD : DkS w dd U q L w') => dk_set_no hD HM.out HPW.out HSS.out hs1)
    clear hs1 HSA HWA HSZ
    generalize formT U q = T at *
    have hb1 : (T.toList == T.toList) = true := by simp
    have hb2 : (T.toList != T.toList) = false := by simp
    go_wp2_with (first
        | (go_at_call 33; (fail_if_success have z := R0); refine (HTU.out _ HD.out).mono ?_; rintro e v1 ⟨rfl, hD⟩; have HD := Lib.hid hD; have HB := Lib.hid hD.2.2; clear hD; have R0 := Lib.hid True.intro)
        | (go_at_call 32; (have z := R0; clear z); (fail_if_success have z := R1); refine (HS1.out _ HD.out).mono ?_; rintro e v2 ⟨⟨k2, f, rfl⟩, hD⟩; have HD := Lib.hid hD; have HB := Lib.hid hD.2.2; clear hD; have R1 := Lib.hid True.intro)
        | (go_at_call 33; (have z := R1; clear z); (fail_if_success have z := R2); refine (HTU.out _ HD.out).mono ?_; rintro e v3 ⟨rfl, hD⟩; have HD := Lib.hid hD; have HB := Lib.hid hD.2.2; clear hD; have R2 := Lib.hid True.intro))
    go_ret
    exact ⟨by first | rfl | (simp; done), HB.out⟩
   ·obtain ⟨f, k2, q2, he⟩ : ∃ f k q, parseF s = (f, k, q) := ⟨_, _, _, rfl⟩
    rw [he] at hs1
    have h1 : f = 0 := by
     by_cases hx : f = 0
     ·exact hx
     ·exact absurd (.inl hx) hs1
    subst h1
    have h2 : formE U q2 = 0 := by
     by_cases hx : formE U q2 = 0
     ·exact hx
     ·exact absurd (.inr hx) hs1
    have hUw : wideF U = true := HD.out.1.onDesk.1.wide
    have hw0 := parsed_words (s := s) (by rw [he])
    rw [he] at hw0
    simp only at hw0
    obtain ⟨h5, h6⟩ := parse_form hw0.1 hw0.2 h2
    have ht : (formT U q2).size ≤ maxLen := by simp only [maxLen]; omega
    have h7 := fmt_of he U
    rw [if_neg (by simp [hUw]), if_neg (by simp [h2])] at h7
    have HS1 := Lib.hid (fun (w' : World) (hD : DkS w dd U q L w') => dk_set_ok hD HM.out HPW.out HSS.out he h2)
    have HWD := Lib.hid (fun (w' : World) (hD : DkS w dd U q2 (seenL [] q2) w') => dk_width hD)
    have HF := Lib.hid (fun (w' : World) (hB : Below w.heap.size w w') => fmt_ok_is h7 w' HSS.out (HM.out.past hB) (HPW.out.past hB))
    have HTV := Lib.hid (fun (w' : World) (hD : DkS w dd U q2 (seenL [] q2) w') => dk_text hD HPW.out)
    have HS2 := Lib.hid (fun (w' : World) (hD : DkS w dd U q2 (seenL [] q2) w') => dk_set_again hD HM.out HPW.out ht h5 h2)
    have hnn : decide (((newN L [] q2 : Nat) : Int) < 0) = false := by simp
    clear hs1 HSA HWA HSZ hw0 h5 h6 ht h7 h2 hUw
    generalize newN L [] q2 = nn at *
    generalize formT U q = T0' at *
    generalize formT U q2 = T at *
    have hb1 : (T.toList == T.toList) = true := by simp
    have hb2 : (T.toList != T.toList) = false := by simp
    go_wp2_with (first
        | (go_at_call 33; (fail_if_success have z := R0); refine (HTU.out _ HD.out).mono ?_; rintro e v1 ⟨rfl, hD⟩; have HD := Lib.hid hD; have HB := Lib.hid hD.2.2; clear hD; have R0 := Lib.hid True.intro)
        | (go_at_call 32; (have z := R0; clear z); (fail_if_success have z := R1); refine (HS1.out _ HD.out).mono ?_; rintro e v2 ⟨rfl, hD⟩; have HD := Lib.hid hD; have HB := Lib.hid hD.2.2; clear hD; have R1 := Lib.hid True.intro)
        | (go_at_call 35; (have z := R1; clear z); (fail_if_success have z := R2); refine (HWD.out _ HD.out).mono ?_; rintro e v3 ⟨rfl, hD⟩; have HD := Lib.hid hD; have HB := Lib.hid hD.2.2; clear hD; have R2 := Lib.hid True.intro)
        | (go_at_call 30; (have z := R2; clear z); (fail_if_success have z := R3); refine (HF.out _ HB.out).mono ?_; rintro e v4 ⟨rfl, hB⟩; have HD := Lib.hid (HD.out.past hB); have HB := Lib.hid (HB.out.trans (hB.mono HB.out.size)); clear hB; have R3 := Lib.hid True.intro)
        | (go_at_call 33; (have z := R3; clear z); (fail_if_success have z := R4); refine (HTV.out _ HD.out).mono ?_; rintro e v5 ⟨rfl, hD⟩; have HD := Lib.hid hD; have HB := Lib.hid hD.2.2; clear hD; have R4 := Lib.hid True.intro)
        | (go_at_call 32; (have z := R4; clear z); (fail_if_success have z := R5); refine (HS2.out _ HD.out).mono ?_; rintro e v6 ⟨rfl, hD⟩; have HD := Lib.hid hD; have HB := Lib.hid hD.2.2; clear hD; have R5 := Lib.hid True.intro)
        | (go_at_call 33; (have z := R5; clear z); (fail_if_success have z := R6); refine (HTV.out _ HD.out).mono ?_; rintro e v7 ⟨rfl, hD⟩; have HD := Lib.hid hD; have HB := Lib.hid hD.2.2; clear hD; have R6 := Lib.hid True.intro))
    go_ret
    exact ⟨by first | rfl | (simp; done), HB.out⟩
theorem deskSame_any (W : Int) (l : List Nd) (A : Option Addr) (c : Nat) (s : ByteArray) (w : World) (hs : s.size ≤ maxLen) (hm : MaxL w) (hp : PowT w) (hl : Nds w w.heap.size A l) :
  Calls Tryz.prog 9 #[.int .i64 W, .slice A l.length c, .string s] w (Ret w (.bool true)) := by
 by_cases hW : wideF W = false
 ·exact deskSame_new W A _ c s w hm hp hW
 ·exact deskSame_main W l _ rfl A c s w hs hm hp (by simpa using hW) hl
end Go.Proofs.YtddfdmopaeghnacGreatDoor
