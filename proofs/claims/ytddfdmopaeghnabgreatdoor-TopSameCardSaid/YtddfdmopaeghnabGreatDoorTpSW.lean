/- Walk of pargetrytop.TopSame. Conditions: the text is not longer than a slice may be; internal/bytealg.MaxLen holds some number; the table of the powers of ten reads as the program's text lays it. -/
import Derived.Test.YtddfdmopaeghnabGreatDoorTpPg
namespace Go.Proofs.YtddfdmopaeghnabGreatDoor
open Go.RowKit
set_option maxRecDepth 100000 in
set_option maxHeartbeats 8000000 in
theorem topSame_bad (s : ByteArray) (W V : Int) (w : World) (hs : s.size ≤ maxLen) (hm : MaxL w) (hp : PowT w) (h : (fmtF s W).1 ≠ 0) :
  Calls Tryz.prog 4 #[.string s, .int .i64 W, .int .i64 V] w (Ret w (.bool true)) := by
 have HB : Hid (Below w.heap.size w w) := Lib.hid (Below.refl _ _)
 have HO := Lib.hid (fun (w' : World) (hB : Below w.heap.size w w') => topOne_any w' (hm.past hB) (hp.past hB))
 obtain ⟨f, k, T, hf⟩ : ∃ f k T, fmtF s W = (f, k, T) := ⟨_, _, _, rfl⟩
 rw [hf] at h
 have HF := Lib.hid (fun (w' : World) (hB : Below w.heap.size w w') => fmt_bad_is hf h w' hs (hm.past hB) (hp.past hB))
 clear hs hm hp h hf
 go_enter Tryz.func4, Tryz.ntmps4
 go_wp2_with (first
   | (go_at_call 5; (fail_if_success have z := T0); refine (HO.out _ HB.out).mono ?_; rintro e t1 ⟨rfl, hB⟩; have HB := Lib.hid (HB.out.trans (hB.mono HB.out.size)); clear hB; have T0 := Lib.hid True.intro)
   | (go_at_call 12; (have z := T0; clear z); (fail_if_success have z := T1); refine (HF.out _ HB.out).mono ?_; rintro e t2 ⟨rfl, hB⟩; have HB := Lib.hid (HB.out.trans (hB.mono HB.out.size)); clear hB; have T1 := Lib.hid True.intro))
 go_ret
 exact ⟨by first | rfl | (simp; done), HB.out⟩
set_option maxRecDepth 100000 in
set_option maxHeartbeats 16000000 in
theorem topSame_y (s T : ByteArray) (W V : Int) (k0 k1 k4 k5 : Nat) (p : List (List Nd)) (w : World) (hs : s.size ≤ maxLen) (hT : T.size ≤ maxLen) (hm : MaxL w) (hp : PowT w) (h0 : fmtF s W = (0, k0, T)) (h1 : parseF s = (0, k1, p)) (h4 : parseF T = (0, k4, p)) (h5 : fmtF T W = (0, k5, T)) (hpr : (progF p).2 = 0) (kp : Nat) (h6 : fmtF (printF p) W = (0, kp, T)) (hx : ∀ x, parseF x = (0, 0, p) → ∃ kx, fmtF x W = (0, kx, T)) (X : ByteArray) (k2 k3 : Nat) (h2 : fmtF s V = (0, k2, X)) (h3 : fmtF X W = (0, k3, T)) (hX : X.size ≤ maxLen) :
  Calls Tryz.prog 4 #[.string s, .int .i64 W, .int .i64 V] w (Ret w (.bool true)) := by
 have HB : Hid (Below w.heap.size w w) := Lib.hid (Below.refl _ _)
 have HO := Lib.hid (fun (w' : World) (hB : Below w.heap.size w w') => topOne_any w' (hm.past hB) (hp.past hB))
 have HF := Lib.hid (fun (w' : World) (hB : Below w.heap.size w w') => fmt_ok_is h0 w' hs (hm.past hB) (hp.past hB))
 have HS := Lib.hid (fun (w' : World) (hB : Below w.heap.size w w') => lsame_ok h1 h4 w' hs hT (hm.past hB))
 have HC := Lib.hid (fun (w' : World) (hB : Below w.heap.size w w') => check_same h5 w' hT (hm.past hB) (hp.past hB))
 have he := parse_lex h1
 have HL := Lib.hid (fun (w' : World) (_ : Below w.heap.size w w') => lex_ok_t he w' hs)
 obtain ⟨np, hnp⟩ : ∃ np, p.length = np := ⟨_, rfl⟩
 have HP := Lib.hid (fun (w' : World) (hB : Below w.heap.size w w') => parse_okB h1 hnp w' hs (hm.past hB))
 have HPR := Lib.hid (fun (P : Option Addr) (c : Nat) (w' : World) (hB : Below w.heap.size w w') (hg : Prg w' w'.heap.size P p) => print_ok hnp P c w' hg (hm.past hB) (hp.past hB) hpr)
 have hps : (printF p).size ≤ maxLen := by have := printF_size hpr; simp only [maxLen]; omega
 have HF1 := Lib.hid (fun (w' : World) (hB : Below w.heap.size w w') => fmt_ok_is h6 w' hps (hm.past hB) (hp.past hB))
 have HF2 := Lib.hid (fun (w' : World) (hB : Below w.heap.size w w') => fmt_ok_is h2 w' hs (hm.past hB) (hp.past hB))
 have HF3 := Lib.hid (fun (w' : World) (hB : Below w.heap.size w w') => fmt_ok_is h3 w' hX (hm.past hB) (hp.past hB))
 have HFX0 := Lib.hid (fun (x : ByteArray) (hxs : x.size ≤ 60000) (hxl : (lexE x).1 = 0) (hxw : wordBs (lexWs x) = wordBs (lexWs s)) (w' : World) (hB : Below w.heap.size w w') => (by obtain ⟨kx, hkx⟩ := hx x (parse_words h1 hxl hxw); exact ⟨kx, fmt_ok_is hkx w' (by simp only [maxLen]; omega) (hm.past hB) (hp.past hB)⟩ : ∃ kx : Nat, Calls Tryz.prog 12 #[.string x, .int .i64 W] w' (Ret w' (.tuple #[.string T, .int .i64 (kx : Nat), .nilIface]))))
 have hb1 : (T.toList == T.toList) = true := by simp
 have hb2 : (T.toList != T.toList) = false := by simp
 have hsz := (lexE_parts he).1
 have hcn := lexWs_count he
 have HRZ := Lib.hid (rowsB_size hsz); have HE := Lib.hid he
 generalize printF p = PF at *
 clear hs hT hm hp h0 h1 h4 h5 hpr h6 hx he hnp hps h2 h3 hX
 go_enter Tryz.func4, Tryz.ntmps4
 go_wp2_with (first
   | (go_at_call 5; (fail_if_success have z := T0); refine (HO.out _ HB.out).mono ?_; rintro e t1 ⟨rfl, hB⟩; have HB := Lib.hid (HB.out.trans (hB.mono HB.out.size)); clear hB; have T0 := Lib.hid True.intro)
   | (go_at_call 12; (have z := T0; clear z); (fail_if_success have z := T1); refine (HF.out _ HB.out).mono ?_; rintro e t2 ⟨rfl, hB⟩; have HB := Lib.hid (HB.out.trans (hB.mono HB.out.size)); clear hB; have T1 := Lib.hid True.intro)
   | (go_at_call 13; (have z := T1; clear z); (fail_if_success have z := T2); refine (HS.out _ HB.out).mono ?_; rintro e t3 ⟨rfl, hB⟩; have HB := Lib.hid (HB.out.trans (hB.mono HB.out.size)); clear hB; have T2 := Lib.hid True.intro)
   | (go_at_call 14; (have z := T2; clear z); (fail_if_success have z := T3); refine (HC.out _ HB.out).mono ?_; rintro e t4 ⟨rfl, hB⟩; have HB := Lib.hid (HB.out.trans (hB.mono HB.out.size)); clear hB; have T3 := Lib.hid True.intro)
   | (go_at_call 15; (have z := T3; clear z); (fail_if_success have z := T4); refine (HL.out _ HB.out).mono ?_; rintro e t5 ⟨A3, c3, A4, c4, rfl, ht3, -, hB⟩; have HTX := Lib.hid ht3; clear ht3; have HB := Lib.hid (HB.out.trans (hB.mono HB.out.size)); clear hB; have T4 := Lib.hid True.intro))
 clear HO HF HS HC HL
 obtain ⟨n, hn⟩ : ∃ n, (lexWs s).length = n := ⟨_, rfl⟩
 rw [hn] at hcn ⊢
 have HN := Lib.hid hn; clear hn
 go_loopw [20, 21] (fun t i wr => ∃ k : Nat, k ≤ n ∧ i = .int .i64 k ∧ t = .string (rowsB s k) ∧ Below t5.heap.size t5 wr) (fun _ i _ => n - (intOf i).toNat)
 case atStart => exact ⟨0, by omega, rfl, by rw [rowsB_zero]; rfl, Below.refl _ _⟩
 case round =>
  obtain ⟨k, hk, rfl, rfl, hBr⟩ := hrel
  have HBR := Lib.hid (HB.out.trans (hBr.mono HB.out.size))
  have hTb : (rowsB s k).size ≤ 3600060000 := by
   have h1 := HRZ.out k (by rw [HN.out]; exact hk)
   have h2 : k * 60001 ≤ 60000 * 60001 := Nat.mul_le_mul_right _ (by omega)
   omega
  by_cases hlt : k < n
  ·have hkl : k < (lexWs s).length := by rw [HN.out]; exact hlt
   have hk2 : k < (wordBs (lexWs s)).length := by simpa [wordBs] using hkl
   obtain ⟨b, off, t, rfl, hb, ht, hts, hc⟩ := HTX.out.one hBr hk2
   have htz : t.size ≤ 60001 := by
    have h1 := HRZ.out (k + 1) (by omega)
    have h2 := rowsB_succ hkl
    have h3 : t = ⟨((lexWs s)[k]).2.toArray⟩ := by rw [← ht]; simp [wordBs]
    have hsp := (lex_spots _ 0 s.data.toList (Nat.le_refl _)).1 _ (List.getElem_mem (show k < (lexL 0 s.data.toList).1.length from hkl))
    have hts2 : t.size = ((lexWs s)[k]).2.length := by rw [h3]; simp [ByteArray.size]
    have hsl : s.data.toList.length = s.size := by simp
    have := hsp.2.1
    rw [hts2]
    show ((lexL 0 s.data.toList).1[k]).2.length ≤ _
    omega
   have hstep := rowsB_succ hkl
   rw [show (⟨((lexWs s)[k]).2.toArray⟩ : ByteArray) = t by rw [← ht]; simp [wordBs]] at hstep
   have HST := Lib.hid hstep
   clear hstep ht hkl hk2
   generalize rowsB s k = Q at *
   go_wp2
   go_roundw
   case rel => exact ⟨k + 1, by omega, by go_num, by rw [HST.out], hBr⟩
   case measure => simp [intOf]; omega
  ·obtain rfl : k = n := by omega
   have HB := HBR
   clear HBR
   by_cases hz : 60000 < (rowsB s k).size
   ·clear HFX0
    generalize rowsB s k = Q at *
    go_wp2_with (first
     | (go_at_call 16; (fail_if_success have z := R0); refine (HP.out _ HB.out).mono ?_; rintro e r1 ⟨A5, c5, rfl, hF, hB⟩; have HPG := Lib.hid hF.prg; have HB := Lib.hid (HB.out.trans (hB.mono HB.out.size)); clear hB hF; have R0 := Lib.hid True.intro)
     | (go_at_call 17; (have z := R0; clear z); (fail_if_success have z := R1); refine (HPR.out _ _ _ HB.out HPG.out).mono ?_; rintro e r2 ⟨rfl, hB⟩; have HB := Lib.hid (HB.out.trans (hB.mono HB.out.size)); clear hB; have R1 := Lib.hid True.intro)
     | (go_at_call 12; (have z := R1; clear z); (fail_if_success have z := R2); refine (HF1.out _ HB.out).mono ?_; rintro e r3 ⟨rfl, hB⟩; have HB := Lib.hid (HB.out.trans (hB.mono HB.out.size)); clear hB; have R2 := Lib.hid True.intro)
     | (go_at_call 12; (have z := R2; clear z); (fail_if_success have z := R3); refine (HF2.out _ HB.out).mono ?_; rintro e r4 ⟨rfl, hB⟩; have HB := Lib.hid (HB.out.trans (hB.mono HB.out.size)); clear hB; have R3 := Lib.hid True.intro)
     | (go_at_call 12; (have z := R3; clear z); (fail_if_success have z := R4); refine (HF3.out _ HB.out).mono ?_; rintro e r5 ⟨rfl, hB⟩; have HB := Lib.hid (HB.out.trans (hB.mono HB.out.size)); clear hB; have R4 := Lib.hid True.intro))
    go_ret
    exact ⟨by first | rfl | (simp; done), HB.out⟩
   ·have hag := lex_again HE.out (by rw [HN.out]; omega)
    rw [HN.out] at hag
    have HFX1 := Lib.hid (fun (w' : World) (hB : Below w.heap.size w w') => HFX0.out _ (by omega) hag.1 hag.2 w' hB)
    have HFX : Hid (∀ (w' : World), Below w.heap.size w w' → Calls Tryz.prog 12 #[.string (rowsB s k), .int .i64 W] w' (fun e w'' => (∃ kx : Nat, e = .returned (.tuple #[.string T, .int .i64 (kx : Nat), .nilIface])) ∧ Below w'.heap.size w' w'')) := Lib.hid (fun w' hB => by obtain ⟨kx, hkx⟩ := HFX1.out w' hB; exact hkx.mono fun e w'' h => ⟨⟨kx, h.1⟩, h.2⟩)
    clear HFX0 HFX1 hag
    generalize rowsB s k = Q at *
    go_wp2_with (first
     | (go_at_call 12; (fail_if_success have z := R0); refine (HFX.out _ HB.out).mono ?_; rintro e r1 ⟨⟨kx, rfl⟩, hB⟩; have HB := Lib.hid (HB.out.trans (hB.mono HB.out.size)); clear hB; have R0 := Lib.hid True.intro)
     | (go_at_call 16; (have z := R0; clear z); (fail_if_success have z := R1); refine (HP.out _ HB.out).mono ?_; rintro e r2 ⟨A5, c5, rfl, hF, hB⟩; have HPG := Lib.hid hF.prg; have HB := Lib.hid (HB.out.trans (hB.mono HB.out.size)); clear hB hF; have R1 := Lib.hid True.intro)
     | (go_at_call 17; (have z := R1; clear z); (fail_if_success have z := R2); refine (HPR.out _ _ _ HB.out HPG.out).mono ?_; rintro e r3 ⟨rfl, hB⟩; have HB := Lib.hid (HB.out.trans (hB.mono HB.out.size)); clear hB; have R2 := Lib.hid True.intro)
     | (go_at_call 12; (have z := R2; clear z); (fail_if_success have z := R3); refine (HF1.out _ HB.out).mono ?_; rintro e r4 ⟨rfl, hB⟩; have HB := Lib.hid (HB.out.trans (hB.mono HB.out.size)); clear hB; have R3 := Lib.hid True.intro)
     | (go_at_call 12; (have z := R3; clear z); (fail_if_success have z := R4); refine (HF2.out _ HB.out).mono ?_; rintro e r5 ⟨rfl, hB⟩; have HB := Lib.hid (HB.out.trans (hB.mono HB.out.size)); clear hB; have R4 := Lib.hid True.intro)
     | (go_at_call 12; (have z := R4; clear z); (fail_if_success have z := R5); refine (HF3.out _ HB.out).mono ?_; rintro e r6 ⟨rfl, hB⟩; have HB := Lib.hid (HB.out.trans (hB.mono HB.out.size)); clear hB; have R5 := Lib.hid True.intro))
    go_ret
    exact ⟨by first | rfl | (simp; done), HB.out⟩
set_option maxRecDepth 100000 in
set_option maxHeartbeats 16000000 in
theorem topSame_n (s T : ByteArray) (W V : Int) (k0 k1 k4 k5 : Nat) (p : List (List Nd)) (w : World) (hs : s.size ≤ maxLen) (hT : T.size ≤ maxLen) (hm : MaxL w) (hp : PowT w) (h0 : fmtF s W = (0, k0, T)) (h1 : parseF s = (0, k1, p)) (h4 : parseF T = (0, k4, p)) (h5 : fmtF T W = (0, k5, T)) (hpr : (progF p).2 = 0) (kp : Nat) (h6 : fmtF (printF p) W = (0, kp, T)) (hx : ∀ x, parseF x = (0, 0, p) → ∃ kx, fmtF x W = (0, kx, T)) (f : Int) (hf : f ≠ 0) (k2 : Nat) (h2 : fmtF s V = (f, k2, .empty)) :
  Calls Tryz.prog 4 #[.string s, .int .i64 W, .int .i64 V] w (Ret w (.bool true)) := by
 have HB : Hid (Below w.heap.size w w) := Lib.hid (Below.refl _ _)
 have HO := Lib.hid (fun (w' : World) (hB : Below w.heap.size w w') => topOne_any w' (hm.past hB) (hp.past hB))
 have HF := Lib.hid (fun (w' : World) (hB : Below w.heap.size w w') => fmt_ok_is h0 w' hs (hm.past hB) (hp.past hB))
 have HS := Lib.hid (fun (w' : World) (hB : Below w.heap.size w w') => lsame_ok h1 h4 w' hs hT (hm.past hB))
 have HC := Lib.hid (fun (w' : World) (hB : Below w.heap.size w w') => check_same h5 w' hT (hm.past hB) (hp.past hB))
 have he := parse_lex h1
 have HL := Lib.hid (fun (w' : World) (_ : Below w.heap.size w w') => lex_ok_t he w' hs)
 obtain ⟨np, hnp⟩ : ∃ np, p.length = np := ⟨_, rfl⟩
 have HP := Lib.hid (fun (w' : World) (hB : Below w.heap.size w w') => parse_okB h1 hnp w' hs (hm.past hB))
 have HPR := Lib.hid (fun (P : Option Addr) (c : Nat) (w' : World) (hB : Below w.heap.size w w') (hg : Prg w' w'.heap.size P p) => print_ok hnp P c w' hg (hm.past hB) (hp.past hB) hpr)
 have hps : (printF p).size ≤ maxLen := by have := printF_size hpr; simp only [maxLen]; omega
 have HF1 := Lib.hid (fun (w' : World) (hB : Below w.heap.size w w') => fmt_ok_is h6 w' hps (hm.past hB) (hp.past hB))
 have HF2 := Lib.hid (fun (w' : World) (hB : Below w.heap.size w w') => fmt_bad_is h2 hf w' hs (hm.past hB) (hp.past hB))
 have HFX0 := Lib.hid (fun (x : ByteArray) (hxs : x.size ≤ 60000) (hxl : (lexE x).1 = 0) (hxw : wordBs (lexWs x) = wordBs (lexWs s)) (w' : World) (hB : Below w.heap.size w w') => (by obtain ⟨kx, hkx⟩ := hx x (parse_words h1 hxl hxw); exact ⟨kx, fmt_ok_is hkx w' (by simp only [maxLen]; omega) (hm.past hB) (hp.past hB)⟩ : ∃ kx : Nat, Calls Tryz.prog 12 #[.string x, .int .i64 W] w' (Ret w' (.tuple #[.string T, .int .i64 (kx : Nat), .nilIface]))))
 have hb1 : (T.toList == T.toList) = true := by simp
 have hb2 : (T.toList != T.toList) = false := by simp
 have hsz := (lexE_parts he).1
 have hcn := lexWs_count he
 have HRZ := Lib.hid (rowsB_size hsz); have HE := Lib.hid he
 generalize printF p = PF at *
 clear hs hT hm hp h0 h1 h4 h5 hpr h6 hx he hnp hps h2 hf
 go_enter Tryz.func4, Tryz.ntmps4
 go_wp2_with (first
   | (go_at_call 5; (fail_if_success have z := T0); refine (HO.out _ HB.out).mono ?_; rintro e t1 ⟨rfl, hB⟩; have HB := Lib.hid (HB.out.trans (hB.mono HB.out.size)); clear hB; have T0 := Lib.hid True.intro)
   | (go_at_call 12; (have z := T0; clear z); (fail_if_success have z := T1); refine (HF.out _ HB.out).mono ?_; rintro e t2 ⟨rfl, hB⟩; have HB := Lib.hid (HB.out.trans (hB.mono HB.out.size)); clear hB; have T1 := Lib.hid True.intro)
   | (go_at_call 13; (have z := T1; clear z); (fail_if_success have z := T2); refine (HS.out _ HB.out).mono ?_; rintro e t3 ⟨rfl, hB⟩; have HB := Lib.hid (HB.out.trans (hB.mono HB.out.size)); clear hB; have T2 := Lib.hid True.intro)
   | (go_at_call 14; (have z := T2; clear z); (fail_if_success have z := T3); refine (HC.out _ HB.out).mono ?_; rintro e t4 ⟨rfl, hB⟩; have HB := Lib.hid (HB.out.trans (hB.mono HB.out.size)); clear hB; have T3 := Lib.hid True.intro)
   | (go_at_call 15; (have z := T3; clear z); (fail_if_success have z := T4); refine (HL.out _ HB.out).mono ?_; rintro e t5 ⟨A3, c3, A4, c4, rfl, ht3, -, hB⟩; have HTX := Lib.hid ht3; clear ht3; have HB := Lib.hid (HB.out.trans (hB.mono HB.out.size)); clear hB; have T4 := Lib.hid True.intro))
 clear HO HF HS HC HL
 obtain ⟨n, hn⟩ : ∃ n, (lexWs s).length = n := ⟨_, rfl⟩
 rw [hn] at hcn ⊢
 have HN := Lib.hid hn; clear hn
 go_loopw [20, 21] (fun t i wr => ∃ k : Nat, k ≤ n ∧ i = .int .i64 k ∧ t = .string (rowsB s k) ∧ Below t5.heap.size t5 wr) (fun _ i _ => n - (intOf i).toNat)
 case atStart => exact ⟨0, by omega, rfl, by rw [rowsB_zero]; rfl, Below.refl _ _⟩
 case round =>
  obtain ⟨k, hk, rfl, rfl, hBr⟩ := hrel
  have HBR := Lib.hid (HB.out.trans (hBr.mono HB.out.size))
  have hTb : (rowsB s k).size ≤ 3600060000 := by
   have h1 := HRZ.out k (by rw [HN.out]; exact hk)
   have h2 : k * 60001 ≤ 60000 * 60001 := Nat.mul_le_mul_right _ (by omega)
   omega
  by_cases hlt : k < n
  ·have hkl : k < (lexWs s).length := by rw [HN.out]; exact hlt
   have hk2 : k < (wordBs (lexWs s)).length := by simpa [wordBs] using hkl
   obtain ⟨b, off, t, rfl, hb, ht, hts, hc⟩ := HTX.out.one hBr hk2
   have htz : t.size ≤ 60001 := by
    have h1 := HRZ.out (k + 1) (by omega)
    have h2 := rowsB_succ hkl
    have h3 : t = ⟨((lexWs s)[k]).2.toArray⟩ := by rw [← ht]; simp [wordBs]
    have hsp := (lex_spots _ 0 s.data.toList (Nat.le_refl _)).1 _ (List.getElem_mem (show k < (lexL 0 s.data.toList).1.length from hkl))
    have hts2 : t.size = ((lexWs s)[k]).2.length := by rw [h3]; simp [ByteArray.size]
    have hsl : s.data.toList.length = s.size := by simp
    have := hsp.2.1
    rw [hts2]
    show ((lexL 0 s.data.toList).1[k]).2.length ≤ _
    omega
   have hstep := rowsB_succ hkl
   rw [show (⟨((lexWs s)[k]).2.toArray⟩ : ByteArray) = t by rw [← ht]; simp [wordBs]] at hstep
   have HST := Lib.hid hstep
   clear hstep ht hkl hk2
   generalize rowsB s k = Q at *
   go_wp2
   go_roundw
   case rel => exact ⟨k + 1, by omega, by go_num, by rw [HST.out], hBr⟩
   case measure => simp [intOf]; omega
  ·obtain rfl : k = n := by omega
   have HB := HBR
   clear HBR
   by_cases hz : 60000 < (rowsB s k).size
   ·clear HFX0
    generalize rowsB s k = Q at *
    go_wp2_with (first
     | (go_at_call 16; (fail_if_success have z := R0); refine (HP.out _ HB.out).mono ?_; rintro e r1 ⟨A5, c5, rfl, hF, hB⟩; have HPG := Lib.hid hF.prg; have HB := Lib.hid (HB.out.trans (hB.mono HB.out.size)); clear hB hF; have R0 := Lib.hid True.intro)
     | (go_at_call 17; (have z := R0; clear z); (fail_if_success have z := R1); refine (HPR.out _ _ _ HB.out HPG.out).mono ?_; rintro e r2 ⟨rfl, hB⟩; have HB := Lib.hid (HB.out.trans (hB.mono HB.out.size)); clear hB; have R1 := Lib.hid True.intro)
     | (go_at_call 12; (have z := R1; clear z); (fail_if_success have z := R2); refine (HF1.out _ HB.out).mono ?_; rintro e r3 ⟨rfl, hB⟩; have HB := Lib.hid (HB.out.trans (hB.mono HB.out.size)); clear hB; have R2 := Lib.hid True.intro)
     | (go_at_call 12; (have z := R2; clear z); (fail_if_success have z := R3); refine (HF2.out _ HB.out).mono ?_; rintro e r4 ⟨rfl, hB⟩; have HB := Lib.hid (HB.out.trans (hB.mono HB.out.size)); clear hB; have R3 := Lib.hid True.intro))
    go_ret
    exact ⟨by first | rfl | (simp; done), HB.out⟩
   ·have hag := lex_again HE.out (by rw [HN.out]; omega)
    rw [HN.out] at hag
    have HFX1 := Lib.hid (fun (w' : World) (hB : Below w.heap.size w w') => HFX0.out _ (by omega) hag.1 hag.2 w' hB)
    have HFX : Hid (∀ (w' : World), Below w.heap.size w w' → Calls Tryz.prog 12 #[.string (rowsB s k), .int .i64 W] w' (fun e w'' => (∃ kx : Nat, e = .returned (.tuple #[.string T, .int .i64 (kx : Nat), .nilIface])) ∧ Below w'.heap.size w' w'')) := Lib.hid (fun w' hB => by obtain ⟨kx, hkx⟩ := HFX1.out w' hB; exact hkx.mono fun e w'' h => ⟨⟨kx, h.1⟩, h.2⟩)
    clear HFX0 HFX1 hag
    generalize rowsB s k = Q at *
    go_wp2_with (first
     | (go_at_call 12; (fail_if_success have z := R0); refine (HFX.out _ HB.out).mono ?_; rintro e r1 ⟨⟨kx, rfl⟩, hB⟩; have HB := Lib.hid (HB.out.trans (hB.mono HB.out.size)); clear hB; have R0 := Lib.hid True.intro)
     | (go_at_call 16; (have z := R0; clear z); (fail_if_success have z := R1); refine (HP.out _ HB.out).mono ?_; rintro e r2 ⟨A5, c5, rfl, hF, hB⟩; have HPG := Lib.hid hF.prg; have HB := Lib.hid (HB.out.trans (hB.mono HB.out.size)); clear hB hF; have R1 := Lib.hid True.intro)
     | (go_at_call 17; (have z := R1; clear z); (fail_if_success have z := R2); refine (HPR.out _ _ _ HB.out HPG.out).mono ?_; rintro e r3 ⟨rfl, hB⟩; have HB := Lib.hid (HB.out.trans (hB.mono HB.out.size)); clear hB; have R2 := Lib.hid True.intro)
     | (go_at_call 12; (have z := R2; clear z); (fail_if_success have z := R3); refine (HF1.out _ HB.out).mono ?_; rintro e r4 ⟨rfl, hB⟩; have HB := Lib.hid (HB.out.trans (hB.mono HB.out.size)); clear hB; have R3 := Lib.hid True.intro)
     | (go_at_call 12; (have z := R3; clear z); (fail_if_success have z := R4); refine (HF2.out _ HB.out).mono ?_; rintro e r5 ⟨rfl, hB⟩; have HB := Lib.hid (HB.out.trans (hB.mono HB.out.size)); clear hB; have R4 := Lib.hid True.intro))
    go_ret
    exact ⟨by first | rfl | (simp; done), HB.out⟩
theorem topSame_any (s : ByteArray) (W V : Int) (w : World) (hs : s.size ≤ maxLen) (hm : MaxL w) (hp : PowT w) :
  Calls Tryz.prog 4 #[.string s, .int .i64 W, .int .i64 V] w (Ret w (.bool true)) := by
 by_cases h : (fmtF s W).1 = 0
 ·obtain ⟨h1, h2, h3, h4⟩ := fmt_parts h
  obtain ⟨f, k, p, hs2⟩ : ∃ f k x, parseF s = (f, k, x) := ⟨_, _, _, rfl⟩
  have hw := parsed_words h2
  have hbk := parse_back h2
  rw [hs2] at h2 h3 h4 hw hbk
  simp only at h2 h3 h4 hw hbk
  subst h2
  obtain ⟨h5, h6⟩ := parse_form hw.1 hw.2 h3
  have ht : (formT W p).size ≤ maxLen := by simp only [maxLen]; omega
  have hx : ∀ (x : ByteArray) (j : Nat), parseF x = (0, j, p) → fmtF x W = (0, 0, formT W p) := fun x j hx => by
   rw [fmt_of hx, if_neg (by simp [h1]), if_neg (by simp [h3])]
  have g1 := fmt_of hs2 V
  by_cases hw2 : wideF V = false
  ·rw [if_pos hw2] at g1
   exact topSame_n s _ W V _ _ _ _ p w hs ht hm hp h4 hs2 h5 (hx _ _ h5) hw.1 _ (hx _ _ hbk) (fun x h => ⟨_, hx x _ h⟩) 1 (by decide) _ g1
  ·rw [if_neg hw2] at g1
   by_cases he : formE V p = 0
   ·rw [if_neg (by simp [he])] at g1
    obtain ⟨g5, g6⟩ := parse_form hw.1 hw.2 he
    exact topSame_y s _ W V _ _ _ _ p w hs ht hm hp h4 hs2 h5 (hx _ _ h5) hw.1 _ (hx _ _ hbk) (fun x h => ⟨_, hx x _ h⟩) _ _ _ g1 (hx _ _ g5) (by simp only [maxLen]; omega)
   ·rw [if_pos he] at g1
    exact topSame_n s _ W V _ _ _ _ p w hs ht hm hp h4 hs2 h5 (hx _ _ h5) hw.1 _ (hx _ _ hbk) (fun x h => ⟨_, hx x _ h⟩) _ he _ g1
 ·exact topSame_bad s W V w hs hm hp h
end Go.Proofs.YtddfdmopaeghnabGreatDoor
