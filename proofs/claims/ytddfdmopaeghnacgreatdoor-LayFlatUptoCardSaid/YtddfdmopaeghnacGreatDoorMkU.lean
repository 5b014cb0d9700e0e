/- Walks of lay's maker (printed by wip/genmk.py): listed, two, make. Conditions: the maker's block is the caller's own, the slice of nodes lies below it and is a statement that may be. -/
import Derived.Test.YtddfdmopaeghnacGreatDoorMkV
import Derived.Test.YtddfdmopaeghnacGreatDoorFltP
namespace Go.Proofs.YtddfdmopaeghnacGreatDoor
open Go.RowKit

set_option maxRecDepth 100000 in
set_option maxHeartbeats 4000000 in
theorem llisted_any {g c f : Nat} {A : Option Addr} {l : List Nd} (hT : Tr l) (ih : MakeSaid g A c l f) (po : Int) (m a z : Nat) (pn : Int) (pt o e : ByteArray) (w : World) (hpo : po = 3 ∨ po = 4) (hpn : pn = m) (hm6 : m ≤ 6) (hP : KidsP l a m z) (h0 : 0 < a) (ha : a ≤ l.length) (hf : l.length ≤ a + f) (hs : MkSt g A c l a w)
    (ho : o.size ≤ 100) (he : e.size ≤ 100) :
    Calls Tryz.prog 82 #[.pointer (some ⟨g, 0, none⟩), .agg #[.int .i64 po, .string pt, .int .i64 pn], .string o, .string e] w (MkTo g A c l (listD o e m (kidsD (docT l f) (tEnd l) a m)) z w) := by
  have hgl := hs.lt
  have HS := Lib.hid hs
  cases m with
  | zero =>
    rw [KidsP] at hP
    subst hP
    obtain rfl : pn = 0 := by simpa using hpn
    rw [show listD o e 0 (kidsD (docT l f) (tEnd l) a 0) = wordN (o ++ e) by simp [listD]]
    have hsz : (o ++ e).size ≤ maxLen := by rw [ByteArray.size_append]; simp only [maxLen]; omega
    have HSZ := Lib.hid hsz
    clear hs hT ih hpo hf ha h0 hpn hsz
    go_enter Tryz.func82, Tryz.ntmps82
    go_wp2_with fail
    obtain ⟨wa, hwa⟩ : ∃ wa, wa = w.alloc (.cells #[.int .i64 po, .string pt, .int .i64 0] 25) := ⟨_, rfl⟩
    have hBa : Below w.heap.size w wa := by rw [hwa]; exact (Below.refl _ _).alloc (Nat.le_refl _) _
    have hza : wa.heap[w.heap.size]? = some (.cells #[.int .i64 po, .string pt, .int .i64 0] 25 (0, 0)) := by rw [hwa]; exact heap_new rfl
    rw [← hwa]
    obtain ⟨h, hh⟩ : ∃ h, h = w.heap.size := ⟨_, rfl⟩
    rw [← hh] at hza
    have hlt : h < wa.heap.size := (Array.getElem?_eq_some_iff.1 hza).1
    have p0 : wa.cell? ⟨h, 0, none⟩ = some (.int .i64 po) := by rw [Lib.cell_of_heap hza]; rfl
    have p1 : wa.cell? ⟨h, 1, none⟩ = some (.string pt) := by rw [Lib.cell_of_heap hza]; rfl
    have p2 : wa.cell? ⟨h, 2, none⟩ = some (.int .i64 0) := by rw [Lib.cell_of_heap hza]; rfl
    have hgh : g < h := by omega
    have HG : Hid (w.grownBy wa (some g)) := Lib.hid (grown_row _ hBa)
    have hz : w.heap.size ≤ wa.heap.size := hBa.size
    have HM := Lib.hid (HS.out.past hBa)
    try rw [← hh]
    clear hwa hza hh hBa
    go_wp2_with (go_at_call 80; refine (lword_any (o ++ e) HSZ.out _).mono ?_; rintro e w2 ⟨A_d, c_d, rfl, hn, hB⟩; have HN := Lib.hid (hn.less hz); have HM := Lib.hid (HM.out.past hB); have HG := Lib.hid (grown_below HG.out hB); clear hn hB)
    go_ret
    exact ⟨A_d, c_d, rfl, HN.out, HM.out, HG.out⟩
  | succ m =>
    have hzl := (kidsP_le hP ha).2
    have hks := kids_small (f := f) hT hP h0 hf hzl
    rw [show listD o e (m + 1) (kidsD (docT l f) (tEnd l) a (m + 1)) = groupN (bothN (wordN o) (bothN (deepN (bothN (opN 3) (kidsD (docT l f) (tEnd l) a (m + 1)))) (bothN (opN 3) (wordN e)))) by simp [listD]]
    have HI := Lib.hid (fun w' hs' => lkids_any hT ih po pn pt hpo m a z w' hP h0 hf hs' pn (by omega) (by omega))
    have hp0 : (pn == 0) = false := by simp; omega
    generalize kidsD (docT l f) (tEnd l) a (m + 1) = K at *
    clear hs hT ih hpo hf ha h0 hpn hP hm6
    go_enter Tryz.func82, Tryz.ntmps82
    go_wp2_with fail
    obtain ⟨wa, hwa⟩ : ∃ wa, wa = w.alloc (.cells #[.int .i64 po, .string pt, .int .i64 pn] 25) := ⟨_, rfl⟩
    have hBa : Below w.heap.size w wa := by rw [hwa]; exact (Below.refl _ _).alloc (Nat.le_refl _) _
    have hza : wa.heap[w.heap.size]? = some (.cells #[.int .i64 po, .string pt, .int .i64 pn] 25 (0, 0)) := by rw [hwa]; exact heap_new rfl
    rw [← hwa]
    obtain ⟨h, hh⟩ : ∃ h, h = w.heap.size := ⟨_, rfl⟩
    rw [← hh] at hza
    have hlt : h < wa.heap.size := (Array.getElem?_eq_some_iff.1 hza).1
    have p0 : wa.cell? ⟨h, 0, none⟩ = some (.int .i64 po) := by rw [Lib.cell_of_heap hza]; rfl
    have p1 : wa.cell? ⟨h, 1, none⟩ = some (.string pt) := by rw [Lib.cell_of_heap hza]; rfl
    have p2 : wa.cell? ⟨h, 2, none⟩ = some (.int .i64 pn) := by rw [Lib.cell_of_heap hza]; rfl
    have hgh : g < h := by omega
    have HG : Hid (w.grownBy wa (some g)) := Lib.hid (grown_row _ hBa)
    have hz : w.heap.size ≤ wa.heap.size := hBa.size
    have HM := Lib.hid (HS.out.past hBa)
    try rw [← hh]
    clear hwa hza hh hBa
    go_wp2_with fail
    go_region_held3 (fun w' => w'.cell? ⟨h, 0, none⟩ = some (.int .i64 po) ∧ w'.cell? ⟨h, 1, none⟩ = some (.string pt) ∧ w'.cell? ⟨h, 2, none⟩ = some (.int .i64 pn))
      (exact ⟨p0, p1, p2⟩)
      (first
        | (go_at_call 86; (fail_if_success have z := T0); refine (lop_any 3 _).mono ?_; rintro e w3 ⟨A_X, c_X, rfl, hn, hB⟩; have hB := past_drew hB; have HV_X := Lib.hid (hn.less hz); have HM := Lib.hid (HM.out.past hB); have p0 := (hB.cell (p := ⟨h, 0, none⟩) hlt).trans p0; have p1 := (hB.cell (p := ⟨h, 1, none⟩) hlt).trans p1; have p2 := (hB.cell (p := ⟨h, 2, none⟩) hlt).trans p2; have HG := Lib.hid (grown_below HG.out hB); have hz := Nat.le_trans hz hB.size; have hlt := Nat.lt_of_lt_of_le hlt hB.size; clear hn hB; have T0 := Lib.hid True.intro)
        | (go_at_call 137; (fail_if_success have z := T1); have z := T0; clear z; refine (HI.out _ HM.out).mono ?_; rintro e w4 ⟨A_K, c_K, rfl, hn, hm, hG⟩; have HV_K := Lib.hid (hn.less hz); have HM := Lib.hid hm; have HV_X := Lib.hid (HV_X.out.grow hG (fun k e => by injection e with e; omega)); have p0 := (hG.cell p0 (by simp; omega)); have p1 := (hG.cell p1 (by simp; omega)); have p2 := (hG.cell p2 (by simp; omega)); have HG := Lib.hid (grown_trans HG.out hG); have hz := Nat.le_trans hz hG.size; have hlt := Nat.lt_of_lt_of_le hlt hG.size; clear hn hm hG; have T1 := Lib.hid True.intro)
        | (go_at_call 85; (fail_if_success have z := T2); have z := T1; clear z; refine (lboth_any _ _ _ _ _ _ _ HV_X.out.1 HV_K.out.1 (by (repeat (first | rw [bothN_len] | rw [wordN_len] | rw [opN_len] | rw [deepN_len] | rw [groupN_len])); omega)).mono ?_; rintro e w5 ⟨A_Y, c_Y, rfl, hn, hB⟩; have HV_Y := Lib.hid (hn.less hz); have HM := Lib.hid (HM.out.past hB); have p0 := (hB.cell (p := ⟨h, 0, none⟩) hlt).trans p0; have p1 := (hB.cell (p := ⟨h, 1, none⟩) hlt).trans p1; have p2 := (hB.cell (p := ⟨h, 2, none⟩) hlt).trans p2; have HG := Lib.hid (grown_below HG.out hB); have hz := Nat.le_trans hz hB.size; have hlt := Nat.lt_of_lt_of_le hlt hB.size; clear hn hB; have T2 := Lib.hid True.intro)
        | (go_at_call 84; (fail_if_success have z := T3); have z := T2; clear z; refine (ldeep_any _ _ _ _ HV_Y.out.1 (by (repeat (first | rw [bothN_len] | rw [wordN_len] | rw [opN_len] | rw [deepN_len] | rw [groupN_len])); omega)).mono ?_; rintro e w6 ⟨A_I, c_I, rfl, hn, hB⟩; have HV_I := Lib.hid (hn.less hz); have HM := Lib.hid (HM.out.past hB); have p0 := (hB.cell (p := ⟨h, 0, none⟩) hlt).trans p0; have p1 := (hB.cell (p := ⟨h, 1, none⟩) hlt).trans p1; have p2 := (hB.cell (p := ⟨h, 2, none⟩) hlt).trans p2; have HG := Lib.hid (grown_below HG.out hB); have hz := Nat.le_trans hz hB.size; have hlt := Nat.lt_of_lt_of_le hlt hB.size; clear hn hB; have T3 := Lib.hid True.intro))
    go_wp2_with (first
      | (go_at_call 80; (fail_if_success have z := U0); refine (lword_any o (by simp only [maxLen]; omega) _).mono ?_; rintro e w7 ⟨A_O, c_O, rfl, hn, hB⟩; have HV_O := Lib.hid (hn.less hz); have HM := Lib.hid (HM.out.past hB); have HV_I := Lib.hid (HV_I.out.past hB); have HG := Lib.hid (grown_below HG.out hB); have hz := Nat.le_trans hz hB.size; clear hn hB; have U0 := Lib.hid True.intro)
      | (go_at_call 86; (fail_if_success have z := U1); have z := U0; clear z; refine (lop_any 3 _).mono ?_; rintro e w8 ⟨A_S, c_S, rfl, hn, hB⟩; have HV_S := Lib.hid (hn.less hz); have HM := Lib.hid (HM.out.past hB); have HV_I := Lib.hid (HV_I.out.past hB); have HV_O := Lib.hid (HV_O.out.past hB); have HG := Lib.hid (grown_below HG.out hB); have hz := Nat.le_trans hz hB.size; clear hn hB; have U1 := Lib.hid True.intro)
      | (go_at_call 80; (fail_if_success have z := U2); have z := U1; clear z; refine (lword_any e (by simp only [maxLen]; omega) _).mono ?_; rintro e w9 ⟨A_E, c_E, rfl, hn, hB⟩; have HV_E := Lib.hid (hn.less hz); have HM := Lib.hid (HM.out.past hB); have HV_I := Lib.hid (HV_I.out.past hB); have HV_O := Lib.hid (HV_O.out.past hB); have HV_S := Lib.hid (HV_S.out.past hB); have HG := Lib.hid (grown_below HG.out hB); have hz := Nat.le_trans hz hB.size; clear hn hB; have U2 := Lib.hid True.intro)
      | (go_at_call 85; (fail_if_success have z := U3); have z := U2; clear z; refine (lboth_any _ _ _ _ _ _ _ HV_S.out.1 HV_E.out.1 (by (repeat (first | rw [bothN_len] | rw [wordN_len] | rw [opN_len] | rw [deepN_len] | rw [groupN_len])); omega)).mono ?_; rintro e w10 ⟨A_F, c_F, rfl, hn, hB⟩; have HV_F := Lib.hid (hn.less hz); have HM := Lib.hid (HM.out.past hB); have HV_I := Lib.hid (HV_I.out.past hB); have HV_O := Lib.hid (HV_O.out.past hB); have HG := Lib.hid (grown_below HG.out hB); have hz := Nat.le_trans hz hB.size; clear hn hB; have U3 := Lib.hid True.intro)
      | (go_at_call 85; (fail_if_success have z := U4); have z := U3; clear z; refine (lboth_any _ _ _ _ _ _ _ HV_I.out.1 HV_F.out.1 (by (repeat (first | rw [bothN_len] | rw [wordN_len] | rw [opN_len] | rw [deepN_len] | rw [groupN_len])); omega)).mono ?_; rintro e w11 ⟨A_G, c_G, rfl, hn, hB⟩; have HV_G := Lib.hid (hn.less hz); have HM := Lib.hid (HM.out.past hB); have HV_O := Lib.hid (HV_O.out.past hB); have HG := Lib.hid (grown_below HG.out hB); have hz := Nat.le_trans hz hB.size; clear hn hB; have U4 := Lib.hid True.intro)
      | (go_at_call 85; (fail_if_success have z := U5); have z := U4; clear z; refine (lboth_any _ _ _ _ _ _ _ HV_O.out.1 HV_G.out.1 (by (repeat (first | rw [bothN_len] | rw [wordN_len] | rw [opN_len] | rw [deepN_len] | rw [groupN_len])); omega)).mono ?_; rintro e w12 ⟨A_H, c_H, rfl, hn, hB⟩; have HV_H := Lib.hid (hn.less hz); have HM := Lib.hid (HM.out.past hB); have HG := Lib.hid (grown_below HG.out hB); have hz := Nat.le_trans hz hB.size; clear hn hB; have U5 := Lib.hid True.intro)
      | (go_at_call 87; (fail_if_success have z := U6); have z := U5; clear z; refine (lgroup_any _ _ _ _ HV_H.out.1 (by (repeat (first | rw [bothN_len] | rw [wordN_len] | rw [opN_len] | rw [deepN_len] | rw [groupN_len])); omega)).mono ?_; rintro e w13 ⟨A_R, c_R, rfl, hn, hB⟩; have HV_R := Lib.hid (hn.less hz); have HM := Lib.hid (HM.out.past hB); have HG := Lib.hid (grown_below HG.out hB); have hz := Nat.le_trans hz hB.size; clear hn hB; have U6 := Lib.hid True.intro))
    go_ret
    exact ⟨A_R, c_R, rfl, HV_R.out, HM.out, HG.out⟩

set_option maxRecDepth 100000 in
set_option maxHeartbeats 4000000 in
theorem ltwo_any {g c f : Nat} {A : Option Addr} {l : List Nd} (hT : Tr l) (ih : MakeSaid g A c l f) (po pn : Int) (a z : Nat) (pt s : ByteArray) (w : World) (hP : KidsP l a 2 z) (h0 : 0 < a) (hf : l.length ≤ a + f) (hs : MkSt g A c l a w) (hss : s.size ≤ 100) :
    Calls Tryz.prog 83 #[.pointer (some ⟨g, 0, none⟩), .agg #[.int .i64 po, .string pt, .int .i64 pn], .string s] w (MkTo g A c l (twoD s (kidD po (opAt l a) false (docT l f a)) (kidD po (opAt l (tEnd l a)) true (docT l f (tEnd l a)))) z w) := by
  obtain ⟨q1, q2, r1, r2, r3⟩ : a < l.length ∧ a < tEnd l a ∧ tEnd l a < l.length ∧ tEnd l a < tEnd l (tEnd l a) ∧ tEnd l (tEnd l a) = z := ⟨hP.1, hP.2.1, hP.2.2.1, hP.2.2.2.1, hP.2.2.2.2⟩
  have HK1 := Lib.hid (fun w' hs' => lkid_any hT ih a w' po pn pt false hs' q1 h0 hf)
  have HK2 := Lib.hid (fun w' hs' => lkid_any hT ih (tEnd l a) w' po pn pt true hs' r1 (by omega) (by omega))
  have hx1 := kidD_len po (opAt l a) false (docT l f a)
  have hx2 := doc_small hT hf q1 (low_at hT q1 h0)
  have hy1 := kidD_len po (opAt l (tEnd l a)) true (docT l f (tEnd l a))
  have hy2 := doc_small hT (f := f) (by omega) r1 (low_at hT r1 (by omega))
  rw [r3] at HK2
  rw [twoD]
  generalize kidD po (opAt l a) false (docT l f a) = x at *
  generalize kidD po (opAt l (tEnd l a)) true (docT l f (tEnd l a)) = y at *
  have hx : x.length ≤ 1000 := by omega
  have hy : y.length ≤ 1000 := by omega
  have hgl := hs.lt
  have HS := Lib.hid hs
  clear hs hT ih hf h0 hP q1 q2 r1 r2 r3 hx1 hx2 hy1 hy2
  go_enter Tryz.func83, Tryz.ntmps83
  go_wp2_with fail
  obtain ⟨wa, hwa⟩ : ∃ wa, wa = w.alloc (.cells #[.int .i64 po, .string pt, .int .i64 pn] 25) := ⟨_, rfl⟩
  have hBa : Below w.heap.size w wa := by rw [hwa]; exact (Below.refl _ _).alloc (Nat.le_refl _) _
  have hza : wa.heap[w.heap.size]? = some (.cells #[.int .i64 po, .string pt, .int .i64 pn] 25 (0, 0)) := by rw [hwa]; exact heap_new rfl
  rw [← hwa]
  obtain ⟨h, hh⟩ : ∃ h, h = w.heap.size := ⟨_, rfl⟩
  rw [← hh] at hza
  have hlt : h < wa.heap.size := (Array.getElem?_eq_some_iff.1 hza).1
  have p0 : wa.cell? ⟨h, 0, none⟩ = some (.int .i64 po) := by rw [Lib.cell_of_heap hza]; rfl
  have p1 : wa.cell? ⟨h, 1, none⟩ = some (.string pt) := by rw [Lib.cell_of_heap hza]; rfl
  have p2 : wa.cell? ⟨h, 2, none⟩ = some (.int .i64 pn) := by rw [Lib.cell_of_heap hza]; rfl
  have hgh : g < h := by omega
  have HG : Hid (w.grownBy wa (some g)) := Lib.hid (grown_row _ hBa)
  have hz : w.heap.size ≤ wa.heap.size := hBa.size
  have HM := Lib.hid (HS.out.past hBa)
  try rw [← hh]
  clear hwa hza hh hBa
  go_wp2_with (first
    | (go_at_call 138; (fail_if_success have z := V0); refine (HK1.out _ HM.out).mono ?_; rintro e w2 ⟨A_x, c_x, rfl, hn, hm2, hG⟩; have HV_x := Lib.hid (hn.less hz); have p0 := hG.cell p0 (by simp; omega); have p1 := hG.cell p1 (by simp; omega); have p2 := hG.cell p2 (by simp; omega); have HM := Lib.hid hm2; have HG := Lib.hid (grown_trans HG.out hG); have hz := Nat.le_trans hz hG.size; have hlt := Nat.lt_of_lt_of_le hlt hG.size; have V0 := Lib.hid True.intro; clear hn hm2 hG)
    | (go_at_call 138; have z := V0; clear z; refine (HK2.out _ HM.out).mono ?_; rintro e w3 ⟨A_y, c_y, rfl, hn, hm2, hG⟩; have HV_y := Lib.hid (hn.less hz); have HV_x := Lib.hid (HV_x.out.grow hG (fun k e => by injection e with e; omega)); have HM := Lib.hid hm2; have HG := Lib.hid (grown_trans HG.out hG); have hz := Nat.le_trans hz hG.size; clear hn hm2 hG)
    | (go_at_call 86; (fail_if_success have z := T0); refine (lop_any 2 _).mono ?_; rintro e w4 ⟨A_O, c_O, rfl, hn, hB⟩; have HV_O := Lib.hid (hn.less hz); have HM := Lib.hid (HM.out.past hB); have HV_x := Lib.hid (HV_x.out.past hB); have HV_y := Lib.hid (HV_y.out.past hB); have HG := Lib.hid (grown_below HG.out hB); have hz := Nat.le_trans hz hB.size; clear hn hB; have T0 := Lib.hid True.intro)
    | (go_at_call 80; (fail_if_success have z := T1); have z := T0; clear z; refine (lword_any s (by simp only [maxLen]; omega) _).mono ?_; rintro e w5 ⟨A_S, c_S, rfl, hn, hB⟩; have HV_S := Lib.hid (hn.less hz); have HM := Lib.hid (HM.out.past hB); have HV_x := Lib.hid (HV_x.out.past hB); have HV_y := Lib.hid (HV_y.out.past hB); have HV_O := Lib.hid (HV_O.out.past hB); have HG := Lib.hid (grown_below HG.out hB); have hz := Nat.le_trans hz hB.size; clear hn hB; have T1 := Lib.hid True.intro)
    | (go_at_call 85; (fail_if_success have z := T2); have z := T1; clear z; refine (lboth_any _ _ _ _ _ _ _ HV_S.out.1 HV_y.out.1 (by (repeat (first | rw [bothN_len] | rw [wordN_len] | rw [opN_len] | rw [deepN_len] | rw [groupN_len])); omega)).mono ?_; rintro e w6 ⟨A_F, c_F, rfl, hn, hB⟩; have HV_F := Lib.hid (hn.less hz); have HM := Lib.hid (HM.out.past hB); have HV_x := Lib.hid (HV_x.out.past hB); have HV_O := Lib.hid (HV_O.out.past hB); have HG := Lib.hid (grown_below HG.out hB); have hz := Nat.le_trans hz hB.size; clear hn hB; have T2 := Lib.hid True.intro)
    | (go_at_call 85; (fail_if_success have z := T3); have z := T2; clear z; refine (lboth_any _ _ _ _ _ _ _ HV_O.out.1 HV_F.out.1 (by (repeat (first | rw [bothN_len] | rw [wordN_len] | rw [opN_len] | rw [deepN_len] | rw [groupN_len])); omega)).mono ?_; rintro e w7 ⟨A_G, c_G, rfl, hn, hB⟩; have HV_G := Lib.hid (hn.less hz); have HM := Lib.hid (HM.out.past hB); have HV_x := Lib.hid (HV_x.out.past hB); have HG := Lib.hid (grown_below HG.out hB); have hz := Nat.le_trans hz hB.size; clear hn hB; have T3 := Lib.hid True.intro)
    | (go_at_call 84; (fail_if_success have z := T4); have z := T3; clear z; refine (ldeep_any _ _ _ _ HV_G.out.1 (by (repeat (first | rw [bothN_len] | rw [wordN_len] | rw [opN_len] | rw [deepN_len] | rw [groupN_len])); omega)).mono ?_; rintro e w8 ⟨A_H, c_H, rfl, hn, hB⟩; have HV_H := Lib.hid (hn.less hz); have HM := Lib.hid (HM.out.past hB); have HV_x := Lib.hid (HV_x.out.past hB); have HG := Lib.hid (grown_below HG.out hB); have hz := Nat.le_trans hz hB.size; clear hn hB; have T4 := Lib.hid True.intro)
    | (go_at_call 85; (fail_if_success have z := T5); have z := T4; clear z; refine (lboth_any _ _ _ _ _ _ _ HV_x.out.1 HV_H.out.1 (by (repeat (first | rw [bothN_len] | rw [wordN_len] | rw [opN_len] | rw [deepN_len] | rw [groupN_len])); omega)).mono ?_; rintro e w9 ⟨A_J, c_J, rfl, hn, hB⟩; have HV_J := Lib.hid (hn.less hz); have HM := Lib.hid (HM.out.past hB); have HG := Lib.hid (grown_below HG.out hB); have hz := Nat.le_trans hz hB.size; clear hn hB; have T5 := Lib.hid True.intro)
    | (go_at_call 87; (fail_if_success have z := T6); have z := T5; clear z; refine (lgroup_any _ _ _ _ HV_J.out.1 (by (repeat (first | rw [bothN_len] | rw [wordN_len] | rw [opN_len] | rw [deepN_len] | rw [groupN_len])); omega)).mono ?_; rintro e w10 ⟨A_R, c_R, rfl, hn, hB⟩; have HV_R := Lib.hid (hn.less hz); have HM := Lib.hid (HM.out.past hB); have HG := Lib.hid (grown_below HG.out hB); have hz := Nat.le_trans hz hB.size; clear hn hB; have T6 := Lib.hid True.intro))
  go_ret
  exact ⟨A_R, c_R, rfl, HV_R.out, HM.out, HG.out⟩
end Go.Proofs.YtddfdmopaeghnacGreatDoor
