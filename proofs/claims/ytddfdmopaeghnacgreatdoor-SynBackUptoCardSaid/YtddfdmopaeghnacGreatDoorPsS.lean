/- Walk of syn's parser: one (printed by wip/genps3.py). Conditions: as in the texts ahead; what sum's calls hand back is given; a word that begins with a digit is a number of six digits at most. -/
import Derived.Test.YtddfdmopaeghnacGreatDoorPsT
namespace Go.Proofs.YtddfdmopaeghnacGreatDoor
open Go.RowKit

theorem dig_zero {S : ByteArray} (h : S.data.toList = []) : digW S = false := by simp [digW, h]
theorem dig_at {S : ByteArray} (h0 : 0 < S.size) : digW S = digC S[0] := by
  obtain ⟨l⟩ := S
  obtain ⟨l⟩ := l
  cases l with
  | nil => simp [ByteArray.size] at h0
  | cons c r => rfl
theorem nameF_nil {S : ByteArray} (h : S.data.toList = []) : nameF S = false := by simp [nameF, ByteArray.toList_eq, h]
theorem ps_own1 {w w' : World} {A : Option Addr} {n c : Nat} {d : Nd} {x : List Nd} {lo : Nat} (h : w'.ownsRow w.heap.size 25 3 (.slice A n c) n ([.int .i64 d.op, .string d.text, .int .i64 d.n] ++ x.flatMap ndCells)) (hn : n = x.length + 1) (hm : x.length ≤ 60000) (hd : d.text.size ≤ maxLen) (hx : ∀ z ∈ x, z.text.size ≤ maxLen) (hlo : lo ≤ w.heap.size) : NdF lo w' A (d :: x) := by
  refine NdF.less (NdF.ownT (n := n) (c := c) (by rw [List.flatMap_cons]; exact h) (by rw [hn, List.length_cons]) (by simp only [List.length_cons, maxLen]; omega) ?_) hlo
  intro z hz
  rcases List.mem_cons.1 hz with rfl | hz
  · exact hd
  · exact hx z hz

theorem NdF.lit_ (w : World) (d : Nd) (e : TypeId) (hd : d.text.size ≤ maxLen) : NdF w.heap.size (w.alloc (.cells #[.int .i64 d.op, .string d.text, .int .i64 d.n] e)) (some ⟨w.heap.size, 0, none⟩) [d] :=
  ⟨⟨.lit w _ _ 1 rfl, by simp [maxLen], by simpa using hd⟩, fun ad e => by cases e; exact Nat.le_refl _⟩

set_option maxRecDepth 100000 in
set_option maxHeartbeats 8000000 in
theorem pone_any {g cw cp : Nat} {W P : Option Addr} {ws : List ByteArray} {ps : List Nat} (s : Nat → PrR) (hgo : Goes ws s) (hdg : ∀ j, digW (wdAt ws j) = true → (wdAt ws j).data.toList.all digC = true ∧ (wdAt ws j).size ≤ 6) (k : Nat)
    (HSUM : Hid (∀ (k' : Nat) (w : World), PsSt g W cw ws P cp ps k' w → k < k' → k' ≤ ws.length → Calls Tryz.prog 167 #[.pointer (some ⟨g, 0, none⟩)] w (PsTo g W cw ws P cp ps (s k') w)))
    (w : World) (hs : PsSt g W cw ws P cp ps k w) (hk : k ≤ ws.length) :
    Calls Tryz.prog 210 #[.pointer (some ⟨g, 0, none⟩)] w (PsTo g W cw ws P cp ps (oneP ws s k) w) := by
  obtain ⟨R, hR⟩ : ∃ R, R = oneP ws s k := ⟨_, rfl⟩
  rw [← hR]
  obtain ⟨i0, hi0, hz0, hz1, hz2⟩ := info_parts tree_info
  have hf := hs.few
  have hgl := hs.lt
  have hsz := hs.size k
  have h40 : (⟨#[40]⟩ : ByteArray).toList = [40] := by decide +kernel
  have h41 : (⟨#[41]⟩ : ByteArray).toList = [41] := by decide +kernel
  have h93 : (⟨#[93]⟩ : ByteArray).toList = [93] := by decide +kernel
  have HS := Lib.hid hs
  have H41 := Lib.hid h41
  have H93 := Lib.hid h93
  have HP := Lib.hid (peek_any w hs hk)
  cases w40 : isW ws k [40] with
  | true =>
    have hlt := isW_lt w40
    have HQ := Lib.hid (fun w' h => HSUM.out (k + 1) w' h (by omega) hlt)
    have hgb := hgo (k + 1) hlt
    cases hp : s (k + 1) with
    | error x =>
      have HRES := Lib.hid (hR.trans (oneP_1b w40 hp))
      have HQ' : Hid (∀ w', PsSt g W cw ws P cp ps (k + 1) w' → Calls Tryz.prog 167 #[.pointer (some ⟨g, 0, none⟩)] w' (PsBad g ps x w')) := Lib.hid (fun w' h => by have := HQ.out w' h; rw [hp] at this; exact this)
      unfold isW at w40
      generalize wdAt ws k = S at *
      clear hp HQ hgb hs hgo hdg hR h40 h41 h93
      go_enter Tryz.func210, Tryz.ntmps210
      go_wp2_with (first
        | (go_at_call 113; (fail_if_success have z := T0); refine HP.out.mono ?_; rintro e w3 ⟨rfl, hB⟩; have hs3 := HS.out.past hB; obtain ⟨-, -, q7, f2⟩ := hs3.cells; have HM := Lib.hid hs3; have HG : Hid (w.grownBy w3 (some g)) := Lib.hid (ps_row _ hB); clear hB hs3; have T0 := Lib.hid True.intro)
        | (go_at_call 167; refine (HQ'.out _ (HM.out.set (k + 1) (by go_num))).mono ?_; rintro e w8 ⟨rfl, hG8⟩; have HG := Lib.hid (grown_trans (grown_trans HG.out (ps_grown _ _ _ _)) hG8); clear hG8))
      refine ⟨rfl, ?_⟩
      rw [HRES.out]
      exact ⟨rfl, HG.out⟩
    | ok r =>
      obtain ⟨x, k2⟩ := r
      obtain ⟨b1, b2, b3, b4⟩ := hgb.1 x k2 hp
      have HQ' : Hid (∀ w', PsSt g W cw ws P cp ps (k + 1) w' → Calls Tryz.prog 167 #[.pointer (some ⟨g, 0, none⟩)] w' (PsTo g W cw ws P cp ps (.ok (x, k2)) w')) := Lib.hid (fun w' h => by have := HQ.out w' h; rw [hp] at this; exact this)
      cases w41 : isW ws k2 [41] with
      | false =>
        have HRES := Lib.hid (hR.trans (oneP_1c w40 hp w41))
        have HMU : Hid (∀ w', PsSt g W cw ws P cp ps k2 w' → Calls Tryz.prog 166 #[.pointer (some ⟨g, 0, none⟩), .string ⟨#[41]⟩] w' (PsBad g ps k2 w')) := Lib.hid (fun w' h => must_bad _ w' h b2 (by rw [H41.out]; exact w41))
        unfold isW at w40
        generalize wdAt ws k = S at *
        clear hp HQ hgb hs hgo hdg hR h40 h41 h93 w41
        go_enter Tryz.func210, Tryz.ntmps210
        go_wp2_with (first
          | (go_at_call 113; (fail_if_success have z := T0); refine HP.out.mono ?_; rintro e w3 ⟨rfl, hB⟩; have hs3 := HS.out.past hB; obtain ⟨-, -, q7, f2⟩ := hs3.cells; have HM := Lib.hid hs3; have HG : Hid (w.grownBy w3 (some g)) := Lib.hid (ps_row _ hB); clear hB hs3; have T0 := Lib.hid True.intro)
          | (go_at_call 167; refine (HQ'.out _ (HM.out.set (k + 1) (by go_num))).mono ?_; rintro e w8 ⟨A8, c8, rfl, hn8, hs8, hG8⟩; have HM := Lib.hid hs8; have HG0 := HG; have HG := Lib.hid (grown_trans (grown_trans HG.out (ps_grown _ _ _ _)) hG8); have HX := Lib.hid (hn8.less (Nat.le_trans HG0.out.size (ps_grown _ _ _ _).size)); clear hn8 hs8 hG8)
          | (go_at_call 166; refine (HMU.out _ HM.out).mono ?_; rintro e w9 ⟨rfl, hG9⟩; have HG := Lib.hid (grown_trans HG.out hG9); clear hG9))
        refine ⟨rfl, ?_⟩
        rw [HRES.out]
        exact ⟨rfl, HG.out⟩
      | true =>
        have HRES := Lib.hid (hR.trans (oneP_1g w40 hp w41))
        have HMU : Hid (∀ w', PsSt g W cw ws P cp ps k2 w' → Calls Tryz.prog 166 #[.pointer (some ⟨g, 0, none⟩), .string ⟨#[41]⟩] w' (PsOk g W cw ws P cp ps (k2 + 1) (.tuple #[]) w')) := Lib.hid (fun w' h => must_ok _ w' h b2 (by rw [H41.out]; exact w41))
        unfold isW at w40
        generalize wdAt ws k = S at *
        clear hp HQ hgb hs hgo hdg hR h40 h41 h93 w41
        go_enter Tryz.func210, Tryz.ntmps210
        go_wp2_with (first
          | (go_at_call 113; (fail_if_success have z := T0); refine HP.out.mono ?_; rintro e w3 ⟨rfl, hB⟩; have hs3 := HS.out.past hB; obtain ⟨-, -, q7, f2⟩ := hs3.cells; have HM := Lib.hid hs3; have HG : Hid (w.grownBy w3 (some g)) := Lib.hid (ps_row _ hB); clear hB hs3; have T0 := Lib.hid True.intro)
          | (go_at_call 167; refine (HQ'.out _ (HM.out.set (k + 1) (by go_num))).mono ?_; rintro e w8 ⟨A8, c8, rfl, hn8, hs8, hG8⟩; have HM := Lib.hid hs8; have HG0 := HG; have HG := Lib.hid (grown_trans (grown_trans HG.out (ps_grown _ _ _ _)) hG8); have HX := Lib.hid (hn8.less (Nat.le_trans HG0.out.size (ps_grown _ _ _ _).size)); clear hn8 hs8 hG8)
          | (go_at_call 166; refine (HMU.out _ HM.out).mono ?_; rintro e w9 ⟨rfl, hs9, hG9⟩; have HM := Lib.hid hs9; have HX := Lib.hid (HX.out.grow hG9 (fun k e => by cases e; exact hgl)); have HG := Lib.hid (grown_trans HG.out hG9); clear hs9 hG9))
        go_ret
        rw [HRES.out]
        exact ⟨A8, c8, rfl, HX.out, HM.out, HG.out⟩
  | false =>
    cases w91 : isW ws k [91] with
    | true =>
      have hlt := isW_lt w91
      have HQ := Lib.hid (fun w' h => pmany_any s hgo ⟨#[93]⟩ (by rw [H93.out]; simp) (k + 1) (Lib.hid (fun k' w' h' h1 h2 => HSUM.out k' w' h' (by omega) h2)) w' h hlt)
      have hgb := manyP_goes (ed := [93]) (by simp) hgo (ws.length + 1) 0 [] (k + 1) (k + 1) hlt (by simp) (by simp)
      rw [H93.out] at HQ
      cases hp : manyP ws [93] s (ws.length + 1) 0 [] (k + 1) with
      | error x =>
        have HRES := Lib.hid (hR.trans (oneP_2b w40 w91 hp))
        have HQ' : Hid (∀ w', PsSt g W cw ws P cp ps (k + 1) w' → Calls Tryz.prog 224 #[.pointer (some ⟨g, 0, none⟩), .string ⟨#[93]⟩] w' (PsBad g ps x w')) := Lib.hid (fun w' h => by have := HQ.out w' h; rw [hp] at this; exact this)
        unfold isW at w40 w91
        generalize wdAt ws k = S at *
        clear hp HQ hgb hs hgo hdg hR h40 h41 h93
        go_enter Tryz.func210, Tryz.ntmps210
        go_wp2_with (first
          | (go_at_call 113; (fail_if_success have z := T0); refine HP.out.mono ?_; rintro e w3 ⟨rfl, hB⟩; have hs3 := HS.out.past hB; obtain ⟨-, -, q7, f2⟩ := hs3.cells; have HM := Lib.hid hs3; have HG : Hid (w.grownBy w3 (some g)) := Lib.hid (ps_row _ hB); clear hB hs3; have T0 := Lib.hid True.intro)
          | (go_at_call 224; refine (HQ'.out _ (HM.out.set (k + 1) (by go_num))).mono ?_; rintro e w8 ⟨rfl, hG8⟩; have HG := Lib.hid (grown_trans (grown_trans HG.out (ps_grown _ _ _ _)) hG8); clear hG8))
        refine ⟨rfl, ?_⟩
        rw [HRES.out]
        exact ⟨rfl, HG.out⟩
      | ok r =>
        obtain ⟨n, x, k2⟩ := r
        obtain ⟨b1, b2, b3, b4⟩ := hgb.1 n x k2 hp
        have HRES := Lib.hid (hR.trans (oneP_2g w40 w91 hp))
        have HQ' : Hid (∀ w', PsSt g W cw ws P cp ps (k + 1) w' → Calls Tryz.prog 224 #[.pointer (some ⟨g, 0, none⟩), .string ⟨#[93]⟩] w' (PsMany g W cw ws P cp ps (.ok (n, x, k2)) w')) := Lib.hid (fun w' h => by have := HQ.out w' h; rw [hp] at this; exact this)
        unfold isW at w40 w91
        generalize wdAt ws k = S at *
        clear hp HQ hgb hs hgo hdg hR h40 h41 h93
        go_enter Tryz.func210, Tryz.ntmps210
        go_wp2_with (first
          | (go_at_call 113; (fail_if_success have z := T0); refine HP.out.mono ?_; rintro e w3 ⟨rfl, hB⟩; have hs3 := HS.out.past hB; obtain ⟨-, -, q7, f2⟩ := hs3.cells; have HM := Lib.hid hs3; have HG : Hid (w.grownBy w3 (some g)) := Lib.hid (ps_row _ hB); clear hB hs3; have T0 := Lib.hid True.intro)
          | (go_at_call 224; refine (HQ'.out _ (HM.out.set (k + 1) (by go_num))).mono ?_; rintro e w8 ⟨A8, c8, rfl, hn8, hs8, hG8⟩; have HM := Lib.hid hs8; have HG := Lib.hid (grown_trans (grown_trans HG.out (ps_grown _ _ _ _)) hG8); have h8 := HG.out.size; have H0 := Lib.hid (own_litP (w := w8) (base := w8.heap.size) (e := 25) (size := 3) (g := w8.heap.size) (n := 1) #[.int .i64 4, .string .empty, .int .i64 (n : Nat)] rfl (Nat.le_refl _) (by simp [maxLen]) (by simp)); have HA := Lib.hid (hn8.1.1.alloc (.cells #[.int .i64 4, .string .empty, .int .i64 (n : Nat)] 25)); have HT : Hid (∀ z ∈ x, z.text.size ≤ maxLen) := Lib.hid hn8.1.2.2; clear hn8 hs8 hG8)
          | (at_builtin; refine wpList_app _ rfl (.tmp 46) (.tmp 47) _ rfl w8.heap.size 25 i0 _ 3 32 Tryz.underlying22 hi0 hz0 hz1 hz2 rfl (by omega) _ 1 _ rfl H0.out _ A8 x.length c8 _ rfl HA.out (nd_one x) (by simp only [maxLen]; omega) (by omega) (by simp) ?_; intro v9 w9 hown9 hg9 hat9; clear hat9; have hB9 : Below w8.heap.size w8 w9 := below_app ((Below.refl _ _).alloc (Nat.le_refl _) _) H0.out hg9 (by simp) (Nat.le_refl _); obtain ⟨A9, c9, hv9⟩ := own_slice hown9; subst hv9; have HM := Lib.hid (HM.out.past hB9); have HG := Lib.hid (grown_below HG.out hB9); have H9 := Lib.hid hown9; clear hown9 hg9 hB9))
        go_ret
        rw [HRES.out]
        exact ⟨A9, c9, by rw [List.length_cons, Nat.add_comm]; rfl, ps_own1 (d := ⟨4, .empty, (n : Nat)⟩) (x := x) (c := c9) (n := 1 + x.length) (by simpa using H9.out) (by omega) (by omega) (by simp [maxLen]) HT.out h8, HM.out, HG.out⟩
    | false =>
      by_cases hS : (wdAt ws k).data.toList = []
      · have hd := dig_zero hS
        have hn := nameF_nil hS
        have HRES := Lib.hid (hR.trans (oneP_4 w40 w91 hd hn))
        have HNB := Lib.hid (fun w' (h' : PsSt g W cw ws P cp ps k w') => pname_bad w' h' hk hn)
        unfold isW at w40 w91
        have he : (wdAt ws k).toList.isEmpty = true := by simp [ByteArray.toList_eq, hS]
        generalize wdAt ws k = S at *
        clear hs hgo hdg hR h40 h41 h93 hd hn hS
        go_enter Tryz.func210, Tryz.ntmps210
        go_wp2_with (first
          | (go_at_call 113; (fail_if_success have z := T0); refine HP.out.mono ?_; rintro e w3 ⟨rfl, hB⟩; have hs3 := HS.out.past hB; obtain ⟨-, -, q7, f2⟩ := hs3.cells; have HM := Lib.hid hs3; have HG : Hid (w.grownBy w3 (some g)) := Lib.hid (ps_row _ hB); clear hB hs3; have T0 := Lib.hid True.intro)
          | (go_at_call 165; refine (HNB.out _ HM.out).mono ?_; rintro e w4 ⟨rfl, hG4⟩; have HG := Lib.hid (grown_trans HG.out hG4); clear hG4))
        refine ⟨rfl, ?_⟩
        rw [HRES.out]
        exact ⟨rfl, HG.out⟩
      · have hS0 : 0 < (wdAt ws k).size := by
          rcases Nat.eq_zero_or_pos (wdAt ws k).size with h | h
          · exact absurd (List.eq_nil_of_length_eq_zero (by simpa using h)) hS
          · exact h
        have hda := dig_at hS0
        have he : (wdAt ws k).toList.isEmpty = false := by
          rw [ByteArray.toList_eq]
          cases hh : (wdAt ws k).data.toList with
          | nil => exact absurd hh hS
          | cons c r => rfl
        cases hd : digW (wdAt ws k) with
        | true =>
          obtain ⟨m1, m2⟩ := hdg k hd
          have HRES := Lib.hid (hR.trans (oneP_3 w40 w91 hd))
          have HTK := Lib.hid (fun w' (h' : PsSt g W cw ws P cp ps k w') => take_any w' h' hk)
          rw [hd] at hda
          have HAT := Lib.hid (fun w' => patoi_any (wdAt ws k) w' m1 hS m2)
          have hlt := digW_lt hd
          unfold isW at w40 w91
          obtain ⟨q1, q2⟩ : 48 ≤ (wdAt ws k)[0].toNat ∧ (wdAt ws k)[0].toNat ≤ 57 := by
            have := hda.symm
            simpa [digC] using this
          generalize wdAt ws k = S at *
          generalize numW S = N at *
          clear hs hgo hdg hR h40 h41 h93 hd hS m1 m2 hda
          have q3 : (48 : Int) ≤ (S[0].toNat : Int) := by omega
          have q4 : (S[0].toNat : Int) ≤ 57 := by omega
          have q5 : decide ((48 : Int) ≤ (S[0].toNat : Int)) = true := decide_eq_true q3
          have q6 : decide ((S[0].toNat : Int) ≤ 57) = true := decide_eq_true q4
          go_enter Tryz.func210, Tryz.ntmps210
          go_wp2_with (first
            | (go_at_call 113; (fail_if_success have z := T0); refine HP.out.mono ?_; rintro e w3 ⟨rfl, hB⟩; have hs3 := HS.out.past hB; obtain ⟨-, -, q7, f2⟩ := hs3.cells; have HM := Lib.hid hs3; have HG : Hid (w.grownBy w3 (some g)) := Lib.hid (ps_row _ hB); clear hB hs3; have T0 := Lib.hid True.intro)
            | (go_at_call 163; refine (HTK.out _ HM.out).mono ?_; rintro e w4 ⟨rfl, hs4, hG4⟩; have HM := Lib.hid hs4; have HG := Lib.hid (grown_trans HG.out hG4); clear hs4 hG4)
            | (go_at_call 225; refine (HAT.out _).mono ?_; rintro e w5 ⟨rfl, hB⟩; have HM := Lib.hid (HM.out.past hB); have HG := Lib.hid (grown_below HG.out hB); clear hB))
          go_ret
          rw [HRES.out]
          exact ⟨_, _, rfl, ((NdF.lit_ _ ⟨1, .empty, N⟩ 25 (by simp [maxLen])).less HG.out.size), HM.out.past ((Below.refl _ _).alloc (Nat.le_refl _) _), grown_below HG.out ((Below.refl _ _).alloc (Nat.le_refl _) _)⟩
        | false =>
          rw [hd] at hda
          have hcs : (wdAt ws k)[0].toNat < 48 ∨ (48 ≤ (wdAt ws k)[0].toNat ∧ 57 < (wdAt ws k)[0].toNat) := by
            have h := hda.symm
            simp [digC] at h
            omega
          cases hn : nameF (wdAt ws k) with
          | false =>
            have HRES := Lib.hid (hR.trans (oneP_4 w40 w91 hd hn))
            have HNB := Lib.hid (fun w' (h' : PsSt g W cw ws P cp ps k w') => pname_bad w' h' hk hn)
            unfold isW at w40 w91
            generalize wdAt ws k = S at *
            clear hs hgo hdg hR h40 h41 h93 hd hn hS hda
            rcases hcs with q1 | ⟨q1, q2⟩
            · have q3 : ¬ (48 : Int) ≤ (S[0].toNat : Int) := by omega
              have q5 : decide ((48 : Int) ≤ (S[0].toNat : Int)) = false := decide_eq_false q3
              go_enter Tryz.func210, Tryz.ntmps210
              go_wp2_with (first
                | (go_at_call 113; (fail_if_success have z := T0); refine HP.out.mono ?_; rintro e w3 ⟨rfl, hB⟩; have hs3 := HS.out.past hB; obtain ⟨-, -, q7, f2⟩ := hs3.cells; have HM := Lib.hid hs3; have HG : Hid (w.grownBy w3 (some g)) := Lib.hid (ps_row _ hB); clear hB hs3; have T0 := Lib.hid True.intro)
                | (go_at_call 165; refine (HNB.out _ HM.out).mono ?_; rintro e w4 ⟨rfl, hG4⟩; have HG := Lib.hid (grown_trans HG.out hG4); clear hG4))
              refine ⟨rfl, ?_⟩
              rw [HRES.out]
              exact ⟨rfl, HG.out⟩
            · have q3 : (48 : Int) ≤ (S[0].toNat : Int) := by omega
              have q5 : decide ((48 : Int) ≤ (S[0].toNat : Int)) = true := decide_eq_true q3
              have q4 : ¬ (S[0].toNat : Int) ≤ 57 := by omega
              have q6 : decide ((S[0].toNat : Int) ≤ 57) = false := decide_eq_false q4
              go_enter Tryz.func210, Tryz.ntmps210
              go_wp2_with (first
                | (go_at_call 113; (fail_if_success have z := T0); refine HP.out.mono ?_; rintro e w3 ⟨rfl, hB⟩; have hs3 := HS.out.past hB; obtain ⟨-, -, q7, f2⟩ := hs3.cells; have HM := Lib.hid hs3; have HG : Hid (w.grownBy w3 (some g)) := Lib.hid (ps_row _ hB); clear hB hs3; have T0 := Lib.hid True.intro)
                | (go_at_call 165; refine (HNB.out _ HM.out).mono ?_; rintro e w4 ⟨rfl, hG4⟩; have HG := Lib.hid (grown_trans HG.out hG4); clear hG4))
              refine ⟨rfl, ?_⟩
              rw [HRES.out]
              exact ⟨rfl, HG.out⟩
          | true =>
            have hlt := nameW_lt hn
            have HNO := Lib.hid (fun w' (h' : PsSt g W cw ws P cp ps k w') => pname_ok w' h' hk hn)
            have HP2 := Lib.hid (fun w' (h' : PsSt g W cw ws P cp ps (k + 1) w') => peek_any w' h' hlt)
            cases v40 : isW ws (k + 1) [40] with
            | false =>
              have HRES := Lib.hid (hR.trans (oneP_5 w40 w91 hd hn v40))
              unfold isW at w40 w91 v40
              generalize wdAt ws k = S at *
              generalize wdAt ws (k + 1) = S2 at *
              clear hs hgo hdg hR h40 h41 h93 hd hn hS hda
              rcases hcs with q1 | ⟨q1, q2⟩
              · have q3 : ¬ (48 : Int) ≤ (S[0].toNat : Int) := by omega
                have q5 : decide ((48 : Int) ≤ (S[0].toNat : Int)) = false := decide_eq_false q3
                go_enter Tryz.func210, Tryz.ntmps210
                go_wp2_with (first
                  | (go_at_call 113; (fail_if_success have z := T0); refine HP.out.mono ?_; rintro e w3 ⟨rfl, hB⟩; have hs3 := HS.out.past hB; obtain ⟨-, -, q7, f2⟩ := hs3.cells; have HM := Lib.hid hs3; have HG : Hid (w.grownBy w3 (some g)) := Lib.hid (ps_row _ hB); clear hB hs3; have T0 := Lib.hid True.intro)
                  | (go_at_call 165; refine (HNO.out _ HM.out).mono ?_; rintro e w4 ⟨rfl, hs4, hG4⟩; have HM := Lib.hid hs4; have HG := Lib.hid (grown_trans HG.out hG4); clear hs4 hG4)
                  | (go_at_call 113; (have z := T0; clear z); refine (HP2.out _ HM.out).mono ?_; rintro e w5 ⟨rfl, hB⟩; have hs3 := HM.out.past hB; obtain ⟨-, -, q7, f2⟩ := hs3.cells; have HM := Lib.hid hs3; have HG := Lib.hid (grown_below HG.out hB); clear hB hs3))
                go_ret
                rw [HRES.out]
                exact ⟨_, _, rfl, ((NdF.lit_ _ ⟨2, S, 0⟩ 25 hsz).less HG.out.size), HM.out.past ((Below.refl _ _).alloc (Nat.le_refl _) _), grown_below HG.out ((Below.refl _ _).alloc (Nat.le_refl _) _)⟩
              · have q3 : (48 : Int) ≤ (S[0].toNat : Int) := by omega
                have q5 : decide ((48 : Int) ≤ (S[0].toNat : Int)) = true := decide_eq_true q3
                have q4 : ¬ (S[0].toNat : Int) ≤ 57 := by omega
                have q6 : decide ((S[0].toNat : Int) ≤ 57) = false := decide_eq_false q4
                go_enter Tryz.func210, Tryz.ntmps210
                go_wp2_with (first
                  | (go_at_call 113; (fail_if_success have z := T0); refine HP.out.mono ?_; rintro e w3 ⟨rfl, hB⟩; have hs3 := HS.out.past hB; obtain ⟨-, -, q7, f2⟩ := hs3.cells; have HM := Lib.hid hs3; have HG : Hid (w.grownBy w3 (some g)) := Lib.hid (ps_row _ hB); clear hB hs3; have T0 := Lib.hid True.intro)
                  | (go_at_call 165; refine (HNO.out _ HM.out).mono ?_; rintro e w4 ⟨rfl, hs4, hG4⟩; have HM := Lib.hid hs4; have HG := Lib.hid (grown_trans HG.out hG4); clear hs4 hG4)
                  | (go_at_call 113; (have z := T0; clear z); refine (HP2.out _ HM.out).mono ?_; rintro e w5 ⟨rfl, hB⟩; have hs3 := HM.out.past hB; obtain ⟨-, -, q7, f2⟩ := hs3.cells; have HM := Lib.hid hs3; have HG := Lib.hid (grown_below HG.out hB); clear hB hs3))
                go_ret
                rw [HRES.out]
                exact ⟨_, _, rfl, ((NdF.lit_ _ ⟨2, S, 0⟩ 25 hsz).less HG.out.size), HM.out.past ((Below.refl _ _).alloc (Nat.le_refl _) _), grown_below HG.out ((Below.refl _ _).alloc (Nat.le_refl _) _)⟩
            | true =>
              have hlt2 := isW_lt v40
              have HQ := Lib.hid (fun w' h => pmany_any s hgo ⟨#[41]⟩ (by rw [H41.out]; simp) (k + 2) (Lib.hid (fun k' w' h' h1 h2 => HSUM.out k' w' h' (by omega) h2)) w' h hlt2)
              have hgb := manyP_goes (ed := [41]) (by simp) hgo (ws.length + 1) 0 [] (k + 2) (k + 2) hlt2 (by simp) (by simp)
              rw [H41.out] at HQ
              cases hp : manyP ws [41] s (ws.length + 1) 0 [] (k + 2) with
              | error x =>
                have HRES := Lib.hid (hR.trans (oneP_6b w40 w91 hd hn v40 hp))
                have HQ' : Hid (∀ w', PsSt g W cw ws P cp ps (k + 2) w' → Calls Tryz.prog 224 #[.pointer (some ⟨g, 0, none⟩), .string ⟨#[41]⟩] w' (PsBad g ps x w')) := Lib.hid (fun w' h => by have := HQ.out w' h; rw [hp] at this; exact this)
                unfold isW at w40 w91 v40
                generalize wdAt ws k = S at *
                generalize wdAt ws (k + 1) = S2 at *
                clear hp HQ hgb hs hgo hdg hR h40 h41 h93 hd hn hS hda
                rcases hcs with q1 | ⟨q1, q2⟩
                · have q3 : ¬ (48 : Int) ≤ (S[0].toNat : Int) := by omega
                  have q5 : decide ((48 : Int) ≤ (S[0].toNat : Int)) = false := decide_eq_false q3
                  go_enter Tryz.func210, Tryz.ntmps210
                  go_wp2_with (first
                    | (go_at_call 113; (fail_if_success have z := T0); refine HP.out.mono ?_; rintro e w3 ⟨rfl, hB⟩; have hs3 := HS.out.past hB; obtain ⟨-, -, q7, f2⟩ := hs3.cells; have HM := Lib.hid hs3; have HG : Hid (w.grownBy w3 (some g)) := Lib.hid (ps_row _ hB); clear hB hs3; have T0 := Lib.hid True.intro)
                    | (go_at_call 165; refine (HNO.out _ HM.out).mono ?_; rintro e w4 ⟨rfl, hs4, hG4⟩; have HM := Lib.hid hs4; have HG := Lib.hid (grown_trans HG.out hG4); clear hs4 hG4)
                    | (go_at_call 113; (have z := T0; clear z); refine (HP2.out _ HM.out).mono ?_; rintro e w5 ⟨rfl, hB⟩; have hs3 := HM.out.past hB; obtain ⟨-, -, q7, f2⟩ := hs3.cells; have HM := Lib.hid hs3; have HG := Lib.hid (grown_below HG.out hB); clear hB hs3)
                    | (go_at_call 224; refine (HQ'.out _ (HM.out.set (k + 2) (by go_num))).mono ?_; rintro e w8 ⟨rfl, hG8⟩; have HG := Lib.hid (grown_trans (grown_trans HG.out (ps_grown _ _ _ _)) hG8); clear hG8))
                  refine ⟨rfl, ?_⟩
                  rw [HRES.out]
                  exact ⟨rfl, HG.out⟩
                · have q3 : (48 : Int) ≤ (S[0].toNat : Int) := by omega
                  have q5 : decide ((48 : Int) ≤ (S[0].toNat : Int)) = true := decide_eq_true q3
                  have q4 : ¬ (S[0].toNat : Int) ≤ 57 := by omega
                  have q6 : decide ((S[0].toNat : Int) ≤ 57) = false := decide_eq_false q4
                  go_enter Tryz.func210, Tryz.ntmps210
                  go_wp2_with (first
                    | (go_at_call 113; (fail_if_success have z := T0); refine HP.out.mono ?_; rintro e w3 ⟨rfl, hB⟩; have hs3 := HS.out.past hB; obtain ⟨-, -, q7, f2⟩ := hs3.cells; have HM := Lib.hid hs3; have HG : Hid (w.grownBy w3 (some g)) := Lib.hid (ps_row _ hB); clear hB hs3; have T0 := Lib.hid True.intro)
                    | (go_at_call 165; refine (HNO.out _ HM.out).mono ?_; rintro e w4 ⟨rfl, hs4, hG4⟩; have HM := Lib.hid hs4; have HG := Lib.hid (grown_trans HG.out hG4); clear hs4 hG4)
                    | (go_at_call 113; (have z := T0; clear z); refine (HP2.out _ HM.out).mono ?_; rintro e w5 ⟨rfl, hB⟩; have hs3 := HM.out.past hB; obtain ⟨-, -, q7, f2⟩ := hs3.cells; have HM := Lib.hid hs3; have HG := Lib.hid (grown_below HG.out hB); clear hB hs3)
                    | (go_at_call 224; refine (HQ'.out _ (HM.out.set (k + 2) (by go_num))).mono ?_; rintro e w8 ⟨rfl, hG8⟩; have HG := Lib.hid (grown_trans (grown_trans HG.out (ps_grown _ _ _ _)) hG8); clear hG8))
                  refine ⟨rfl, ?_⟩
                  rw [HRES.out]
                  exact ⟨rfl, HG.out⟩
              | ok r =>
                obtain ⟨n, x, k2⟩ := r
                obtain ⟨b1, b2, b3, b4⟩ := hgb.1 n x k2 hp
                have HRES := Lib.hid (hR.trans (oneP_6g w40 w91 hd hn v40 hp))
                have HQ' : Hid (∀ w', PsSt g W cw ws P cp ps (k + 2) w' → Calls Tryz.prog 224 #[.pointer (some ⟨g, 0, none⟩), .string ⟨#[41]⟩] w' (PsMany g W cw ws P cp ps (.ok (n, x, k2)) w')) := Lib.hid (fun w' h => by have := HQ.out w' h; rw [hp] at this; exact this)
                unfold isW at w40 w91 v40
                generalize wdAt ws k = S at *
                generalize wdAt ws (k + 1) = S2 at *
                clear hp HQ hgb hs hgo hdg hR h40 h41 h93 hd hn hS hda
                rcases hcs with q1 | ⟨q1, q2⟩
                · have q3 : ¬ (48 : Int) ≤ (S[0].toNat : Int) := by omega
                  have q5 : decide ((48 : Int) ≤ (S[0].toNat : Int)) = false := decide_eq_false q3
                  go_enter Tryz.func210, Tryz.ntmps210
                  go_wp2_with (first
                    | (go_at_call 113; (fail_if_success have z := T0); refine HP.out.mono ?_; rintro e w3 ⟨rfl, hB⟩; have hs3 := HS.out.past hB; obtain ⟨-, -, q7, f2⟩ := hs3.cells; have HM := Lib.hid hs3; have HG : Hid (w.grownBy w3 (some g)) := Lib.hid (ps_row _ hB); clear hB hs3; have T0 := Lib.hid True.intro)
                    | (go_at_call 165; refine (HNO.out _ HM.out).mono ?_; rintro e w4 ⟨rfl, hs4, hG4⟩; have HM := Lib.hid hs4; have HG := Lib.hid (grown_trans HG.out hG4); clear hs4 hG4)
                    | (go_at_call 113; (have z := T0; clear z); refine (HP2.out _ HM.out).mono ?_; rintro e w5 ⟨rfl, hB⟩; have hs3 := HM.out.past hB; obtain ⟨-, -, q7, f2⟩ := hs3.cells; have HM := Lib.hid hs3; have HG := Lib.hid (grown_below HG.out hB); clear hB hs3)
                    | (go_at_call 224; refine (HQ'.out _ (HM.out.set (k + 2) (by go_num))).mono ?_; rintro e w8 ⟨A8, c8, rfl, hn8, hs8, hG8⟩; have HM := Lib.hid hs8; have HG := Lib.hid (grown_trans (grown_trans HG.out (ps_grown _ _ _ _)) hG8); have h8 := HG.out.size; have H0 := Lib.hid (own_litP (w := w8) (base := w8.heap.size) (e := 25) (size := 3) (g := w8.heap.size) (n := 1) #[.int .i64 3, .string S, .int .i64 (n : Nat)] rfl (Nat.le_refl _) (by simp [maxLen]) (by simp)); have HA := Lib.hid (hn8.1.1.alloc (.cells #[.int .i64 3, .string S, .int .i64 (n : Nat)] 25)); have HT : Hid (∀ z ∈ x, z.text.size ≤ maxLen) := Lib.hid hn8.1.2.2; clear hn8 hs8 hG8)
                    | (at_builtin; refine wpList_app _ rfl (.tmp 94) (.tmp 95) _ rfl w8.heap.size 25 i0 _ 3 32 Tryz.underlying22 hi0 hz0 hz1 hz2 rfl (by omega) _ 1 _ rfl H0.out _ A8 x.length c8 _ rfl HA.out (nd_one x) (by simp only [maxLen]; omega) (by omega) (by simp) ?_; intro v9 w9 hown9 hg9 hat9; clear hat9; have hB9 : Below w8.heap.size w8 w9 := below_app ((Below.refl _ _).alloc (Nat.le_refl _) _) H0.out hg9 (by simp) (Nat.le_refl _); obtain ⟨A9, c9, hv9⟩ := own_slice hown9; subst hv9; have HM := Lib.hid (HM.out.past hB9); have HG := Lib.hid (grown_below HG.out hB9); have H9 := Lib.hid hown9; clear hown9 hg9 hB9))
                  go_ret
                  rw [HRES.out]
                  exact ⟨A9, c9, by rw [List.length_cons, Nat.add_comm]; rfl, ps_own1 (d := ⟨3, S, (n : Nat)⟩) (x := x) (c := c9) (n := 1 + x.length) (by simpa using H9.out) (by omega) (by omega) hsz HT.out h8, HM.out, HG.out⟩
                · have q3 : (48 : Int) ≤ (S[0].toNat : Int) := by omega
                  have q5 : decide ((48 : Int) ≤ (S[0].toNat : Int)) = true := decide_eq_true q3
                  have q4 : ¬ (S[0].toNat : Int) ≤ 57 := by omega
                  have q6 : decide ((S[0].toNat : Int) ≤ 57) = false := decide_eq_false q4
                  go_enter Tryz.func210, Tryz.ntmps210
                  go_wp2_with (first
                    | (go_at_call 113; (fail_if_success have z := T0); refine HP.out.mono ?_; rintro e w3 ⟨rfl, hB⟩; have hs3 := HS.out.past hB; obtain ⟨-, -, q7, f2⟩ := hs3.cells; have HM := Lib.hid hs3; have HG : Hid (w.grownBy w3 (some g)) := Lib.hid (ps_row _ hB); clear hB hs3; have T0 := Lib.hid True.intro)
                    | (go_at_call 165; refine (HNO.out _ HM.out).mono ?_; rintro e w4 ⟨rfl, hs4, hG4⟩; have HM := Lib.hid hs4; have HG := Lib.hid (grown_trans HG.out hG4); clear hs4 hG4)
                    | (go_at_call 113; (have z := T0; clear z); refine (HP2.out _ HM.out).mono ?_; rintro e w5 ⟨rfl, hB⟩; have hs3 := HM.out.past hB; obtain ⟨-, -, q7, f2⟩ := hs3.cells; have HM := Lib.hid hs3; have HG := Lib.hid (grown_below HG.out hB); clear hB hs3)
                    | (go_at_call 224; refine (HQ'.out _ (HM.out.set (k + 2) (by go_num))).mono ?_; rintro e w8 ⟨A8, c8, rfl, hn8, hs8, hG8⟩; have HM := Lib.hid hs8; have HG := Lib.hid (grown_trans (grown_trans HG.out (ps_grown _ _ _ _)) hG8); have h8 := HG.out.size; have H0 := Lib.hid (own_litP (w := w8) (base := w8.heap.size) (e := 25) (size := 3) (g := w8.heap.size) (n := 1) #[.int .i64 3, .string S, .int .i64 (n : Nat)] rfl (Nat.le_refl _) (by simp [maxLen]) (by simp)); have HA := Lib.hid (hn8.1.1.alloc (.cells #[.int .i64 3, .string S, .int .i64 (n : Nat)] 25)); have HT : Hid (∀ z ∈ x, z.text.size ≤ maxLen) := Lib.hid hn8.1.2.2; clear hn8 hs8 hG8)
                    | (at_builtin; refine wpList_app _ rfl (.tmp 94) (.tmp 95) _ rfl w8.heap.size 25 i0 _ 3 32 Tryz.underlying22 hi0 hz0 hz1 hz2 rfl (by omega) _ 1 _ rfl H0.out _ A8 x.length c8 _ rfl HA.out (nd_one x) (by simp only [maxLen]; omega) (by omega) (by simp) ?_; intro v9 w9 hown9 hg9 hat9; clear hat9; have hB9 : Below w8.heap.size w8 w9 := below_app ((Below.refl _ _).alloc (Nat.le_refl _) _) H0.out hg9 (by simp) (Nat.le_refl _); obtain ⟨A9, c9, hv9⟩ := own_slice hown9; subst hv9; have HM := Lib.hid (HM.out.past hB9); have HG := Lib.hid (grown_below HG.out hB9); have H9 := Lib.hid hown9; clear hown9 hg9 hB9))
                  go_ret
                  rw [HRES.out]
                  exact ⟨A9, c9, by rw [List.length_cons, Nat.add_comm]; rfl, ps_own1 (d := ⟨3, S, (n : Nat)⟩) (x := x) (c := c9) (n := 1 + x.length) (by simpa using H9.out) (by omega) (by omega) hsz HT.out h8, HM.out, HG.out⟩
end Go.Proofs.YtddfdmopaeghnacGreatDoor
