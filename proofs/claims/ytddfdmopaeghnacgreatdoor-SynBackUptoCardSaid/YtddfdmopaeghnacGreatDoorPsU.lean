/- Walks of syn's parser: many, one. Conditions: as in the texts ahead; what sum's calls hand back is given; a word that begins with a digit is a number of six digits at most. -/
import Derived.Test.YtddfdmopaeghnacGreatDoorPsV
namespace Go.Proofs.YtddfdmopaeghnacGreatDoor
open Go.RowKit

theorem manyP_end {ws : List ByteArray} {ed : List UInt8} {sum : Nat → PrR} {j n k : Nat} {out : List Nd} (h : isW ws k ed = true) : manyP ws ed sum (j + 1) n out k = .ok (n, out, k + 1) := by rw [manyP, if_pos h]
theorem manyP_stop {ws : List ByteArray} {ed : List UInt8} {sum : Nat → PrR} {j n k : Nat} {out : List Nd} (h : isW ws k ed = false) (hn : 0 < n) (hc : isW ws k [44] = false) : manyP ws ed sum (j + 1) n out k = .error k := by
  rw [manyP, if_neg (by rw [h]; decide), if_pos ⟨hn, hc⟩]
theorem manyP_bad {ws : List ByteArray} {ed : List UInt8} {sum : Nat → PrR} {j n k q x : Nat} {out : List Nd} (h : isW ws k ed = false) (hc : ¬ (0 < n ∧ isW ws k [44] = false)) (hq : (if 0 < n then k + 1 else k) = q) (hx : sum q = .error x) : manyP ws ed sum (j + 1) n out k = .error x := by
  rw [manyP, if_neg (by rw [h]; decide), if_neg hc, hq, hx]
theorem manyP_more {ws : List ByteArray} {ed : List UInt8} {sum : Nat → PrR} {j n k q k' : Nat} {out x : List Nd} (h : isW ws k ed = false) (hc : ¬ (0 < n ∧ isW ws k [44] = false)) (hq : (if 0 < n then k + 1 else k) = q) (hx : sum q = .ok (x, k')) : manyP ws ed sum (j + 1) n out k = manyP ws ed sum j (n + 1) (out ++ x) k' := by
  rw [manyP, if_neg (by rw [h]; decide), if_neg hc, hq, hx]

set_option maxRecDepth 100000 in
set_option maxHeartbeats 8000000 in
theorem pmany_any {g cw cp : Nat} {W P : Option Addr} {ws : List ByteArray} {ps : List Nat} (s : Nat → PrR) (hgo : Goes ws s) (ed : ByteArray) (h0 : ed.toList ≠ []) (k : Nat)
    (HSUM : Hid (∀ (k' : Nat) (w : World), PsSt g W cw ws P cp ps k' w → k ≤ k' → k' ≤ ws.length → Calls Tryz.prog 167 #[.pointer (some ⟨g, 0, none⟩)] w (PsTo g W cw ws P cp ps (s k') w)))
    (w : World) (hs : PsSt g W cw ws P cp ps k w) (hk : k ≤ ws.length) :
    Calls Tryz.prog 224 #[.pointer (some ⟨g, 0, none⟩), .string ed] w (PsMany g W cw ws P cp ps (manyP ws ed.toList s (ws.length + 1) 0 [] k) w) := by
  obtain ⟨R, hR⟩ : ∃ R, R = manyP ws ed.toList s (ws.length + 1) 0 [] k := ⟨_, rfl⟩
  rw [← hR]
  obtain ⟨i0, hi0, hz0, hz1, hz2⟩ := info_parts tree_info
  have hf := hs.few
  have hgl := hs.lt
  have h44 : (⟨#[44]⟩ : ByteArray).toList = [44] := by decide +kernel
  have HM := Lib.hid hs
  have HGO := Lib.hid hgo
  have HR := Lib.hid hR
  have H44 := Lib.hid h44
  have HPK := Lib.hid (fun k' w' (h : PsSt g W cw ws P cp ps k' w') hk => peek_any w' h hk)
  clear hs hgo hR h44
  go_enter Tryz.func224, Tryz.ntmps224
  go_wp2
  go_loopw [6, 7] (fun v i wr => ∃ (out : List Nd) (k2 j n : Nat) (A2 : Option Addr) (c2 : Nat), v = .slice A2 out.length c2 ∧ i = .int .i64 (n : Nat) ∧ k ≤ k2 ∧ k2 ≤ ws.length ∧ ws.length + 1 ≤ k2 + j ∧ out.length + k ≤ k2 ∧ n ≤ out.length ∧ w.heap.size ≤ wr.heap.size ∧ Hid (wr.ownsRow w.heap.size 25 3 (.slice A2 out.length c2) out.length (out.flatMap ndCells)) ∧ Hid (∀ z ∈ out, z.text.size ≤ maxLen) ∧ Hid (PsSt g W cw ws P cp ps k2 wr) ∧ Hid (w.grownBy wr (some g)) ∧ Hid (R = manyP ws ed.toList s j n out k2)) (fun _ i _ => 60001 - (intOf i).toNat)
  case atStart => exact ⟨[], k, ws.length + 1, 0, none, 0, rfl, rfl, Nat.le_refl _, hk, by omega, by simp, by simp, Nat.le_refl _, Lib.hid (World.ownsRow_nil _ _ _ _), Lib.hid (by simp), HM, Lib.hid (World.grownBy.refl _ _), HR⟩
  case round =>
    obtain ⟨out, k2, j, n, A2, c2, rfl, rfl, hk2, hl2, hj, ho, hno, hsz, HN, HT, HM, HG, HR⟩ := hrel
    have HP := Lib.hid (HPK.out k2 wr HM.out hl2)
    obtain ⟨j, rfl⟩ : ∃ j', j = j' + 1 := ⟨j - 1, by omega⟩
    cases hw : isW ws k2 ed.toList with
    | true =>
      have HRES := Lib.hid (HR.out.trans (manyP_end hw))
      have hlt : k2 < ws.length := by
        cases hc : ed.toList with
        | nil => exact absurd hc h0
        | cons c r => rw [hc] at hw; exact isW_lt hw
      unfold isW at hw
      generalize wdAt ws k2 = S at *
      go_wp2_with (go_at_call 113; refine HP.out.mono ?_; rintro e w3 ⟨rfl, hB⟩; have hs3 := HM.out.past hB; obtain ⟨-, -, q2, f2⟩ := hs3.cells; have HM := Lib.hid hs3; have HG := Lib.hid (grown_below HG.out hB); have HN := Lib.hid (own_below HN.out hB); clear hB hs3)
      go_ret2
      rw [HRES.out]
      refine ⟨A2, c2, rfl, ?_, HM.out.set (k2 + 1) (by go_num), grown_trans HG.out (ps_grown _ _ _ _)⟩
      exact (NdF.ownT (n := out.length) (c := c2) HN.out rfl (by simp only [maxLen]; omega) HT.out).grow (ps_grown _ _ _ _) (fun k e => by cases e; exact hgl)
    | false =>
      have hlen1 : ∀ x : List Nd, (out ++ x).length = out.length + x.length := fun x => by simp
      rcases Nat.eq_zero_or_pos n with hn0 | hn0
      · subst hn0
        have hcz : ¬ (0 < 0 ∧ isW ws k2 [44] = false) := by simp
        have HQ := Lib.hid (fun w' h => HSUM.out k2 w' h (by omega) hl2)
        have hgb := HGO.out k2 hl2
        cases hp : s k2 with
        | error x =>
          have HRES := Lib.hid (HR.out.trans (manyP_bad (q := k2) hw hcz (by simp) hp))
          have HQ' : Hid (∀ w', PsSt g W cw ws P cp ps k2 w' → Calls Tryz.prog 167 #[.pointer (some ⟨g, 0, none⟩)] w' (PsBad g ps x w')) := Lib.hid (fun w' h => by have := HQ.out w' h; rw [hp] at this; exact this)
          unfold isW at hw
          generalize wdAt ws k2 = S at *
          clear hp HQ hgb hcz
          go_wp2_with (first
            | (go_at_call 113; refine HP.out.mono ?_; rintro e w3 ⟨rfl, hB⟩; have HM := Lib.hid (HM.out.past hB); have HG := Lib.hid (grown_below HG.out hB); have HN := Lib.hid (own_below HN.out hB); have hsz := Nat.le_trans hsz hB.size; clear hB)
            | (go_at_call 167; refine (HQ'.out _ HM.out).mono ?_; rintro e w8 ⟨rfl, hG8⟩; have HG := Lib.hid (grown_trans HG.out hG8); clear hG8))
          refine ⟨rfl, ?_⟩
          rw [HRES.out]
          exact ⟨rfl, HG.out⟩
        | ok r =>
          obtain ⟨x, k3⟩ := r
          obtain ⟨b1, b2, b3, b4⟩ := hgb.1 x k3 hp
          have HRES := Lib.hid (HR.out.trans (manyP_more (q := k2) hw hcz (by simp) hp))
          have HQ' : Hid (∀ w', PsSt g W cw ws P cp ps k2 w' → Calls Tryz.prog 167 #[.pointer (some ⟨g, 0, none⟩)] w' (PsTo g W cw ws P cp ps (.ok (x, k3)) w')) := Lib.hid (fun w' h => by have := HQ.out w' h; rw [hp] at this; exact this)
          unfold isW at hw
          generalize wdAt ws k2 = S at *
          clear hp HQ hgb hcz
          go_wp2_with (first
            | (go_at_call 113; refine HP.out.mono ?_; rintro e w3 ⟨rfl, hB⟩; have HM := Lib.hid (HM.out.past hB); have HG := Lib.hid (grown_below HG.out hB); have HN := Lib.hid (own_below HN.out hB); have hsz := Nat.le_trans hsz hB.size; clear hB)
            | (go_at_call 167; refine (HQ'.out _ HM.out).mono ?_; rintro e w8 ⟨A8, c8, rfl, hn8, hs8, hG8⟩; have HM := Lib.hid hs8; have HX := Lib.hid hn8; have HG := Lib.hid (grown_trans HG.out hG8); have HN := Lib.hid (own_past HN.out hG8 hgl); have hsz := Nat.le_trans hsz hG8.size; clear hn8 hs8 hG8)
            | (at_builtin; refine wpList_app _ rfl (.tmp 16) (.tmp 18) _ rfl w.heap.size 25 i0 _ 3 32 Tryz.underlying22 hi0 hz0 hz1 hz2 rfl (by omega) _ out.length _ rfl HN.out _ A8 x.length c8 _ rfl HX.out.1.1 (nd_one x) (by simp only [maxLen]; omega) (by omega) (by omega) ?_; intro v9 w9 hown9 hg9 hat9; clear hat9; have hB9 : Below w.heap.size w8 w9 := below_app (Below.refl _ _) HN.out hg9 (by omega) (Nat.le_refl _); obtain ⟨A9, c9, hv9⟩ := own_slice hown9; subst hv9; have HM := Lib.hid (HM.out.under hB9 hgl); have HG := Lib.hid (grown_under HG.out hB9 (Nat.le_refl _)); have H9 := Lib.hid hown9; have hsz := Nat.le_trans hsz hB9.size; clear hown9 hg9 hB9))
          go_roundw
          case measure => first | (simp [intOf]; done) | (simp [intOf]; omega)
          case rel =>
            refine ⟨out ++ x, k3, j, 0 + 1, A9, c9, by rw [hlen1], by first | go_num | rfl, by omega, b2, by omega, by rw [hlen1]; omega, by rw [hlen1]; omega, hsz, Lib.hid (by rw [hlen1, List.flatMap_append]; exact H9.out), Lib.hid ?_, HM, HG, HRES⟩
            intro z hz
            rcases List.mem_append.1 hz with hz | hz
            · exact HT.out z hz
            · exact HX.out.1.2.2 z hz
      · have q1 : decide ((n : Int) > 0) = true := decide_eq_true (by omega)
        cases hcm : isW ws k2 [44] with
        | false =>
          have HRES := Lib.hid (HR.out.trans (manyP_stop hw hn0 hcm))
          have HMU : Hid (∀ w', PsSt g W cw ws P cp ps k2 w' → Calls Tryz.prog 166 #[.pointer (some ⟨g, 0, none⟩), .string ⟨#[44]⟩] w' (PsBad g ps k2 w')) := Lib.hid (fun w' h => must_bad _ w' h hl2 (by rw [H44.out]; exact hcm))
          unfold isW at hw
          generalize wdAt ws k2 = S at *
          clear hcm
          go_wp2_with (first
            | (go_at_call 113; refine HP.out.mono ?_; rintro e w3 ⟨rfl, hB⟩; have HM := Lib.hid (HM.out.past hB); have HG := Lib.hid (grown_below HG.out hB); clear hB)
            | (go_at_call 166; refine (HMU.out _ HM.out).mono ?_; rintro e w8 ⟨rfl, hG8⟩; have HG := Lib.hid (grown_trans HG.out hG8); clear hG8))
          refine ⟨rfl, ?_⟩
          rw [HRES.out]
          exact ⟨rfl, HG.out⟩
        | true =>
          have hlt : k2 < ws.length := isW_lt hcm
          have hcz : ¬ (0 < n ∧ isW ws k2 [44] = false) := by simp [hcm]
          have HMU : Hid (∀ w', PsSt g W cw ws P cp ps k2 w' → Calls Tryz.prog 166 #[.pointer (some ⟨g, 0, none⟩), .string ⟨#[44]⟩] w' (PsOk g W cw ws P cp ps (k2 + 1) (.tuple #[]) w')) := Lib.hid (fun w' h => must_ok _ w' h hl2 (by rw [H44.out]; exact hcm))
          have HQ := Lib.hid (fun w' h => HSUM.out (k2 + 1) w' h (by omega) hlt)
          have hgb := HGO.out (k2 + 1) hlt
          cases hp : s (k2 + 1) with
          | error x =>
            have HRES := Lib.hid (HR.out.trans (manyP_bad (q := k2 + 1) hw hcz (by simp [hn0]) hp))
            have HQ' : Hid (∀ w', PsSt g W cw ws P cp ps (k2 + 1) w' → Calls Tryz.prog 167 #[.pointer (some ⟨g, 0, none⟩)] w' (PsBad g ps x w')) := Lib.hid (fun w' h => by have := HQ.out w' h; rw [hp] at this; exact this)
            unfold isW at hw
            generalize wdAt ws k2 = S at *
            clear hp HQ hgb hcz hcm
            go_wp2_with (first
              | (go_at_call 113; refine HP.out.mono ?_; rintro e w3 ⟨rfl, hB⟩; have HM := Lib.hid (HM.out.past hB); have HG := Lib.hid (grown_below HG.out hB); have HN := Lib.hid (own_below HN.out hB); have hsz := Nat.le_trans hsz hB.size; clear hB)
              | (go_at_call 166; refine (HMU.out _ HM.out).mono ?_; rintro e w4 ⟨rfl, hs4, hG4⟩; have HM := Lib.hid hs4; have HG := Lib.hid (grown_trans HG.out hG4); have HN := Lib.hid (own_past HN.out hG4 hgl); have hsz := Nat.le_trans hsz hG4.size; clear hs4 hG4)
              | (go_at_call 167; refine (HQ'.out _ HM.out).mono ?_; rintro e w8 ⟨rfl, hG8⟩; have HG := Lib.hid (grown_trans HG.out hG8); clear hG8))
            refine ⟨rfl, ?_⟩
            rw [HRES.out]
            exact ⟨rfl, HG.out⟩
          | ok r =>
            obtain ⟨x, k3⟩ := r
            obtain ⟨b1, b2, b3, b4⟩ := hgb.1 x k3 hp
            have HRES := Lib.hid (HR.out.trans (manyP_more (q := k2 + 1) hw hcz (by simp [hn0]) hp))
            have HQ' : Hid (∀ w', PsSt g W cw ws P cp ps (k2 + 1) w' → Calls Tryz.prog 167 #[.pointer (some ⟨g, 0, none⟩)] w' (PsTo g W cw ws P cp ps (.ok (x, k3)) w')) := Lib.hid (fun w' h => by have := HQ.out w' h; rw [hp] at this; exact this)
            unfold isW at hw
            generalize wdAt ws k2 = S at *
            clear hp HQ hgb hcz hcm
            go_wp2_with (first
              | (go_at_call 113; refine HP.out.mono ?_; rintro e w3 ⟨rfl, hB⟩; have HM := Lib.hid (HM.out.past hB); have HG := Lib.hid (grown_below HG.out hB); have HN := Lib.hid (own_below HN.out hB); have hsz := Nat.le_trans hsz hB.size; clear hB)
              | (go_at_call 166; refine (HMU.out _ HM.out).mono ?_; rintro e w4 ⟨rfl, hs4, hG4⟩; have HM := Lib.hid hs4; have HG := Lib.hid (grown_trans HG.out hG4); have HN := Lib.hid (own_past HN.out hG4 hgl); have hsz := Nat.le_trans hsz hG4.size; clear hs4 hG4)
              | (go_at_call 167; refine (HQ'.out _ HM.out).mono ?_; rintro e w8 ⟨A8, c8, rfl, hn8, hs8, hG8⟩; have HM := Lib.hid hs8; have HX := Lib.hid hn8; have HG := Lib.hid (grown_trans HG.out hG8); have HN := Lib.hid (own_past HN.out hG8 hgl); have hsz := Nat.le_trans hsz hG8.size; clear hn8 hs8 hG8)
              | (at_builtin; refine wpList_app _ rfl (.tmp 16) (.tmp 18) _ rfl w.heap.size 25 i0 _ 3 32 Tryz.underlying22 hi0 hz0 hz1 hz2 rfl (by omega) _ out.length _ rfl HN.out _ A8 x.length c8 _ rfl HX.out.1.1 (nd_one x) (by simp only [maxLen]; omega) (by omega) (by omega) ?_; intro v9 w9 hown9 hg9 hat9; clear hat9; have hB9 : Below w.heap.size w8 w9 := below_app (Below.refl _ _) HN.out hg9 (by omega) (Nat.le_refl _); obtain ⟨A9, c9, hv9⟩ := own_slice hown9; subst hv9; have HM := Lib.hid (HM.out.under hB9 hgl); have HG := Lib.hid (grown_under HG.out hB9 (Nat.le_refl _)); have H9 := Lib.hid hown9; have hsz := Nat.le_trans hsz hB9.size; clear hown9 hg9 hB9))
            go_roundw
            case measure => first | (simp [intOf]; done) | (simp [intOf]; omega)
            case rel =>
              refine ⟨out ++ x, k3, j, n + 1, A9, c9, by rw [hlen1], by first | go_num | rfl, by omega, b2, by omega, by rw [hlen1]; omega, by rw [hlen1]; omega, hsz, Lib.hid (by rw [hlen1, List.flatMap_append]; exact H9.out), Lib.hid ?_, HM, HG, HRES⟩
              intro z hz
              rcases List.mem_append.1 hz with hz | hz
              · exact HT.out z hz
              · exact HX.out.1.2.2 z hz

end Go.Proofs.YtddfdmopaeghnacGreatDoor
