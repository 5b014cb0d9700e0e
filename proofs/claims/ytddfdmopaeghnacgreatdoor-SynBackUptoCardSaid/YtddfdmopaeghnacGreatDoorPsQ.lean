/- Walk of syn's parser: statement with let. Conditions: as in the texts ahead. -/
import Derived.Test.YtddfdmopaeghnacGreatDoorPsR
namespace Go.Proofs.YtddfdmopaeghnacGreatDoor
open Go.RowKit

set_option maxRecDepth 100000 in
set_option maxHeartbeats 8000000 in
theorem pstmt_1 {g cw cp k : Nat} {W P : Option Addr} {ws : List ByteArray} {ps : List Nat} (hdg : DgW ws) (w : World) (hs : PsSt g W cw ws P cp ps k w) (hk : k ≤ ws.length) (wl : isW ws k [108, 101, 116] = true) :
    Calls Tryz.prog 115 #[.pointer (some ⟨g, 0, none⟩)] w (PsTo g W cw ws P cp ps (stmtP ws k) w) := by
  obtain ⟨R, hR⟩ : ∃ R, R = stmtP ws k := ⟨_, rfl⟩
  rw [← hR]
  obtain ⟨i0, hi0, hz0, hz1, hz2⟩ := info_parts tree_info
  have hf := hs.few
  have hgl := hs.lt
  have hlt := isW_lt wl
  have hts := hs.size (k + 1)
  have h59 : (⟨#[59]⟩ : ByteArray).toList = [59] := by decide +kernel
  have h61 : (⟨#[61]⟩ : ByteArray).toList = [61] := by decide +kernel
  have H59 := Lib.hid h59
  have HP := Lib.hid (fun w' (h' : PsSt g W cw ws P cp ps k w') => peek_any w' h' hk)
  have HS := Lib.hid hs
  cases hn : nameF (wdAt ws (k + 1)) with
  | false =>
    have HRES := Lib.hid (hR.trans (stmt1n wl hn))
    have HNB := Lib.hid (fun w' (h' : PsSt g W cw ws P cp ps (k + 1) w') => pname_bad w' h' hlt hn)
    unfold isW at wl
    generalize wdAt ws k = S at *
    clear hs hR h59 h61 hn hts
    go_enter Tryz.func115, Tryz.ntmps115
    go_upto_region 2 with fail
    refine ps_named (fun w4 => PsSt g W cw ws P cp ps k w4 ∧ w4.heap[w.heap.size]? = some (.cells #[.int .i64 8, .string .empty, .int .i64 0] 25 (0, 0)) ∧ Below w.heap.size w w4) ⟨HS.out.past ((Below.refl _ _).alloc (Nat.le_refl _) _), heap_new rfl, (Below.refl _ _).alloc (Nat.le_refl _) _⟩ ?_
    rintro w3 ⟨hs3, hh3, hB3⟩
    have HS3 := Lib.hid hs3
    have HH3 := Lib.hid hh3
    have HG3 : Hid (w.grownBy w3 (some g)) := Lib.hid (ps_row _ hB3)
    have hhd : w.heap.size < w3.heap.size := (Array.getElem?_eq_some_iff.1 hh3).1
    have hgd : g < w.heap.size := hgl
    generalize hhe : w.heap.size = hd at *
    clear hs3 hh3 hB3
    go_wp2_with (first
      | (go_at_call 113; refine (HP.out _ HS3.out).mono ?_; rintro e w4 ⟨rfl, hB⟩; have hs4 := HS3.out.past hB; obtain ⟨-, -, q7, f7⟩ := hs4.cells; have HM := Lib.hid hs4; have HH4 := Lib.hid ((hB.block hd hhd).trans HH3.out); have HG := Lib.hid (grown_below HG3.out hB); clear hB hs4)
      | (go_at_call 165; refine (HNB.out _ (HM.out.set (k + 1) (by go_num))).mono ?_; rintro e w5 ⟨rfl, hG5⟩; have HG := Lib.hid (grown_trans (grown_trans HG.out (ps_grown _ _ _ _)) hG5); clear hG5))
    refine ⟨rfl, ?_⟩
    rw [HRES.out]
    exact ⟨rfl, HG.out⟩
  | true =>
    have hlt2 := nameW_lt hn
    have HNO := Lib.hid (fun w' (h' : PsSt g W cw ws P cp ps (k + 1) w') => pname_ok w' h' hlt hn)
    cases w61 : isW ws (k + 2) [61] with
    | false =>
      have HRES := Lib.hid (hR.trans (stmt1m wl hn w61))
      have HM2 : Hid (∀ w', PsSt g W cw ws P cp ps (k + 2) w' → Calls Tryz.prog 166 #[.pointer (some ⟨g, 0, none⟩), .string ⟨#[61]⟩] w' (PsBad g ps (k + 2) w')) := Lib.hid (fun w' h => must_bad _ w' h hlt2 (by rw [h61]; exact w61))
      unfold isW at wl
      generalize wdAt ws k = S at *
      generalize wdAt ws (k + 1) = S1 at *
      clear hs hR h59 h61 hn w61
      go_enter Tryz.func115, Tryz.ntmps115
      go_upto_region 2 with fail
      refine ps_named (fun w4 => PsSt g W cw ws P cp ps k w4 ∧ w4.heap[w.heap.size]? = some (.cells #[.int .i64 8, .string .empty, .int .i64 0] 25 (0, 0)) ∧ Below w.heap.size w w4) ⟨HS.out.past ((Below.refl _ _).alloc (Nat.le_refl _) _), heap_new rfl, (Below.refl _ _).alloc (Nat.le_refl _) _⟩ ?_
      rintro w3 ⟨hs3, hh3, hB3⟩
      have HS3 := Lib.hid hs3
      have HH3 := Lib.hid hh3
      have HG3 : Hid (w.grownBy w3 (some g)) := Lib.hid (ps_row _ hB3)
      have hhd : w.heap.size < w3.heap.size := (Array.getElem?_eq_some_iff.1 hh3).1
      have hgd : g < w.heap.size := hgl
      generalize hhe : w.heap.size = hd at *
      clear hs3 hh3 hB3
      go_upto_region 5 with (first
        | (go_at_call 113; refine (HP.out _ HS3.out).mono ?_; rintro e w4 ⟨rfl, hB⟩; have hs4 := HS3.out.past hB; obtain ⟨-, -, q7, f7⟩ := hs4.cells; have HM := Lib.hid hs4; have HH4 := Lib.hid ((hB.block hd hhd).trans HH3.out); have HG := Lib.hid (grown_below HG3.out hB); clear hB hs4)
        | (go_at_call 165; refine (HNO.out _ (HM.out.set (k + 1) (by go_num))).mono ?_; rintro e w5 ⟨rfl, hs5, hG5⟩; have hh5 := (hG5.block hd (by simp [World.setCell]; exact (Array.getElem?_eq_some_iff.1 HH4.out).1) (by simp; omega)).trans ((Below.heap_setCell _ _ _ _ (show hd ≠ g by omega)).trans HH4.out); have f0 := Lib.frozen_of_heap hh5 0; have f1 := Lib.frozen_of_heap hh5 1; have f2 := Lib.frozen_of_heap hh5 2; have x0 : w5.cell? ⟨hd, 0, none⟩ = some (.int .i64 8) := (by first | (rw [Lib.cell_of_heap hh5]; done) | (rw [Lib.cell_of_heap hh5]; rfl)); have x1 : w5.cell? ⟨hd, 1, none⟩ = some (.string .empty) := (by first | (rw [Lib.cell_of_heap hh5]; done) | (rw [Lib.cell_of_heap hh5]; rfl)); have x2 : w5.cell? ⟨hd, 2, none⟩ = some (.int .i64 0) := (by first | (rw [Lib.cell_of_heap hh5]; done) | (rw [Lib.cell_of_heap hh5]; rfl)); have HH5 := Lib.hid hh5; have HM := Lib.hid hs5; have HG := Lib.hid (grown_trans (grown_trans HG.out (ps_grown _ _ _ _)) hG5); clear hs5 hG5 hh5))
      refine ps_named (fun w6 => PsSt g W cw ws P cp ps (k + 2) w6 ∧ w6.heap[hd]? = some (.cells #[.int .i64 7, .string S1, .int .i64 0] 25 (0, 0)) ∧ w.grownBy w6 (some g)) ⟨HM.out.under ((((Below.refl hd w5).setCell (p := ⟨hd, 0, none⟩) (Nat.le_refl _) _).setCell (p := ⟨hd, 1, none⟩) (Nat.le_refl _) _).setCell (p := ⟨hd, 2, none⟩) (Nat.le_refl _) _) hgd, by have h := HH5.out; simp [World.setCell, Array.getElem?_modify, h], grown_under HG.out ((((Below.refl hd w5).setCell (p := ⟨hd, 0, none⟩) (Nat.le_refl _) _).setCell (p := ⟨hd, 1, none⟩) (Nat.le_refl _) _).setCell (p := ⟨hd, 2, none⟩) (Nat.le_refl _) _) (by omega)⟩ ?_
      rintro w6 ⟨hs6, hh6, hG6⟩
      have HM := Lib.hid hs6
      have HH6 := Lib.hid hh6
      have HG := Lib.hid hG6
      have hh6 : hd < w6.heap.size := (Array.getElem?_eq_some_iff.1 hh6).1
      clear hs6 hG6 x0 x1 x2 f0 f1 f2 HH5
      go_wp2_with (go_at_call 166; refine (HM2.out _ HM.out).mono ?_; rintro e w7 ⟨rfl, hG7⟩; have HG := Lib.hid (grown_trans HG.out hG7); clear hG7)
      refine ⟨rfl, ?_⟩
      rw [HRES.out]
      exact ⟨rfl, HG.out⟩
    | true =>
      have hk3 := isW_lt w61
      have stmt1_b : ∀ {x}, pX ws (k + 3) = .error x → R = .error x := fun h => hR.trans (stmt1b wl hn w61 h)
      have stmt1_c : ∀ {x k2}, pX ws (k + 3) = .ok (x, k2) → isW ws k2 [59] = false → R = .error k2 := fun h h2 => hR.trans (stmt1c wl hn w61 h h2)
      have stmt1_g : ∀ {x k2}, pX ws (k + 3) = .ok (x, k2) → isW ws k2 [59] = true → R = .ok (⟨7, wdAt ws (k + 1), 0⟩ :: x, k2 + 1) := fun h h2 => hR.trans (stmt1g wl hn w61 h h2)
      have HM2 : Hid (∀ w', PsSt g W cw ws P cp ps (k + 2) w' → Calls Tryz.prog 166 #[.pointer (some ⟨g, 0, none⟩), .string ⟨#[61]⟩] w' (PsOk g W cw ws P cp ps (k + 3) (.tuple #[]) w')) := Lib.hid (fun w' h => must_ok _ w' h hlt2 (by rw [h61]; exact w61))
      unfold isW at wl
      generalize wdAt ws k = S at *
      generalize wdAt ws (k + 1) = S1 at *
      clear hs hR h59 h61 hn w61
      go_enter Tryz.func115, Tryz.ntmps115
      go_upto_region 2 with fail
      refine ps_named (fun w4 => PsSt g W cw ws P cp ps k w4 ∧ w4.heap[w.heap.size]? = some (.cells #[.int .i64 8, .string .empty, .int .i64 0] 25 (0, 0)) ∧ Below w.heap.size w w4) ⟨HS.out.past ((Below.refl _ _).alloc (Nat.le_refl _) _), heap_new rfl, (Below.refl _ _).alloc (Nat.le_refl _) _⟩ ?_
      rintro w3 ⟨hs3, hh3, hB3⟩
      have HS3 := Lib.hid hs3
      have HH3 := Lib.hid hh3
      have HG3 : Hid (w.grownBy w3 (some g)) := Lib.hid (ps_row _ hB3)
      have hhd : w.heap.size < w3.heap.size := (Array.getElem?_eq_some_iff.1 hh3).1
      have hgd : g < w.heap.size := hgl
      generalize hhe : w.heap.size = hd at *
      clear hs3 hh3 hB3
      go_upto_region 5 with (first
        | (go_at_call 113; refine (HP.out _ HS3.out).mono ?_; rintro e w4 ⟨rfl, hB⟩; have hs4 := HS3.out.past hB; obtain ⟨-, -, q7, f7⟩ := hs4.cells; have HM := Lib.hid hs4; have HH4 := Lib.hid ((hB.block hd hhd).trans HH3.out); have HG := Lib.hid (grown_below HG3.out hB); clear hB hs4)
        | (go_at_call 165; refine (HNO.out _ (HM.out.set (k + 1) (by go_num))).mono ?_; rintro e w5 ⟨rfl, hs5, hG5⟩; have hh5 := (hG5.block hd (by simp [World.setCell]; exact (Array.getElem?_eq_some_iff.1 HH4.out).1) (by simp; omega)).trans ((Below.heap_setCell _ _ _ _ (show hd ≠ g by omega)).trans HH4.out); have f0 := Lib.frozen_of_heap hh5 0; have f1 := Lib.frozen_of_heap hh5 1; have f2 := Lib.frozen_of_heap hh5 2; have x0 : w5.cell? ⟨hd, 0, none⟩ = some (.int .i64 8) := (by first | (rw [Lib.cell_of_heap hh5]; done) | (rw [Lib.cell_of_heap hh5]; rfl)); have x1 : w5.cell? ⟨hd, 1, none⟩ = some (.string .empty) := (by first | (rw [Lib.cell_of_heap hh5]; done) | (rw [Lib.cell_of_heap hh5]; rfl)); have x2 : w5.cell? ⟨hd, 2, none⟩ = some (.int .i64 0) := (by first | (rw [Lib.cell_of_heap hh5]; done) | (rw [Lib.cell_of_heap hh5]; rfl)); have HH5 := Lib.hid hh5; have HM := Lib.hid hs5; have HG := Lib.hid (grown_trans (grown_trans HG.out (ps_grown _ _ _ _)) hG5); clear hs5 hG5 hh5))
      refine ps_named (fun w6 => PsSt g W cw ws P cp ps (k + 2) w6 ∧ w6.heap[hd]? = some (.cells #[.int .i64 7, .string S1, .int .i64 0] 25 (0, 0)) ∧ w.grownBy w6 (some g)) ⟨HM.out.under ((((Below.refl hd w5).setCell (p := ⟨hd, 0, none⟩) (Nat.le_refl _) _).setCell (p := ⟨hd, 1, none⟩) (Nat.le_refl _) _).setCell (p := ⟨hd, 2, none⟩) (Nat.le_refl _) _) hgd, by have h := HH5.out; simp [World.setCell, Array.getElem?_modify, h], grown_under HG.out ((((Below.refl hd w5).setCell (p := ⟨hd, 0, none⟩) (Nat.le_refl _) _).setCell (p := ⟨hd, 1, none⟩) (Nat.le_refl _) _).setCell (p := ⟨hd, 2, none⟩) (Nat.le_refl _) _) (by omega)⟩ ?_
      rintro w6 ⟨hs6, hh6, hG6⟩
      have HM := Lib.hid hs6
      have HH6 := Lib.hid hh6
      have HG := Lib.hid hG6
      have hh6 : hd < w6.heap.size := (Array.getElem?_eq_some_iff.1 hh6).1
      clear hs6 hG6 x0 x1 x2 f0 f1 f2 HH5
      go_upto_region 6 with (go_at_call 166; refine (HM2.out _ HM.out).mono ?_; rintro e w4 ⟨rfl, hs4, hG4⟩; have hh4 := (hG4.block hd hh6 (by simp; omega)).trans HH6.out; have h0 : w4.cell? ⟨hd, 0, none⟩ = some (.int .i64 7) := (by first | (rw [Lib.cell_of_heap hh4]; done) | (rw [Lib.cell_of_heap hh4]; rfl)); have h1 : w4.cell? ⟨hd, 1, none⟩ = some (.string S1) := (by first | (rw [Lib.cell_of_heap hh4]; done) | (rw [Lib.cell_of_heap hh4]; rfl)); have h2 : w4.cell? ⟨hd, 2, none⟩ = some (.int .i64 0) := (by first | (rw [Lib.cell_of_heap hh4]; done) | (rw [Lib.cell_of_heap hh4]; rfl)); have hh4 : hd < w4.heap.size := (Array.getElem?_eq_some_iff.1 hh4).1; have HG := Lib.hid (grown_trans HG.out hG4); have hg4 : g < w4.heap.size := hs4.lt; have HM := Lib.hid hs4; have hw4 : w.heap.size ≤ w4.heap.size := HG.out.size; clear hs4 hG4)
      have HQ := Lib.hid (fun (w' : World) (h : PsSt g W cw ws P cp ps (k + 3) w') => psum_any hdg w' h hk3)
      have hgb := pX_goes ws (k + 3) hk3
      cases hp : pX ws (k + 3) with
      | error x =>
        have HRES := Lib.hid (stmt1_b hp)
        have HQ' : Hid (∀ w', PsSt g W cw ws P cp ps (k + 3) w' → Calls Tryz.prog 167 #[.pointer (some ⟨g, 0, none⟩)] w' (PsBad g ps x w')) := Lib.hid (fun w' h => by have := HQ.out w' h; rw [hp] at this; exact this)
        clear hp HQ hgb
        go_region_dies
        all_goals go_wp2_with (go_at_call 167; refine (HQ'.out _ (by first | exact HM.out.past (Below.refl _ _).drew | exact HM.out.past ((Below.refl _ _).drew.alloc (Nat.le_refl _) _))).mono ?_; rintro e w8 ⟨rfl, hG8⟩; have HG := Lib.hid (grown_trans (grown_below HG.out (by first | exact (Below.refl _ _).drew | exact (Below.refl _ _).drew.alloc (Nat.le_refl _) _)) hG8); clear hG8)
        all_goals (refine ⟨rfl, ?_⟩; rw [HRES.out]; exact ⟨rfl, HG.out⟩)
      | ok r =>
        obtain ⟨x, k2⟩ := r
        obtain ⟨b1, b2, b3, b4⟩ := hgb.1 x k2 hp
        have HQ' : Hid (∀ w', PsSt g W cw ws P cp ps (k + 3) w' → Calls Tryz.prog 167 #[.pointer (some ⟨g, 0, none⟩)] w' (PsTo g W cw ws P cp ps (.ok (x, k2)) w')) := Lib.hid (fun w' h => by have := HQ.out w' h; rw [hp] at this; exact this)
        cases w59 : isW ws k2 [59] with
        | false =>
          have HRES := Lib.hid (stmt1_c hp w59)
          have HMU : Hid (∀ w', PsSt g W cw ws P cp ps k2 w' → Calls Tryz.prog 166 #[.pointer (some ⟨g, 0, none⟩), .string ⟨#[59]⟩] w' (PsBad g ps k2 w')) := Lib.hid (fun w' h => must_bad _ w' h b2 (by rw [H59.out]; exact w59))
          clear hp HQ hgb w59
          go_region_law (first
            | (go_simp; refine (HQ'.out _ (by first | exact HM.out.past (Below.refl _ _).drew | exact HM.out.past ((Below.refl _ _).drew.alloc (Nat.le_refl _) _))).mono ?_; rintro e w8 ⟨A8, c8, rfl, hn8, hs8, hG8⟩; have H7 := Lib.hid True.intro; (try (have H7 := Lib.hid (own_past (own_litP (w := w4.drew) (base := w4.heap.size) (e := 25) (size := 3) (g := w4.heap.size) (n := 1) #[.int .i64 7, .string S1, .int .i64 0] rfl (Nat.le_refl _) (by simp [maxLen]) (by simp)) hG8 hg4))); have h0 := (World.cell?_of_block (w := w4.drew) (w' := w8) (a := ⟨hd, 0, none⟩) (by first | exact hG8.block hd hh4 (by simp; omega) | exact (hG8.block hd (by simp; omega) (by simp; omega)).trans (Below.heap_alloc _ _ _ hh4))).trans h0; have h1 := (World.cell?_of_block (w := w4.drew) (w' := w8) (a := ⟨hd, 1, none⟩) (by first | exact hG8.block hd hh4 (by simp; omega) | exact (hG8.block hd (by simp; omega) (by simp; omega)).trans (Below.heap_alloc _ _ _ hh4))).trans h1; have h2 := (World.cell?_of_block (w := w4.drew) (w' := w8) (a := ⟨hd, 2, none⟩) (by first | exact hG8.block hd hh4 (by simp; omega) | exact (hG8.block hd (by simp; omega) (by simp; omega)).trans (Below.heap_alloc _ _ _ hh4))).trans h2; have HG := Lib.hid (grown_trans (grown_below HG.out (by first | exact (Below.refl _ _).drew | exact (Below.refl _ _).drew.alloc (Nat.le_refl _) _)) hG8); have HM := Lib.hid hs8; have HX := Lib.hid hn8; have h8 : w4.heap.size ≤ w8.heap.size := Nat.le_trans (by simp) hG8.size; clear hn8 hs8 hG8; dsimp only)
            | ((refine step_app (P := Tryz.prog) _ (by rfl) (.tmp 22) (.tmp 24) 22 (by rfl) w4.heap.size 25 i0 (.agg #[.int .i64 0, .string .empty, .int .i64 0]) 3 32 Tryz.underlying22 hi0 hz0 hz1 hz2 rfl (by omega) _ 1 _ (by rfl) H7.out _ A8 x.length c8 _ (by rfl) HX.out.1.1 (nd_one x) (by simp only [maxLen]; omega) (by omega) (by omega) ?_); intro v9 w9 hown9 hg9 hat9; clear hat9; have hB9 : Below w4.heap.size w8 w9 := below_app (Below.refl _ _) H7.out hg9 (by omega) (Nat.le_refl _); obtain ⟨A9, c9, hv9⟩ := own_slice hown9; subst hv9; have HM := Lib.hid (HM.out.under hB9 hg4); have HG := Lib.hid (grown_under HG.out hB9 hw4); have HN := Lib.hid (ps_own2 (d := ⟨7, S1, 0⟩) (x := x) (c := c9) (n := 1 + x.length) (by simpa using hown9) (by omega) (by omega) hts HX.out.1.2.2 hw4); clear hown9 hg9 hB9)
            | ((refine step_app (P := Tryz.prog) _ (by rfl) (.tmp 22) (.tmp 24) 22 (by rfl) w8.heap.size 25 i0 (.agg #[.int .i64 0, .string .empty, .int .i64 0]) 3 32 Tryz.underlying22 hi0 hz0 hz1 hz2 rfl (by omega) _ 1 _ (by rfl) (own_litP (w := w8) (base := w8.heap.size) (e := 25) (size := 3) (g := w8.heap.size) (n := 1) #[.int .i64 7, .string S1, .int .i64 0] rfl (Nat.le_refl _) (by simp [maxLen]) (by simp)) _ A8 x.length c8 _ (by rfl) (HX.out.1.1.alloc _) (nd_one x) (by simp only [maxLen]; omega) (by omega) (by simp) ?_); intro v9 w9 hown9 hg9 hat9; clear hat9; have hB9 : Below w8.heap.size w8 w9 := below_app ((Below.refl _ _).alloc (Nat.le_refl _) _) (own_litP (w := w8) (base := w8.heap.size) (e := 25) (size := 3) (g := w8.heap.size) (n := 1) #[.int .i64 7, .string S1, .int .i64 0] rfl (Nat.le_refl _) (by simp [maxLen]) (by simp)) hg9 (by simp) (Nat.le_refl _); obtain ⟨A9, c9, hv9⟩ := own_slice hown9; subst hv9; have HM := Lib.hid (HM.out.under hB9 (Nat.lt_of_lt_of_le hg4 h8)); have HG := Lib.hid (grown_under HG.out hB9 (Nat.le_trans hw4 h8)); have HN := Lib.hid (ps_own2 (d := ⟨7, S1, 0⟩) (x := x) (c := c9) (n := 1 + x.length) (by simpa using hown9) (by omega) (by omega) hts HX.out.1.2.2 (Nat.le_trans hw4 h8)); clear hown9 hg9 hB9))
          all_goals go_wp2_with (go_at_call 166; refine (HMU.out _ HM.out).mono ?_; rintro e w10 ⟨rfl, hG10⟩; have HG := Lib.hid (grown_trans HG.out hG10); clear hG10)
          all_goals (refine ⟨rfl, ?_⟩; rw [HRES.out]; exact ⟨rfl, HG.out⟩)
        | true =>
          have HRES := Lib.hid (stmt1_g hp w59)
          have HMU : Hid (∀ w', PsSt g W cw ws P cp ps k2 w' → Calls Tryz.prog 166 #[.pointer (some ⟨g, 0, none⟩), .string ⟨#[59]⟩] w' (PsOk g W cw ws P cp ps (k2 + 1) (.tuple #[]) w')) := Lib.hid (fun w' h => must_ok _ w' h b2 (by rw [H59.out]; exact w59))
          clear hp HQ hgb w59
          go_region_law (first
            | (go_simp; refine (HQ'.out _ (by first | exact HM.out.past (Below.refl _ _).drew | exact HM.out.past ((Below.refl _ _).drew.alloc (Nat.le_refl _) _))).mono ?_; rintro e w8 ⟨A8, c8, rfl, hn8, hs8, hG8⟩; have H7 := Lib.hid True.intro; (try (have H7 := Lib.hid (own_past (own_litP (w := w4.drew) (base := w4.heap.size) (e := 25) (size := 3) (g := w4.heap.size) (n := 1) #[.int .i64 7, .string S1, .int .i64 0] rfl (Nat.le_refl _) (by simp [maxLen]) (by simp)) hG8 hg4))); have h0 := (World.cell?_of_block (w := w4.drew) (w' := w8) (a := ⟨hd, 0, none⟩) (by first | exact hG8.block hd hh4 (by simp; omega) | exact (hG8.block hd (by simp; omega) (by simp; omega)).trans (Below.heap_alloc _ _ _ hh4))).trans h0; have h1 := (World.cell?_of_block (w := w4.drew) (w' := w8) (a := ⟨hd, 1, none⟩) (by first | exact hG8.block hd hh4 (by simp; omega) | exact (hG8.block hd (by simp; omega) (by simp; omega)).trans (Below.heap_alloc _ _ _ hh4))).trans h1; have h2 := (World.cell?_of_block (w := w4.drew) (w' := w8) (a := ⟨hd, 2, none⟩) (by first | exact hG8.block hd hh4 (by simp; omega) | exact (hG8.block hd (by simp; omega) (by simp; omega)).trans (Below.heap_alloc _ _ _ hh4))).trans h2; have HG := Lib.hid (grown_trans (grown_below HG.out (by first | exact (Below.refl _ _).drew | exact (Below.refl _ _).drew.alloc (Nat.le_refl _) _)) hG8); have HM := Lib.hid hs8; have HX := Lib.hid hn8; have h8 : w4.heap.size ≤ w8.heap.size := Nat.le_trans (by simp) hG8.size; clear hn8 hs8 hG8; dsimp only)
            | ((refine step_app (P := Tryz.prog) _ (by rfl) (.tmp 22) (.tmp 24) 22 (by rfl) w4.heap.size 25 i0 (.agg #[.int .i64 0, .string .empty, .int .i64 0]) 3 32 Tryz.underlying22 hi0 hz0 hz1 hz2 rfl (by omega) _ 1 _ (by rfl) H7.out _ A8 x.length c8 _ (by rfl) HX.out.1.1 (nd_one x) (by simp only [maxLen]; omega) (by omega) (by omega) ?_); intro v9 w9 hown9 hg9 hat9; clear hat9; have hB9 : Below w4.heap.size w8 w9 := below_app (Below.refl _ _) H7.out hg9 (by omega) (Nat.le_refl _); obtain ⟨A9, c9, hv9⟩ := own_slice hown9; subst hv9; have HM := Lib.hid (HM.out.under hB9 hg4); have HG := Lib.hid (grown_under HG.out hB9 hw4); have HN := Lib.hid (ps_own2 (d := ⟨7, S1, 0⟩) (x := x) (c := c9) (n := 1 + x.length) (by simpa using hown9) (by omega) (by omega) hts HX.out.1.2.2 hw4); clear hown9 hg9 hB9)
            | ((refine step_app (P := Tryz.prog) _ (by rfl) (.tmp 22) (.tmp 24) 22 (by rfl) w8.heap.size 25 i0 (.agg #[.int .i64 0, .string .empty, .int .i64 0]) 3 32 Tryz.underlying22 hi0 hz0 hz1 hz2 rfl (by omega) _ 1 _ (by rfl) (own_litP (w := w8) (base := w8.heap.size) (e := 25) (size := 3) (g := w8.heap.size) (n := 1) #[.int .i64 7, .string S1, .int .i64 0] rfl (Nat.le_refl _) (by simp [maxLen]) (by simp)) _ A8 x.length c8 _ (by rfl) (HX.out.1.1.alloc _) (nd_one x) (by simp only [maxLen]; omega) (by omega) (by simp) ?_); intro v9 w9 hown9 hg9 hat9; clear hat9; have hB9 : Below w8.heap.size w8 w9 := below_app ((Below.refl _ _).alloc (Nat.le_refl _) _) (own_litP (w := w8) (base := w8.heap.size) (e := 25) (size := 3) (g := w8.heap.size) (n := 1) #[.int .i64 7, .string S1, .int .i64 0] rfl (Nat.le_refl _) (by simp [maxLen]) (by simp)) hg9 (by simp) (Nat.le_refl _); obtain ⟨A9, c9, hv9⟩ := own_slice hown9; subst hv9; have HM := Lib.hid (HM.out.under hB9 (Nat.lt_of_lt_of_le hg4 h8)); have HG := Lib.hid (grown_under HG.out hB9 (Nat.le_trans hw4 h8)); have HN := Lib.hid (ps_own2 (d := ⟨7, S1, 0⟩) (x := x) (c := c9) (n := 1 + x.length) (by simpa using hown9) (by omega) (by omega) hts HX.out.1.2.2 (Nat.le_trans hw4 h8)); clear hown9 hg9 hB9))
          all_goals go_wp2_with (go_at_call 166; refine (HMU.out _ HM.out).mono ?_; rintro e w10 ⟨rfl, hs10, hG10⟩; have HM := Lib.hid hs10; have HN := Lib.hid (HN.out.grow hG10 (fun k e => by cases e; omega)); have HG := Lib.hid (grown_trans HG.out hG10); clear hs10 hG10)
          all_goals go_ret
          all_goals (rw [HRES.out]; exact ⟨A9, c9, by rw [List.length_cons, Nat.add_comm]; rfl, HN.out, HM.out, HG.out⟩)
theorem pstmt_any {g cw cp k : Nat} {W P : Option Addr} {ws : List ByteArray} {ps : List Nat} (hdg : DgW ws) (w : World) (hs : PsSt g W cw ws P cp ps k w) (hk : k ≤ ws.length) :
    Calls Tryz.prog 115 #[.pointer (some ⟨g, 0, none⟩)] w (PsTo g W cw ws P cp ps (stmtP ws k) w) := by
  cases wl : isW ws k [108, 101, 116] with
  | false => exact pstmt_0 hdg w hs hk wl
  | true => exact pstmt_1 hdg w hs hk wl
end Go.Proofs.YtddfdmopaeghnacGreatDoor
