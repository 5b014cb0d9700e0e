/- Walk of pargetrylaw2.SynBack. Conditions: the program lies below the call's own blocks, its texts are shorter than 4294967281 bytes, the text is not longer than a slice may be; internal/bytealg.MaxLen holds some number; the table of the powers of ten and the variable errors.errorType read as the program's text lays them. -/
import Derived.Test.YtddfdmopaeghnacGreatDoorTkAll
import Derived.Test.YtddfdmopaeghnacGreatDoorPsF
import Derived.Test.YtddfdmopaeghnacGreatDoorEqAll
import Derived.Test.YtddfdmopaeghnacGreatDoorAsAll
namespace Go.Proofs.YtddfdmopaeghnacGreatDoor
open Go.RowKit

def factS : List Nd := [⟨7, ⟨#[97]⟩, 0⟩, ⟨6, .empty, 0⟩, ⟨5, .empty, 0⟩, ⟨1, .empty, 1⟩, ⟨2, ⟨#[98]⟩, 0⟩, ⟨1, .empty, 2⟩]
def factSB : ByteArray := ⟨#[108, 101, 116, 32, 97, 32, 61, 32, 40, 49, 32, 43, 32, 98, 41, 32, 42, 32, 50, 59, 10]⟩
theorem factS_ok : (progF [factS]).2 = 0 := by kernel_rfl
theorem factS_is : printF [factS] = factSB := by kernel_rfl
theorem factS_short : Short factS := by
  intro d hd
  simp only [factS, List.mem_cons, List.not_mem_nil, or_false] at hd
  rcases hd with rfl | rfl | rfl | rfl | rfl | rfl <;> decide
theorem sameP_refl (a : List (List Nd)) : sameP a a = true := sameP_iff.2 rfl
theorem parse_bad_is {s : ByteArray} {f : Int} {k n : Nat} {l : List (List Nd)} (h : parseF s = (f, k, l)) (hf : f ≠ 0) (hn : l.length = n) (w : World) (hs : s.size ≤ maxLen) (hm : MaxL w) : Calls Tryz.prog 27 #[.string s] w fun e w' => ∃ A c, e = .returned (.tuple #[.slice A n c, .int .i64 (k : Nat), .iface 43 (.int .i64 f)]) ∧ PrgF w.heap.size w' A l ∧ Below w.heap.size w w' := by
  have := parse_bad (s := s) (by rw [h]; exact hf) w hs hm
  rw [h] at this
  subst hn
  exact this
theorem parse_ok_is {s : ByteArray} {k n : Nat} {l : List (List Nd)} (h : parseF s = (0, k, l)) (hn : l.length = n) (w : World) (hs : s.size ≤ maxLen) (hm : MaxL w) : Calls Tryz.prog 27 #[.string s] w fun e w' => ∃ A c, e = .returned (.tuple #[.slice A n c, .int .i64 (k : Nat), .nilIface]) ∧ PrgF w.heap.size w' A l ∧ Below w.heap.size w w' := by
  have := parse_ok (s := s) (by rw [h]) w hs hm
  rw [h] at this
  subst hn
  exact this
theorem words_ok_is {s : ByteArray} (h : (lexE s).1 = 0) (w : World) (hs : s.size ≤ maxLen) : Calls Tryz.prog 29 #[.string s] w fun e w' => ∃ (A : Option Addr) (c : Nat) (A2 : Option Addr) (c2 : Nat) (_ : Nat), e = .returned (.tuple #[.slice A (lexWs s).length c, .slice A2 (lexWs s).length c2, .int .i64 0, .nilIface]) ∧ Below w.heap.size w w' :=
  (lex_any s w hs).mono fun e w' hh => by
    rcases hh with ⟨h1, _⟩ | ⟨_, A, c, A2, c2, h2, _, _, h5⟩
    · exact absurd h h1
    · exact ⟨A, c, A2, c2, 0, h2, h5⟩
theorem words_bad_is {s : ByteArray} {f : Int} (h : (lexE s).1 = f) (hf : f ≠ 0) (w : World) (hs : s.size ≤ maxLen) : Calls Tryz.prog 29 #[.string s] w fun e w' => ∃ (_ : Nat) (_ : Nat) (_ : Nat) (_ : Nat) (k : Nat), e = .returned (.tuple #[.slice none 0 0, .slice none 0 0, .int .i64 (k : Nat), .iface 43 (.int .i64 f)]) ∧ Below w.heap.size w w' :=
  (lex_any s w hs).mono fun e w' hh => by
    rcases hh with ⟨_, h2⟩ | ⟨h1, _⟩
    · have := h2.1
      rw [h, ← errV_pos hf] at this
      exact ⟨0, 0, 0, 0, _, this, h2.2⟩
    · exact absurd (h ▸ h1) hf

set_option maxHeartbeats 8000000 in
theorem synBack_any (p : List (List Nd)) (P : Option Addr) (cp : Nat) (s : ByteArray) (w : World) (hp : Prg w w.heap.size P p) (hsz : s.size ≤ maxLen) (hm : MaxL w) (hpw : PowT w) (hg : ErrT w) (hgs : 0 + 1 ≤ w.heap.size) :
    Calls Tryz.prog 7 #[.slice P p.length cp, .string s] w (Ret w (.bool true)) := by
  have hal1 : Below w.heap.size w (w.alloc (.cells #[.int .i64 7, .string ⟨#[97]⟩, .int .i64 0, .int .i64 6, .string .empty, .int .i64 0, .int .i64 5, .string .empty, .int .i64 0, .int .i64 1, .string .empty, .int .i64 1, .int .i64 2, .string ⟨#[98]⟩, .int .i64 0, .int .i64 1, .string .empty, .int .i64 2] 25)) := (Below.refl _ _).alloc (Nat.le_refl _) _
  have hnd := Nds.lit6T w ⟨7, ⟨#[97]⟩, 0⟩ ⟨6, .empty, 0⟩ ⟨5, .empty, 0⟩ ⟨1, .empty, 1⟩ ⟨2, ⟨#[98]⟩, 0⟩ ⟨1, .empty, 2⟩ _ rfl (by
    intro z hz
    have := factS_short z hz
    simp only [maxLen]; omega)
  have hal : Below w.heap.size w ((w.alloc (.cells #[.int .i64 7, .string ⟨#[97]⟩, .int .i64 0, .int .i64 6, .string .empty, .int .i64 0, .int .i64 5, .string .empty, .int .i64 0, .int .i64 1, .string .empty, .int .i64 1, .int .i64 2, .string ⟨#[98]⟩, .int .i64 0, .int .i64 1, .string .empty, .int .i64 2] 25)).alloc (.cells #[.slice (some ⟨w.heap.size, 0, none⟩) 6 6] 22)) := hal1.alloc (by simp) _
  have hf0 := print_ok (p := [factS]) (n := 1) rfl (some ⟨w.heap.size + 1, 0, none⟩) 1 ((w.alloc (.cells #[.int .i64 7, .string ⟨#[97]⟩, .int .i64 0, .int .i64 6, .string .empty, .int .i64 0, .int .i64 5, .string .empty, .int .i64 0, .int .i64 1, .string .empty, .int .i64 1, .int .i64 2, .string ⟨#[98]⟩, .int .i64 0, .int .i64 1, .string .empty, .int .i64 2] 25)).alloc (.cells #[.slice (some ⟨w.heap.size, 0, none⟩) 6 6] 22)) (prg_oneT (l := factS) rfl hnd factS_short (by simp)) (hm.past hal) (hpw.past hal) factS_ok
  rw [factS_is] at hf0
  unfold factSB at hf0
  have HF0 := Lib.hid hf0
  have HAL := Lib.hid hal
  have HPR := Lib.hid hp; have HM := Lib.hid hm; have HW := Lib.hid hpw; have HG := Lib.hid hg; have HS := Lib.hid hsz
  have hml := hp.le
  unfold maxLen at hml
  clear hf0 hal hal1 hnd hp hm hpw hg hsz
  obtain ⟨f6, k6, x6, hs6⟩ : ∃ f k x, parseF s = (f, k, x) := ⟨_, _, _, rfl⟩
  obtain ⟨n6, hn6⟩ : ∃ n, x6.length = n := ⟨_, rfl⟩
  by_cases hf6 : f6 = 0
  · subst hf6
    have hb6 : (progF x6).2 = 0 := by have := (parsed_words (s := s) (by rw [hs6])).1; rwa [hs6] at this
    have hp6 : parseF (printF x6) = (0, 0, x6) := by have := parse_back (s := s) (by rw [hs6]); rwa [hs6] at this
    have HQ2 : Hid (∀ w', Below w.heap.size w w' → Calls Tryz.prog 27 #[.string s] w' fun e w'' => ∃ A c, e = .returned (.tuple #[.slice A n6 c, .int .i64 (k6 : Nat), .nilIface]) ∧ PrgF w'.heap.size w'' A x6 ∧ Below w'.heap.size w' w'') := Lib.hid (fun w' hB => parse_ok_is hs6 hn6 w' HS.out (HM.out.past hB))
    have HP2 : Hid (∀ (A : Option Addr) (c : Nat) w', Prg w' w'.heap.size A x6 → Below w.heap.size w w' → Calls Tryz.prog 15 #[.slice A n6 c] w' fun e w'' => e = .returned (.tuple #[.string (printF x6), .nilIface]) ∧ Below w'.heap.size w' w'') := Lib.hid (fun A c w' hx hB => print_ok hn6 A c w' hx (HM.out.past hB) (HW.out.past hB) hb6)
    have HQ3 : Hid (∀ w', Below w.heap.size w w' → Calls Tryz.prog 27 #[.string (printF x6)] w' fun e w'' => ∃ A c, e = .returned (.tuple #[.slice A n6 c, .int .i64 (0 : Nat), .nilIface]) ∧ PrgF w'.heap.size w'' A x6 ∧ Below w'.heap.size w' w'') := Lib.hid (fun w' hB => parse_ok_is hp6 hn6 w' (Nat.le_trans (printF_size hb6) (by simp only [maxLen]; omega)) (HM.out.past hB))
    have HG2 : Hid (∀ (A : Option Addr) (c : Nat) (B : Option Addr) (d : Nat) w', Prg w' w'.heap.size A x6 → Prg w' w'.heap.size B x6 → Below w.heap.size w w' → Calls Tryz.prog 28 #[.slice A n6 c, .slice B n6 d] w' fun e w'' => e = .returned (.bool true) ∧ ∃ m, w'' = w'.drewN m) := Lib.hid (fun A c B d w' ha hb _ => by have := progs_any x6 x6 n6 n6 hn6 hn6 A B c d w' ha hb; rwa [sameP_refl] at this)
    generalize printF x6 = U6 at *
    clear hs6 hn6 hb6 hp6
    by_cases h0 : (progF p).2 = 0
    · by_cases h3 : 300 < (p.map nTok).sum
      · have HP1 : Hid (∀ w', Below w.heap.size w w' → Calls Tryz.prog 15 #[.slice P p.length cp] w' fun e w'' => e = .returned (.tuple #[.string (printF p), .nilIface]) ∧ Below w'.heap.size w' w'') := Lib.hid (fun w' hB => print_ok rfl P cp w' (HPR.out.past hB) (HM.out.past hB) (HW.out.past hB) h0)
        have hz1 : (printF p).size ≤ maxLen := Nat.le_trans (printF_size h0) (by simp only [maxLen]; omega)
        obtain ⟨g1, g2⟩ := (parse_print h0).1 h3
        have HQ1 : Hid (∀ w', Below w.heap.size w w' → Calls Tryz.prog 27 #[.string (printF p)] w' fun e w'' => ∃ A c, e = .returned (.tuple #[.slice A 0 c, .int .i64 (0 : Nat), .iface 43 (.int .i64 3)]) ∧ PrgF w'.heap.size w'' A [] ∧ Below w'.heap.size w' w'') := Lib.hid (fun w' hB => parse_bad_is g1 (by decide) rfl w' hz1 (HM.out.past hB))
        have HE1 : Hid (∀ w', Below w.heap.size w w' → Calls Tryz.prog 25 #[.iface 43 (.int .i64 3), .int .i64 3] w' (Ret w' (.bool true))) := Lib.hid (fun w' hB => error_same 3 (by decide) w' (HG.out.past hgs hB) (Nat.le_trans hgs hB.size))
        have HG1 : Hid (∀ (A : Option Addr) (c : Nat) w', Prg w' w'.heap.size A [] → Below w.heap.size w w' → Calls Tryz.prog 28 #[.slice A 0 c, .slice P p.length cp] w' fun e w'' => e = .returned (.bool (sameP [] p)) ∧ ∃ m, w'' = w'.drewN m) := Lib.hid (fun A c w' ha hB => progs_any [] p 0 p.length rfl rfl A P c cp w' ha (HPR.out.past hB))
        have HL1 : Hid (∀ w', Below w.heap.size w w' → Calls Tryz.prog 29 #[.string (printF p)] w' fun e w'' => ∃ (_ : Nat) (_ : Nat) (_ : Nat) (_ : Nat) (k : Nat), e = .returned (.tuple #[.slice none 0 0, .slice none 0 0, .int .i64 (k : Nat), .iface 43 (.int .i64 3)]) ∧ Below w'.heap.size w' w'') := Lib.hid (fun w' hB => words_bad_is g2 (by decide) w' hz1)
        generalize sameP [] p = b1 at *
        generalize printF p = U1 at *
        clear g1 g2 hz1
        clear h0 h3
        go_enter Tryz.func7, Tryz.ntmps7
        go_wp2_with (first
          | (go_at_call 15; (fail_if_success have z := T0); refine HF0.out.mono ?_; rintro e w1 ⟨rfl, hB⟩; have HB := Lib.hid (HAL.out.trans (hB.mono HAL.out.size)); have T0 := Lib.hid True.intro; clear hB)
          | (go_at_call 15; (have z := T0; clear z); (fail_if_success have z := T1); refine (HP1.out _ HB.out).mono ?_; rintro e w2 ⟨rfl, hB⟩; have HB := Lib.hid (HB.out.trans (hB.mono HB.out.size)); have T1 := Lib.hid True.intro; clear hB)
          | (go_at_call 27; (have z := T1; clear z); (fail_if_success have z := T2); refine (HQ1.out _ HB.out).mono ?_; rintro e w3 ⟨A2, c2, rfl, hF, hB⟩; have HX2 := Lib.hid hF; have HB := Lib.hid (HB.out.trans (hB.mono HB.out.size)); have T2 := Lib.hid True.intro; clear hF hB)
          | (go_at_call 25; (have z := T2; clear z); (fail_if_success have z := T3); refine (HE1.out _ HB.out).mono ?_; rintro e w4 ⟨rfl, hB⟩; have HX2 := Lib.hid (HX2.out.past hB); have HB := Lib.hid (HB.out.trans (hB.mono HB.out.size)); have T3 := Lib.hid True.intro; clear hB)
          | (go_at_call 28; (have z := T3; clear z); (fail_if_success have z := T4); refine (HG1.out A2 c2 _ HX2.out.prg HB.out).mono ?_; rintro e w5 ⟨rfl, m5, rfl⟩; have HB := Lib.hid (below_drewN HB.out m5); have T4 := Lib.hid True.intro)
          | (go_at_call 29; (have z := T4; clear z); (fail_if_success have z := T5); refine (HL1.out _ HB.out).mono ?_; rintro e w6 ⟨L1, d1, L2, d2, k5, rfl, hB⟩; have HB := Lib.hid (HB.out.trans (hB.mono HB.out.size)); have T5 := Lib.hid True.intro; clear hB)
          | (go_at_call 27; (have z := T5; clear z); (fail_if_success have z := T6); refine (HQ2.out _ HB.out).mono ?_; rintro e w7 ⟨A6, c6, rfl, hF, hB⟩; have HX6 := Lib.hid hF; have HB := Lib.hid (HB.out.trans (hB.mono HB.out.size)); have T6 := Lib.hid True.intro; clear hF hB)
          | (go_at_call 15; (have z := T6; clear z); (fail_if_success have z := T7); refine (HP2.out A6 c6 _ HX6.out.prg HB.out).mono ?_; rintro e w8 ⟨rfl, hB⟩; have HX6 := Lib.hid (HX6.out.past hB); have HB := Lib.hid (HB.out.trans (hB.mono HB.out.size)); have T7 := Lib.hid True.intro; clear hB)
          | (go_at_call 27; (have z := T7; clear z); (fail_if_success have z := T8); refine (HQ3.out _ HB.out).mono ?_; rintro e w9 ⟨A8, c8, rfl, hF, hB⟩; have HX6 := Lib.hid (HX6.out.past hB); have HX8 := Lib.hid hF; have HB := Lib.hid (HB.out.trans (hB.mono HB.out.size)); have T8 := Lib.hid True.intro; clear hF hB)
          | (go_at_call 28; (have z := T8; clear z); (fail_if_success have z := T9); refine (HG2.out A8 c8 A6 c6 _ HX8.out.prg HX6.out.prg HB.out).mono ?_; rintro e w10 ⟨rfl, m10, rfl⟩; have HB := Lib.hid (below_drewN HB.out m10); have T9 := Lib.hid True.intro))
        go_ret
        exact ⟨by first | rfl | (simp; done), HB.out⟩
      · have HP1 : Hid (∀ w', Below w.heap.size w w' → Calls Tryz.prog 15 #[.slice P p.length cp] w' fun e w'' => e = .returned (.tuple #[.string (printF p), .nilIface]) ∧ Below w'.heap.size w' w'') := Lib.hid (fun w' hB => print_ok rfl P cp w' (HPR.out.past hB) (HM.out.past hB) (HW.out.past hB) h0)
        have hz1 : (printF p).size ≤ maxLen := Nat.le_trans (printF_size h0) (by simp only [maxLen]; omega)
        obtain ⟨g1, g2⟩ := (parse_print h0).2 (by omega)
        have HQ1 : Hid (∀ w', Below w.heap.size w w' → Calls Tryz.prog 27 #[.string (printF p)] w' fun e w'' => ∃ A c, e = .returned (.tuple #[.slice A p.length c, .int .i64 (0 : Nat), .nilIface]) ∧ PrgF w'.heap.size w'' A p ∧ Below w'.heap.size w' w'') := Lib.hid (fun w' hB => parse_ok_is g1 rfl w' hz1 (HM.out.past hB))
        have HE1 : Hid (∀ w', Below w.heap.size w w' → Calls Tryz.prog 25 #[.nilIface, .int .i64 3] w' (Ret w' (.bool false))) := Lib.hid (fun w' hB => same_error 0 3 w' (HG.out.past hgs hB) (Nat.le_trans hgs hB.size))
        have HG1 : Hid (∀ (A : Option Addr) (c : Nat) w', Prg w' w'.heap.size A p → Below w.heap.size w w' → Calls Tryz.prog 28 #[.slice A p.length c, .slice P p.length cp] w' fun e w'' => e = .returned (.bool true) ∧ ∃ m, w'' = w'.drewN m) := Lib.hid (fun A c w' ha hB => by have := progs_any p p p.length p.length rfl rfl A P c cp w' ha (HPR.out.past hB); rwa [sameP_refl] at this)
        have HL1 : Hid (∀ w', Below w.heap.size w w' → Calls Tryz.prog 29 #[.string (printF p)] w' fun e w'' => ∃ (A : Option Addr) (c : Nat) (A2 : Option Addr) (c2 : Nat) (_ : Nat), e = .returned (.tuple #[.slice A (lexWs (printF p)).length c, .slice A2 (lexWs (printF p)).length c2, .int .i64 0, .nilIface]) ∧ Below w'.heap.size w' w'') := Lib.hid (fun w' hB => words_ok_is g2 w' hz1)
        generalize (lexWs (printF p)).length = n1 at *
        generalize printF p = U1 at *
        clear g1 g2 hz1
        clear h0 h3
        go_enter Tryz.func7, Tryz.ntmps7
        go_wp2_with (first
          | (go_at_call 15; (fail_if_success have z := T0); refine HF0.out.mono ?_; rintro e w1 ⟨rfl, hB⟩; have HB := Lib.hid (HAL.out.trans (hB.mono HAL.out.size)); have T0 := Lib.hid True.intro; clear hB)
          | (go_at_call 15; (have z := T0; clear z); (fail_if_success have z := T1); refine (HP1.out _ HB.out).mono ?_; rintro e w2 ⟨rfl, hB⟩; have HB := Lib.hid (HB.out.trans (hB.mono HB.out.size)); have T1 := Lib.hid True.intro; clear hB)
          | (go_at_call 27; (have z := T1; clear z); (fail_if_success have z := T2); refine (HQ1.out _ HB.out).mono ?_; rintro e w3 ⟨A2, c2, rfl, hF, hB⟩; have HX2 := Lib.hid hF; have HB := Lib.hid (HB.out.trans (hB.mono HB.out.size)); have T2 := Lib.hid True.intro; clear hF hB)
          | (go_at_call 25; (have z := T2; clear z); (fail_if_success have z := T3); refine (HE1.out _ HB.out).mono ?_; rintro e w4 ⟨rfl, hB⟩; have HX2 := Lib.hid (HX2.out.past hB); have HB := Lib.hid (HB.out.trans (hB.mono HB.out.size)); have T3 := Lib.hid True.intro; clear hB)
          | (go_at_call 28; (have z := T3; clear z); (fail_if_success have z := T4); refine (HG1.out A2 c2 _ HX2.out.prg HB.out).mono ?_; rintro e w5 ⟨rfl, m5, rfl⟩; have HB := Lib.hid (below_drewN HB.out m5); have T4 := Lib.hid True.intro)
          | (go_at_call 29; (have z := T4; clear z); (fail_if_success have z := T5); refine (HL1.out _ HB.out).mono ?_; rintro e w6 ⟨L1, d1, L2, d2, k5, rfl, hB⟩; have HB := Lib.hid (HB.out.trans (hB.mono HB.out.size)); have T5 := Lib.hid True.intro; clear hB)
          | (go_at_call 27; (have z := T5; clear z); (fail_if_success have z := T6); refine (HQ2.out _ HB.out).mono ?_; rintro e w7 ⟨A6, c6, rfl, hF, hB⟩; have HX6 := Lib.hid hF; have HB := Lib.hid (HB.out.trans (hB.mono HB.out.size)); have T6 := Lib.hid True.intro; clear hF hB)
          | (go_at_call 15; (have z := T6; clear z); (fail_if_success have z := T7); refine (HP2.out A6 c6 _ HX6.out.prg HB.out).mono ?_; rintro e w8 ⟨rfl, hB⟩; have HX6 := Lib.hid (HX6.out.past hB); have HB := Lib.hid (HB.out.trans (hB.mono HB.out.size)); have T7 := Lib.hid True.intro; clear hB)
          | (go_at_call 27; (have z := T7; clear z); (fail_if_success have z := T8); refine (HQ3.out _ HB.out).mono ?_; rintro e w9 ⟨A8, c8, rfl, hF, hB⟩; have HX6 := Lib.hid (HX6.out.past hB); have HX8 := Lib.hid hF; have HB := Lib.hid (HB.out.trans (hB.mono HB.out.size)); have T8 := Lib.hid True.intro; clear hF hB)
          | (go_at_call 28; (have z := T8; clear z); (fail_if_success have z := T9); refine (HG2.out A8 c8 A6 c6 _ HX8.out.prg HX6.out.prg HB.out).mono ?_; rintro e w10 ⟨rfl, m10, rfl⟩; have HB := Lib.hid (below_drewN HB.out m10); have T9 := Lib.hid True.intro))
        go_ret
        exact ⟨by first | rfl | (simp; done), HB.out⟩
    · have HP1 : Hid (∀ w', Below w.heap.size w w' → Calls Tryz.prog 15 #[.slice P p.length cp] w' fun e w'' => e = .returned (.tuple #[.string .empty, .iface 43 (.int .i64 (progF p).2)]) ∧ Below w'.heap.size w' w'') := Lib.hid (fun w' hB => print_bad rfl P cp w' (HPR.out.past hB) (HM.out.past hB) h0)
      generalize (progF p).2 = f1 at *
      clear h0
      go_enter Tryz.func7, Tryz.ntmps7
      go_wp2_with (first
        | (go_at_call 15; (fail_if_success have z := T0); refine HF0.out.mono ?_; rintro e w1 ⟨rfl, hB⟩; have HB := Lib.hid (HAL.out.trans (hB.mono HAL.out.size)); have T0 := Lib.hid True.intro; clear hB)
        | (go_at_call 15; (have z := T0; clear z); (fail_if_success have z := T1); refine (HP1.out _ HB.out).mono ?_; rintro e w2 ⟨rfl, hB⟩; have HB := Lib.hid (HB.out.trans (hB.mono HB.out.size)); have T1 := Lib.hid True.intro; clear hB)
        | (go_at_call 27; (have z := T1; clear z); (fail_if_success have z := T6); refine (HQ2.out _ HB.out).mono ?_; rintro e w7 ⟨A6, c6, rfl, hF, hB⟩; have HX6 := Lib.hid hF; have HB := Lib.hid (HB.out.trans (hB.mono HB.out.size)); have T6 := Lib.hid True.intro; clear hF hB)
        | (go_at_call 15; (have z := T6; clear z); (fail_if_success have z := T7); refine (HP2.out A6 c6 _ HX6.out.prg HB.out).mono ?_; rintro e w8 ⟨rfl, hB⟩; have HX6 := Lib.hid (HX6.out.past hB); have HB := Lib.hid (HB.out.trans (hB.mono HB.out.size)); have T7 := Lib.hid True.intro; clear hB)
        | (go_at_call 27; (have z := T7; clear z); (fail_if_success have z := T8); refine (HQ3.out _ HB.out).mono ?_; rintro e w9 ⟨A8, c8, rfl, hF, hB⟩; have HX6 := Lib.hid (HX6.out.past hB); have HX8 := Lib.hid hF; have HB := Lib.hid (HB.out.trans (hB.mono HB.out.size)); have T8 := Lib.hid True.intro; clear hF hB)
        | (go_at_call 28; (have z := T8; clear z); (fail_if_success have z := T9); refine (HG2.out A8 c8 A6 c6 _ HX8.out.prg HX6.out.prg HB.out).mono ?_; rintro e w10 ⟨rfl, m10, rfl⟩; have HB := Lib.hid (below_drewN HB.out m10); have T9 := Lib.hid True.intro))
      go_ret
      exact ⟨by first | rfl | (simp; done), HB.out⟩
  · have HQ2 : Hid (∀ w', Below w.heap.size w w' → Calls Tryz.prog 27 #[.string s] w' fun e w'' => ∃ A c, e = .returned (.tuple #[.slice A n6 c, .int .i64 (k6 : Nat), .iface 43 (.int .i64 f6)]) ∧ PrgF w'.heap.size w'' A x6 ∧ Below w'.heap.size w' w'') := Lib.hid (fun w' hB => parse_bad_is hs6 hf6 hn6 w' HS.out (HM.out.past hB))
    clear hs6 hf6 hn6
    by_cases h0 : (progF p).2 = 0
    · by_cases h3 : 300 < (p.map nTok).sum
      · have HP1 : Hid (∀ w', Below w.heap.size w w' → Calls Tryz.prog 15 #[.slice P p.length cp] w' fun e w'' => e = .returned (.tuple #[.string (printF p), .nilIface]) ∧ Below w'.heap.size w' w'') := Lib.hid (fun w' hB => print_ok rfl P cp w' (HPR.out.past hB) (HM.out.past hB) (HW.out.past hB) h0)
        have hz1 : (printF p).size ≤ maxLen := Nat.le_trans (printF_size h0) (by simp only [maxLen]; omega)
        obtain ⟨g1, g2⟩ := (parse_print h0).1 h3
        have HQ1 : Hid (∀ w', Below w.heap.size w w' → Calls Tryz.prog 27 #[.string (printF p)] w' fun e w'' => ∃ A c, e = .returned (.tuple #[.slice A 0 c, .int .i64 (0 : Nat), .iface 43 (.int .i64 3)]) ∧ PrgF w'.heap.size w'' A [] ∧ Below w'.heap.size w' w'') := Lib.hid (fun w' hB => parse_bad_is g1 (by decide) rfl w' hz1 (HM.out.past hB))
        have HE1 : Hid (∀ w', Below w.heap.size w w' → Calls Tryz.prog 25 #[.iface 43 (.int .i64 3), .int .i64 3] w' (Ret w' (.bool true))) := Lib.hid (fun w' hB => error_same 3 (by decide) w' (HG.out.past hgs hB) (Nat.le_trans hgs hB.size))
        have HG1 : Hid (∀ (A : Option Addr) (c : Nat) w', Prg w' w'.heap.size A [] → Below w.heap.size w w' → Calls Tryz.prog 28 #[.slice A 0 c, .slice P p.length cp] w' fun e w'' => e = .returned (.bool (sameP [] p)) ∧ ∃ m, w'' = w'.drewN m) := Lib.hid (fun A c w' ha hB => progs_any [] p 0 p.length rfl rfl A P c cp w' ha (HPR.out.past hB))
        have HL1 : Hid (∀ w', Below w.heap.size w w' → Calls Tryz.prog 29 #[.string (printF p)] w' fun e w'' => ∃ (_ : Nat) (_ : Nat) (_ : Nat) (_ : Nat) (k : Nat), e = .returned (.tuple #[.slice none 0 0, .slice none 0 0, .int .i64 (k : Nat), .iface 43 (.int .i64 3)]) ∧ Below w'.heap.size w' w'') := Lib.hid (fun w' hB => words_bad_is g2 (by decide) w' hz1)
        generalize sameP [] p = b1 at *
        generalize printF p = U1 at *
        clear g1 g2 hz1
        clear h0 h3
        go_enter Tryz.func7, Tryz.ntmps7
        go_wp2_with (first
          | (go_at_call 15; (fail_if_success have z := T0); refine HF0.out.mono ?_; rintro e w1 ⟨rfl, hB⟩; have HB := Lib.hid (HAL.out.trans (hB.mono HAL.out.size)); have T0 := Lib.hid True.intro; clear hB)
          | (go_at_call 15; (have z := T0; clear z); (fail_if_success have z := T1); refine (HP1.out _ HB.out).mono ?_; rintro e w2 ⟨rfl, hB⟩; have HB := Lib.hid (HB.out.trans (hB.mono HB.out.size)); have T1 := Lib.hid True.intro; clear hB)
          | (go_at_call 27; (have z := T1; clear z); (fail_if_success have z := T2); refine (HQ1.out _ HB.out).mono ?_; rintro e w3 ⟨A2, c2, rfl, hF, hB⟩; have HX2 := Lib.hid hF; have HB := Lib.hid (HB.out.trans (hB.mono HB.out.size)); have T2 := Lib.hid True.intro; clear hF hB)
          | (go_at_call 25; (have z := T2; clear z); (fail_if_success have z := T3); refine (HE1.out _ HB.out).mono ?_; rintro e w4 ⟨rfl, hB⟩; have HX2 := Lib.hid (HX2.out.past hB); have HB := Lib.hid (HB.out.trans (hB.mono HB.out.size)); have T3 := Lib.hid True.intro; clear hB)
          | (go_at_call 28; (have z := T3; clear z); (fail_if_success have z := T4); refine (HG1.out A2 c2 _ HX2.out.prg HB.out).mono ?_; rintro e w5 ⟨rfl, m5, rfl⟩; have HB := Lib.hid (below_drewN HB.out m5); have T4 := Lib.hid True.intro)
          | (go_at_call 29; (have z := T4; clear z); (fail_if_success have z := T5); refine (HL1.out _ HB.out).mono ?_; rintro e w6 ⟨L1, d1, L2, d2, k5, rfl, hB⟩; have HB := Lib.hid (HB.out.trans (hB.mono HB.out.size)); have T5 := Lib.hid True.intro; clear hB)
          | (go_at_call 27; (have z := T5; clear z); (fail_if_success have z := T6); refine (HQ2.out _ HB.out).mono ?_; rintro e w7 ⟨A6, c6, rfl, hF, hB⟩; have HX6 := Lib.hid hF; have HB := Lib.hid (HB.out.trans (hB.mono HB.out.size)); have T6 := Lib.hid True.intro; clear hF hB))
        go_ret
        exact ⟨by first | rfl | (simp; done), HB.out⟩
      · have HP1 : Hid (∀ w', Below w.heap.size w w' → Calls Tryz.prog 15 #[.slice P p.length cp] w' fun e w'' => e = .returned (.tuple #[.string (printF p), .nilIface]) ∧ Below w'.heap.size w' w'') := Lib.hid (fun w' hB => print_ok rfl P cp w' (HPR.out.past hB) (HM.out.past hB) (HW.out.past hB) h0)
        have hz1 : (printF p).size ≤ maxLen := Nat.le_trans (printF_size h0) (by simp only [maxLen]; omega)
        obtain ⟨g1, g2⟩ := (parse_print h0).2 (by omega)
        have HQ1 : Hid (∀ w', Below w.heap.size w w' → Calls Tryz.prog 27 #[.string (printF p)] w' fun e w'' => ∃ A c, e = .returned (.tuple #[.slice A p.length c, .int .i64 (0 : Nat), .nilIface]) ∧ PrgF w'.heap.size w'' A p ∧ Below w'.heap.size w' w'') := Lib.hid (fun w' hB => parse_ok_is g1 rfl w' hz1 (HM.out.past hB))
        have HE1 : Hid (∀ w', Below w.heap.size w w' → Calls Tryz.prog 25 #[.nilIface, .int .i64 3] w' (Ret w' (.bool false))) := Lib.hid (fun w' hB => same_error 0 3 w' (HG.out.past hgs hB) (Nat.le_trans hgs hB.size))
        have HG1 : Hid (∀ (A : Option Addr) (c : Nat) w', Prg w' w'.heap.size A p → Below w.heap.size w w' → Calls Tryz.prog 28 #[.slice A p.length c, .slice P p.length cp] w' fun e w'' => e = .returned (.bool true) ∧ ∃ m, w'' = w'.drewN m) := Lib.hid (fun A c w' ha hB => by have := progs_any p p p.length p.length rfl rfl A P c cp w' ha (HPR.out.past hB); rwa [sameP_refl] at this)
        have HL1 : Hid (∀ w', Below w.heap.size w w' → Calls Tryz.prog 29 #[.string (printF p)] w' fun e w'' => ∃ (A : Option Addr) (c : Nat) (A2 : Option Addr) (c2 : Nat) (_ : Nat), e = .returned (.tuple #[.slice A (lexWs (printF p)).length c, .slice A2 (lexWs (printF p)).length c2, .int .i64 0, .nilIface]) ∧ Below w'.heap.size w' w'') := Lib.hid (fun w' hB => words_ok_is g2 w' hz1)
        generalize (lexWs (printF p)).length = n1 at *
        generalize printF p = U1 at *
        clear g1 g2 hz1
        clear h0 h3
        go_enter Tryz.func7, Tryz.ntmps7
        go_wp2_with (first
          | (go_at_call 15; (fail_if_success have z := T0); refine HF0.out.mono ?_; rintro e w1 ⟨rfl, hB⟩; have HB := Lib.hid (HAL.out.trans (hB.mono HAL.out.size)); have T0 := Lib.hid True.intro; clear hB)
          | (go_at_call 15; (have z := T0; clear z); (fail_if_success have z := T1); refine (HP1.out _ HB.out).mono ?_; rintro e w2 ⟨rfl, hB⟩; have HB := Lib.hid (HB.out.trans (hB.mono HB.out.size)); have T1 := Lib.hid True.intro; clear hB)
          | (go_at_call 27; (have z := T1; clear z); (fail_if_success have z := T2); refine (HQ1.out _ HB.out).mono ?_; rintro e w3 ⟨A2, c2, rfl, hF, hB⟩; have HX2 := Lib.hid hF; have HB := Lib.hid (HB.out.trans (hB.mono HB.out.size)); have T2 := Lib.hid True.intro; clear hF hB)
          | (go_at_call 25; (have z := T2; clear z); (fail_if_success have z := T3); refine (HE1.out _ HB.out).mono ?_; rintro e w4 ⟨rfl, hB⟩; have HX2 := Lib.hid (HX2.out.past hB); have HB := Lib.hid (HB.out.trans (hB.mono HB.out.size)); have T3 := Lib.hid True.intro; clear hB)
          | (go_at_call 28; (have z := T3; clear z); (fail_if_success have z := T4); refine (HG1.out A2 c2 _ HX2.out.prg HB.out).mono ?_; rintro e w5 ⟨rfl, m5, rfl⟩; have HB := Lib.hid (below_drewN HB.out m5); have T4 := Lib.hid True.intro)
          | (go_at_call 29; (have z := T4; clear z); (fail_if_success have z := T5); refine (HL1.out _ HB.out).mono ?_; rintro e w6 ⟨L1, d1, L2, d2, k5, rfl, hB⟩; have HB := Lib.hid (HB.out.trans (hB.mono HB.out.size)); have T5 := Lib.hid True.intro; clear hB)
          | (go_at_call 27; (have z := T5; clear z); (fail_if_success have z := T6); refine (HQ2.out _ HB.out).mono ?_; rintro e w7 ⟨A6, c6, rfl, hF, hB⟩; have HX6 := Lib.hid hF; have HB := Lib.hid (HB.out.trans (hB.mono HB.out.size)); have T6 := Lib.hid True.intro; clear hF hB))
        go_ret
        exact ⟨by first | rfl | (simp; done), HB.out⟩
    · have HP1 : Hid (∀ w', Below w.heap.size w w' → Calls Tryz.prog 15 #[.slice P p.length cp] w' fun e w'' => e = .returned (.tuple #[.string .empty, .iface 43 (.int .i64 (progF p).2)]) ∧ Below w'.heap.size w' w'') := Lib.hid (fun w' hB => print_bad rfl P cp w' (HPR.out.past hB) (HM.out.past hB) h0)
      generalize (progF p).2 = f1 at *
      clear h0
      go_enter Tryz.func7, Tryz.ntmps7
      go_wp2_with (first
        | (go_at_call 15; (fail_if_success have z := T0); refine HF0.out.mono ?_; rintro e w1 ⟨rfl, hB⟩; have HB := Lib.hid (HAL.out.trans (hB.mono HAL.out.size)); have T0 := Lib.hid True.intro; clear hB)
        | (go_at_call 15; (have z := T0; clear z); (fail_if_success have z := T1); refine (HP1.out _ HB.out).mono ?_; rintro e w2 ⟨rfl, hB⟩; have HB := Lib.hid (HB.out.trans (hB.mono HB.out.size)); have T1 := Lib.hid True.intro; clear hB)
        | (go_at_call 27; (have z := T1; clear z); (fail_if_success have z := T6); refine (HQ2.out _ HB.out).mono ?_; rintro e w7 ⟨A6, c6, rfl, hF, hB⟩; have HX6 := Lib.hid hF; have HB := Lib.hid (HB.out.trans (hB.mono HB.out.size)); have T6 := Lib.hid True.intro; clear hF hB))
      go_ret
      exact ⟨by first | rfl | (simp; done), HB.out⟩
end Go.Proofs.YtddfdmopaeghnacGreatDoor
