/- Walk: look.Same. Conditions: the texts are not longer than a slice may be; internal/bytealg.MaxLen holds some number. -/
import Derived.Test.YtddfdmopaeghnacGreatDoorEqT
namespace Go.Proofs.YtddfdmopaeghnacGreatDoor
open Go.RowKit

/-- What look.Same hands back. -/
def sameF (s t : ByteArray) : Int := if (parseF s).1 ≠ 0 then (parseF s).1 else (parseF t).1
noncomputable def sameB (s t : ByteArray) : Bool := if (parseF s).1 ≠ 0 then false else if (parseF t).1 ≠ 0 then false else sameP (parseF s).2.2 (parseF t).2.2
def SameTo (s t : ByteArray) (w : World) (e : Ending) (w' : World) : Prop := e = .returned (.tuple #[.bool (sameB s t), errV (sameF s t)]) ∧ Below w.heap.size w w'
theorem SameTo.of {s t : ByteArray} {w w' : World} {b : Bool} {v : Value} {k : Int} (h1 : sameB s t = b) (h2 : sameF s t = k) (hv : v = errV k) (hb : Below w.heap.size w w') : SameTo s t w (.returned (.tuple #[.bool b, v])) w' := by
  unfold SameTo; rw [h1, h2, hv]; exact ⟨rfl, hb⟩
theorem parse_ok {s : ByteArray} (h : (parseF s).1 = 0) (w : World) (hs : s.size ≤ maxLen) (hm : MaxL w) : Calls Tryz.prog 27 #[.string s] w fun e w' => ∃ A c, e = .returned (.tuple #[.slice A (parseF s).2.2.length c, .int .i64 ((parseF s).2.1 : Nat), .nilIface]) ∧ PrgF w.heap.size w' A (parseF s).2.2 ∧ Below w.heap.size w w' :=
  (parse_any s w hs hm).mono fun e w' hh => by unfold ParseTo at hh; rwa [h] at hh
theorem parse_bad {s : ByteArray} (h : (parseF s).1 ≠ 0) (w : World) (hs : s.size ≤ maxLen) (hm : MaxL w) : Calls Tryz.prog 27 #[.string s] w fun e w' => ∃ A c, e = .returned (.tuple #[.slice A (parseF s).2.2.length c, .int .i64 ((parseF s).2.1 : Nat), .iface 43 (.int .i64 (parseF s).1)]) ∧ PrgF w.heap.size w' A (parseF s).2.2 ∧ Below w.heap.size w w' :=
  (parse_any s w hs hm).mono fun e w' hh => by unfold ParseTo at hh; rwa [← errV_pos h] at hh

set_option maxHeartbeats 1000000 in
theorem same_any (s t : ByteArray) (w : World) (hs : s.size ≤ maxLen) (ht : t.size ≤ maxLen) (hm : MaxL w) : Calls Tryz.prog 18 #[.string s, .string t] w (SameTo s t w) := by
  by_cases h1 : (parseF s).1 = 0
  · have HP := Lib.hid (parse_ok h1 w hs hm)
    by_cases h2 : (parseF t).1 = 0
    · have HQ := Lib.hid (fun w' (hm' : MaxL w') => parse_ok h2 w' ht hm')
      have HM := Lib.hid hm
      have R1 : Hid (sameB s t = sameP (parseF s).2.2 (parseF t).2.2) := Lib.hid (by rw [sameB, if_neg (by simp [h1]), if_neg (by simp [h2])])
      have R2 : Hid (sameF s t = 0) := Lib.hid (by rw [sameF, if_neg (by simp [h1]), h2])
      clear h1 h2 hm hs ht
      obtain ⟨k1, p, hp⟩ : ∃ k p, k = (parseF s).2.1 ∧ p = (parseF s).2.2 := ⟨_, _, rfl, rfl⟩
      obtain ⟨k2, q, hq⟩ : ∃ k p, k = (parseF t).2.1 ∧ p = (parseF t).2.2 := ⟨_, _, rfl, rfl⟩
      rw [← hp.1, ← hp.2] at HP
      rw [← hq.1, ← hq.2] at HQ
      rw [← hp.2, ← hq.2] at R1
      clear hp hq
      go_enter Tryz.func18, Tryz.ntmps18
      go_wp2_with (first
        | ((fail_if_success have hz := HB1); go_at_call 27; refine HP.out.mono ?_; rintro e w1 ⟨A1, c1, rfl, hF1, hB1⟩; have HF1 := Lib.hid hF1; have HB1 := Lib.hid hB1; have hsz1 := hB1.size; clear hF1 hB1)
        | ((fail_if_success have hz := HB2); have hz := HB1; clear hz; go_at_call 27; refine (HQ.out _ (HM.out.past HB1.out)).mono ?_; rintro e w2 ⟨A2, c2, rfl, hF2, hB2⟩; have HF1 := Lib.hid (HF1.out.past hB2); have HF2 := Lib.hid hF2; have HB2 := Lib.hid (HB1.out.trans (hB2.mono hsz1)); have hsz2 := HB2.out.size; clear hF2 hB2)
        | (go_at_call 53; refine (equalf_any p q _ _ rfl rfl A1 A2 c1 c2 _ HF1.out.prg HF2.out.prg).mono ?_; rintro e w3 ⟨rfl, hB3⟩; have HB3 := Lib.hid (HB2.out.trans (hB3.mono hsz2)); clear hB3))
      go_ret2
      exact SameTo.of R1.out R2.out rfl HB3.out
    · have HQ := Lib.hid (fun w' (hm' : MaxL w') => parse_bad h2 w' ht hm')
      have HM := Lib.hid hm
      have R1 : Hid (sameB s t = false) := Lib.hid (by rw [sameB, if_neg (by simp [h1]), if_pos h2])
      have R2 : Hid (sameF s t = (parseF t).1) := Lib.hid (by rw [sameF, if_neg (by simp [h1])])
      have HEV := Lib.hid (errV_pos h2)
      clear h1 h2 hm hs ht
      generalize (parseF s).2.1 = k1 at *
      generalize (parseF s).2.2 = p at *
      generalize (parseF t).2.1 = k2 at *
      generalize (parseF t).2.2 = q at *
      generalize (parseF t).1 = f at *
      go_enter Tryz.func18, Tryz.ntmps18
      go_wp2_with (first
        | ((fail_if_success have hz := HB1); go_at_call 27; refine HP.out.mono ?_; rintro e w1 ⟨A1, c1, rfl, hF1, hB1⟩; have HB1 := Lib.hid hB1; have hsz1 := hB1.size; clear hF1 hB1)
        | ((fail_if_success have hz := HB2); have hz := HB1; clear hz; go_at_call 27; refine (HQ.out _ (HM.out.past HB1.out)).mono ?_; rintro e w2 ⟨A2, c2, rfl, hF2, hB2⟩; have HB2 := Lib.hid (HB1.out.trans (hB2.mono hsz1)); clear hF2 hB2))
      go_ret2
      exact SameTo.of R1.out R2.out HEV.out HB2.out
  · have HP := Lib.hid (parse_bad h1 w hs hm)
    have R1 : Hid (sameB s t = false) := Lib.hid (by rw [sameB, if_pos h1])
    have R2 : Hid (sameF s t = (parseF s).1) := Lib.hid (by rw [sameF, if_pos h1])
    have HEV := Lib.hid (errV_pos h1)
    clear h1 hm hs ht
    generalize (parseF s).2.1 = k1 at *
    generalize (parseF s).2.2 = p at *
    generalize (parseF s).1 = f at *
    go_enter Tryz.func18, Tryz.ntmps18
    go_wp2_with (go_at_call 27; refine HP.out.mono ?_; rintro e w1 ⟨A1, c1, rfl, hF1, hB1⟩; have HB1 := Lib.hid hB1; clear hF1 hB1)
    go_ret2
    exact SameTo.of R1.out R2.out HEV.out HB1.out
end Go.Proofs.YtddfdmopaeghnacGreatDoor
