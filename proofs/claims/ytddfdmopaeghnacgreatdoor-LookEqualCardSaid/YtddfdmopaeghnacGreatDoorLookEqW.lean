/- Walk of pargetrylaw2.LookEqual. Conditions: the texts are not longer than a slice may be; internal/bytealg.MaxLen holds some number. -/
import Derived.Test.YtddfdmopaeghnacGreatDoorLookS
namespace Go.Proofs.YtddfdmopaeghnacGreatDoor
open Go.RowKit

def factE : ByteArray := ⟨#[97, 59]⟩
def factF : ByteArray := ⟨#[40, 32, 97, 32, 41, 32, 59]⟩
theorem factE_is : parseF factE = (0, 0, [[⟨8, .empty, 0⟩, ⟨2, ⟨#[97]⟩, 0⟩]]) := by kernel_rfl
theorem factF_is : parseF factF = (0, 0, [[⟨8, .empty, 0⟩, ⟨2, ⟨#[97]⟩, 0⟩]]) := by kernel_rfl
theorem same_is {s t : ByteArray} {b : Bool} {f : Int} {v : Value} (hb : sameB s t = b) (hf : sameF s t = f) (hv : v = errV f) (w : World) (hs : s.size ≤ maxLen) (ht : t.size ≤ maxLen) (hm : MaxL w) :
    Calls Tryz.prog 18 #[.string s, .string t] w fun e w' => e = .returned (.tuple #[.bool b, v]) ∧ Below w.heap.size w w' :=
  (same_any s t w hs ht hm).mono fun e w' h => by unfold SameTo at h; rwa [hb, hf, ← hv] at h
theorem fact_same : sameB factE factF = true := by rw [sameB, factE_is, factF_is, if_neg (by simp), if_neg (by simp)]; exact sameP_iff.2 rfl
theorem fact_err : sameF factE factF = 0 := by rw [sameF, factE_is, factF_is]; rfl
theorem sameP_comm (a b : List (List Nd)) : sameP a b = sameP b a := by
  rw [Bool.eq_iff_iff, sameP_iff, sameP_iff]; exact eq_comm
theorem sameP_trans (a b c : List (List Nd)) : (!sameP a b || (sameP b c == sameP a c)) = true := by
  cases h : sameP a b with
  | false => rfl
  | true => rw [sameP_iff.1 h]; simp

set_option maxHeartbeats 4000000 in
theorem lookEqual_any (s t u : ByteArray) (w : World) (hsz : s.size ≤ maxLen) (htz : t.size ≤ maxLen) (huz : u.size ≤ maxLen) (hm : MaxL w) :
    Calls Tryz.prog 4 #[.string s, .string t, .string u] w (Ret w (.bool true)) := by
  have HM := Lib.hid hm
  have H0 : Hid (∀ w', MaxL w' → Calls Tryz.prog 18 #[.string ⟨#[97, 59]⟩, .string ⟨#[40, 32, 97, 32, 41, 32, 59]⟩] w' fun e w'' => e = .returned (.tuple #[.bool true, .nilIface]) ∧ Below w'.heap.size w' w'') := Lib.hid (fun w' hm' => same_is fact_same fact_err rfl w' (by decide +kernel) (by decide +kernel) hm')
  clear hm
  by_cases hs : (parseF s).1 = 0
  · by_cases ht : (parseF t).1 = 0
    · by_cases hu : (parseF u).1 = 0
      · have HSS : Hid (∀ w', MaxL w' → Calls Tryz.prog 18 #[.string s, .string s] w' fun e w'' => e = .returned (.tuple #[.bool true, .nilIface]) ∧ Below w'.heap.size w' w'') := Lib.hid (fun w' hm' => same_is (b := true) (f := 0) (v := .nilIface) (by rw [sameB, if_neg (by simp [hs]), if_neg (by simp [hs])]; exact sameP_iff.2 rfl) (by rw [sameF, if_neg (by simp [hs]), hs]) rfl _ hsz hsz hm')
        have HST : Hid (∀ w', MaxL w' → Calls Tryz.prog 18 #[.string s, .string t] w' fun e w'' => e = .returned (.tuple #[.bool (sameP (parseF s).2.2 (parseF t).2.2), .nilIface]) ∧ Below w'.heap.size w' w'') := Lib.hid (fun w' hm' => same_is (by rw [sameB, if_neg (by simp [hs]), if_neg (by simp [ht])]) (by rw [sameF, if_neg (by simp [hs]), ht]) rfl _ hsz htz hm')
        have HTS : Hid (∀ w', MaxL w' → Calls Tryz.prog 18 #[.string t, .string s] w' fun e w'' => e = .returned (.tuple #[.bool (sameP (parseF s).2.2 (parseF t).2.2), .nilIface]) ∧ Below w'.heap.size w' w'') := Lib.hid (fun w' hm' => same_is (by rw [sameB, if_neg (by simp [ht]), if_neg (by simp [hs]), sameP_comm]) (by rw [sameF, if_neg (by simp [ht]), hs]) rfl _ htz hsz hm')
        have HTU : Hid (∀ w', MaxL w' → Calls Tryz.prog 18 #[.string t, .string u] w' fun e w'' => e = .returned (.tuple #[.bool (sameP (parseF t).2.2 (parseF u).2.2), .nilIface]) ∧ Below w'.heap.size w' w'') := Lib.hid (fun w' hm' => same_is (by rw [sameB, if_neg (by simp [ht]), if_neg (by simp [hu])]) (by rw [sameF, if_neg (by simp [ht]), hu]) rfl _ htz huz hm')
        have HSU : Hid (∀ w', MaxL w' → Calls Tryz.prog 18 #[.string s, .string u] w' fun e w'' => e = .returned (.tuple #[.bool (sameP (parseF s).2.2 (parseF u).2.2), .nilIface]) ∧ Below w'.heap.size w' w'') := Lib.hid (fun w' hm' => same_is (by rw [sameB, if_neg (by simp [hs]), if_neg (by simp [hu])]) (by rw [sameF, if_neg (by simp [hs]), hu]) rfl _ hsz huz hm')
        have HT := Lib.hid (sameP_trans (parseF s).2.2 (parseF t).2.2 (parseF u).2.2)
        generalize sameP (parseF s).2.2 (parseF t).2.2 = x at *
        generalize sameP (parseF t).2.2 (parseF u).2.2 = z at *
        generalize sameP (parseF s).2.2 (parseF u).2.2 = q at *
        clear hs ht hu
        cases x with
        | false =>
          go_enter Tryz.func4, Tryz.ntmps4
          go_upto_region 9 with (first
            | ((fail_if_success have hz := HB1); go_at_call 18; refine (H0.out _ HM.out).mono ?_; rintro e w1 ⟨rfl, hB⟩; have HB1 := Lib.hid hB; have hsz := hB.size; clear hB)
            | ((fail_if_success have hz := HB2); (have hz := HB1; clear hz); go_at_call 18; refine (HSS.out _ (HM.out.past HB1.out)).mono ?_; rintro e w2 ⟨rfl, hB⟩; have HB2 := Lib.hid (HB1.out.trans (hB.mono hsz)); have hsz := HB2.out.size; clear hB)
            | ((fail_if_success have hz := HB3); (have hz := HB2; clear hz); go_at_call 18; refine (HST.out _ (HM.out.past HB2.out)).mono ?_; rintro e w3 ⟨rfl, hB⟩; have HB3 := Lib.hid (HB2.out.trans (hB.mono hsz)); have hsz := HB3.out.size; clear hB)
            | ((fail_if_success have hz := HB4); (have hz := HB3; clear hz); go_at_call 18; refine (HTS.out _ (HM.out.past HB3.out)).mono ?_; rintro e w4 ⟨rfl, hB⟩; have HB4 := Lib.hid (HB3.out.trans (hB.mono hsz)); have hsz := HB4.out.size; clear hB))
          go_quiet (fail)
          go_wp2_with (first
            | ((fail_if_success have hz := HB5); (have hz := HB4; clear hz); go_at_call 18; refine (HTU.out _ (HM.out.past (below_drewN HB4.out _))).mono ?_; rintro e w5 ⟨rfl, hB⟩; have HB5 := Lib.hid ((below_drewN HB4.out _).trans (hB.mono hsz)); have hsz := HB5.out.size; clear hB)
            | ((fail_if_success have hz := HB6); (have hz := HB5; clear hz); go_at_call 18; refine (HSU.out _ (HM.out.past HB5.out)).mono ?_; rintro e w6 ⟨rfl, hB⟩; have HB6 := Lib.hid (HB5.out.trans (hB.mono hsz)); have hsz := HB6.out.size; clear hB))
          go_ret
          exact ⟨by first | rfl | (simp; done), HB6.out⟩
        | true =>
          obtain rfl : z = q := by have := HT.out; simpa using this
          clear HT
          go_enter Tryz.func4, Tryz.ntmps4
          go_upto_region 9 with (first
            | ((fail_if_success have hz := HB1); go_at_call 18; refine (H0.out _ HM.out).mono ?_; rintro e w1 ⟨rfl, hB⟩; have HB1 := Lib.hid hB; have hsz := hB.size; clear hB)
            | ((fail_if_success have hz := HB2); (have hz := HB1; clear hz); go_at_call 18; refine (HSS.out _ (HM.out.past HB1.out)).mono ?_; rintro e w2 ⟨rfl, hB⟩; have HB2 := Lib.hid (HB1.out.trans (hB.mono hsz)); have hsz := HB2.out.size; clear hB)
            | ((fail_if_success have hz := HB3); (have hz := HB2; clear hz); go_at_call 18; refine (HST.out _ (HM.out.past HB2.out)).mono ?_; rintro e w3 ⟨rfl, hB⟩; have HB3 := Lib.hid (HB2.out.trans (hB.mono hsz)); have hsz := HB3.out.size; clear hB)
            | ((fail_if_success have hz := HB4); (have hz := HB3; clear hz); go_at_call 18; refine (HTS.out _ (HM.out.past HB3.out)).mono ?_; rintro e w4 ⟨rfl, hB⟩; have HB4 := Lib.hid (HB3.out.trans (hB.mono hsz)); have hsz := HB4.out.size; clear hB))
          go_quiet (fail)
          go_wp2_with (first
            | ((fail_if_success have hz := HB5); (have hz := HB4; clear hz); go_at_call 18; refine (HTU.out _ (HM.out.past (below_drewN HB4.out _))).mono ?_; rintro e w5 ⟨rfl, hB⟩; have HB5 := Lib.hid ((below_drewN HB4.out _).trans (hB.mono hsz)); have hsz := HB5.out.size; clear hB)
            | ((fail_if_success have hz := HB6); (have hz := HB5; clear hz); go_at_call 18; refine (HSU.out _ (HM.out.past HB5.out)).mono ?_; rintro e w6 ⟨rfl, hB⟩; have HB6 := Lib.hid (HB5.out.trans (hB.mono hsz)); have hsz := HB6.out.size; clear hB))
          go_ret
          exact ⟨by first | rfl | (simp; done), HB6.out⟩
      · have HSS : Hid (∀ w', MaxL w' → Calls Tryz.prog 18 #[.string s, .string s] w' fun e w'' => e = .returned (.tuple #[.bool true, .nilIface]) ∧ Below w'.heap.size w' w'') := Lib.hid (fun w' hm' => same_is (b := true) (f := 0) (v := .nilIface) (by rw [sameB, if_neg (by simp [hs]), if_neg (by simp [hs])]; exact sameP_iff.2 rfl) (by rw [sameF, if_neg (by simp [hs]), hs]) rfl _ hsz hsz hm')
        have HST : Hid (∀ w', MaxL w' → Calls Tryz.prog 18 #[.string s, .string t] w' fun e w'' => e = .returned (.tuple #[.bool (sameP (parseF s).2.2 (parseF t).2.2), .nilIface]) ∧ Below w'.heap.size w' w'') := Lib.hid (fun w' hm' => same_is (by rw [sameB, if_neg (by simp [hs]), if_neg (by simp [ht])]) (by rw [sameF, if_neg (by simp [hs]), ht]) rfl _ hsz htz hm')
        have HTS : Hid (∀ w', MaxL w' → Calls Tryz.prog 18 #[.string t, .string s] w' fun e w'' => e = .returned (.tuple #[.bool (sameP (parseF s).2.2 (parseF t).2.2), .nilIface]) ∧ Below w'.heap.size w' w'') := Lib.hid (fun w' hm' => same_is (by rw [sameB, if_neg (by simp [ht]), if_neg (by simp [hs]), sameP_comm]) (by rw [sameF, if_neg (by simp [ht]), hs]) rfl _ htz hsz hm')
        have HTU : Hid (∀ w', MaxL w' → Calls Tryz.prog 18 #[.string t, .string u] w' fun e w'' => e = .returned (.tuple #[.bool false, (.iface 43 (.int .i64 ((parseF u).1)))]) ∧ Below w'.heap.size w' w'') := Lib.hid (fun w' hm' => same_is (by rw [sameB, if_neg (by simp [ht]), if_pos hu]) (by rw [sameF, if_neg (by simp [ht])]) (errV_pos hu) _ htz huz hm')
        have HSU : Hid (∀ w', MaxL w' → Calls Tryz.prog 18 #[.string s, .string u] w' fun e w'' => e = .returned (.tuple #[.bool false, (.iface 43 (.int .i64 ((parseF u).1)))]) ∧ Below w'.heap.size w' w'') := Lib.hid (fun w' hm' => same_is (by rw [sameB, if_neg (by simp [hs]), if_pos hu]) (by rw [sameF, if_neg (by simp [hs])]) (errV_pos hu) _ hsz huz hm')
        generalize sameP (parseF s).2.2 (parseF t).2.2 = x at *
        generalize (parseF u).1 = f at *
        clear hs ht hu
        have hx : (x != x) = false := by cases x <;> rfl
        go_enter Tryz.func4, Tryz.ntmps4
        go_upto_region 9 with (first
          | ((fail_if_success have hz := HB1); go_at_call 18; refine (H0.out _ HM.out).mono ?_; rintro e w1 ⟨rfl, hB⟩; have HB1 := Lib.hid hB; have hsz := hB.size; clear hB)
          | ((fail_if_success have hz := HB2); (have hz := HB1; clear hz); go_at_call 18; refine (HSS.out _ (HM.out.past HB1.out)).mono ?_; rintro e w2 ⟨rfl, hB⟩; have HB2 := Lib.hid (HB1.out.trans (hB.mono hsz)); have hsz := HB2.out.size; clear hB)
          | ((fail_if_success have hz := HB3); (have hz := HB2; clear hz); go_at_call 18; refine (HST.out _ (HM.out.past HB2.out)).mono ?_; rintro e w3 ⟨rfl, hB⟩; have HB3 := Lib.hid (HB2.out.trans (hB.mono hsz)); have hsz := HB3.out.size; clear hB)
          | ((fail_if_success have hz := HB4); (have hz := HB3; clear hz); go_at_call 18; refine (HTS.out _ (HM.out.past HB3.out)).mono ?_; rintro e w4 ⟨rfl, hB⟩; have HB4 := Lib.hid (HB3.out.trans (hB.mono hsz)); have hsz := HB4.out.size; clear hB))
        go_quiet (fail)
        go_wp2_with (first
          | ((fail_if_success have hz := HB5); (have hz := HB4; clear hz); go_at_call 18; refine (HTU.out _ (HM.out.past (below_drewN HB4.out _))).mono ?_; rintro e w5 ⟨rfl, hB⟩; have HB5 := Lib.hid ((below_drewN HB4.out _).trans (hB.mono hsz)); have hsz := HB5.out.size; clear hB)
          | ((fail_if_success have hz := HB6); (have hz := HB5; clear hz); go_at_call 18; refine (HSU.out _ (HM.out.past HB5.out)).mono ?_; rintro e w6 ⟨rfl, hB⟩; have HB6 := Lib.hid (HB5.out.trans (hB.mono hsz)); have hsz := HB6.out.size; clear hB))
        go_ret
        exact ⟨by first | rfl | (simp; done), HB6.out⟩
    · have HSS : Hid (∀ w', MaxL w' → Calls Tryz.prog 18 #[.string s, .string s] w' fun e w'' => e = .returned (.tuple #[.bool true, .nilIface]) ∧ Below w'.heap.size w' w'') := Lib.hid (fun w' hm' => same_is (b := true) (f := 0) (v := .nilIface) (by rw [sameB, if_neg (by simp [hs]), if_neg (by simp [hs])]; exact sameP_iff.2 rfl) (by rw [sameF, if_neg (by simp [hs]), hs]) rfl _ hsz hsz hm')
      have HST : Hid (∀ w', MaxL w' → Calls Tryz.prog 18 #[.string s, .string t] w' fun e w'' => e = .returned (.tuple #[.bool false, (.iface 43 (.int .i64 ((parseF t).1)))]) ∧ Below w'.heap.size w' w'') := Lib.hid (fun w' hm' => same_is (by rw [sameB, if_neg (by simp [hs]), if_pos ht]) (by rw [sameF, if_neg (by simp [hs])]) (errV_pos ht) _ hsz htz hm')
      have HTS : Hid (∀ w', MaxL w' → Calls Tryz.prog 18 #[.string t, .string s] w' fun e w'' => e = .returned (.tuple #[.bool false, (.iface 43 (.int .i64 ((parseF t).1)))]) ∧ Below w'.heap.size w' w'') := Lib.hid (fun w' hm' => same_is (by rw [sameB, if_pos ht]) (by rw [sameF, if_pos ht]) (errV_pos ht) _ htz hsz hm')
      have HTU : Hid (∀ w', MaxL w' → Calls Tryz.prog 18 #[.string t, .string u] w' fun e w'' => e = .returned (.tuple #[.bool false, (.iface 43 (.int .i64 ((parseF t).1)))]) ∧ Below w'.heap.size w' w'') := Lib.hid (fun w' hm' => same_is (by rw [sameB, if_pos ht]) (by rw [sameF, if_pos ht]) (errV_pos ht) _ htz huz hm')
      have HSU : Hid (∀ w', MaxL w' → Calls Tryz.prog 18 #[.string s, .string u] w' fun e w'' => e = .returned (.tuple #[.bool (sameB s u), (errV (sameF s u))]) ∧ Below w'.heap.size w' w'') := Lib.hid (fun w' hm' => same_is rfl rfl rfl _ hsz huz hm')
      generalize sameB s u = x at *
      generalize errV (sameF s u) = v at *
      generalize (parseF t).1 = f at *
      clear hs ht
      go_enter Tryz.func4, Tryz.ntmps4
      go_upto_region 9 with (first
        | ((fail_if_success have hz := HB1); go_at_call 18; refine (H0.out _ HM.out).mono ?_; rintro e w1 ⟨rfl, hB⟩; have HB1 := Lib.hid hB; have hsz := hB.size; clear hB)
        | ((fail_if_success have hz := HB2); (have hz := HB1; clear hz); go_at_call 18; refine (HSS.out _ (HM.out.past HB1.out)).mono ?_; rintro e w2 ⟨rfl, hB⟩; have HB2 := Lib.hid (HB1.out.trans (hB.mono hsz)); have hsz := HB2.out.size; clear hB)
        | ((fail_if_success have hz := HB3); (have hz := HB2; clear hz); go_at_call 18; refine (HST.out _ (HM.out.past HB2.out)).mono ?_; rintro e w3 ⟨rfl, hB⟩; have HB3 := Lib.hid (HB2.out.trans (hB.mono hsz)); have hsz := HB3.out.size; clear hB)
        | ((fail_if_success have hz := HB4); (have hz := HB3; clear hz); go_at_call 18; refine (HTS.out _ (HM.out.past HB3.out)).mono ?_; rintro e w4 ⟨rfl, hB⟩; have HB4 := Lib.hid (HB3.out.trans (hB.mono hsz)); have hsz := HB4.out.size; clear hB))
      go_quiet (fail)
      go_wp2_with (first
        | ((fail_if_success have hz := HB5); (have hz := HB4; clear hz); go_at_call 18; refine (HTU.out _ (HM.out.past (below_drewN HB4.out _))).mono ?_; rintro e w5 ⟨rfl, hB⟩; have HB5 := Lib.hid ((below_drewN HB4.out _).trans (hB.mono hsz)); have hsz := HB5.out.size; clear hB)
        | ((fail_if_success have hz := HB6); (have hz := HB5; clear hz); go_at_call 18; refine (HSU.out _ (HM.out.past HB5.out)).mono ?_; rintro e w6 ⟨rfl, hB⟩; have HB6 := Lib.hid (HB5.out.trans (hB.mono hsz)); have hsz := HB6.out.size; clear hB))
      go_ret
      exact ⟨by first | rfl | (simp; done), HB6.out⟩
  · have HSS : Hid (∀ w', MaxL w' → Calls Tryz.prog 18 #[.string s, .string s] w' fun e w'' => e = .returned (.tuple #[.bool false, (.iface 43 (.int .i64 ((parseF s).1)))]) ∧ Below w'.heap.size w' w'') := Lib.hid (fun w' hm' => same_is (by rw [sameB, if_pos hs]) (by rw [sameF, if_pos hs]) (errV_pos hs) _ hsz hsz hm')
    have HST : Hid (∀ w', MaxL w' → Calls Tryz.prog 18 #[.string s, .string t] w' fun e w'' => e = .returned (.tuple #[.bool false, (.iface 43 (.int .i64 ((parseF s).1)))]) ∧ Below w'.heap.size w' w'') := Lib.hid (fun w' hm' => same_is (by rw [sameB, if_pos hs]) (by rw [sameF, if_pos hs]) (errV_pos hs) _ hsz htz hm')
    obtain ⟨f2, hf2, hf2v⟩ : ∃ f, sameF t s = f ∧ f ≠ 0 := ⟨_, rfl, by unfold sameF; split <;> assumption⟩
    have hb2 : sameB t s = false := by unfold sameB; split <;> first | rfl | rw [if_pos hs]
    have HTS : Hid (∀ w', MaxL w' → Calls Tryz.prog 18 #[.string t, .string s] w' fun e w'' => e = .returned (.tuple #[.bool false, (.iface 43 (.int .i64 (f2)))]) ∧ Below w'.heap.size w' w'') := Lib.hid (fun w' hm' => same_is hb2 hf2 (errV_pos hf2v) _ htz hsz hm')
    have HTU : Hid (∀ w', MaxL w' → Calls Tryz.prog 18 #[.string t, .string u] w' fun e w'' => e = .returned (.tuple #[.bool (sameB t u), (errV (sameF t u))]) ∧ Below w'.heap.size w' w'') := Lib.hid (fun w' hm' => same_is rfl rfl rfl _ htz huz hm')
    have HSU : Hid (∀ w', MaxL w' → Calls Tryz.prog 18 #[.string s, .string u] w' fun e w'' => e = .returned (.tuple #[.bool false, (.iface 43 (.int .i64 ((parseF s).1)))]) ∧ Below w'.heap.size w' w'') := Lib.hid (fun w' hm' => same_is (by rw [sameB, if_pos hs]) (by rw [sameF, if_pos hs]) (errV_pos hs) _ hsz huz hm')
    generalize sameB t u = x at *
    generalize errV (sameF t u) = v at *
    generalize (parseF s).1 = f at *
    clear hs hf2 hf2v hb2
    go_enter Tryz.func4, Tryz.ntmps4
    go_upto_region 9 with (first
      | ((fail_if_success have hz := HB1); go_at_call 18; refine (H0.out _ HM.out).mono ?_; rintro e w1 ⟨rfl, hB⟩; have HB1 := Lib.hid hB; have hsz := hB.size; clear hB)
      | ((fail_if_success have hz := HB2); (have hz := HB1; clear hz); go_at_call 18; refine (HSS.out _ (HM.out.past HB1.out)).mono ?_; rintro e w2 ⟨rfl, hB⟩; have HB2 := Lib.hid (HB1.out.trans (hB.mono hsz)); have hsz := HB2.out.size; clear hB)
      | ((fail_if_success have hz := HB3); (have hz := HB2; clear hz); go_at_call 18; refine (HST.out _ (HM.out.past HB2.out)).mono ?_; rintro e w3 ⟨rfl, hB⟩; have HB3 := Lib.hid (HB2.out.trans (hB.mono hsz)); have hsz := HB3.out.size; clear hB)
      | ((fail_if_success have hz := HB4); (have hz := HB3; clear hz); go_at_call 18; refine (HTS.out _ (HM.out.past HB3.out)).mono ?_; rintro e w4 ⟨rfl, hB⟩; have HB4 := Lib.hid (HB3.out.trans (hB.mono hsz)); have hsz := HB4.out.size; clear hB))
    go_quiet (fail)
    go_wp2_with (first
      | ((fail_if_success have hz := HB5); (have hz := HB4; clear hz); go_at_call 18; refine (HTU.out _ (HM.out.past (below_drewN HB4.out _))).mono ?_; rintro e w5 ⟨rfl, hB⟩; have HB5 := Lib.hid ((below_drewN HB4.out _).trans (hB.mono hsz)); have hsz := HB5.out.size; clear hB)
      | ((fail_if_success have hz := HB6); (have hz := HB5; clear hz); go_at_call 18; refine (HSU.out _ (HM.out.past HB5.out)).mono ?_; rintro e w6 ⟨rfl, hB⟩; have HB6 := Lib.hid (HB5.out.trans (hB.mono hsz)); have hsz := HB6.out.size; clear hB))
    go_ret
    exact ⟨by first | rfl | (simp; done), HB6.out⟩
end Go.Proofs.YtddfdmopaeghnacGreatDoor
