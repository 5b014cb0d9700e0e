/- Walk of the law DocIs: it returns true. Conditions: the slice of nodes lies below the call's own blocks; errors.errorType reads as the program's text lays it. -/
import Derived.Test.YtddfdmopaeghnabDoorTxOf
import Derived.Test.YtddfdmopaeghnabDoorDocN
import Derived.Test.YtddfdmopaeghnabDoorRefF
import Derived.Test.YtddfdmopaeghnabDoorErrW
namespace Go.Proofs.YtddfdmopaeghnabDoor
open Go.RowKit

set_option maxRecDepth 100000 in
set_option maxHeartbeats 4000000 in
theorem docIs_any (a : List Nd) (i : Int) (A : Option Addr) (c : Nat) (w : World) (ha : Nds w w.heap.size A a) (ht : ErrT w) (hg : 0 + 1 ≤ w.heap.size) :
    Calls Tryd.prog 7 #[.slice A a.length c, .int .i64 i] w (Ret w (.bool true)) := by
  have HT : Hid (∀ w' : World, Below w.heap.size w w' → ErrT w' ∧ 0 + 1 ≤ w'.heap.size) := Lib.hid (fun w' hb => ⟨ht.past hg hb, Nat.le_trans hg hb.size⟩)
  have hla := ha.2.1
  unfold maxLen at hla
  have HA := Lib.hid ha
  have HF := Lib.hid (fun (w' : World) h => docfault_any a A c w' h)
  have HC := Lib.hid (fun (w' : World) h => check_any a A c w' h)
  have HB : Hid (Below w.heap.size w w) := Lib.hid (Below.refl _ _)
  clear ha ht
  by_cases he : checkF a = 0
  case neg =>
    have HTX := Lib.hid (fun (w' : World) h => text_bad a A c w' h he)
    have HEN := Lib.hid (fun (w' : World) h => end_bad a A c i w' h he)
    rw [← errV_pos he] at HC
    have k1 : (checkF a == 0) = false := by simpa using he
    have k2 : (checkF a != 0) = true := by simpa using he
    have HES := Lib.hid (fun (w' : World) h1 h2 => error_same (checkF a) he w' h1 h2)
    generalize checkF a = q at *
    clear he
    go_enter Tryd.func7, Tryd.ntmps7
    go_wp2_with (first
      | (go_at_call 23; refine (HF.out _ (HA.out.past HB.out)).mono ?_; rintro e w1 ⟨rfl, hB⟩; have HB := Lib.hid (HB.out.trans (hB.mono HB.out.size)); clear hB)
      | (go_at_call 24; refine (HC.out _ (HA.out.past HB.out)).mono ?_; rintro e w1 ⟨rfl, hB⟩; have HB := Lib.hid (HB.out.trans (hB.mono HB.out.size)); clear hB)
      | (go_at_call 13; refine (HES.out _ (HT.out _ HB.out).1 (HT.out _ HB.out).2).mono ?_; rintro e w1 ⟨rfl, hB⟩; have HB := Lib.hid (HB.out.trans (hB.mono HB.out.size)); clear hB)
      | (go_at_call 26; refine (HTX.out _ (HA.out.past HB.out)).mono ?_; rintro e w1 ⟨rfl, hB⟩; have HB := Lib.hid (HB.out.trans (hB.mono HB.out.size)); clear hB)
      | (go_at_call 28; refine (HEN.out _ (HA.out.past HB.out)).mono ?_; rintro e w1 ⟨rfl, hB⟩; have HB := Lib.hid (HB.out.trans (hB.mono HB.out.size)); clear hB))
    go_ret
    exact ⟨rfl, HB.out⟩
  obtain ⟨x, da⟩ := Doc.of_check he
  have DA := Lib.hid da
  have HTX := Lib.hid (fun (w' : World) h => text_good da A c w' h)
  have HTO := Lib.hid (fun (w' : World) h => textof_any da A c a.length 0 0 w' h rfl da.pos (by omega))
  rw [da.root] at HTO
  rw [he, ← errV_zero rfl] at HC
  rw [he] at HF
  generalize sB x.text = S1 at HTX HTO
  clear da
  by_cases hi : 0 ≤ i ∧ i < (a.length : Int)
  case neg =>
    have HEN := Lib.hid (fun (w' : World) h => end_out a A c i w' h he (by omega))
    have hc : (decide (i < 0) = true) ∨ (decide (i < 0) = false ∧ decide ((a.length : Int) ≤ i) = true) := by
      by_cases h0 : i < 0
      · exact .inl (decide_eq_true h0)
      · exact .inr ⟨decide_eq_false h0, decide_eq_true (by omega)⟩
    clear hi he
    rcases hc with k1 | ⟨k1, k2⟩
    all_goals
      go_enter Tryd.func7, Tryd.ntmps7
      go_wp2_with (first
        | (go_at_call 23; refine (HF.out _ (HA.out.past HB.out)).mono ?_; rintro e w1 ⟨rfl, hB⟩; have HB := Lib.hid (HB.out.trans (hB.mono HB.out.size)); clear hB)
        | (go_at_call 24; refine (HC.out _ (HA.out.past HB.out)).mono ?_; rintro e w1 ⟨rfl, hB⟩; have HB := Lib.hid (HB.out.trans (hB.mono HB.out.size)); clear hB)
        | (go_at_call 13; (first | refine (error_nil _ (HT.out _ HB.out).1 (HT.out _ HB.out).2).mono ?_ | refine (error_same 1 (by decide) _ (HT.out _ HB.out).1 (HT.out _ HB.out).2).mono ?_); rintro e w1 ⟨rfl, hB⟩; have HB := Lib.hid (HB.out.trans (hB.mono HB.out.size)); clear hB)
        | (go_at_call 25; refine (HTO.out _ (HA.out.past HB.out)).mono ?_; rintro e w1 ⟨rfl, hB⟩; have HB := Lib.hid (HB.out.trans (hB.mono HB.out.size)); clear hB)
        | (go_at_call 26; refine (HTX.out _ (HA.out.past HB.out)).mono ?_; rintro e w1 ⟨rfl, hB⟩; have HB := Lib.hid (HB.out.trans (hB.mono HB.out.size)); clear hB)
        | (go_at_call 28; refine (HEN.out _ (HA.out.past HB.out)).mono ?_; rintro e w1 ⟨rfl, hB⟩; have HB := Lib.hid (HB.out.trans (hB.mono HB.out.size)); clear hB))
      go_ret
      exact ⟨rfl, HB.out⟩
  obtain ⟨k, rfl⟩ : ∃ k : Nat, i = k := ⟨i.toNat, by omega⟩
  have hk : k < a.length := by omega
  have HEN := Lib.hid (fun (w' : World) h => end_in DA.out A c k w' h hk)
  have HEO := Lib.hid (fun (w' : World) h => endof_doc DA.out A c w' h (i := k) (v := k) rfl hk)
  generalize endAt a k = E at HEN HEO
  have k1 : decide ((k : Int) < 0) = false := decide_eq_false (by omega)
  have k2 : decide ((a.length : Int) ≤ (k : Int)) = false := decide_eq_false (by omega)
  have k3 : decide (a.length ≤ k) = false := decide_eq_false (by omega)
  clear hi he
  go_enter Tryd.func7, Tryd.ntmps7
  go_wp2_with (first
    | (go_at_call 23; refine (HF.out _ (HA.out.past HB.out)).mono ?_; rintro e w1 ⟨rfl, hB⟩; have HB := Lib.hid (HB.out.trans (hB.mono HB.out.size)); clear hB)
    | (go_at_call 24; refine (HC.out _ (HA.out.past HB.out)).mono ?_; rintro e w1 ⟨rfl, hB⟩; have HB := Lib.hid (HB.out.trans (hB.mono HB.out.size)); clear hB)
    | (go_at_call 13; refine (error_nil _ (HT.out _ HB.out).1 (HT.out _ HB.out).2).mono ?_; rintro e w1 ⟨rfl, hB⟩; have HB := Lib.hid (HB.out.trans (hB.mono HB.out.size)); clear hB)
    | (go_at_call 25; refine (HTO.out _ (HA.out.past HB.out)).mono ?_; rintro e w1 ⟨rfl, hB⟩; have HB := Lib.hid (HB.out.trans (hB.mono HB.out.size)); clear hB)
    | (go_at_call 26; refine (HTX.out _ (HA.out.past HB.out)).mono ?_; rintro e w1 ⟨rfl, hB⟩; have HB := Lib.hid (HB.out.trans (hB.mono HB.out.size)); clear hB)
    | (go_at_call 27; refine (HEO.out _ (HA.out.past HB.out)).mono ?_; rintro e w1 ⟨rfl, hB⟩; subst hB)
    | (go_at_call 28; refine (HEN.out _ (HA.out.past HB.out)).mono ?_; rintro e w1 ⟨rfl, hB⟩; have HB := Lib.hid (HB.out.trans (hB.mono HB.out.size)); clear hB))
  go_ret
  exact ⟨rfl, HB.out⟩
end Go.Proofs.YtddfdmopaeghnabDoor
