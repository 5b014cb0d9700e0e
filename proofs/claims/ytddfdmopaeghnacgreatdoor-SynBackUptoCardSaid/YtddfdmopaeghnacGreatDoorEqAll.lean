/- Walks: slices.Equal, slices.EqualFunc at nodes. Condition: the slices lie below the call's own blocks. Walk: look.Same. Conditions: the texts are not longer than a slice may be; internal/bytealg.MaxLen holds some number. Walks: pargetrysame.Trees, Programs. Condition: the slices lie below the call's own blocks. -/
import Derived.Test.YtddfdmopaeghnacGreatDoorPsF
import Derived.BigQuiet
import Derived.Laws.Closers25
import Derived.Deep.QuietTactic
namespace Go.Proofs.YtddfdmopaeghnacGreatDoor
open Go.RowKit

open Classical in
/-- Are two lists of nodes one? -/
noncomputable def sameT (a b : List Nd) : Bool := decide (a = b)

theorem sameT_len {a b : List Nd} (h : a.length ≠ b.length) : sameT a b = false := by
  unfold sameT; exact @decide_eq_false _ (_) fun e => h (by rw [e])
theorem sameT_at {a b : List Nd} {k : Nat} (ha : k < a.length) (hb : k < b.length) (h : a[k] ≠ b[k]) : sameT a b = false := by
  unfold sameT; exact @decide_eq_false _ (_) fun e => h (by simp [e])
theorem sameT_all {a b : List Nd} (h : a.length = b.length) (ht : a.take a.length = b.take a.length) : sameT a b = true := by
  unfold sameT
  rw [List.take_length, h, List.take_length] at ht
  exact @decide_eq_true _ (_) ht
theorem take_oneT {a b : List Nd} {k : Nat} (ht : a.take k = b.take k) (ha : k < a.length) (hb : k < b.length) (h : a[k] = b[k]) : a.take (k + 1) = b.take (k + 1) := by
  rw [List.take_succ_eq_append_getElem ha, List.take_succ_eq_append_getElem hb, ht, h]

theorem bytes_neT {t u : ByteArray} (h : ¬ t = u) : (t.toList == u.toList) = false := by
  rw [ByteArray.toList_eq, ByteArray.toList_eq]
  obtain ⟨⟨x⟩⟩ := t
  obtain ⟨⟨y⟩⟩ := u
  have : ¬ x = y := fun e => h (by rw [e])
  simpa using this

set_option maxHeartbeats 2000000 in
theorem equal_any (a b : List Nd) (n1 n2 : Nat) (e1 : a.length = n1) (e2 : b.length = n2) (A B : Option Addr) (c d : Nat) (w : World) (ha : Nds w w.heap.size A a) (hb : Nds w w.heap.size B b) :
    Calls Tryz.prog 54 #[.slice A n1 c, .slice B n2 d] w (Ret w (.bool (sameT a b))) := by
  have hm := ha.2.1
  have hm2 := hb.2.1
  unfold maxLen at hm hm2
  have HA := Lib.hid ha; clear ha
  have HB := Lib.hid hb; clear hb
  by_cases hl : n1 = n2
  · subst hl
    have HL := Lib.hid (sameT_all (e1.trans e2.symm))
    go_enter Tryz.func54, Tryz.ntmps54
    go_wp2
    go_loopw [13] (fun i wr => ∃ k : Nat, k ≤ n1 ∧ i = .int .i64 k ∧ a.take k = b.take k ∧ Below w.heap.size w wr) (fun i _ => n1 - (intOf i).toNat)
    case atStart => exact ⟨0, by omega, rfl, rfl, Below.refl _ _⟩
    case round =>
      obtain ⟨k, hk, rfl, ht, hBw⟩ := hrel
      have HT := Lib.hid ht; clear ht
      by_cases hlt : k < n1
      · obtain ⟨b1, off, op, t, n, rfl, hb, hd, hts, d1, d2, d3⟩ := HA.out.node hBw (k := k) (by omega)
        obtain ⟨b2, off2, op2, t2, n2, rfl, hb2, hd2, hts2, d4, d5, d6⟩ := HB.out.node hBw (k := k) (by omega)
        have HX := Lib.hid (take_oneT HT.out (k := k) (by omega) (by omega))
        have HY := Lib.hid (sameT_at (a := a) (b := b) (k := k) (by omega) (by omega))
        rw [hd, hd2] at HX HY
        clear hd hd2
        by_cases hop : op = op2
        · subst hop
          by_cases htt : t = t2
          · subst htt
            by_cases hn : n = n2
            · subst hn
              go_wp2
              go_quiet (fail)
              go_wp2
              go_roundw
              case rel => exact ⟨k + 1, by omega, by go_num, HX.out (by trivial), below_drewN hBw _⟩
              case measure => simp [intOf]; omega
            · have HZ := Lib.hid (HY.out (by simp [hn]))
              have hne : (n == n2) = false := by simpa using hn
              go_wp2
              go_quiet (fail)
              go_wp2
              go_ret
              exact ⟨by rw [HZ.out]; rfl, below_drewN hBw _⟩
          · have HZ := Lib.hid (HY.out (by simp [htt]))
            have hne : (t.toList == t2.toList) = false := bytes_neT htt
            go_wp2
            go_quiet (fail)
            go_wp2
            go_ret
            exact ⟨by rw [HZ.out]; rfl, below_drewN hBw _⟩
        · have HZ := Lib.hid (HY.out (by simp [hop]))
          have hne : (op == op2) = false := by simpa using hop
          go_wp2
          go_quiet (fail)
          go_wp2
          go_ret
          exact ⟨by rw [HZ.out]; rfl, below_drewN hBw _⟩
      · have hz : a.take a.length = b.take a.length := by have := HT.out; rwa [show k = a.length by omega] at this
        have HZ := Lib.hid (HL.out hz); clear hz
        go_wp2
        go_ret
        exact ⟨by rw [HZ.out]; rfl, (by repeat (first | exact Below.refl _ _ | assumption | apply Below.drew | refine below_drewN ?_ _ | apply Below.setCell _ (by first | omega | (simp; done) | (simp; omega)) | apply Below.alloc _ (by first | omega | (simp; done) | (simp; omega))))⟩
  · have HL := Lib.hid (sameT_len (a := a) (b := b) (by omega))
    have hne : ((n1 : Int) != (n2 : Int)) = true := by simp; omega
    go_enter Tryz.func54, Tryz.ntmps54
    go_wp2
    go_ret
    exact ⟨by rw [HL.out]; rfl, (by repeat (first | exact Below.refl _ _ | assumption | apply Below.drew | refine below_drewN ?_ _ | apply Below.setCell _ (by first | omega | (simp; done) | (simp; omega)) | apply Below.alloc _ (by first | omega | (simp; done) | (simp; omega))))⟩

open Classical in
/-- Are two programs one? -/
noncomputable def sameP (a b : List (List Nd)) : Bool := decide (a = b)
theorem sameT_iff {a b : List Nd} : sameT a b = true ↔ a = b := by unfold sameT; exact @decide_eq_true_iff _ (_)
theorem sameP_iff {a b : List (List Nd)} : sameP a b = true ↔ a = b := by unfold sameP; exact @decide_eq_true_iff _ (_)
theorem sameP_len {a b : List (List Nd)} (h : a.length ≠ b.length) : sameP a b = false := by
  unfold sameP; exact @decide_eq_false _ (_) fun e => h (by rw [e])
theorem sameP_at {a b : List (List Nd)} {k : Nat} {u v : List Nd} (ha : a[k]? = some u) (hb : b[k]? = some v) (h : sameT u v = false) : sameP a b = false := by
  unfold sameP
  refine @decide_eq_false _ (_) fun e => ?_
  rw [e, hb] at ha
  cases ha
  rw [sameT_iff.2 rfl] at h; cases h
theorem sameP_all {a b : List (List Nd)} (h : a.length = b.length) (ht : a.take a.length = b.take a.length) : sameP a b = true := by
  rw [List.take_length, h, List.take_length] at ht
  exact sameP_iff.2 ht
theorem take_oneP {a b : List (List Nd)} {k : Nat} {u v : List Nd} (ht : a.take k = b.take k) (ha : a[k]? = some u) (hb : b[k]? = some v) (h : sameT u v = true) : a.take (k + 1) = b.take (k + 1) := by
  rw [List.take_add_one, List.take_add_one, ht, ha, hb, sameT_iff.1 h]

set_option maxHeartbeats 2000000 in
theorem equalf_any (a b : List (List Nd)) (n1 n2 : Nat) (e1 : a.length = n1) (e2 : b.length = n2) (A B : Option Addr) (c d : Nat) (w : World) (ha : Prg w w.heap.size A a) (hb : Prg w w.heap.size B b) :
    Calls Tryz.prog 53 #[.slice A n1 c, .slice B n2 d, .func (.func 54) #[] #[]] w (Ret w (.bool (sameP a b))) := by
  have hm := ha.le
  have hm2 := hb.le
  rw [e1] at hm
  rw [e2] at hm2
  unfold maxLen at hm hm2
  have HA := Lib.hid ha; clear ha
  have HB := Lib.hid hb; clear hb
  have HE1 := Lib.hid e1
  have HE2 := Lib.hid e2
  by_cases hl : n1 = n2
  · subst hl
    have HL := Lib.hid (sameP_all (e1.trans e2.symm))
    clear e1 e2
    go_enter Tryz.func53, Tryz.ntmps53
    go_wp2
    go_loopw [17] (fun i wr => ∃ k : Nat, k ≤ n1 ∧ i = .int .i64 k ∧ Hid (a.take k = b.take k) ∧ Hid (Below w.heap.size w wr)) (fun i _ => n1 - (intOf i).toNat)
    case atStart => exact ⟨0, by omega, rfl, Lib.hid rfl, Lib.hid (Below.refl _ _)⟩
    case round =>
      obtain ⟨k, hk, rfl, HT, HBw⟩ := hrel
      by_cases hlt : k < n1
      · obtain ⟨b1, off1, A1, c1, u1, rfl, hb1, hu1, hc1, hN1, -⟩ := HA.out.one HBw.out (k := k) (by rw [HE1.out]; exact hlt)
        obtain ⟨b2, off2, A2, c2, u2, rfl, hb2, hu2, hc2, hN2, -⟩ := HB.out.one HBw.out (k := k) (by rw [HE2.out]; exact hlt)
        have HC := Lib.hid (equal_any u1 u2 _ _ rfl rfl A1 A2 c1 c2 wr hN1 hN2)
        have hsz := HBw.out.size
        cases hs : sameT u1 u2 with
        | true =>
          rw [hs] at HC
          have HX := Lib.hid (take_oneP HT.out hu1 hu2 hs)
          clear hu1 hu2 hN1 hN2 hs
          go_wp2_with (go_at_call 54; refine HC.out.mono ?_; rintro e w2 ⟨rfl, hB2⟩; have HB2 := Lib.hid (HBw.out.trans (hB2.mono hsz)); clear hB2)
          go_roundw
          case rel => exact ⟨k + 1, by omega, by go_num, HX, HB2⟩
          case measure => simp [intOf]; omega
        | false =>
          rw [hs] at HC
          have HX := Lib.hid (sameP_at hu1 hu2 hs)
          clear hu1 hu2 hN1 hN2 hs
          go_wp2_with (go_at_call 54; refine HC.out.mono ?_; rintro e w2 ⟨rfl, hB2⟩; have HB2 := Lib.hid (HBw.out.trans (hB2.mono hsz)); clear hB2)
          go_ret
          exact ⟨by rw [HX.out]; rfl, HB2.out⟩
      · have hz : a.take a.length = b.take a.length := by have := HT.out; rwa [show k = a.length by rw [HE1.out]; omega] at this
        have HZ := Lib.hid (HL.out hz); clear hz
        go_wp2
        go_ret
        exact ⟨by rw [HZ.out]; rfl, HBw.out⟩
  · have HL := Lib.hid (sameP_len (a := a) (b := b) (by omega))
    clear e1 e2
    have hne : ((n1 : Int) != (n2 : Int)) = true := by simp; omega
    go_enter Tryz.func53, Tryz.ntmps53
    go_wp2
    go_ret
    exact ⟨by rw [HL.out]; rfl, (by repeat (first | exact Below.refl _ _ | assumption | apply Below.drew | refine below_drewN ?_ _ | apply Below.setCell _ (by first | omega | (simp; done) | (simp; omega)) | apply Below.alloc _ (by first | omega | (simp; done) | (simp; omega))))⟩

end Go.Proofs.YtddfdmopaeghnacGreatDoor

namespace Go.Proofs.YtddfdmopaeghnacGreatDoor
open Go.RowKit

/-- What look.Same hands back. -/
def sameF (s t : ByteArray) : Int := if (parseF s).1 ≠ 0 then (parseF s).1 else (parseF t).1
noncomputable def sameB (s t : ByteArray) : Bool := if (parseF s).1 ≠ 0 then false else if (parseF t).1 ≠ 0 then false else sameP (parseF s).2.2 (parseF t).2.2
def SameTo (s t : ByteArray) (w : World) (e : Ending) (w' : World) : Prop := e = .returned (.tuple #[.bool (sameB s t), errV (sameF s t)]) ∧ Below w.heap.size w w'
theorem SameTo.of {s t : ByteArray} {w w' : World} {b : Bool} {v : Value} {k : Int} (h1 : sameB s t = b) (h2 : sameF s t = k) (hv : v = errV k) (hb : Below w.heap.size w w') : SameTo s t w (.returned (.tuple #[.bool b, v])) w' := by
  unfold SameTo; rw [h1, h2, hv]; exact ⟨rfl, hb⟩
theorem parse_ok {s : ByteArray} (h : (parseF s).1 = 0) (w : World) (hs : s.size ≤ maxLen) (hm : MaxL w) : Calls Tryz.prog 27 #[.string s] w fun e w' => ∃ A c, e = .returned (.tuple #[.slice A (parseF s).2.2.length c, .int .i64 ((parseF s).2.1 : Nat), .nilIface]) ∧ PrgF w.heap.size w' A (parseF s).2.2 ∧ Below w.heap.size w w' :=
  (parse_any s w hs hm).mono fun e w' hh => by unfold ParseTo at hh; rwa [h] at hh
theorem parse_bad {s : ByteArray} (h : (parseF s).1 ≠ 0) (w : World) (hs : s.size ≤ maxLen) (hm : MaxL w) : Calls Tryz.prog 27 #[.string s] w fun e w' => ∃ A c, e = .returned (.tuple #[.slice A (parseF s).2.2.length c, .int .i64 ((parseF s).2.1 : Nat), .iface 43 (.int .i64 (parseF s).1)]) ∧ PrgF w.heap.size w' A (parseF s).2.2 ∧ Below w.heap.size w w' :=
  (parse_any s w hs hm).mono fun e w' hh => by unfold ParseTo at hh; rwa [← errV_pos h] at hh

set_option maxHeartbeats 1000000 in
theorem same_any (s t : ByteArray) (w : World) (hs : s.size ≤ maxLen) (ht : t.size ≤ maxLen) (hm : MaxL w) : Calls Tryz.prog 18 #[.string s, .string t] w (SameTo s t w) := by
  by_cases h1 : (parseF s).1 = 0
  · have HP := Lib.hid (parse_ok h1 w hs hm)
    by_cases h2 : (parseF t).1 = 0
    · have HQ := Lib.hid (fun w' (hm' : MaxL w') => parse_ok h2 w' ht hm')
      have HM := Lib.hid hm
      have R1 : Hid (sameB s t = sameP (parseF s).2.2 (parseF t).2.2) := Lib.hid (by rw [sameB, if_neg (by simp [h1]), if_neg (by simp [h2])])
      have R2 : Hid (sameF s t = 0) := Lib.hid (by rw [sameF, if_neg (by simp [h1]), h2])
      clear h1 h2 hm hs ht
      obtain ⟨k1, p, hp⟩ : ∃ k p, k = (parseF s).2.1 ∧ p = (parseF s).2.2 := ⟨_, _, rfl, rfl⟩
      obtain ⟨k2, q, hq⟩ : ∃ k p, k = (parseF t).2.1 ∧ p = (parseF t).2.2 := ⟨_, _, rfl, rfl⟩
      rw [← hp.1, ← hp.2] at HP
      rw [← hq.1, ← hq.2] at HQ
      rw [← hp.2, ← hq.2] at R1
      clear hp hq
      go_enter Tryz.func18, Tryz.ntmps18
      go_wp2_with (first
        | ((fail_if_success have hz := HB1); go_at_call 27; refine HP.out.mono ?_; rintro e w1 ⟨A1, c1, rfl, hF1, hB1⟩; have HF1 := Lib.hid hF1; have HB1 := Lib.hid hB1; have hsz1 := hB1.size; clear hF1 hB1)
        | ((fail_if_success have hz := HB2); have hz := HB1; clear hz; go_at_call 27; refine (HQ.out _ (HM.out.past HB1.out)).mono ?_; rintro e w2 ⟨A2, c2, rfl, hF2, hB2⟩; have HF1 := Lib.hid (HF1.out.past hB2); have HF2 := Lib.hid hF2; have HB2 := Lib.hid (HB1.out.trans (hB2.mono hsz1)); have hsz2 := HB2.out.size; clear hF2 hB2)
        | (go_at_call 53; refine (equalf_any p q _ _ rfl rfl A1 A2 c1 c2 _ HF1.out.prg HF2.out.prg).mono ?_; rintro e w3 ⟨rfl, hB3⟩; have HB3 := Lib.hid (HB2.out.trans (hB3.mono hsz2)); clear hB3))
      go_ret2
      exact SameTo.of R1.out R2.out rfl HB3.out
    · have HQ := Lib.hid (fun w' (hm' : MaxL w') => parse_bad h2 w' ht hm')
      have HM := Lib.hid hm
      have R1 : Hid (sameB s t = false) := Lib.hid (by rw [sameB, if_neg (by simp [h1]), if_pos h2])
      have R2 : Hid (sameF s t = (parseF t).1) := Lib.hid (by rw [sameF, if_neg (by simp [h1])])
      have HEV := Lib.hid (errV_pos h2)
      clear h1 h2 hm hs ht
      generalize (parseF s).2.1 = k1 at *
      generalize (parseF s).2.2 = p at *
      generalize (parseF t).2.1 = k2 at *
      generalize (parseF t).2.2 = q at *
      generalize (parseF t).1 = f at *
      go_enter Tryz.func18, Tryz.ntmps18
      go_wp2_with (first
        | ((fail_if_success have hz := HB1); go_at_call 27; refine HP.out.mono ?_; rintro e w1 ⟨A1, c1, rfl, hF1, hB1⟩; have HB1 := Lib.hid hB1; have hsz1 := hB1.size; clear hF1 hB1)
        | ((fail_if_success have hz := HB2); have hz := HB1; clear hz; go_at_call 27; refine (HQ.out _ (HM.out.past HB1.out)).mono ?_; rintro e w2 ⟨A2, c2, rfl, hF2, hB2⟩; have HB2 := Lib.hid (HB1.out.trans (hB2.mono hsz1)); clear hF2 hB2))
      go_ret2
      exact SameTo.of R1.out R2.out HEV.out HB2.out
  · have HP := Lib.hid (parse_bad h1 w hs hm)
    have R1 : Hid (sameB s t = false) := Lib.hid (by rw [sameB, if_pos h1])
    have R2 : Hid (sameF s t = (parseF s).1) := Lib.hid (by rw [sameF, if_pos h1])
    have HEV := Lib.hid (errV_pos h1)
    clear h1 hm hs ht
    generalize (parseF s).2.1 = k1 at *
    generalize (parseF s).2.2 = p at *
    generalize (parseF s).1 = f at *
    go_enter Tryz.func18, Tryz.ntmps18
    go_wp2_with (go_at_call 27; refine HP.out.mono ?_; rintro e w1 ⟨A1, c1, rfl, hF1, hB1⟩; have HB1 := Lib.hid hB1; clear hF1 hB1)
    go_ret2
    exact SameTo.of R1.out R2.out HEV.out HB1.out
end Go.Proofs.YtddfdmopaeghnacGreatDoor

namespace Go.Proofs.YtddfdmopaeghnacGreatDoor
open Go.RowKit

set_option maxHeartbeats 2000000 in
theorem trees_any (a b : List Nd) (n1 n2 : Nat) (e1 : a.length = n1) (e2 : b.length = n2) (A B : Option Addr) (c d : Nat) (w : World) (ha : Nds w w.heap.size A a) (hb : Nds w w.heap.size B b) :
    Calls Tryz.prog 70 #[.slice A n1 c, .slice B n2 d] w (fun e w' => e = .returned (.bool (sameT a b)) ∧ ∃ m, w' = w.drewN m) := by
  have hm := ha.2.1
  have hm2 := hb.2.1
  unfold maxLen at hm hm2
  have HA := Lib.hid ha; clear ha
  have HB := Lib.hid hb; clear hb
  by_cases hl : n1 = n2
  · subst hl
    have HL := Lib.hid (sameT_all (e1.trans e2.symm))
    go_enter Tryz.func70, Tryz.ntmps70
    go_wp2
    go_loopw [5] (fun i wr => ∃ k : Nat, k ≤ n1 ∧ i = .int .i64 k ∧ a.take k = b.take k ∧ ∃ m, wr = w.drewN m) (fun i _ => n1 - (intOf i).toNat)
    case atStart => exact ⟨0, by omega, rfl, rfl, 0, rfl⟩
    case round =>
      obtain ⟨k, hk, rfl, ht, m, rfl⟩ := hrel
      have HT := Lib.hid ht; clear ht
      by_cases hlt : k < n1
      · obtain ⟨b1, off, op, t, n, rfl, hb, hd, hts, d1, d2, d3⟩ := HA.out.node (Below.refl _ _) (k := k) (by omega)
        obtain ⟨b2, off2, op2, t2, n2, rfl, hb2, hd2, hts2, d4, d5, d6⟩ := HB.out.node (Below.refl _ _) (k := k) (by omega)
        have HX := Lib.hid (take_oneT HT.out (k := k) (by omega) (by omega))
        have HY := Lib.hid (sameT_at (a := a) (b := b) (k := k) (by omega) (by omega))
        rw [hd, hd2] at HX HY
        clear hd hd2
        by_cases hop : op = op2
        · subst hop
          by_cases htt : t = t2
          · subst htt
            by_cases hn : n = n2
            · subst hn
              go_wp2
              go_quiet (fail)
              go_wp2
              go_roundw
              case rel => exact ⟨k + 1, by omega, by go_num, HX.out (by trivial), _, by first | rfl | exact World.drewN_drewN _ _ _⟩
              case measure => simp [intOf]; omega
            · have HZ := Lib.hid (HY.out (by simp [hn]))
              have hne : (n == n2) = false := by simpa using hn
              go_wp2
              go_quiet (fail)
              go_wp2
              go_ret
              exact ⟨by rw [HZ.out]; rfl, _, by first | rfl | exact World.drewN_drewN _ _ _⟩
          · have HZ := Lib.hid (HY.out (by simp [htt]))
            have hne : (t.toList == t2.toList) = false := bytes_neT htt
            go_wp2
            go_quiet (fail)
            go_wp2
            go_ret
            exact ⟨by rw [HZ.out]; rfl, _, by first | rfl | exact World.drewN_drewN _ _ _⟩
        · have HZ := Lib.hid (HY.out (by simp [hop]))
          have hne : (op == op2) = false := by simpa using hop
          go_wp2
          go_quiet (fail)
          go_wp2
          go_ret
          exact ⟨by rw [HZ.out]; rfl, _, by first | rfl | exact World.drewN_drewN _ _ _⟩
      · have hz : a.take a.length = b.take a.length := by have := HT.out; rwa [show k = a.length by omega] at this
        have HZ := Lib.hid (HL.out hz); clear hz
        go_wp2
        go_ret
        exact ⟨by rw [HZ.out]; rfl, ⟨_, rfl⟩⟩
  · have HL := Lib.hid (sameT_len (a := a) (b := b) (by omega))
    have hne : ((n1 : Int) != (n2 : Int)) = true := by simp; omega
    go_enter Tryz.func70, Tryz.ntmps70
    go_wp2
    go_ret
    exact ⟨by rw [HL.out]; rfl, 0, rfl⟩


set_option maxHeartbeats 2000000 in
theorem progs_any (a b : List (List Nd)) (n1 n2 : Nat) (e1 : a.length = n1) (e2 : b.length = n2) (A B : Option Addr) (c d : Nat) (w : World) (ha : Prg w w.heap.size A a) (hb : Prg w w.heap.size B b) :
    Calls Tryz.prog 28 #[.slice A n1 c, .slice B n2 d] w (fun e w' => e = .returned (.bool (sameP a b)) ∧ ∃ m, w' = w.drewN m) := by
  have hm := ha.le
  have hm2 := hb.le
  rw [e1] at hm
  rw [e2] at hm2
  unfold maxLen at hm hm2
  have HA := Lib.hid ha; clear ha
  have HB := Lib.hid hb; clear hb
  have HE1 := Lib.hid e1
  have HE2 := Lib.hid e2
  by_cases hl : n1 = n2
  · subst hl
    have HL := Lib.hid (sameP_all (e1.trans e2.symm))
    clear e1 e2
    go_enter Tryz.func28, Tryz.ntmps28
    go_wp2
    go_loopw [5] (fun i wr => ∃ k : Nat, k ≤ n1 ∧ i = .int .i64 k ∧ Hid (a.take k = b.take k) ∧ ∃ m, wr = w.drewN m) (fun i _ => n1 - (intOf i).toNat)
    case atStart => exact ⟨0, by omega, rfl, Lib.hid rfl, 0, rfl⟩
    case round =>
      obtain ⟨k, hk, rfl, HT, m, rfl⟩ := hrel
      by_cases hlt : k < n1
      · obtain ⟨b1, off1, A1, c1, u1, rfl, hb1, hu1, hc1, hN1, -⟩ := HA.out.one (Below.refl _ _) (k := k) (by rw [HE1.out]; exact hlt)
        obtain ⟨b2, off2, A2, c2, u2, rfl, hb2, hu2, hc2, hN2, -⟩ := HB.out.one (Below.refl _ _) (k := k) (by rw [HE2.out]; exact hlt)
        have HC := Lib.hid (fun q => (trees_any u1 u2 _ _ rfl rfl A1 A2 c1 c2 (w.drewN (m + q)) (hN1.past (below_drewN (Below.refl _ _) _)) (hN2.past (below_drewN (Below.refl _ _) _))).mono (fun e w'' (h : _ ∧ _) => (⟨h.1, let ⟨n, hn⟩ := h.2; ⟨q + n, by rw [hn, World.drewN_drewN, Nat.add_assoc]⟩⟩ : e = .returned (.bool (sameT u1 u2)) ∧ ∃ n, w'' = w.drewN (m + n))))
        cases hs : sameT u1 u2 with
        | true =>
          rw [hs] at HC
          have HX := Lib.hid (take_oneP HT.out hu1 hu2 hs)
          clear hu1 hu2 hN1 hN2 hs
          go_wp2
          go_quiet ((go_at_call 70; exact HC.out _))
          go_wp2
          go_roundw
          case rel => exact ⟨k + 1, by omega, by go_num, HX, _, by first | rfl | exact World.drewN_drewN _ _ _⟩
          case measure => simp [intOf]; omega
        | false =>
          rw [hs] at HC
          have HX := Lib.hid (sameP_at hu1 hu2 hs)
          clear hu1 hu2 hN1 hN2 hs
          go_wp2
          go_quiet ((go_at_call 70; exact HC.out _))
          go_wp2
          go_ret
          exact ⟨by rw [HX.out]; rfl, _, by first | rfl | exact World.drewN_drewN _ _ _⟩
      · have hz : a.take a.length = b.take a.length := by have := HT.out; rwa [show k = a.length by rw [HE1.out]; omega] at this
        have HZ := Lib.hid (HL.out hz); clear hz
        go_wp2
        go_ret
        exact ⟨by rw [HZ.out]; rfl, _, rfl⟩
  · have HL := Lib.hid (sameP_len (a := a) (b := b) (by omega))
    clear e1 e2
    have hne : ((n1 : Int) != (n2 : Int)) = true := by simp; omega
    go_enter Tryz.func28, Tryz.ntmps28
    go_wp2
    go_ret
    exact ⟨by rw [HL.out]; rfl, 0, rfl⟩
end Go.Proofs.YtddfdmopaeghnacGreatDoor
