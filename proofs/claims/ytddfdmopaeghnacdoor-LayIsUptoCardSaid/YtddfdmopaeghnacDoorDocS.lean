/- Walk: pargetrysame.Docs. Condition: both slices of nodes lie below the call's own blocks. -/
import Derived.Test.YtddfdmopaeghnacDoorDocW
import Derived.BigQuiet
import Derived.Laws.Closers25
import Derived.Deep.QuietTactic
namespace Go.Proofs.YtddfdmopaeghnacDoor
open Go.RowKit

open Classical in
/-- Are two lists of nodes one? -/
noncomputable def sameN (a b : List Nd) : Bool := decide (a = b)

theorem sameN_len {a b : List Nd} (h : a.length ≠ b.length) : sameN a b = false := by
  unfold sameN; exact @decide_eq_false _ (_) fun e => h (by rw [e])
theorem sameN_at {a b : List Nd} {k : Nat} (ha : k < a.length) (hb : k < b.length) (h : a[k] ≠ b[k]) : sameN a b = false := by
  unfold sameN; exact @decide_eq_false _ (_) fun e => h (by simp [e])
theorem sameN_all {a b : List Nd} (h : a.length = b.length) (ht : a.take a.length = b.take a.length) : sameN a b = true := by
  unfold sameN
  rw [List.take_length, h, List.take_length] at ht
  exact @decide_eq_true _ (_) ht
theorem take_one {a b : List Nd} {k : Nat} (ht : a.take k = b.take k) (ha : k < a.length) (hb : k < b.length) (h : a[k] = b[k]) : a.take (k + 1) = b.take (k + 1) := by
  rw [List.take_succ_eq_append_getElem ha, List.take_succ_eq_append_getElem hb, ht, h]

theorem bytes_ne {t u : ByteArray} (h : ¬ t = u) : (t.toList == u.toList) = false := by
  rw [ByteArray.toList_eq, ByteArray.toList_eq]
  obtain ⟨⟨x⟩⟩ := t
  obtain ⟨⟨y⟩⟩ := u
  have : ¬ x = y := fun e => h (by rw [e])
  simpa using this

set_option maxHeartbeats 2000000 in
theorem docs_any (a b : List Nd) (n1 n2 : Nat) (e1 : a.length = n1) (e2 : b.length = n2) (A B : Option Addr) (c d : Nat) (w : World) (ha : Nds w w.heap.size A a) (hb : Nds w w.heap.size B b) :
    Calls Tryd.prog 14 #[.slice A n1 c, .slice B n2 d] w (Ret w (.bool (sameN a b))) := by
  have hm := ha.2.1
  have hm2 := hb.2.1
  unfold maxLen at hm hm2
  have HA := Lib.hid ha; clear ha
  have HB := Lib.hid hb; clear hb
  by_cases hl : n1 = n2
  · subst hl
    have HL := Lib.hid (sameN_all (e1.trans e2.symm))
    go_enter Tryd.func14, Tryd.ntmps14
    go_wp2
    go_loopw [5] (fun i wr => ∃ k : Nat, k ≤ n1 ∧ i = .int .i64 k ∧ a.take k = b.take k ∧ Below w.heap.size w wr) (fun i _ => n1 - (intOf i).toNat)
    case atStart => exact ⟨0, by omega, rfl, rfl, Below.refl _ _⟩
    case round =>
      obtain ⟨k, hk, rfl, ht, hBw⟩ := hrel
      have HT := Lib.hid ht; clear ht
      by_cases hlt : k < n1
      · obtain ⟨b1, off, op, t, n, rfl, hb, hd, hts, d1, d2, d3⟩ := HA.out.node hBw (k := k) (by omega)
        obtain ⟨b2, off2, op2, t2, n2, rfl, hb2, hd2, hts2, d4, d5, d6⟩ := HB.out.node hBw (k := k) (by omega)
        have HX := Lib.hid (take_one HT.out (k := k) (by omega) (by omega))
        have HY := Lib.hid (sameN_at (a := a) (b := b) (k := k) (by omega) (by omega))
        rw [hd, hd2] at HX HY
        clear hd hd2
        by_cases hop : op = op2
        · subst hop
          by_cases htt : t = t2
          · subst htt
            by_cases hn : n = n2
            · subst hn
              go_wp2
              go_quiet (fail)
              go_wp2
              go_roundw
              case rel => exact ⟨k + 1, by omega, by go_num, HX.out (by trivial), below_drewN hBw _⟩
              case measure => simp [intOf]; omega
            · have HZ := Lib.hid (HY.out (by simp [hn]))
              have hne : (n == n2) = false := by simpa using hn
              go_wp2
              go_quiet (fail)
              go_wp2
              go_ret
              exact ⟨by rw [HZ.out]; rfl, below_drewN hBw _⟩
          · have HZ := Lib.hid (HY.out (by simp [htt]))
            have hne : (t.toList == t2.toList) = false := bytes_ne htt
            go_wp2
            go_quiet (fail)
            go_wp2
            go_ret
            exact ⟨by rw [HZ.out]; rfl, below_drewN hBw _⟩
        · have HZ := Lib.hid (HY.out (by simp [hop]))
          have hne : (op == op2) = false := by simpa using hop
          go_wp2
          go_quiet (fail)
          go_wp2
          go_ret
          exact ⟨by rw [HZ.out]; rfl, below_drewN hBw _⟩
      · have hz : a.take a.length = b.take a.length := by have := HT.out; rwa [show k = a.length by omega] at this
        have HZ := Lib.hid (HL.out hz); clear hz
        go_wp2
        go_ret
        exact ⟨by rw [HZ.out]; rfl, (by repeat (first | exact Below.refl _ _ | assumption | apply Below.drew | refine below_drewN ?_ _ | apply Below.setCell _ (by first | omega | (simp; done) | (simp; omega)) | apply Below.alloc _ (by first | omega | (simp; done) | (simp; omega))))⟩
  · have HL := Lib.hid (sameN_len (a := a) (b := b) (by omega))
    have hne : ((n1 : Int) != (n2 : Int)) = true := by simp; omega
    go_enter Tryd.func14, Tryd.ntmps14
    go_wp2
    go_ret
    exact ⟨by rw [HL.out]; rfl, (by repeat (first | exact Below.refl _ _ | assumption | apply Below.drew | refine below_drewN ?_ _ | apply Below.setCell _ (by first | omega | (simp; done) | (simp; omega)) | apply Below.alloc _ (by first | omega | (simp; done) | (simp; omega))))⟩
end Go.Proofs.YtddfdmopaeghnacDoor
