/- Walk: tree.Check. Conditions: a slice of nodes lies below the call's own blocks; its texts are shorter than 4294967281 bytes; internal/bytealg.MaxLen holds some number. -/
import Derived.Test.YtddfdmopaeghnacGreatDoorTreeV
import Derived.Laws.ResultCell
namespace Go.Proofs.YtddfdmopaeghnacGreatDoor
open Go.RowKit

/-- Texts that the library may look into. -/
def Short (l : List Nd) : Prop := ∀ d ∈ l, d.text.size < 4294967281

theorem tone_ok (op n : Int) (t : ByteArray) (w : World) (hs : t.size < 4294967281) (hm : MaxL w) (h : treeOne op t n = 0) :
    Calls Tryz.prog 78 #[.agg #[.int .i64 op, .string t, .int .i64 n]] w (Ret w .nilIface) := by rw [errV_zero h]; exact tone_any op n t w hs hm
theorem tone_bad (op n : Int) (t : ByteArray) (w : World) (hs : t.size < 4294967281) (hm : MaxL w) (h : treeOne op t n ≠ 0) :
    Calls Tryz.prog 78 #[.agg #[.int .i64 op, .string t, .int .i64 n]] w (Ret w (.iface 43 (.int .i64 (treeOne op t n)))) := by rw [errV_pos h]; exact tone_any op n t w hs hm

theorem MaxL.below {w wr : World} (h : MaxL w) (hb : Below w.heap.size w wr) (o : Obj) : MaxL (wr.alloc o) := h.past (hb.alloc hb.size o)

set_option maxHeartbeats 4000000 in
theorem tcheck_any (l : List Nd) (A : Option Addr) (c : Nat) (w : World) (hl : Nds w w.heap.size A l) (hsh : Short l) (hm : MaxL w) :
    Calls Tryz.prog 41 #[.slice A l.length c] w (Ret w (errV (treeF l))) := by
  have hml := hl.2.1
  unfold maxLen at hml
  by_cases h40 : 40 < l.length
  · have hF : treeF l = 3 := by rw [treeF, if_pos h40]
    rw [hF]
    go_enter Tryz.func41, Tryz.ntmps41
    go_wp2
    go_ret
    exact ⟨rfl, Below.refl _ _⟩
  · have hF : treeF l = tchk (l.drop 0) (decide (0 = 0)) 1 true := by rw [treeF, if_neg h40]; rfl
    have HF := Lib.hid hF; clear hF
    have HN := Lib.hid hl; clear hl
    have HS := Lib.hid hsh; clear hsh
    have HM := Lib.hid hm; clear hm
    go_enter Tryz.func41, Tryz.ntmps41
    go_wp2
    go_loopw [3, 4, 5, 6, 7, 14] (fun need whole _ _ _ i wr => ∃ (k : Nat) (nd : Int) (wh : Bool), k ≤ l.length ∧ i = .int .i64 k ∧ need = .int .i64 nd ∧ whole = .bool wh ∧ -(k : Int) ≤ nd - 1 ∧ nd - 1 ≤ 6 * k ∧ treeF l = tchk (l.drop k) (decide (k = 0)) nd wh ∧ Below w.heap.size w wr) (fun _ _ _ _ _ i _ => l.length - (intOf i).toNat)
    case atStart => exact ⟨0, 1, true, by omega, rfl, rfl, rfl, by omega, by omega, HF.out, Below.refl _ _⟩
    case round =>
      obtain ⟨k, nd, wh, hk, rfl, rfl, rfl, hb1, hb2, hc, hB⟩ := hrel
      have HC := Lib.hid hc; clear hc
      by_cases hlt : k < l.length
      · obtain ⟨b, off, op, t, n, rfl, hb, hd, hts, d1, d2, d3⟩ := HN.out.node hB hlt
        have hsz := hB.size
        have htz : t.size < 4294967281 := by have := HS.out _ (List.getElem_mem hlt); rw [hd] at this; exact this
        have HT := Lib.hid (tchk_step (nd := nd) (wh := wh) hlt hd)
        clear hd
        by_cases he : treeOne op t n = 0
        · have hmb := manyF_bd he
          have HE := Lib.hid he; clear he
          have key : ∀ wh', (wh && decide (0 < nd) && (decide (7 ≤ op) == decide (k = 0))) = wh' → treeF l = tchk (l.drop (k + 1)) (decide (k + 1 = 0)) (nd + manyF op n - 1) wh' := by
            rintro _ rfl
            rw [HC.out, HT.out, if_neg (by simp [HE.out])]
          have KEY := Lib.hid key; clear key
          have fin : ∀ wh' : Bool, (wh && decide (0 < nd) && (decide (7 ≤ op) == decide (k = 0))) = wh' → ∀ wr' : World, Below w.heap.size w wr' → ∀ wv : Value, wv = .bool wh' → ∃ (k' : Nat) (nd' : Int) (wh'' : Bool), k' ≤ l.length ∧ Value.int .i64 ((k : Int) + 1) = .int .i64 k' ∧ Value.int .i64 (nd + (manyF op n - 1)) = .int .i64 nd' ∧ wv = .bool wh'' ∧ -(k' : Int) ≤ nd' - 1 ∧ nd' - 1 ≤ 6 * k' ∧ treeF l = tchk (l.drop k') (decide (k' = 0)) nd' wh'' ∧ Below w.heap.size w wr' := by
            intro wh' h wr' hB' wv hwv
            exact ⟨k + 1, nd + manyF op n - 1, wh', by omega, by go_num, by rw [show nd + (manyF op n - 1) = nd + manyF op n - 1 by omega], hwv, by omega, by omega, KEY.out _ h, hB'⟩
          have FIN := Lib.hid fin; clear fin
          have hpar : (wh = false) ∨ (wh = true ∧ nd ≤ 0) ∨ (wh = true ∧ 0 < nd) := by cases wh <;> simp; omega
          rcases hpar with rfl | ⟨rfl, hnd⟩ | ⟨rfl, hnd⟩
          · go_wp2_with (first
              | (go_at_call 78; refine (tone_ok op n t _ htz (HM.out.below hB _) HE.out).mono ?_; rintro e w1 ⟨rfl, hB1⟩; have hc0 := hB1.cell (p := ⟨wr.heap.size, 0, none⟩) (by simp); have hc1 := hB1.cell (p := ⟨wr.heap.size, 1, none⟩) (by simp); have hc2 := hB1.cell (p := ⟨wr.heap.size, 2, none⟩) (by simp); have hsz1 := hB1.size)
              | (go_at_call 79; refine (many_any _ _ _ _).mono ?_; rintro e w2 ⟨rfl, hB2⟩))
            go_roundw
            case measure => simp [intOf]; omega
            case rel => exact FIN.out false (by simp) _ (((hB.alloc hsz _).trans (hB1.mono (by simp; omega))).trans (hB2.mono (by simp at hsz1; omega))) _ rfl
          · have hz : decide (0 < nd) = false := by simp; omega
            go_wp2_with (first
              | (go_at_call 78; refine (tone_ok op n t _ htz (HM.out.below hB _) HE.out).mono ?_; rintro e w1 ⟨rfl, hB1⟩; have hc0 := hB1.cell (p := ⟨wr.heap.size, 0, none⟩) (by simp); have hc1 := hB1.cell (p := ⟨wr.heap.size, 1, none⟩) (by simp); have hc2 := hB1.cell (p := ⟨wr.heap.size, 2, none⟩) (by simp); have hsz1 := hB1.size)
              | (go_at_call 79; refine (many_any _ _ _ _).mono ?_; rintro e w2 ⟨rfl, hB2⟩))
            go_roundw
            case measure => simp [intOf]; omega
            case rel => exact FIN.out false (by simp [hz]) _ (((hB.alloc hsz _).trans (hB1.mono (by simp; omega))).trans (hB2.mono (by simp at hsz1; omega))) _ rfl
          · have hz : decide (0 < nd) = true := by simp; omega
            have HZ := Lib.hid hz; clear hz
            by_cases h7 : 7 ≤ op
            · have h7b : decide (7 ≤ op) = true := by simpa using h7
              have H7 := Lib.hid h7b; clear h7b
              by_cases hk0 : k = 0
              · have hkb : ((k : Int) == 0) = true := by simp [hk0]
                have hkd : decide (k = 0) = true := by simpa using hk0
                have HKD := Lib.hid hkd; clear hkd hk0
                go_wp2_with (first
                  | (go_at_call 78; refine (tone_ok op n t _ htz (HM.out.below hB _) HE.out).mono ?_; rintro e w1 ⟨rfl, hB1⟩; have hc0 := hB1.cell (p := ⟨wr.heap.size, 0, none⟩) (by simp); have hc1 := hB1.cell (p := ⟨wr.heap.size, 1, none⟩) (by simp); have hc2 := hB1.cell (p := ⟨wr.heap.size, 2, none⟩) (by simp); have hsz1 := hB1.size)
                  | (go_at_call 79; refine (many_any _ _ _ _).mono ?_; rintro e w2 ⟨rfl, hB2⟩))
                go_roundw
                case measure => simp [intOf]; omega
                case rel => exact FIN.out true (by rw [HZ.out, H7.out, HKD.out]; rfl) _ (((hB.alloc hsz _).trans (hB1.mono (by simp; omega))).trans (hB2.mono (by simp at hsz1; omega))) _ rfl
              · have hkb : ((k : Int) == 0) = false := by simp; omega
                have hkd : decide (k = 0) = false := by simpa using hk0
                have HKD := Lib.hid hkd; clear hkd hk0
                go_wp2_with (first
                  | (go_at_call 78; refine (tone_ok op n t _ htz (HM.out.below hB _) HE.out).mono ?_; rintro e w1 ⟨rfl, hB1⟩; have hc0 := hB1.cell (p := ⟨wr.heap.size, 0, none⟩) (by simp); have hc1 := hB1.cell (p := ⟨wr.heap.size, 1, none⟩) (by simp); have hc2 := hB1.cell (p := ⟨wr.heap.size, 2, none⟩) (by simp); have hsz1 := hB1.size)
                  | (go_at_call 79; refine (many_any _ _ _ _).mono ?_; rintro e w2 ⟨rfl, hB2⟩))
                go_roundw
                case measure => simp [intOf]; omega
                case rel => exact FIN.out false (by rw [HZ.out, H7.out, HKD.out]; rfl) _ (((hB.alloc hsz _).trans (hB1.mono (by simp; omega))).trans (hB2.mono (by simp at hsz1; omega))) _ rfl
            · have h7b : decide (7 ≤ op) = false := by simpa using h7
              have H7 := Lib.hid h7b
              by_cases hk0 : k = 0
              · have hkb : ((k : Int) == 0) = true := by simp [hk0]
                have hkd : decide (k = 0) = true := by simpa using hk0
                have HKD := Lib.hid hkd; clear hkd hk0
                go_wp2_with (first
                  | (go_at_call 78; refine (tone_ok op n t _ htz (HM.out.below hB _) HE.out).mono ?_; rintro e w1 ⟨rfl, hB1⟩; have hc0 := hB1.cell (p := ⟨wr.heap.size, 0, none⟩) (by simp); have hc1 := hB1.cell (p := ⟨wr.heap.size, 1, none⟩) (by simp); have hc2 := hB1.cell (p := ⟨wr.heap.size, 2, none⟩) (by simp); have hsz1 := hB1.size)
                  | (go_at_call 79; refine (many_any _ _ _ _).mono ?_; rintro e w2 ⟨rfl, hB2⟩))
                go_roundw
                case measure => simp [intOf]; omega
                case rel => exact FIN.out false (by rw [HZ.out, H7.out, HKD.out]; rfl) _ (((hB.alloc hsz _).trans (hB1.mono (by simp; omega))).trans (hB2.mono (by simp at hsz1; omega))) _ rfl
              · have hkb : ((k : Int) == 0) = false := by simp; omega
                have hkd : decide (k = 0) = false := by simpa using hk0
                have HKD := Lib.hid hkd; clear hkd hk0
                go_wp2_with (first
                  | (go_at_call 78; refine (tone_ok op n t _ htz (HM.out.below hB _) HE.out).mono ?_; rintro e w1 ⟨rfl, hB1⟩; have hc0 := hB1.cell (p := ⟨wr.heap.size, 0, none⟩) (by simp); have hc1 := hB1.cell (p := ⟨wr.heap.size, 1, none⟩) (by simp); have hc2 := hB1.cell (p := ⟨wr.heap.size, 2, none⟩) (by simp); have hsz1 := hB1.size)
                  | (go_at_call 79; refine (many_any _ _ _ _).mono ?_; rintro e w2 ⟨rfl, hB2⟩))
                go_roundw
                case measure => simp [intOf]; omega
                case rel => exact FIN.out true (by rw [HZ.out, H7.out, HKD.out]; rfl) _ (((hB.alloc hsz _).trans (hB1.mono (by simp; omega))).trans (hB2.mono (by simp at hsz1; omega))) _ rfl
        · have HE := Lib.hid he; clear he
          go_wp2_with (go_at_call 78; refine (tone_bad op n t _ htz (HM.out.below hB _) HE.out).mono ?_; rintro e w1 ⟨rfl, hB1⟩)
          go_ret
          refine ⟨?_, ((hB.alloc hsz _).trans (hB1.mono (by simp; omega)))⟩
          rw [HC.out, HT.out, if_pos HE.out, ← errV_pos HE.out]; rfl
      · have HT := Lib.hid (tchk_end (nd := nd) (wh := wh) (l := l) (k := k) (b := decide (k = 0)) (by omega))
        cases wh with
        | false =>
          go_wp2
          go_ret
          refine ⟨?_, hB⟩
          rw [HC.out, HT.out]; simp [errV]
        | true =>
          by_cases h0 : nd = 0
          · subst h0
            go_wp2
            go_ret
            refine ⟨?_, hB⟩
            rw [HC.out, HT.out]; simp [errV]
          · have h0' : (nd != 0) = true := by simpa using h0
            have H0 := Lib.hid h0; clear h0
            go_wp2
            go_ret
            refine ⟨?_, hB⟩
            rw [HC.out, HT.out, if_neg (fun h => H0.out h.2)]; simp [errV]
end Go.Proofs.YtddfdmopaeghnacGreatDoor
