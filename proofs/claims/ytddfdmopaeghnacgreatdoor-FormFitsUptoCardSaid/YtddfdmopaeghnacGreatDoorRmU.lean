/- Walk of the reference's DocOf (printed by wip/genrm.py). Conditions: the slice of nodes lies below the call's own blocks and is a statement that may be. -/
import Derived.Test.YtddfdmopaeghnacGreatDoorRmV
namespace Go.Proofs.YtddfdmopaeghnacGreatDoor
open Go.RowKit

/-- What DocOf has made ahead of its cases: the node, a blank, a soft, a group, a deep. -/
structure RfN (A : Option Addr) (l : List Nd) (op : Int) (t : ByteArray) (n : Int) (w0 w : World) : Prop where
  nd : w.heap[w0.heap.size]? = some (.cells #[.int .i64 op, .string t, .int .i64 n] 25 (0, 0))
  gr : w.heap[w0.heap.size + 3]? = some (.cells #[.int .i64 8, .string .empty, .int .i64 0] 157 (0, 0))
  dp : w.heap[w0.heap.size + 4]? = some (.cells #[.int .i64 7, .string .empty, .int .i64 2] 157 (0, 0))
  bl : NdF w0.heap.size w (some ⟨w0.heap.size + 1, 0, none⟩) (opN 2)
  so : NdF w0.heap.size w (some ⟨w0.heap.size + 2, 0, none⟩) (opN 3)
  nds : Nds w w.heap.size A l
  bel : Below w0.heap.size w0 w
theorem NdF.litG (w : World) (d : Nd) (g : Nat) (hg : w.heap.size = g) (hd : d.text.size ≤ maxLen) : NdF g (w.alloc (.cells #[.int .i64 d.op, .string d.text, .int .i64 d.n] 157)) (some ⟨g, 0, none⟩) [d] := by
  subst hg; exact NdF.lit w d hd
theorem rfN_mk {A : Option Addr} {l : List Nd} (op : Int) (t : ByteArray) (n : Int) (w : World) (hN : Nds w w.heap.size A l) : RfN A l op t n w (((((w.alloc (.cells #[.int .i64 op, .string t, .int .i64 n] 25)).alloc (.cells #[.int .i64 2, .string .empty, .int .i64 0] 157)).alloc (.cells #[.int .i64 3, .string .empty, .int .i64 0] 157)).alloc (.cells #[.int .i64 8, .string .empty, .int .i64 0] 157)).alloc (.cells #[.int .i64 7, .string .empty, .int .i64 2] 157)) := by
  have b1 : Below w.heap.size w (w.alloc (.cells #[.int .i64 op, .string t, .int .i64 n] 25)) := (Below.refl _ _).alloc (Nat.le_refl _) _
  have z1 : (w.alloc (.cells #[.int .i64 op, .string t, .int .i64 n] 25)).heap.size = w.heap.size + 1 := by simp
  have n1 : (w.alloc (.cells #[.int .i64 op, .string t, .int .i64 n] 25)).heap[w.heap.size]? = some (.cells #[.int .i64 op, .string t, .int .i64 n] 25 (0, 0)) := heap_new rfl
  generalize w.alloc (.cells #[.int .i64 op, .string t, .int .i64 n] 25) = w1 at *
  have b2 : Below w1.heap.size w1 (w1.alloc (.cells #[.int .i64 2, .string .empty, .int .i64 0] 157)) := (Below.refl _ _).alloc (Nat.le_refl _) _
  have z2 : (w1.alloc (.cells #[.int .i64 2, .string .empty, .int .i64 0] 157)).heap.size = w.heap.size + 2 := by simp; omega
  have l2 := NdF.litG w1 ⟨2, .empty, 0⟩ (w.heap.size + 1) (by omega) (by simp [maxLen])
  simp only at l2
  generalize w1.alloc (.cells #[.int .i64 2, .string .empty, .int .i64 0] 157) = w2 at *
  have b3 : Below w2.heap.size w2 (w2.alloc (.cells #[.int .i64 3, .string .empty, .int .i64 0] 157)) := (Below.refl _ _).alloc (Nat.le_refl _) _
  have z3 : (w2.alloc (.cells #[.int .i64 3, .string .empty, .int .i64 0] 157)).heap.size = w.heap.size + 3 := by simp; omega
  have l3 := NdF.litG w2 ⟨3, .empty, 0⟩ (w.heap.size + 2) (by omega) (by simp [maxLen])
  simp only at l3
  generalize w2.alloc (.cells #[.int .i64 3, .string .empty, .int .i64 0] 157) = w3 at *
  have b4 : Below w3.heap.size w3 (w3.alloc (.cells #[.int .i64 8, .string .empty, .int .i64 0] 157)) := (Below.refl _ _).alloc (Nat.le_refl _) _
  have z4 : (w3.alloc (.cells #[.int .i64 8, .string .empty, .int .i64 0] 157)).heap.size = w.heap.size + 4 := by simp; omega
  have n4 : (w3.alloc (.cells #[.int .i64 8, .string .empty, .int .i64 0] 157)).heap[w.heap.size + 3]? = some (.cells #[.int .i64 8, .string .empty, .int .i64 0] 157 (0, 0)) := heap_new (by omega)
  generalize w3.alloc (.cells #[.int .i64 8, .string .empty, .int .i64 0] 157) = w4 at *
  have b5 : Below w4.heap.size w4 (w4.alloc (.cells #[.int .i64 7, .string .empty, .int .i64 2] 157)) := (Below.refl _ _).alloc (Nat.le_refl _) _
  have n5 : (w4.alloc (.cells #[.int .i64 7, .string .empty, .int .i64 2] 157)).heap[w.heap.size + 4]? = some (.cells #[.int .i64 7, .string .empty, .int .i64 2] 157 (0, 0)) := heap_new (by omega)
  generalize w4.alloc (.cells #[.int .i64 7, .string .empty, .int .i64 2] 157) = w5 at *
  refine ⟨?_, ?_, n5, ?_, ?_, ?_, ?_⟩
  · exact (b5.block _ (by omega)).trans ((b4.block _ (by omega)).trans ((b3.block _ (by omega)).trans ((b2.block _ (by omega)).trans n1)))
  · exact (b5.block _ (by omega)).trans n4
  · exact ((((l2.past b3).past b4).past b5)).less (by omega)
  · exact (((l3.past b4).past b5)).less (by omega)
  · exact ((((hN.past b1).past b2).past b3).past b4).past b5
  · exact (((b1.trans (b2.mono (by omega))).trans (b3.mono (by omega))).trans (b4.mono (by omega))).trans (b5.mono (by omega))
theorem RfN.cells {A : Option Addr} {l : List Nd} {op n : Int} {t : ByteArray} {w0 w : World} (x : RfN A l op t n w0 w) :
    (w.cell? ⟨w0.heap.size, 0, none⟩ = some (.int .i64 op) ∧ w.cell? ⟨w0.heap.size, 1, none⟩ = some (.string t) ∧ w.cell? ⟨w0.heap.size, 2, none⟩ = some (.int .i64 n)) ∧
    (w.cell? ⟨w0.heap.size + 3, 0, none⟩ = some (.int .i64 8) ∧ w.cell? ⟨w0.heap.size + 3, 1, none⟩ = some (.string .empty) ∧ w.cell? ⟨w0.heap.size + 3, 2, none⟩ = some (.int .i64 0)) ∧
    (w.cell? ⟨w0.heap.size + 4, 0, none⟩ = some (.int .i64 7) ∧ w.cell? ⟨w0.heap.size + 4, 1, none⟩ = some (.string .empty) ∧ w.cell? ⟨w0.heap.size + 4, 2, none⟩ = some (.int .i64 2)) := by
  refine ⟨⟨?_, ?_, ?_⟩, ⟨?_, ?_, ?_⟩, ⟨?_, ?_, ?_⟩⟩ <;> first | (rw [Lib.cell_of_heap x.nd]; rfl) | (rw [Lib.cell_of_heap x.gr]; rfl) | (rw [Lib.cell_of_heap x.dp]; rfl)

set_option maxRecDepth 100000 in
set_option maxHeartbeats 4000000 in
theorem rdoc_1 {A : Option Addr} {c : Nat} {l : List Nd} {i : Nat} {t : ByteArray} {n : Int} {w : World} (hN : Nds w w.heap.size A l) (hi : i < l.length) (hnd : l[i] = Nd.mk 1 t n) (h40 : l.length ≤ 40) (n0 : 0 ≤ n) (n1 : n ≤ 999999) :
    Calls Tryz.prog 62 #[.slice A l.length c, .int .i64 (i : Nat)] w (NdTo (wordN ⟨(Lib.itoa n).toArray⟩) w) := by
  have hsz : (⟨(Lib.itoa n).toArray⟩ : ByteArray).size ≤ maxLen := by
    have := (itoa_len6 n0 n1).2
    simp only [ByteArray.size, maxLen, List.size_toArray]; omega
  have HSZ := Lib.hid hsz
  obtain ⟨u, rfl⟩ : ∃ u : Nat, n = u := ⟨n.toNat, by omega⟩
  have HIT := Lib.hid (fun w' => rdec_any u (by omega) w')
  generalize (⟨(Lib.itoa (u : Nat)).toArray⟩ : ByteArray) = T at *
  clear hsz
  obtain ⟨b, off, op, t', n', rfl, hb, hnd', hts, d1, d2, d3⟩ := hN.node (Below.refl _ _) hi
  rw [hnd] at hnd'
  cases hnd'
  have HR := Lib.hid (rfN_mk 1 t (u : Nat) w hN)
  have k1 : IntKind.i64.wrap ((i : Int) + 1) = (i : Int) + 1 := IntWalk.i64_in _ (by omega)
  clear hN hnd
  go_enter Tryz.func62, Tryz.ntmps62
  go_upto_region 6 with (fail)
  refine rm_named (fun wy => RfN (some ⟨b, off, none⟩) l 1 t (u : Nat) w wy) HR.out ?_
  clear HR d1 d2 d3
  rintro w1 hy
  obtain ⟨⟨y0, y1, y2⟩, ⟨g0, g1, g2⟩, ⟨p0, p1, p2⟩⟩ := hy.cells
  have HV_bl := Lib.hid hy.bl; have HV_so := Lib.hid hy.so; have HN := Lib.hid hy.nds; have HB := Lib.hid hy.bel; have hz := hy.bel.size
  have hlt : w.heap.size + 4 < w1.heap.size := (Array.getElem?_eq_some_iff.1 hy.dp).1
  have hob : (opN 2).length = 1 := rfl
  have hos : (opN 3).length = 1 := rfl
  clear hy
  go_wp2_with (first
    | (go_at_call 102; refine (HIT.out _).mono ?_; rintro e w3 ⟨rfl, rfl⟩)
    | (go_at_call 101; refine (rword_any T HSZ.out _).mono ?_; rintro e w4 ⟨A_Q, c_Q, rfl, hn, hB⟩; have HV_Q := Lib.hid (hn.less hz); have HB := Lib.hid (HB.out.trans (hB.mono hz)); clear hn hB))
  go_ret
  exact ⟨A_Q, c_Q, rfl, HV_Q.out, HB.out⟩

set_option maxRecDepth 100000 in
set_option maxHeartbeats 4000000 in
theorem rdoc_2 {A : Option Addr} {c : Nat} {l : List Nd} {i : Nat} {t : ByteArray} {n : Int} {w : World} (hN : Nds w w.heap.size A l) (hi : i < l.length) (hnd : l[i] = Nd.mk 2 t n) (h40 : l.length ≤ 40)  :
    Calls Tryz.prog 62 #[.slice A l.length c, .int .i64 (i : Nat)] w (NdTo (wordN t) w) := by
  obtain ⟨b, off, op, t', n', rfl, hb, hnd', hts, d1, d2, d3⟩ := hN.node (Below.refl _ _) hi
  rw [hnd] at hnd'
  cases hnd'
  have HR := Lib.hid (rfN_mk 2 t n w hN)
  have k1 : IntKind.i64.wrap ((i : Int) + 1) = (i : Int) + 1 := IntWalk.i64_in _ (by omega)
  clear hN hnd
  go_enter Tryz.func62, Tryz.ntmps62
  go_upto_region 6 with (fail)
  refine rm_named (fun wy => RfN (some ⟨b, off, none⟩) l 2 t n w wy) HR.out ?_
  clear HR d1 d2 d3
  rintro w1 hy
  obtain ⟨⟨y0, y1, y2⟩, ⟨g0, g1, g2⟩, ⟨p0, p1, p2⟩⟩ := hy.cells
  have HV_bl := Lib.hid hy.bl; have HV_so := Lib.hid hy.so; have HN := Lib.hid hy.nds; have HB := Lib.hid hy.bel; have hz := hy.bel.size
  have hlt : w.heap.size + 4 < w1.heap.size := (Array.getElem?_eq_some_iff.1 hy.dp).1
  have hob : (opN 2).length = 1 := rfl
  have hos : (opN 3).length = 1 := rfl
  clear hy
  go_wp2_with (go_at_call 101; refine (rword_any t hts _).mono ?_; rintro e w4 ⟨A_Q, c_Q, rfl, hn, hB⟩; have HV_Q := Lib.hid (hn.less hz); have HB := Lib.hid (HB.out.trans (hB.mono hz)); clear hn hB)
  go_ret
  exact ⟨A_Q, c_Q, rfl, HV_Q.out, HB.out⟩

set_option maxRecDepth 100000 in
set_option maxHeartbeats 4000000 in
theorem rdoc_5 {A : Option Addr} {c : Nat} {l : List Nd} {i : Nat} {t : ByteArray} {n : Int} {w : World} (hN : Nds w w.heap.size A l) (hi : i < l.length) (hnd : l[i] = Nd.mk 5 t n) (h40 : l.length ≤ 40) {x y : List Nd} {z : Nat} (hx : x.length ≤ 1000) (hy0 : y.length ≤ 1000) (HKx : Hid (∀ w', Nds w' w'.heap.size A l → Calls Tryz.prog 103 #[.slice A l.length c, .int .i64 (i : Nat), .int .i64 ((i : Int) + 1), .bool false] w' (NdTo x w'))) (HKy : Hid (∀ w', Nds w' w'.heap.size A l → Calls Tryz.prog 103 #[.slice A l.length c, .int .i64 (i : Nat), .int .i64 (z : Nat), .bool true] w' (NdTo y w'))) (HE : Hid (∀ w', Nds w' w'.heap.size A l → Calls Tryz.prog 61 #[.slice A l.length c, .int .i64 ((i : Int) + 1)] w' (Ret w' (.int .i64 (z : Nat))))) :
    Calls Tryz.prog 62 #[.slice A l.length c, .int .i64 (i : Nat)] w (NdTo (twoD ⟨#[43, 32]⟩ x y) w) := by
  rw [twoD]
  obtain ⟨b, off, op, t', n', rfl, hb, hnd', hts, d1, d2, d3⟩ := hN.node (Below.refl _ _) hi
  rw [hnd] at hnd'
  cases hnd'
  have HR := Lib.hid (rfN_mk 5 t n w hN)
  have k1 : IntKind.i64.wrap ((i : Int) + 1) = (i : Int) + 1 := IntWalk.i64_in _ (by omega)
  clear hN hnd
  go_enter Tryz.func62, Tryz.ntmps62
  go_upto_region 6 with (fail)
  refine rm_named (fun wy => RfN (some ⟨b, off, none⟩) l 5 t n w wy) HR.out ?_
  clear HR d1 d2 d3
  rintro w1 hy
  obtain ⟨⟨y0, y1, y2⟩, ⟨g0, g1, g2⟩, ⟨p0, p1, p2⟩⟩ := hy.cells
  have HV_bl := Lib.hid hy.bl; have HV_so := Lib.hid hy.so; have HN := Lib.hid hy.nds; have HB := Lib.hid hy.bel; have hz := hy.bel.size
  have hlt : w.heap.size + 4 < w1.heap.size := (Array.getElem?_eq_some_iff.1 hy.dp).1
  have hob : (opN 2).length = 1 := rfl
  have hos : (opN 3).length = 1 := rfl
  clear hy
  go_wp2_with (first
    | (go_at_call 103; (fail_if_success have z := S0); refine (HKx.out _ HN.out).mono ?_; rintro e w2 ⟨A_x, c_x, rfl, hn, hB⟩; have HV_bl := Lib.hid (HV_bl.out.past hB); have HV_x := Lib.hid (hn.less hz); have HN := Lib.hid (HN.out.past hB); have y0 := (hB.cell (p := ⟨w.heap.size, 0, none⟩) (by simp; omega)).trans y0; have y1 := (hB.cell (p := ⟨w.heap.size, 1, none⟩) (by simp; omega)).trans y1; have y2 := (hB.cell (p := ⟨w.heap.size, 2, none⟩) (by simp; omega)).trans y2; have g0 := (hB.cell (p := ⟨w.heap.size + 3, 0, none⟩) (by simp; omega)).trans g0; have g1 := (hB.cell (p := ⟨w.heap.size + 3, 1, none⟩) (by simp; omega)).trans g1; have g2 := (hB.cell (p := ⟨w.heap.size + 3, 2, none⟩) (by simp; omega)).trans g2; have p0 := (hB.cell (p := ⟨w.heap.size + 4, 0, none⟩) (by simp; omega)).trans p0; have p1 := (hB.cell (p := ⟨w.heap.size + 4, 1, none⟩) (by simp; omega)).trans p1; have p2 := (hB.cell (p := ⟨w.heap.size + 4, 2, none⟩) (by simp; omega)).trans p2; have HB := Lib.hid (HB.out.trans (hB.mono hz)); have hz := Nat.le_trans hz hB.size; have hlt := Nat.lt_of_lt_of_le hlt hB.size; clear hn hB; have S0 := Lib.hid True.intro)
    | (go_at_call 61; (fail_if_success have z := S1); have z := S0; clear z; refine (HE.out _ HN.out).mono ?_; rintro e w3 ⟨rfl, hB⟩; have HV_x := Lib.hid (HV_x.out.past hB); have HV_bl := Lib.hid (HV_bl.out.past hB); have HN := Lib.hid (HN.out.past hB); have y0 := (hB.cell (p := ⟨w.heap.size, 0, none⟩) (by simp; omega)).trans y0; have y1 := (hB.cell (p := ⟨w.heap.size, 1, none⟩) (by simp; omega)).trans y1; have y2 := (hB.cell (p := ⟨w.heap.size, 2, none⟩) (by simp; omega)).trans y2; have g0 := (hB.cell (p := ⟨w.heap.size + 3, 0, none⟩) (by simp; omega)).trans g0; have g1 := (hB.cell (p := ⟨w.heap.size + 3, 1, none⟩) (by simp; omega)).trans g1; have g2 := (hB.cell (p := ⟨w.heap.size + 3, 2, none⟩) (by simp; omega)).trans g2; have p0 := (hB.cell (p := ⟨w.heap.size + 4, 0, none⟩) (by simp; omega)).trans p0; have p1 := (hB.cell (p := ⟨w.heap.size + 4, 1, none⟩) (by simp; omega)).trans p1; have p2 := (hB.cell (p := ⟨w.heap.size + 4, 2, none⟩) (by simp; omega)).trans p2; have HB := Lib.hid (HB.out.trans (hB.mono hz)); have hz := Nat.le_trans hz hB.size; have hlt := Nat.lt_of_lt_of_le hlt hB.size; clear hB; have S1 := Lib.hid True.intro)
    | (go_at_call 103; (fail_if_success have z := S2); have z := S1; clear z; refine (HKy.out _ HN.out).mono ?_; rintro e w4 ⟨A_y, c_y, rfl, hn, hB⟩; have HV_x := Lib.hid (HV_x.out.past hB); have HV_bl := Lib.hid (HV_bl.out.past hB); have HV_y := Lib.hid (hn.less hz); have HN := Lib.hid (HN.out.past hB); have y0 := (hB.cell (p := ⟨w.heap.size, 0, none⟩) (by simp; omega)).trans y0; have y1 := (hB.cell (p := ⟨w.heap.size, 1, none⟩) (by simp; omega)).trans y1; have y2 := (hB.cell (p := ⟨w.heap.size, 2, none⟩) (by simp; omega)).trans y2; have g0 := (hB.cell (p := ⟨w.heap.size + 3, 0, none⟩) (by simp; omega)).trans g0; have g1 := (hB.cell (p := ⟨w.heap.size + 3, 1, none⟩) (by simp; omega)).trans g1; have g2 := (hB.cell (p := ⟨w.heap.size + 3, 2, none⟩) (by simp; omega)).trans g2; have p0 := (hB.cell (p := ⟨w.heap.size + 4, 0, none⟩) (by simp; omega)).trans p0; have p1 := (hB.cell (p := ⟨w.heap.size + 4, 1, none⟩) (by simp; omega)).trans p1; have p2 := (hB.cell (p := ⟨w.heap.size + 4, 2, none⟩) (by simp; omega)).trans p2; have HB := Lib.hid (HB.out.trans (hB.mono hz)); have hz := Nat.le_trans hz hB.size; have hlt := Nat.lt_of_lt_of_le hlt hB.size; clear hn hB; have S2 := Lib.hid True.intro))
  go_region_held3 (fun w' => w'.cell? ⟨w.heap.size + 3, 0, none⟩ = some (.int .i64 8) ∧ w'.cell? ⟨w.heap.size + 3, 1, none⟩ = some (.string .empty) ∧ w'.cell? ⟨w.heap.size + 3, 2, none⟩ = some (.int .i64 0) ∧ w'.cell? ⟨w.heap.size + 4, 0, none⟩ = some (.int .i64 7) ∧ w'.cell? ⟨w.heap.size + 4, 1, none⟩ = some (.string .empty) ∧ w'.cell? ⟨w.heap.size + 4, 2, none⟩ = some (.int .i64 2))
    (exact ⟨g0, g1, g2, p0, p1, p2⟩)
    (first
    | (go_at_call 101; (fail_if_success have z := T0); refine (rword_any _ (by simp only [maxLen]; decide) _).mono ?_; rintro e w5 ⟨A_O, c_O, rfl, hn, hB⟩; have hB := past_drew hB; have HV_O := Lib.hid (hn.less hz); have HN := Lib.hid (HN.out.past hB); have HV_bl := Lib.hid (HV_bl.out.past hB); have HV_x := Lib.hid (HV_x.out.past hB); have HV_y := Lib.hid (HV_y.out.past hB); have g0 := (hB.cell (p := ⟨w.heap.size + 3, 0, none⟩) (by simp; omega)).trans g0; have g1 := (hB.cell (p := ⟨w.heap.size + 3, 1, none⟩) (by simp; omega)).trans g1; have g2 := (hB.cell (p := ⟨w.heap.size + 3, 2, none⟩) (by simp; omega)).trans g2; have p0 := (hB.cell (p := ⟨w.heap.size + 4, 0, none⟩) (by simp; omega)).trans p0; have p1 := (hB.cell (p := ⟨w.heap.size + 4, 1, none⟩) (by simp; omega)).trans p1; have p2 := (hB.cell (p := ⟨w.heap.size + 4, 2, none⟩) (by simp; omega)).trans p2; have HB := Lib.hid (HB.out.trans (hB.mono hz)); have hz := Nat.le_trans hz hB.size; have hlt := Nat.lt_of_lt_of_le hlt hB.size; clear hn hB; have T0 := Lib.hid True.intro)
    | (go_at_call 105; (fail_if_success have z := T1); have z := T0; clear z; refine (rtwo_any _ _ _ _ _ _ _ HV_O.out.1 HV_y.out.1 (by (repeat (first | rw [bothN_len] | rw [wordN_len] | rw [opN_len] | rw [deepN_len] | rw [groupN_len])); omega)).mono ?_; rintro e w6 ⟨A_F, c_F, rfl, hn, hB⟩; have HV_F := Lib.hid (hn.less hz); have HN := Lib.hid (HN.out.past hB); have HV_bl := Lib.hid (HV_bl.out.past hB); have HV_x := Lib.hid (HV_x.out.past hB); have g0 := (hB.cell (p := ⟨w.heap.size + 3, 0, none⟩) (by simp; omega)).trans g0; have g1 := (hB.cell (p := ⟨w.heap.size + 3, 1, none⟩) (by simp; omega)).trans g1; have g2 := (hB.cell (p := ⟨w.heap.size + 3, 2, none⟩) (by simp; omega)).trans g2; have p0 := (hB.cell (p := ⟨w.heap.size + 4, 0, none⟩) (by simp; omega)).trans p0; have p1 := (hB.cell (p := ⟨w.heap.size + 4, 1, none⟩) (by simp; omega)).trans p1; have p2 := (hB.cell (p := ⟨w.heap.size + 4, 2, none⟩) (by simp; omega)).trans p2; have HB := Lib.hid (HB.out.trans (hB.mono hz)); have hz := Nat.le_trans hz hB.size; have hlt := Nat.lt_of_lt_of_le hlt hB.size; clear hn hB; have T1 := Lib.hid True.intro)
    | (go_at_call 105; (fail_if_success have z := T2); have z := T1; clear z; refine (rtwo_any _ _ _ _ _ _ _ HV_bl.out.1 HV_F.out.1 (by (repeat (first | rw [bothN_len] | rw [wordN_len] | rw [opN_len] | rw [deepN_len] | rw [groupN_len])); omega)).mono ?_; rintro e w7 ⟨A_G, c_G, rfl, hn, hB⟩; have HV_G := Lib.hid (hn.less hz); have HN := Lib.hid (HN.out.past hB); have HV_x := Lib.hid (HV_x.out.past hB); have g0 := (hB.cell (p := ⟨w.heap.size + 3, 0, none⟩) (by simp; omega)).trans g0; have g1 := (hB.cell (p := ⟨w.heap.size + 3, 1, none⟩) (by simp; omega)).trans g1; have g2 := (hB.cell (p := ⟨w.heap.size + 3, 2, none⟩) (by simp; omega)).trans g2; have p0 := (hB.cell (p := ⟨w.heap.size + 4, 0, none⟩) (by simp; omega)).trans p0; have p1 := (hB.cell (p := ⟨w.heap.size + 4, 1, none⟩) (by simp; omega)).trans p1; have p2 := (hB.cell (p := ⟨w.heap.size + 4, 2, none⟩) (by simp; omega)).trans p2; have HB := Lib.hid (HB.out.trans (hB.mono hz)); have hz := Nat.le_trans hz hB.size; have hlt := Nat.lt_of_lt_of_le hlt hB.size; clear hn hB; have T2 := Lib.hid True.intro)
    | (go_at_call 104; (fail_if_success have z := T3); have z := T2; clear z; refine (rdeep_any _ _ _ _ HV_G.out.1 (by (repeat (first | rw [bothN_len] | rw [wordN_len] | rw [opN_len] | rw [deepN_len] | rw [groupN_len])); omega)).mono ?_; rintro e w8 ⟨A_H, c_H, rfl, hn, hB⟩; have HV_H := Lib.hid (hn.less hz); have HN := Lib.hid (HN.out.past hB); have HV_x := Lib.hid (HV_x.out.past hB); have g0 := (hB.cell (p := ⟨w.heap.size + 3, 0, none⟩) (by simp; omega)).trans g0; have g1 := (hB.cell (p := ⟨w.heap.size + 3, 1, none⟩) (by simp; omega)).trans g1; have g2 := (hB.cell (p := ⟨w.heap.size + 3, 2, none⟩) (by simp; omega)).trans g2; have p0 := (hB.cell (p := ⟨w.heap.size + 4, 0, none⟩) (by simp; omega)).trans p0; have p1 := (hB.cell (p := ⟨w.heap.size + 4, 1, none⟩) (by simp; omega)).trans p1; have p2 := (hB.cell (p := ⟨w.heap.size + 4, 2, none⟩) (by simp; omega)).trans p2; have HB := Lib.hid (HB.out.trans (hB.mono hz)); have hz := Nat.le_trans hz hB.size; have hlt := Nat.lt_of_lt_of_le hlt hB.size; clear hn hB; have T3 := Lib.hid True.intro)
    | (go_at_call 105; (fail_if_success have z := T4); have z := T3; clear z; refine (rtwo_any _ _ _ _ _ _ _ HV_x.out.1 HV_H.out.1 (by (repeat (first | rw [bothN_len] | rw [wordN_len] | rw [opN_len] | rw [deepN_len] | rw [groupN_len])); omega)).mono ?_; rintro e w9 ⟨A_J, c_J, rfl, hn, hB⟩; have HV_J := Lib.hid (hn.less hz); have HN := Lib.hid (HN.out.past hB); have g0 := (hB.cell (p := ⟨w.heap.size + 3, 0, none⟩) (by simp; omega)).trans g0; have g1 := (hB.cell (p := ⟨w.heap.size + 3, 1, none⟩) (by simp; omega)).trans g1; have g2 := (hB.cell (p := ⟨w.heap.size + 3, 2, none⟩) (by simp; omega)).trans g2; have p0 := (hB.cell (p := ⟨w.heap.size + 4, 0, none⟩) (by simp; omega)).trans p0; have p1 := (hB.cell (p := ⟨w.heap.size + 4, 1, none⟩) (by simp; omega)).trans p1; have p2 := (hB.cell (p := ⟨w.heap.size + 4, 2, none⟩) (by simp; omega)).trans p2; have HB := Lib.hid (HB.out.trans (hB.mono hz)); have hz := Nat.le_trans hz hB.size; have hlt := Nat.lt_of_lt_of_le hlt hB.size; clear hn hB; have T4 := Lib.hid True.intro)
    | (go_at_call 104; (fail_if_success have z := T5); have z := T4; clear z; refine (rgroup_any _ _ _ _ HV_J.out.1 (by (repeat (first | rw [bothN_len] | rw [wordN_len] | rw [opN_len] | rw [deepN_len] | rw [groupN_len])); omega)).mono ?_; rintro e w10 ⟨A_Q, c_Q, rfl, hn, hB⟩; have HV_Q := Lib.hid (hn.less hz); have HN := Lib.hid (HN.out.past hB); have g0 := (hB.cell (p := ⟨w.heap.size + 3, 0, none⟩) (by simp; omega)).trans g0; have g1 := (hB.cell (p := ⟨w.heap.size + 3, 1, none⟩) (by simp; omega)).trans g1; have g2 := (hB.cell (p := ⟨w.heap.size + 3, 2, none⟩) (by simp; omega)).trans g2; have p0 := (hB.cell (p := ⟨w.heap.size + 4, 0, none⟩) (by simp; omega)).trans p0; have p1 := (hB.cell (p := ⟨w.heap.size + 4, 1, none⟩) (by simp; omega)).trans p1; have p2 := (hB.cell (p := ⟨w.heap.size + 4, 2, none⟩) (by simp; omega)).trans p2; have HB := Lib.hid (HB.out.trans (hB.mono hz)); have hz := Nat.le_trans hz hB.size; have hlt := Nat.lt_of_lt_of_le hlt hB.size; clear hn hB; have T5 := Lib.hid True.intro))
  go_wp2
  go_ret
  exact ⟨A_Q, c_Q, rfl, HV_Q.out, HB.out⟩

set_option maxRecDepth 100000 in
set_option maxHeartbeats 4000000 in
theorem rdoc_6 {A : Option Addr} {c : Nat} {l : List Nd} {i : Nat} {t : ByteArray} {n : Int} {w : World} (hN : Nds w w.heap.size A l) (hi : i < l.length) (hnd : l[i] = Nd.mk 6 t n) (h40 : l.length ≤ 40) {x y : List Nd} {z : Nat} (hx : x.length ≤ 1000) (hy0 : y.length ≤ 1000) (HKx : Hid (∀ w', Nds w' w'.heap.size A l → Calls Tryz.prog 103 #[.slice A l.length c, .int .i64 (i : Nat), .int .i64 ((i : Int) + 1), .bool false] w' (NdTo x w'))) (HKy : Hid (∀ w', Nds w' w'.heap.size A l → Calls Tryz.prog 103 #[.slice A l.length c, .int .i64 (i : Nat), .int .i64 (z : Nat), .bool true] w' (NdTo y w'))) (HE : Hid (∀ w', Nds w' w'.heap.size A l → Calls Tryz.prog 61 #[.slice A l.length c, .int .i64 ((i : Int) + 1)] w' (Ret w' (.int .i64 (z : Nat))))) :
    Calls Tryz.prog 62 #[.slice A l.length c, .int .i64 (i : Nat)] w (NdTo (twoD ⟨#[42, 32]⟩ x y) w) := by
  rw [twoD]
  obtain ⟨b, off, op, t', n', rfl, hb, hnd', hts, d1, d2, d3⟩ := hN.node (Below.refl _ _) hi
  rw [hnd] at hnd'
  cases hnd'
  have HR := Lib.hid (rfN_mk 6 t n w hN)
  have k1 : IntKind.i64.wrap ((i : Int) + 1) = (i : Int) + 1 := IntWalk.i64_in _ (by omega)
  clear hN hnd
  go_enter Tryz.func62, Tryz.ntmps62
  go_upto_region 6 with (fail)
  refine rm_named (fun wy => RfN (some ⟨b, off, none⟩) l 6 t n w wy) HR.out ?_
  clear HR d1 d2 d3
  rintro w1 hy
  obtain ⟨⟨y0, y1, y2⟩, ⟨g0, g1, g2⟩, ⟨p0, p1, p2⟩⟩ := hy.cells
  have HV_bl := Lib.hid hy.bl; have HV_so := Lib.hid hy.so; have HN := Lib.hid hy.nds; have HB := Lib.hid hy.bel; have hz := hy.bel.size
  have hlt : w.heap.size + 4 < w1.heap.size := (Array.getElem?_eq_some_iff.1 hy.dp).1
  have hob : (opN 2).length = 1 := rfl
  have hos : (opN 3).length = 1 := rfl
  clear hy
  go_wp2_with (first
    | (go_at_call 103; (fail_if_success have z := S0); refine (HKx.out _ HN.out).mono ?_; rintro e w2 ⟨A_x, c_x, rfl, hn, hB⟩; have HV_bl := Lib.hid (HV_bl.out.past hB); have HV_x := Lib.hid (hn.less hz); have HN := Lib.hid (HN.out.past hB); have y0 := (hB.cell (p := ⟨w.heap.size, 0, none⟩) (by simp; omega)).trans y0; have y1 := (hB.cell (p := ⟨w.heap.size, 1, none⟩) (by simp; omega)).trans y1; have y2 := (hB.cell (p := ⟨w.heap.size, 2, none⟩) (by simp; omega)).trans y2; have g0 := (hB.cell (p := ⟨w.heap.size + 3, 0, none⟩) (by simp; omega)).trans g0; have g1 := (hB.cell (p := ⟨w.heap.size + 3, 1, none⟩) (by simp; omega)).trans g1; have g2 := (hB.cell (p := ⟨w.heap.size + 3, 2, none⟩) (by simp; omega)).trans g2; have p0 := (hB.cell (p := ⟨w.heap.size + 4, 0, none⟩) (by simp; omega)).trans p0; have p1 := (hB.cell (p := ⟨w.heap.size + 4, 1, none⟩) (by simp; omega)).trans p1; have p2 := (hB.cell (p := ⟨w.heap.size + 4, 2, none⟩) (by simp; omega)).trans p2; have HB := Lib.hid (HB.out.trans (hB.mono hz)); have hz := Nat.le_trans hz hB.size; have hlt := Nat.lt_of_lt_of_le hlt hB.size; clear hn hB; have S0 := Lib.hid True.intro)
    | (go_at_call 61; (fail_if_success have z := S1); have z := S0; clear z; refine (HE.out _ HN.out).mono ?_; rintro e w3 ⟨rfl, hB⟩; have HV_x := Lib.hid (HV_x.out.past hB); have HV_bl := Lib.hid (HV_bl.out.past hB); have HN := Lib.hid (HN.out.past hB); have y0 := (hB.cell (p := ⟨w.heap.size, 0, none⟩) (by simp; omega)).trans y0; have y1 := (hB.cell (p := ⟨w.heap.size, 1, none⟩) (by simp; omega)).trans y1; have y2 := (hB.cell (p := ⟨w.heap.size, 2, none⟩) (by simp; omega)).trans y2; have g0 := (hB.cell (p := ⟨w.heap.size + 3, 0, none⟩) (by simp; omega)).trans g0; have g1 := (hB.cell (p := ⟨w.heap.size + 3, 1, none⟩) (by simp; omega)).trans g1; have g2 := (hB.cell (p := ⟨w.heap.size + 3, 2, none⟩) (by simp; omega)).trans g2; have p0 := (hB.cell (p := ⟨w.heap.size + 4, 0, none⟩) (by simp; omega)).trans p0; have p1 := (hB.cell (p := ⟨w.heap.size + 4, 1, none⟩) (by simp; omega)).trans p1; have p2 := (hB.cell (p := ⟨w.heap.size + 4, 2, none⟩) (by simp; omega)).trans p2; have HB := Lib.hid (HB.out.trans (hB.mono hz)); have hz := Nat.le_trans hz hB.size; have hlt := Nat.lt_of_lt_of_le hlt hB.size; clear hB; have S1 := Lib.hid True.intro)
    | (go_at_call 103; (fail_if_success have z := S2); have z := S1; clear z; refine (HKy.out _ HN.out).mono ?_; rintro e w4 ⟨A_y, c_y, rfl, hn, hB⟩; have HV_x := Lib.hid (HV_x.out.past hB); have HV_bl := Lib.hid (HV_bl.out.past hB); have HV_y := Lib.hid (hn.less hz); have HN := Lib.hid (HN.out.past hB); have y0 := (hB.cell (p := ⟨w.heap.size, 0, none⟩) (by simp; omega)).trans y0; have y1 := (hB.cell (p := ⟨w.heap.size, 1, none⟩) (by simp; omega)).trans y1; have y2 := (hB.cell (p := ⟨w.heap.size, 2, none⟩) (by simp; omega)).trans y2; have g0 := (hB.cell (p := ⟨w.heap.size + 3, 0, none⟩) (by simp; omega)).trans g0; have g1 := (hB.cell (p := ⟨w.heap.size + 3, 1, none⟩) (by simp; omega)).trans g1; have g2 := (hB.cell (p := ⟨w.heap.size + 3, 2, none⟩) (by simp; omega)).trans g2; have p0 := (hB.cell (p := ⟨w.heap.size + 4, 0, none⟩) (by simp; omega)).trans p0; have p1 := (hB.cell (p := ⟨w.heap.size + 4, 1, none⟩) (by simp; omega)).trans p1; have p2 := (hB.cell (p := ⟨w.heap.size + 4, 2, none⟩) (by simp; omega)).trans p2; have HB := Lib.hid (HB.out.trans (hB.mono hz)); have hz := Nat.le_trans hz hB.size; have hlt := Nat.lt_of_lt_of_le hlt hB.size; clear hn hB; have S2 := Lib.hid True.intro))
  go_region_held3 (fun w' => w'.cell? ⟨w.heap.size + 3, 0, none⟩ = some (.int .i64 8) ∧ w'.cell? ⟨w.heap.size + 3, 1, none⟩ = some (.string .empty) ∧ w'.cell? ⟨w.heap.size + 3, 2, none⟩ = some (.int .i64 0) ∧ w'.cell? ⟨w.heap.size + 4, 0, none⟩ = some (.int .i64 7) ∧ w'.cell? ⟨w.heap.size + 4, 1, none⟩ = some (.string .empty) ∧ w'.cell? ⟨w.heap.size + 4, 2, none⟩ = some (.int .i64 2))
    (exact ⟨g0, g1, g2, p0, p1, p2⟩)
    (first
    | (go_at_call 101; (fail_if_success have z := T0); refine (rword_any _ (by simp only [maxLen]; decide) _).mono ?_; rintro e w5 ⟨A_O, c_O, rfl, hn, hB⟩; have hB := past_drew hB; have HV_O := Lib.hid (hn.less hz); have HN := Lib.hid (HN.out.past hB); have HV_bl := Lib.hid (HV_bl.out.past hB); have HV_x := Lib.hid (HV_x.out.past hB); have HV_y := Lib.hid (HV_y.out.past hB); have g0 := (hB.cell (p := ⟨w.heap.size + 3, 0, none⟩) (by simp; omega)).trans g0; have g1 := (hB.cell (p := ⟨w.heap.size + 3, 1, none⟩) (by simp; omega)).trans g1; have g2 := (hB.cell (p := ⟨w.heap.size + 3, 2, none⟩) (by simp; omega)).trans g2; have p0 := (hB.cell (p := ⟨w.heap.size + 4, 0, none⟩) (by simp; omega)).trans p0; have p1 := (hB.cell (p := ⟨w.heap.size + 4, 1, none⟩) (by simp; omega)).trans p1; have p2 := (hB.cell (p := ⟨w.heap.size + 4, 2, none⟩) (by simp; omega)).trans p2; have HB := Lib.hid (HB.out.trans (hB.mono hz)); have hz := Nat.le_trans hz hB.size; have hlt := Nat.lt_of_lt_of_le hlt hB.size; clear hn hB; have T0 := Lib.hid True.intro)
    | (go_at_call 105; (fail_if_success have z := T1); have z := T0; clear z; refine (rtwo_any _ _ _ _ _ _ _ HV_O.out.1 HV_y.out.1 (by (repeat (first | rw [bothN_len] | rw [wordN_len] | rw [opN_len] | rw [deepN_len] | rw [groupN_len])); omega)).mono ?_; rintro e w6 ⟨A_F, c_F, rfl, hn, hB⟩; have HV_F := Lib.hid (hn.less hz); have HN := Lib.hid (HN.out.past hB); have HV_bl := Lib.hid (HV_bl.out.past hB); have HV_x := Lib.hid (HV_x.out.past hB); have g0 := (hB.cell (p := ⟨w.heap.size + 3, 0, none⟩) (by simp; omega)).trans g0; have g1 := (hB.cell (p := ⟨w.heap.size + 3, 1, none⟩) (by simp; omega)).trans g1; have g2 := (hB.cell (p := ⟨w.heap.size + 3, 2, none⟩) (by simp; omega)).trans g2; have p0 := (hB.cell (p := ⟨w.heap.size + 4, 0, none⟩) (by simp; omega)).trans p0; have p1 := (hB.cell (p := ⟨w.heap.size + 4, 1, none⟩) (by simp; omega)).trans p1; have p2 := (hB.cell (p := ⟨w.heap.size + 4, 2, none⟩) (by simp; omega)).trans p2; have HB := Lib.hid (HB.out.trans (hB.mono hz)); have hz := Nat.le_trans hz hB.size; have hlt := Nat.lt_of_lt_of_le hlt hB.size; clear hn hB; have T1 := Lib.hid True.intro)
    | (go_at_call 105; (fail_if_success have z := T2); have z := T1; clear z; refine (rtwo_any _ _ _ _ _ _ _ HV_bl.out.1 HV_F.out.1 (by (repeat (first | rw [bothN_len] | rw [wordN_len] | rw [opN_len] | rw [deepN_len] | rw [groupN_len])); omega)).mono ?_; rintro e w7 ⟨A_G, c_G, rfl, hn, hB⟩; have HV_G := Lib.hid (hn.less hz); have HN := Lib.hid (HN.out.past hB); have HV_x := Lib.hid (HV_x.out.past hB); have g0 := (hB.cell (p := ⟨w.heap.size + 3, 0, none⟩) (by simp; omega)).trans g0; have g1 := (hB.cell (p := ⟨w.heap.size + 3, 1, none⟩) (by simp; omega)).trans g1; have g2 := (hB.cell (p := ⟨w.heap.size + 3, 2, none⟩) (by simp; omega)).trans g2; have p0 := (hB.cell (p := ⟨w.heap.size + 4, 0, none⟩) (by simp; omega)).trans p0; have p1 := (hB.cell (p := ⟨w.heap.size + 4, 1, none⟩) (by simp; omega)).trans p1; have p2 := (hB.cell (p := ⟨w.heap.size + 4, 2, none⟩) (by simp; omega)).trans p2; have HB := Lib.hid (HB.out.trans (hB.mono hz)); have hz := Nat.le_trans hz hB.size; have hlt := Nat.lt_of_lt_of_le hlt hB.size; clear hn hB; have T2 := Lib.hid True.intro)
    | (go_at_call 104; (fail_if_success have z := T3); have z := T2; clear z; refine (rdeep_any _ _ _ _ HV_G.out.1 (by (repeat (first | rw [bothN_len] | rw [wordN_len] | rw [opN_len] | rw [deepN_len] | rw [groupN_len])); omega)).mono ?_; rintro e w8 ⟨A_H, c_H, rfl, hn, hB⟩; have HV_H := Lib.hid (hn.less hz); have HN := Lib.hid (HN.out.past hB); have HV_x := Lib.hid (HV_x.out.past hB); have g0 := (hB.cell (p := ⟨w.heap.size + 3, 0, none⟩) (by simp; omega)).trans g0; have g1 := (hB.cell (p := ⟨w.heap.size + 3, 1, none⟩) (by simp; omega)).trans g1; have g2 := (hB.cell (p := ⟨w.heap.size + 3, 2, none⟩) (by simp; omega)).trans g2; have p0 := (hB.cell (p := ⟨w.heap.size + 4, 0, none⟩) (by simp; omega)).trans p0; have p1 := (hB.cell (p := ⟨w.heap.size + 4, 1, none⟩) (by simp; omega)).trans p1; have p2 := (hB.cell (p := ⟨w.heap.size + 4, 2, none⟩) (by simp; omega)).trans p2; have HB := Lib.hid (HB.out.trans (hB.mono hz)); have hz := Nat.le_trans hz hB.size; have hlt := Nat.lt_of_lt_of_le hlt hB.size; clear hn hB; have T3 := Lib.hid True.intro)
    | (go_at_call 105; (fail_if_success have z := T4); have z := T3; clear z; refine (rtwo_any _ _ _ _ _ _ _ HV_x.out.1 HV_H.out.1 (by (repeat (first | rw [bothN_len] | rw [wordN_len] | rw [opN_len] | rw [deepN_len] | rw [groupN_len])); omega)).mono ?_; rintro e w9 ⟨A_J, c_J, rfl, hn, hB⟩; have HV_J := Lib.hid (hn.less hz); have HN := Lib.hid (HN.out.past hB); have g0 := (hB.cell (p := ⟨w.heap.size + 3, 0, none⟩) (by simp; omega)).trans g0; have g1 := (hB.cell (p := ⟨w.heap.size + 3, 1, none⟩) (by simp; omega)).trans g1; have g2 := (hB.cell (p := ⟨w.heap.size + 3, 2, none⟩) (by simp; omega)).trans g2; have p0 := (hB.cell (p := ⟨w.heap.size + 4, 0, none⟩) (by simp; omega)).trans p0; have p1 := (hB.cell (p := ⟨w.heap.size + 4, 1, none⟩) (by simp; omega)).trans p1; have p2 := (hB.cell (p := ⟨w.heap.size + 4, 2, none⟩) (by simp; omega)).trans p2; have HB := Lib.hid (HB.out.trans (hB.mono hz)); have hz := Nat.le_trans hz hB.size; have hlt := Nat.lt_of_lt_of_le hlt hB.size; clear hn hB; have T4 := Lib.hid True.intro)
    | (go_at_call 104; (fail_if_success have z := T5); have z := T4; clear z; refine (rgroup_any _ _ _ _ HV_J.out.1 (by (repeat (first | rw [bothN_len] | rw [wordN_len] | rw [opN_len] | rw [deepN_len] | rw [groupN_len])); omega)).mono ?_; rintro e w10 ⟨A_Q, c_Q, rfl, hn, hB⟩; have HV_Q := Lib.hid (hn.less hz); have HN := Lib.hid (HN.out.past hB); have g0 := (hB.cell (p := ⟨w.heap.size + 3, 0, none⟩) (by simp; omega)).trans g0; have g1 := (hB.cell (p := ⟨w.heap.size + 3, 1, none⟩) (by simp; omega)).trans g1; have g2 := (hB.cell (p := ⟨w.heap.size + 3, 2, none⟩) (by simp; omega)).trans g2; have p0 := (hB.cell (p := ⟨w.heap.size + 4, 0, none⟩) (by simp; omega)).trans p0; have p1 := (hB.cell (p := ⟨w.heap.size + 4, 1, none⟩) (by simp; omega)).trans p1; have p2 := (hB.cell (p := ⟨w.heap.size + 4, 2, none⟩) (by simp; omega)).trans p2; have HB := Lib.hid (HB.out.trans (hB.mono hz)); have hz := Nat.le_trans hz hB.size; have hlt := Nat.lt_of_lt_of_le hlt hB.size; clear hn hB; have T5 := Lib.hid True.intro))
  go_wp2
  go_ret
  exact ⟨A_Q, c_Q, rfl, HV_Q.out, HB.out⟩

set_option maxRecDepth 100000 in
set_option maxHeartbeats 4000000 in
theorem rdoc_7 {A : Option Addr} {c : Nat} {l : List Nd} {i : Nat} {t : ByteArray} {n : Int} {w : World} (hN : Nds w w.heap.size A l) (hi : i < l.length) (hnd : l[i] = Nd.mk 7 t n) (h40 : l.length ≤ 40) (ht8 : t.size ≤ 8) {d : List Nd} (hdl : d.length ≤ 900) (HD : Hid (∀ w', Nds w' w'.heap.size A l → Calls Tryz.prog 62 #[.slice A l.length c, .int .i64 ((i : Int) + 1)] w' (NdTo d w'))) :
    Calls Tryz.prog 62 #[.slice A l.length c, .int .i64 (i : Nat)] w (NdTo (groupN (bothN (wordN (⟨#[108, 101, 116, 32]⟩ ++ t ++ ⟨#[32, 61]⟩)) (deepN (bothN (opN 2) (bothN d (wordN ⟨#[59]⟩)))))) w) := by
  have hsz : (⟨#[108, 101, 116, 32]⟩ ++ t ++ ⟨#[32, 61]⟩ : ByteArray).size ≤ maxLen := by
    simp only [ByteArray.size_append, maxLen]
    show 4 + t.size + 2 ≤ _
    omega
  have HSZ := Lib.hid hsz
  clear hsz
  have hcat0 : ∀ w', (Op.stringOp .add ⟨#[108, 101, 116, 32]⟩ t).run Tryz.prog w' = .ok (.string (⟨#[108, 101, 116, 32]⟩ ++ t)) w' := fun w' => run_string_add_sum w' _ t (by show 4 + t.size ≤ _; omega)
  have hcat1 : ∀ w', (Op.stringOp .add (⟨#[108, 101, 116, 32]⟩ ++ t) ⟨#[32, 61]⟩).run Tryz.prog w' = .ok (.string (⟨#[108, 101, 116, 32]⟩ ++ t ++ ⟨#[32, 61]⟩)) w' := fun w' => run_string_add_sum w' _ _ (by rw [ByteArray.size_append]; show 4 + t.size + 2 ≤ _; omega)
  obtain ⟨b, off, op, t', n', rfl, hb, hnd', hts, d1, d2, d3⟩ := hN.node (Below.refl _ _) hi
  rw [hnd] at hnd'
  cases hnd'
  have HR := Lib.hid (rfN_mk 7 t n w hN)
  have k1 : IntKind.i64.wrap ((i : Int) + 1) = (i : Int) + 1 := IntWalk.i64_in _ (by omega)
  clear hN hnd
  go_enter Tryz.func62, Tryz.ntmps62
  go_upto_region 6 with (fail)
  refine rm_named (fun wy => RfN (some ⟨b, off, none⟩) l 7 t n w wy) HR.out ?_
  clear HR d1 d2 d3
  rintro w1 hy
  obtain ⟨⟨y0, y1, y2⟩, ⟨g0, g1, g2⟩, ⟨p0, p1, p2⟩⟩ := hy.cells
  have HV_bl := Lib.hid hy.bl; have HV_so := Lib.hid hy.so; have HN := Lib.hid hy.nds; have HB := Lib.hid hy.bel; have hz := hy.bel.size
  have hlt : w.heap.size + 4 < w1.heap.size := (Array.getElem?_eq_some_iff.1 hy.dp).1
  have hob : (opN 2).length = 1 := rfl
  have hos : (opN 3).length = 1 := rfl
  clear hy
  go_wp2_with (first
    | (go_at_call 62; (fail_if_success have z := S0); refine (HD.out _ HN.out).mono ?_; rintro e w2 ⟨A_d, c_d, rfl, hn, hB⟩; have HV_bl := Lib.hid (HV_bl.out.past hB); have HV_d := Lib.hid (hn.less hz); have HN := Lib.hid (HN.out.past hB); have y0 := (hB.cell (p := ⟨w.heap.size, 0, none⟩) (by simp; omega)).trans y0; have y1 := (hB.cell (p := ⟨w.heap.size, 1, none⟩) (by simp; omega)).trans y1; have y2 := (hB.cell (p := ⟨w.heap.size, 2, none⟩) (by simp; omega)).trans y2; have g0 := (hB.cell (p := ⟨w.heap.size + 3, 0, none⟩) (by simp; omega)).trans g0; have g1 := (hB.cell (p := ⟨w.heap.size + 3, 1, none⟩) (by simp; omega)).trans g1; have g2 := (hB.cell (p := ⟨w.heap.size + 3, 2, none⟩) (by simp; omega)).trans g2; have p0 := (hB.cell (p := ⟨w.heap.size + 4, 0, none⟩) (by simp; omega)).trans p0; have p1 := (hB.cell (p := ⟨w.heap.size + 4, 1, none⟩) (by simp; omega)).trans p1; have p2 := (hB.cell (p := ⟨w.heap.size + 4, 2, none⟩) (by simp; omega)).trans p2; have HB := Lib.hid (HB.out.trans (hB.mono hz)); have hz := Nat.le_trans hz hB.size; have hlt := Nat.lt_of_lt_of_le hlt hB.size; clear hn hB; have S0 := Lib.hid True.intro)
    | (go_at_call 101; (fail_if_success have z := S1); have z := S0; clear z; refine (rword_any ⟨#[59]⟩ (by decide) _).mono ?_; rintro e w3 ⟨A_W, c_W, rfl, hn, hB⟩; have HV_bl := Lib.hid (HV_bl.out.past hB); have HV_W := Lib.hid (hn.less hz); have HN := Lib.hid (HN.out.past hB); have HV_d := Lib.hid (HV_d.out.past hB); have y0 := (hB.cell (p := ⟨w.heap.size, 0, none⟩) (by simp; omega)).trans y0; have y1 := (hB.cell (p := ⟨w.heap.size, 1, none⟩) (by simp; omega)).trans y1; have y2 := (hB.cell (p := ⟨w.heap.size, 2, none⟩) (by simp; omega)).trans y2; have g0 := (hB.cell (p := ⟨w.heap.size + 3, 0, none⟩) (by simp; omega)).trans g0; have g1 := (hB.cell (p := ⟨w.heap.size + 3, 1, none⟩) (by simp; omega)).trans g1; have g2 := (hB.cell (p := ⟨w.heap.size + 3, 2, none⟩) (by simp; omega)).trans g2; have p0 := (hB.cell (p := ⟨w.heap.size + 4, 0, none⟩) (by simp; omega)).trans p0; have p1 := (hB.cell (p := ⟨w.heap.size + 4, 1, none⟩) (by simp; omega)).trans p1; have p2 := (hB.cell (p := ⟨w.heap.size + 4, 2, none⟩) (by simp; omega)).trans p2; have HB := Lib.hid (HB.out.trans (hB.mono hz)); have hz := Nat.le_trans hz hB.size; have hlt := Nat.lt_of_lt_of_le hlt hB.size; clear hn hB; have S1 := Lib.hid True.intro)
    | (go_at_call 105; (fail_if_success have z := S2); have z := S1; clear z; refine (rtwo_any _ _ _ _ _ _ _ HV_d.out.1 HV_W.out.1 (by (repeat (first | rw [bothN_len] | rw [wordN_len] | rw [opN_len] | rw [deepN_len] | rw [groupN_len])); omega)).mono ?_; rintro e w4 ⟨A_X, c_X, rfl, hn, hB⟩; have HV_bl := Lib.hid (HV_bl.out.past hB); have HV_X := Lib.hid (hn.less hz); have HN := Lib.hid (HN.out.past hB); have y0 := (hB.cell (p := ⟨w.heap.size, 0, none⟩) (by simp; omega)).trans y0; have y1 := (hB.cell (p := ⟨w.heap.size, 1, none⟩) (by simp; omega)).trans y1; have y2 := (hB.cell (p := ⟨w.heap.size, 2, none⟩) (by simp; omega)).trans y2; have g0 := (hB.cell (p := ⟨w.heap.size + 3, 0, none⟩) (by simp; omega)).trans g0; have g1 := (hB.cell (p := ⟨w.heap.size + 3, 1, none⟩) (by simp; omega)).trans g1; have g2 := (hB.cell (p := ⟨w.heap.size + 3, 2, none⟩) (by simp; omega)).trans g2; have p0 := (hB.cell (p := ⟨w.heap.size + 4, 0, none⟩) (by simp; omega)).trans p0; have p1 := (hB.cell (p := ⟨w.heap.size + 4, 1, none⟩) (by simp; omega)).trans p1; have p2 := (hB.cell (p := ⟨w.heap.size + 4, 2, none⟩) (by simp; omega)).trans p2; have HB := Lib.hid (HB.out.trans (hB.mono hz)); have hz := Nat.le_trans hz hB.size; have hlt := Nat.lt_of_lt_of_le hlt hB.size; clear hn hB; have S2 := Lib.hid True.intro))
  go_region_held3 (fun w' => w'.cell? ⟨w.heap.size, 0, none⟩ = some (.int .i64 7) ∧ w'.cell? ⟨w.heap.size, 1, none⟩ = some (.string t) ∧ w'.cell? ⟨w.heap.size, 2, none⟩ = some (.int .i64 n) ∧ w'.cell? ⟨w.heap.size + 3, 0, none⟩ = some (.int .i64 8) ∧ w'.cell? ⟨w.heap.size + 3, 1, none⟩ = some (.string .empty) ∧ w'.cell? ⟨w.heap.size + 3, 2, none⟩ = some (.int .i64 0) ∧ w'.cell? ⟨w.heap.size + 4, 0, none⟩ = some (.int .i64 7) ∧ w'.cell? ⟨w.heap.size + 4, 1, none⟩ = some (.string .empty) ∧ w'.cell? ⟨w.heap.size + 4, 2, none⟩ = some (.int .i64 2))
    (exact ⟨y0, y1, y2, g0, g1, g2, p0, p1, p2⟩)
    (first
    | (go_at_call 101; (fail_if_success have z := T0); refine (rword_any _ HSZ.out _).mono ?_; rintro e w5 ⟨A_O, c_O, rfl, hn, hB⟩; have hB := past_drew hB; have HV_O := Lib.hid (hn.less hz); have HN := Lib.hid (HN.out.past hB); have HV_bl := Lib.hid (HV_bl.out.past hB); have HV_X := Lib.hid (HV_X.out.past hB); have y0 := (hB.cell (p := ⟨w.heap.size, 0, none⟩) (by simp; omega)).trans y0; have y1 := (hB.cell (p := ⟨w.heap.size, 1, none⟩) (by simp; omega)).trans y1; have y2 := (hB.cell (p := ⟨w.heap.size, 2, none⟩) (by simp; omega)).trans y2; have g0 := (hB.cell (p := ⟨w.heap.size + 3, 0, none⟩) (by simp; omega)).trans g0; have g1 := (hB.cell (p := ⟨w.heap.size + 3, 1, none⟩) (by simp; omega)).trans g1; have g2 := (hB.cell (p := ⟨w.heap.size + 3, 2, none⟩) (by simp; omega)).trans g2; have p0 := (hB.cell (p := ⟨w.heap.size + 4, 0, none⟩) (by simp; omega)).trans p0; have p1 := (hB.cell (p := ⟨w.heap.size + 4, 1, none⟩) (by simp; omega)).trans p1; have p2 := (hB.cell (p := ⟨w.heap.size + 4, 2, none⟩) (by simp; omega)).trans p2; have HB := Lib.hid (HB.out.trans (hB.mono hz)); have hz := Nat.le_trans hz hB.size; have hlt := Nat.lt_of_lt_of_le hlt hB.size; clear hn hB; have T0 := Lib.hid True.intro)
    | (go_at_call 105; (fail_if_success have z := T1); have z := T0; clear z; refine (rtwo_any _ _ _ _ _ _ _ HV_bl.out.1 HV_X.out.1 (by (repeat (first | rw [bothN_len] | rw [wordN_len] | rw [opN_len] | rw [deepN_len] | rw [groupN_len])); omega)).mono ?_; rintro e w6 ⟨A_F, c_F, rfl, hn, hB⟩; have HV_F := Lib.hid (hn.less hz); have HN := Lib.hid (HN.out.past hB); have HV_O := Lib.hid (HV_O.out.past hB); have y0 := (hB.cell (p := ⟨w.heap.size, 0, none⟩) (by simp; omega)).trans y0; have y1 := (hB.cell (p := ⟨w.heap.size, 1, none⟩) (by simp; omega)).trans y1; have y2 := (hB.cell (p := ⟨w.heap.size, 2, none⟩) (by simp; omega)).trans y2; have g0 := (hB.cell (p := ⟨w.heap.size + 3, 0, none⟩) (by simp; omega)).trans g0; have g1 := (hB.cell (p := ⟨w.heap.size + 3, 1, none⟩) (by simp; omega)).trans g1; have g2 := (hB.cell (p := ⟨w.heap.size + 3, 2, none⟩) (by simp; omega)).trans g2; have p0 := (hB.cell (p := ⟨w.heap.size + 4, 0, none⟩) (by simp; omega)).trans p0; have p1 := (hB.cell (p := ⟨w.heap.size + 4, 1, none⟩) (by simp; omega)).trans p1; have p2 := (hB.cell (p := ⟨w.heap.size + 4, 2, none⟩) (by simp; omega)).trans p2; have HB := Lib.hid (HB.out.trans (hB.mono hz)); have hz := Nat.le_trans hz hB.size; have hlt := Nat.lt_of_lt_of_le hlt hB.size; clear hn hB; have T1 := Lib.hid True.intro)
    | (go_at_call 104; (fail_if_success have z := T2); have z := T1; clear z; refine (rdeep_any _ _ _ _ HV_F.out.1 (by (repeat (first | rw [bothN_len] | rw [wordN_len] | rw [opN_len] | rw [deepN_len] | rw [groupN_len])); omega)).mono ?_; rintro e w7 ⟨A_G, c_G, rfl, hn, hB⟩; have HV_G := Lib.hid (hn.less hz); have HN := Lib.hid (HN.out.past hB); have HV_O := Lib.hid (HV_O.out.past hB); have y0 := (hB.cell (p := ⟨w.heap.size, 0, none⟩) (by simp; omega)).trans y0; have y1 := (hB.cell (p := ⟨w.heap.size, 1, none⟩) (by simp; omega)).trans y1; have y2 := (hB.cell (p := ⟨w.heap.size, 2, none⟩) (by simp; omega)).trans y2; have g0 := (hB.cell (p := ⟨w.heap.size + 3, 0, none⟩) (by simp; omega)).trans g0; have g1 := (hB.cell (p := ⟨w.heap.size + 3, 1, none⟩) (by simp; omega)).trans g1; have g2 := (hB.cell (p := ⟨w.heap.size + 3, 2, none⟩) (by simp; omega)).trans g2; have p0 := (hB.cell (p := ⟨w.heap.size + 4, 0, none⟩) (by simp; omega)).trans p0; have p1 := (hB.cell (p := ⟨w.heap.size + 4, 1, none⟩) (by simp; omega)).trans p1; have p2 := (hB.cell (p := ⟨w.heap.size + 4, 2, none⟩) (by simp; omega)).trans p2; have HB := Lib.hid (HB.out.trans (hB.mono hz)); have hz := Nat.le_trans hz hB.size; have hlt := Nat.lt_of_lt_of_le hlt hB.size; clear hn hB; have T2 := Lib.hid True.intro)
    | (go_at_call 105; (fail_if_success have z := T3); have z := T2; clear z; refine (rtwo_any _ _ _ _ _ _ _ HV_O.out.1 HV_G.out.1 (by (repeat (first | rw [bothN_len] | rw [wordN_len] | rw [opN_len] | rw [deepN_len] | rw [groupN_len])); omega)).mono ?_; rintro e w8 ⟨A_J, c_J, rfl, hn, hB⟩; have HV_J := Lib.hid (hn.less hz); have HN := Lib.hid (HN.out.past hB); have y0 := (hB.cell (p := ⟨w.heap.size, 0, none⟩) (by simp; omega)).trans y0; have y1 := (hB.cell (p := ⟨w.heap.size, 1, none⟩) (by simp; omega)).trans y1; have y2 := (hB.cell (p := ⟨w.heap.size, 2, none⟩) (by simp; omega)).trans y2; have g0 := (hB.cell (p := ⟨w.heap.size + 3, 0, none⟩) (by simp; omega)).trans g0; have g1 := (hB.cell (p := ⟨w.heap.size + 3, 1, none⟩) (by simp; omega)).trans g1; have g2 := (hB.cell (p := ⟨w.heap.size + 3, 2, none⟩) (by simp; omega)).trans g2; have p0 := (hB.cell (p := ⟨w.heap.size + 4, 0, none⟩) (by simp; omega)).trans p0; have p1 := (hB.cell (p := ⟨w.heap.size + 4, 1, none⟩) (by simp; omega)).trans p1; have p2 := (hB.cell (p := ⟨w.heap.size + 4, 2, none⟩) (by simp; omega)).trans p2; have HB := Lib.hid (HB.out.trans (hB.mono hz)); have hz := Nat.le_trans hz hB.size; have hlt := Nat.lt_of_lt_of_le hlt hB.size; clear hn hB; have T3 := Lib.hid True.intro)
    | (go_at_call 104; (fail_if_success have z := T4); have z := T3; clear z; refine (rgroup_any _ _ _ _ HV_J.out.1 (by (repeat (first | rw [bothN_len] | rw [wordN_len] | rw [opN_len] | rw [deepN_len] | rw [groupN_len])); omega)).mono ?_; rintro e w9 ⟨A_Q, c_Q, rfl, hn, hB⟩; have HV_Q := Lib.hid (hn.less hz); have HN := Lib.hid (HN.out.past hB); have y0 := (hB.cell (p := ⟨w.heap.size, 0, none⟩) (by simp; omega)).trans y0; have y1 := (hB.cell (p := ⟨w.heap.size, 1, none⟩) (by simp; omega)).trans y1; have y2 := (hB.cell (p := ⟨w.heap.size, 2, none⟩) (by simp; omega)).trans y2; have g0 := (hB.cell (p := ⟨w.heap.size + 3, 0, none⟩) (by simp; omega)).trans g0; have g1 := (hB.cell (p := ⟨w.heap.size + 3, 1, none⟩) (by simp; omega)).trans g1; have g2 := (hB.cell (p := ⟨w.heap.size + 3, 2, none⟩) (by simp; omega)).trans g2; have p0 := (hB.cell (p := ⟨w.heap.size + 4, 0, none⟩) (by simp; omega)).trans p0; have p1 := (hB.cell (p := ⟨w.heap.size + 4, 1, none⟩) (by simp; omega)).trans p1; have p2 := (hB.cell (p := ⟨w.heap.size + 4, 2, none⟩) (by simp; omega)).trans p2; have HB := Lib.hid (HB.out.trans (hB.mono hz)); have hz := Nat.le_trans hz hB.size; have hlt := Nat.lt_of_lt_of_le hlt hB.size; clear hn hB; have T4 := Lib.hid True.intro))
  go_wp2
  go_ret
  exact ⟨A_Q, c_Q, rfl, HV_Q.out, HB.out⟩

set_option maxRecDepth 100000 in
set_option maxHeartbeats 4000000 in
theorem rdoc_8 {A : Option Addr} {c : Nat} {l : List Nd} {i : Nat} {t : ByteArray} {n : Int} {w : World} (hN : Nds w w.heap.size A l) (hi : i < l.length) (hnd : l[i] = Nd.mk 8 t n) (h40 : l.length ≤ 40) {d : List Nd} (hdl : d.length ≤ 900) (HD : Hid (∀ w', Nds w' w'.heap.size A l → Calls Tryz.prog 62 #[.slice A l.length c, .int .i64 ((i : Int) + 1)] w' (NdTo d w'))) :
    Calls Tryz.prog 62 #[.slice A l.length c, .int .i64 (i : Nat)] w (NdTo (bothN d (wordN ⟨#[59]⟩)) w) := by
  obtain ⟨b, off, op, t', n', rfl, hb, hnd', hts, d1, d2, d3⟩ := hN.node (Below.refl _ _) hi
  rw [hnd] at hnd'
  cases hnd'
  have HR := Lib.hid (rfN_mk 8 t n w hN)
  have k1 : IntKind.i64.wrap ((i : Int) + 1) = (i : Int) + 1 := IntWalk.i64_in _ (by omega)
  clear hN hnd
  go_enter Tryz.func62, Tryz.ntmps62
  go_upto_region 6 with (fail)
  refine rm_named (fun wy => RfN (some ⟨b, off, none⟩) l 8 t n w wy) HR.out ?_
  clear HR d1 d2 d3
  rintro w1 hy
  obtain ⟨⟨y0, y1, y2⟩, ⟨g0, g1, g2⟩, ⟨p0, p1, p2⟩⟩ := hy.cells
  have HV_bl := Lib.hid hy.bl; have HV_so := Lib.hid hy.so; have HN := Lib.hid hy.nds; have HB := Lib.hid hy.bel; have hz := hy.bel.size
  have hlt : w.heap.size + 4 < w1.heap.size := (Array.getElem?_eq_some_iff.1 hy.dp).1
  have hob : (opN 2).length = 1 := rfl
  have hos : (opN 3).length = 1 := rfl
  clear hy
  go_wp2_with (first
    | (go_at_call 62; (fail_if_success have z := S0); refine (HD.out _ HN.out).mono ?_; rintro e w2 ⟨A_d, c_d, rfl, hn, hB⟩; have HV_d := Lib.hid (hn.less hz); have HN := Lib.hid (HN.out.past hB); have HB := Lib.hid (HB.out.trans (hB.mono hz)); have hz := Nat.le_trans hz hB.size; clear hn hB; have S0 := Lib.hid True.intro)
    | (go_at_call 101; (fail_if_success have z := S1); have z := S0; clear z; refine (rword_any ⟨#[59]⟩ (by decide) _).mono ?_; rintro e w3 ⟨A_W, c_W, rfl, hn, hB⟩; have HV_W := Lib.hid (hn.less hz); have HN := Lib.hid (HN.out.past hB); have HV_d := Lib.hid (HV_d.out.past hB); have HB := Lib.hid (HB.out.trans (hB.mono hz)); have hz := Nat.le_trans hz hB.size; clear hn hB; have S1 := Lib.hid True.intro)
    | (go_at_call 105; (fail_if_success have z := S2); have z := S1; clear z; refine (rtwo_any _ _ _ _ _ _ _ HV_d.out.1 HV_W.out.1 (by (repeat (first | rw [bothN_len] | rw [wordN_len] | rw [opN_len] | rw [deepN_len] | rw [groupN_len])); omega)).mono ?_; rintro e w4 ⟨A_Q, c_Q, rfl, hn, hB⟩; have HV_Q := Lib.hid (hn.less hz); have HN := Lib.hid (HN.out.past hB); have HB := Lib.hid (HB.out.trans (hB.mono hz)); have hz := Nat.le_trans hz hB.size; clear hn hB; have S2 := Lib.hid True.intro))
  go_ret
  exact ⟨A_Q, c_Q, rfl, HV_Q.out, HB.out⟩

set_option maxRecDepth 100000 in
set_option maxHeartbeats 4000000 in
theorem rdoc_30 {A : Option Addr} {c : Nat} {l : List Nd} {i : Nat} {t : ByteArray} {n : Int} {w : World} (hN : Nds w w.heap.size A l) (hi : i < l.length) (hnd : l[i] = Nd.mk 3 t n) (h40 : l.length ≤ 40) (ht8 : t.size ≤ 8) (hn0 : n = 0) :
    Calls Tryz.prog 62 #[.slice A l.length c, .int .i64 (i : Nat)] w (NdTo (wordN ((t ++ ⟨#[40]⟩) ++ ⟨#[41]⟩)) w) := by
  subst hn0
  have hsz : ((t ++ ⟨#[40]⟩) ++ ⟨#[41]⟩ : ByteArray).size ≤ maxLen := by
    simp only [ByteArray.size_append, maxLen]
    show t.size + 1 + 1 ≤ _
    omega
  have HSZ := Lib.hid hsz
  clear hsz
  obtain ⟨b, off, op, t', n', rfl, hb, hnd', hts, d1, d2, d3⟩ := hN.node (Below.refl _ _) hi
  rw [hnd] at hnd'
  cases hnd'
  have HR := Lib.hid (rfN_mk 3 t 0 w hN)
  have k1 : IntKind.i64.wrap ((i : Int) + 1) = (i : Int) + 1 := IntWalk.i64_in _ (by omega)
  clear hN hnd
  go_enter Tryz.func62, Tryz.ntmps62
  go_upto_region 6 with (fail)
  refine rm_named (fun wy => RfN (some ⟨b, off, none⟩) l 3 t 0 w wy) HR.out ?_
  clear HR d1 d2 d3
  rintro w1 hy
  obtain ⟨⟨y0, y1, y2⟩, ⟨g0, g1, g2⟩, ⟨p0, p1, p2⟩⟩ := hy.cells
  have HV_bl := Lib.hid hy.bl; have HV_so := Lib.hid hy.so; have HN := Lib.hid hy.nds; have HB := Lib.hid hy.bel; have hz := hy.bel.size
  have hlt : w.heap.size + 4 < w1.heap.size := (Array.getElem?_eq_some_iff.1 hy.dp).1
  have hob : (opN 2).length = 1 := rfl
  have hos : (opN 3).length = 1 := rfl
  clear hy
  go_wp2_with (go_at_call 101; refine (rword_any _ HSZ.out _).mono ?_; rintro e w4 ⟨A_Q, c_Q, rfl, hn, hB⟩; have HV_Q := Lib.hid (hn.less hz); have HB := Lib.hid (HB.out.trans (hB.mono hz)); clear hn hB)
  go_ret
  exact ⟨A_Q, c_Q, rfl, HV_Q.out, HB.out⟩

set_option maxRecDepth 100000 in
set_option maxHeartbeats 4000000 in
theorem rdoc_31 {A : Option Addr} {c : Nat} {l : List Nd} {i : Nat} {t : ByteArray} {n : Int} {w : World} (hN : Nds w w.heap.size A l) (hi : i < l.length) (hnd : l[i] = Nd.mk 3 t n) (h40 : l.length ≤ 40) (ht8 : t.size ≤ 8) (hn1 : 1 ≤ n) (hn6 : n ≤ 6) {K : List Nd} (hK : K.length ≤ 900) (HK : Hid (∀ w', Nds w' w'.heap.size A l → Calls Tryz.prog 106 #[.slice A l.length c, .int .i64 ((i : Int) + 1), .int .i64 n] w' (NdTo K w'))) :
    Calls Tryz.prog 62 #[.slice A l.length c, .int .i64 (i : Nat)] w (NdTo (groupN (bothN (wordN (t ++ ⟨#[40]⟩)) (bothN (deepN (bothN (opN 3) K)) (bothN (opN 3) (wordN ⟨#[41]⟩))))) w) := by
  have hn0 : (n == 0) = false := by simp; omega
  have hsz : ((t ++ ⟨#[40]⟩) : ByteArray).size ≤ maxLen := (by rw [ByteArray.size_append]; simp only [maxLen]; show t.size + 1 ≤ _; omega)
  have HSZ := Lib.hid hsz
  clear hsz
  obtain ⟨b, off, op, t', n', rfl, hb, hnd', hts, d1, d2, d3⟩ := hN.node (Below.refl _ _) hi
  rw [hnd] at hnd'
  cases hnd'
  have HR := Lib.hid (rfN_mk 3 t n w hN)
  have k1 : IntKind.i64.wrap ((i : Int) + 1) = (i : Int) + 1 := IntWalk.i64_in _ (by omega)
  clear hN hnd
  go_enter Tryz.func62, Tryz.ntmps62
  go_upto_region 6 with (fail)
  refine rm_named (fun wy => RfN (some ⟨b, off, none⟩) l 3 t n w wy) HR.out ?_
  clear HR d1 d2 d3
  rintro w1 hy
  obtain ⟨⟨y0, y1, y2⟩, ⟨g0, g1, g2⟩, ⟨p0, p1, p2⟩⟩ := hy.cells
  have HV_bl := Lib.hid hy.bl; have HV_so := Lib.hid hy.so; have HN := Lib.hid hy.nds; have HB := Lib.hid hy.bel; have hz := hy.bel.size
  have hlt : w.heap.size + 4 < w1.heap.size := (Array.getElem?_eq_some_iff.1 hy.dp).1
  have hob : (opN 2).length = 1 := rfl
  have hos : (opN 3).length = 1 := rfl
  clear hy
  go_wp2_with fail
  go_region_held3 (fun w' => w'.cell? ⟨w.heap.size, 0, none⟩ = some (.int .i64 3) ∧ w'.cell? ⟨w.heap.size, 1, none⟩ = some (.string t) ∧ w'.cell? ⟨w.heap.size, 2, none⟩ = some (.int .i64 n) ∧ w'.cell? ⟨w.heap.size + 4, 0, none⟩ = some (.int .i64 7) ∧ w'.cell? ⟨w.heap.size + 4, 1, none⟩ = some (.string .empty) ∧ w'.cell? ⟨w.heap.size + 4, 2, none⟩ = some (.int .i64 2))
    (exact ⟨y0, y1, y2, p0, p1, p2⟩)
    (first
    | (go_at_call 106; (fail_if_success have z := S0); refine (HK.out _ (HN.out.past (Below.refl _ _).drew)).mono ?_; rintro e w2 ⟨A_K, c_K, rfl, hn, hB⟩; have hB := past_drew hB; have HV_K := Lib.hid (hn.less hz); have HN := Lib.hid (HN.out.past hB); have HV_so := Lib.hid (HV_so.out.past hB); have y0 := (hB.cell (p := ⟨w.heap.size, 0, none⟩) (by simp; omega)).trans y0; have y1 := (hB.cell (p := ⟨w.heap.size, 1, none⟩) (by simp; omega)).trans y1; have y2 := (hB.cell (p := ⟨w.heap.size, 2, none⟩) (by simp; omega)).trans y2; have g0 := (hB.cell (p := ⟨w.heap.size + 3, 0, none⟩) (by simp; omega)).trans g0; have g1 := (hB.cell (p := ⟨w.heap.size + 3, 1, none⟩) (by simp; omega)).trans g1; have g2 := (hB.cell (p := ⟨w.heap.size + 3, 2, none⟩) (by simp; omega)).trans g2; have p0 := (hB.cell (p := ⟨w.heap.size + 4, 0, none⟩) (by simp; omega)).trans p0; have p1 := (hB.cell (p := ⟨w.heap.size + 4, 1, none⟩) (by simp; omega)).trans p1; have p2 := (hB.cell (p := ⟨w.heap.size + 4, 2, none⟩) (by simp; omega)).trans p2; have HB := Lib.hid (HB.out.trans (hB.mono hz)); have hz := Nat.le_trans hz hB.size; have hlt := Nat.lt_of_lt_of_le hlt hB.size; clear hn hB; have S0 := Lib.hid True.intro)
    | (go_at_call 105; (fail_if_success have z := S1); have z := S0; clear z; refine (rtwo_any _ _ _ _ _ _ _ HV_so.out.1 HV_K.out.1 (by (repeat (first | rw [bothN_len] | rw [wordN_len] | rw [opN_len] | rw [deepN_len] | rw [groupN_len])); omega)).mono ?_; rintro e w3 ⟨A_F, c_F, rfl, hn, hB⟩; have HV_F := Lib.hid (hn.less hz); have HV_so := Lib.hid (HV_so.out.past hB); have HN := Lib.hid (HN.out.past hB); have y0 := (hB.cell (p := ⟨w.heap.size, 0, none⟩) (by simp; omega)).trans y0; have y1 := (hB.cell (p := ⟨w.heap.size, 1, none⟩) (by simp; omega)).trans y1; have y2 := (hB.cell (p := ⟨w.heap.size, 2, none⟩) (by simp; omega)).trans y2; have g0 := (hB.cell (p := ⟨w.heap.size + 3, 0, none⟩) (by simp; omega)).trans g0; have g1 := (hB.cell (p := ⟨w.heap.size + 3, 1, none⟩) (by simp; omega)).trans g1; have g2 := (hB.cell (p := ⟨w.heap.size + 3, 2, none⟩) (by simp; omega)).trans g2; have p0 := (hB.cell (p := ⟨w.heap.size + 4, 0, none⟩) (by simp; omega)).trans p0; have p1 := (hB.cell (p := ⟨w.heap.size + 4, 1, none⟩) (by simp; omega)).trans p1; have p2 := (hB.cell (p := ⟨w.heap.size + 4, 2, none⟩) (by simp; omega)).trans p2; have HB := Lib.hid (HB.out.trans (hB.mono hz)); have hz := Nat.le_trans hz hB.size; have hlt := Nat.lt_of_lt_of_le hlt hB.size; clear hn hB; have S1 := Lib.hid True.intro)
    | (go_at_call 104; (fail_if_success have z := S2); have z := S1; clear z; refine (rdeep_any _ _ _ _ HV_F.out.1 (by (repeat (first | rw [bothN_len] | rw [wordN_len] | rw [opN_len] | rw [deepN_len] | rw [groupN_len])); omega)).mono ?_; rintro e w4 ⟨A_G, c_G, rfl, hn, hB⟩; have HV_G := Lib.hid (hn.less hz); have HV_so := Lib.hid (HV_so.out.past hB); have HN := Lib.hid (HN.out.past hB); have y0 := (hB.cell (p := ⟨w.heap.size, 0, none⟩) (by simp; omega)).trans y0; have y1 := (hB.cell (p := ⟨w.heap.size, 1, none⟩) (by simp; omega)).trans y1; have y2 := (hB.cell (p := ⟨w.heap.size, 2, none⟩) (by simp; omega)).trans y2; have g0 := (hB.cell (p := ⟨w.heap.size + 3, 0, none⟩) (by simp; omega)).trans g0; have g1 := (hB.cell (p := ⟨w.heap.size + 3, 1, none⟩) (by simp; omega)).trans g1; have g2 := (hB.cell (p := ⟨w.heap.size + 3, 2, none⟩) (by simp; omega)).trans g2; have p0 := (hB.cell (p := ⟨w.heap.size + 4, 0, none⟩) (by simp; omega)).trans p0; have p1 := (hB.cell (p := ⟨w.heap.size + 4, 1, none⟩) (by simp; omega)).trans p1; have p2 := (hB.cell (p := ⟨w.heap.size + 4, 2, none⟩) (by simp; omega)).trans p2; have HB := Lib.hid (HB.out.trans (hB.mono hz)); have hz := Nat.le_trans hz hB.size; have hlt := Nat.lt_of_lt_of_le hlt hB.size; clear hn hB; have S2 := Lib.hid True.intro))
  go_wp2_with fail
  go_region_held3 (fun w' => w'.cell? ⟨w.heap.size + 3, 0, none⟩ = some (.int .i64 8) ∧ w'.cell? ⟨w.heap.size + 3, 1, none⟩ = some (.string .empty) ∧ w'.cell? ⟨w.heap.size + 3, 2, none⟩ = some (.int .i64 0))
    (exact ⟨g0, g1, g2⟩)
    (first
    | (go_at_call 101; (fail_if_success have z := T0); refine (rword_any _ HSZ.out _).mono ?_; rintro e w6 ⟨A_O, c_O, rfl, hn, hB⟩; have hB := past_drew hB; have HV_O := Lib.hid (hn.less hz); have HN := Lib.hid (HN.out.past hB); have HV_so := Lib.hid (HV_so.out.past hB); have HV_G := Lib.hid (HV_G.out.past hB); have g0 := (hB.cell (p := ⟨w.heap.size + 3, 0, none⟩) (by simp; omega)).trans g0; have g1 := (hB.cell (p := ⟨w.heap.size + 3, 1, none⟩) (by simp; omega)).trans g1; have g2 := (hB.cell (p := ⟨w.heap.size + 3, 2, none⟩) (by simp; omega)).trans g2; have HB := Lib.hid (HB.out.trans (hB.mono hz)); have hz := Nat.le_trans hz hB.size; have hlt := Nat.lt_of_lt_of_le hlt hB.size; clear hn hB; have T0 := Lib.hid True.intro)
    | (go_at_call 101; (fail_if_success have z := T1); have z := T0; clear z; refine (rword_any ⟨#[41]⟩ (by decide) _).mono ?_; rintro e w7 ⟨A_E, c_E, rfl, hn, hB⟩; have HV_E := Lib.hid (hn.less hz); have HN := Lib.hid (HN.out.past hB); have HV_so := Lib.hid (HV_so.out.past hB); have HV_G := Lib.hid (HV_G.out.past hB); have HV_O := Lib.hid (HV_O.out.past hB); have g0 := (hB.cell (p := ⟨w.heap.size + 3, 0, none⟩) (by simp; omega)).trans g0; have g1 := (hB.cell (p := ⟨w.heap.size + 3, 1, none⟩) (by simp; omega)).trans g1; have g2 := (hB.cell (p := ⟨w.heap.size + 3, 2, none⟩) (by simp; omega)).trans g2; have HB := Lib.hid (HB.out.trans (hB.mono hz)); have hz := Nat.le_trans hz hB.size; have hlt := Nat.lt_of_lt_of_le hlt hB.size; clear hn hB; have T1 := Lib.hid True.intro)
    | (go_at_call 105; (fail_if_success have z := T2); have z := T1; clear z; refine (rtwo_any _ _ _ _ _ _ _ HV_so.out.1 HV_E.out.1 (by (repeat (first | rw [bothN_len] | rw [wordN_len] | rw [opN_len] | rw [deepN_len] | rw [groupN_len])); omega)).mono ?_; rintro e w8 ⟨A_H, c_H, rfl, hn, hB⟩; have HV_H := Lib.hid (hn.less hz); have HN := Lib.hid (HN.out.past hB); have HV_G := Lib.hid (HV_G.out.past hB); have HV_O := Lib.hid (HV_O.out.past hB); have g0 := (hB.cell (p := ⟨w.heap.size + 3, 0, none⟩) (by simp; omega)).trans g0; have g1 := (hB.cell (p := ⟨w.heap.size + 3, 1, none⟩) (by simp; omega)).trans g1; have g2 := (hB.cell (p := ⟨w.heap.size + 3, 2, none⟩) (by simp; omega)).trans g2; have HB := Lib.hid (HB.out.trans (hB.mono hz)); have hz := Nat.le_trans hz hB.size; have hlt := Nat.lt_of_lt_of_le hlt hB.size; clear hn hB; have T2 := Lib.hid True.intro)
    | (go_at_call 105; (fail_if_success have z := T3); have z := T2; clear z; refine (rtwo_any _ _ _ _ _ _ _ HV_G.out.1 HV_H.out.1 (by (repeat (first | rw [bothN_len] | rw [wordN_len] | rw [opN_len] | rw [deepN_len] | rw [groupN_len])); omega)).mono ?_; rintro e w9 ⟨A_I, c_I, rfl, hn, hB⟩; have HV_I := Lib.hid (hn.less hz); have HN := Lib.hid (HN.out.past hB); have HV_O := Lib.hid (HV_O.out.past hB); have g0 := (hB.cell (p := ⟨w.heap.size + 3, 0, none⟩) (by simp; omega)).trans g0; have g1 := (hB.cell (p := ⟨w.heap.size + 3, 1, none⟩) (by simp; omega)).trans g1; have g2 := (hB.cell (p := ⟨w.heap.size + 3, 2, none⟩) (by simp; omega)).trans g2; have HB := Lib.hid (HB.out.trans (hB.mono hz)); have hz := Nat.le_trans hz hB.size; have hlt := Nat.lt_of_lt_of_le hlt hB.size; clear hn hB; have T3 := Lib.hid True.intro)
    | (go_at_call 105; (fail_if_success have z := T4); have z := T3; clear z; refine (rtwo_any _ _ _ _ _ _ _ HV_O.out.1 HV_I.out.1 (by (repeat (first | rw [bothN_len] | rw [wordN_len] | rw [opN_len] | rw [deepN_len] | rw [groupN_len])); omega)).mono ?_; rintro e w10 ⟨A_J, c_J, rfl, hn, hB⟩; have HV_J := Lib.hid (hn.less hz); have HN := Lib.hid (HN.out.past hB); have g0 := (hB.cell (p := ⟨w.heap.size + 3, 0, none⟩) (by simp; omega)).trans g0; have g1 := (hB.cell (p := ⟨w.heap.size + 3, 1, none⟩) (by simp; omega)).trans g1; have g2 := (hB.cell (p := ⟨w.heap.size + 3, 2, none⟩) (by simp; omega)).trans g2; have HB := Lib.hid (HB.out.trans (hB.mono hz)); have hz := Nat.le_trans hz hB.size; have hlt := Nat.lt_of_lt_of_le hlt hB.size; clear hn hB; have T4 := Lib.hid True.intro)
    | (go_at_call 104; (fail_if_success have z := T5); have z := T4; clear z; refine (rgroup_any _ _ _ _ HV_J.out.1 (by (repeat (first | rw [bothN_len] | rw [wordN_len] | rw [opN_len] | rw [deepN_len] | rw [groupN_len])); omega)).mono ?_; rintro e w11 ⟨A_Q, c_Q, rfl, hn, hB⟩; have HV_Q := Lib.hid (hn.less hz); have HN := Lib.hid (HN.out.past hB); have g0 := (hB.cell (p := ⟨w.heap.size + 3, 0, none⟩) (by simp; omega)).trans g0; have g1 := (hB.cell (p := ⟨w.heap.size + 3, 1, none⟩) (by simp; omega)).trans g1; have g2 := (hB.cell (p := ⟨w.heap.size + 3, 2, none⟩) (by simp; omega)).trans g2; have HB := Lib.hid (HB.out.trans (hB.mono hz)); have hz := Nat.le_trans hz hB.size; have hlt := Nat.lt_of_lt_of_le hlt hB.size; clear hn hB; have T5 := Lib.hid True.intro))
  go_wp2
  go_ret
  exact ⟨A_Q, c_Q, rfl, HV_Q.out, HB.out⟩

set_option maxRecDepth 100000 in
set_option maxHeartbeats 4000000 in
theorem rdoc_40 {A : Option Addr} {c : Nat} {l : List Nd} {i : Nat} {t : ByteArray} {n : Int} {w : World} (hN : Nds w w.heap.size A l) (hi : i < l.length) (hnd : l[i] = Nd.mk 4 t n) (h40 : l.length ≤ 40) (hn0 : n = 0) :
    Calls Tryz.prog 62 #[.slice A l.length c, .int .i64 (i : Nat)] w (NdTo (wordN (⟨#[91]⟩ ++ ⟨#[93]⟩)) w) := by
  subst hn0
  have hsz : (⟨#[91]⟩ ++ ⟨#[93]⟩ : ByteArray).size ≤ maxLen := by
    decide
  have HSZ := Lib.hid hsz
  clear hsz
  obtain ⟨b, off, op, t', n', rfl, hb, hnd', hts, d1, d2, d3⟩ := hN.node (Below.refl _ _) hi
  rw [hnd] at hnd'
  cases hnd'
  have HR := Lib.hid (rfN_mk 4 t 0 w hN)
  have k1 : IntKind.i64.wrap ((i : Int) + 1) = (i : Int) + 1 := IntWalk.i64_in _ (by omega)
  clear hN hnd
  go_enter Tryz.func62, Tryz.ntmps62
  go_upto_region 6 with (fail)
  refine rm_named (fun wy => RfN (some ⟨b, off, none⟩) l 4 t 0 w wy) HR.out ?_
  clear HR d1 d2 d3
  rintro w1 hy
  obtain ⟨⟨y0, y1, y2⟩, ⟨g0, g1, g2⟩, ⟨p0, p1, p2⟩⟩ := hy.cells
  have HV_bl := Lib.hid hy.bl; have HV_so := Lib.hid hy.so; have HN := Lib.hid hy.nds; have HB := Lib.hid hy.bel; have hz := hy.bel.size
  have hlt : w.heap.size + 4 < w1.heap.size := (Array.getElem?_eq_some_iff.1 hy.dp).1
  have hob : (opN 2).length = 1 := rfl
  have hos : (opN 3).length = 1 := rfl
  clear hy
  go_wp2_with (go_at_call 101; refine (rword_any _ HSZ.out _).mono ?_; rintro e w4 ⟨A_Q, c_Q, rfl, hn, hB⟩; have HV_Q := Lib.hid (hn.less hz); have HB := Lib.hid (HB.out.trans (hB.mono hz)); clear hn hB)
  go_ret
  exact ⟨A_Q, c_Q, rfl, HV_Q.out, HB.out⟩

set_option maxRecDepth 100000 in
set_option maxHeartbeats 4000000 in
theorem rdoc_41 {A : Option Addr} {c : Nat} {l : List Nd} {i : Nat} {t : ByteArray} {n : Int} {w : World} (hN : Nds w w.heap.size A l) (hi : i < l.length) (hnd : l[i] = Nd.mk 4 t n) (h40 : l.length ≤ 40) (hn1 : 1 ≤ n) (hn6 : n ≤ 6) {K : List Nd} (hK : K.length ≤ 900) (HK : Hid (∀ w', Nds w' w'.heap.size A l → Calls Tryz.prog 106 #[.slice A l.length c, .int .i64 ((i : Int) + 1), .int .i64 n] w' (NdTo K w'))) :
    Calls Tryz.prog 62 #[.slice A l.length c, .int .i64 (i : Nat)] w (NdTo (groupN (bothN (wordN ⟨#[91]⟩) (bothN (deepN (bothN (opN 3) K)) (bothN (opN 3) (wordN ⟨#[93]⟩))))) w) := by
  have hn0 : (n == 0) = false := by simp; omega
  have hsz : (⟨#[91]⟩ : ByteArray).size ≤ maxLen := (by decide)
  have HSZ := Lib.hid hsz
  clear hsz
  obtain ⟨b, off, op, t', n', rfl, hb, hnd', hts, d1, d2, d3⟩ := hN.node (Below.refl _ _) hi
  rw [hnd] at hnd'
  cases hnd'
  have HR := Lib.hid (rfN_mk 4 t n w hN)
  have k1 : IntKind.i64.wrap ((i : Int) + 1) = (i : Int) + 1 := IntWalk.i64_in _ (by omega)
  clear hN hnd
  go_enter Tryz.func62, Tryz.ntmps62
  go_upto_region 6 with (fail)
  refine rm_named (fun wy => RfN (some ⟨b, off, none⟩) l 4 t n w wy) HR.out ?_
  clear HR d1 d2 d3
  rintro w1 hy
  obtain ⟨⟨y0, y1, y2⟩, ⟨g0, g1, g2⟩, ⟨p0, p1, p2⟩⟩ := hy.cells
  have HV_bl := Lib.hid hy.bl; have HV_so := Lib.hid hy.so; have HN := Lib.hid hy.nds; have HB := Lib.hid hy.bel; have hz := hy.bel.size
  have hlt : w.heap.size + 4 < w1.heap.size := (Array.getElem?_eq_some_iff.1 hy.dp).1
  have hob : (opN 2).length = 1 := rfl
  have hos : (opN 3).length = 1 := rfl
  clear hy
  go_wp2_with fail
  go_region_held3 (fun w' => w'.cell? ⟨w.heap.size, 0, none⟩ = some (.int .i64 4) ∧ w'.cell? ⟨w.heap.size, 1, none⟩ = some (.string t) ∧ w'.cell? ⟨w.heap.size, 2, none⟩ = some (.int .i64 n) ∧ w'.cell? ⟨w.heap.size + 4, 0, none⟩ = some (.int .i64 7) ∧ w'.cell? ⟨w.heap.size + 4, 1, none⟩ = some (.string .empty) ∧ w'.cell? ⟨w.heap.size + 4, 2, none⟩ = some (.int .i64 2))
    (exact ⟨y0, y1, y2, p0, p1, p2⟩)
    (first
    | (go_at_call 106; (fail_if_success have z := S0); refine (HK.out _ (HN.out.past (Below.refl _ _).drew)).mono ?_; rintro e w2 ⟨A_K, c_K, rfl, hn, hB⟩; have hB := past_drew hB; have HV_K := Lib.hid (hn.less hz); have HN := Lib.hid (HN.out.past hB); have HV_so := Lib.hid (HV_so.out.past hB); have y0 := (hB.cell (p := ⟨w.heap.size, 0, none⟩) (by simp; omega)).trans y0; have y1 := (hB.cell (p := ⟨w.heap.size, 1, none⟩) (by simp; omega)).trans y1; have y2 := (hB.cell (p := ⟨w.heap.size, 2, none⟩) (by simp; omega)).trans y2; have g0 := (hB.cell (p := ⟨w.heap.size + 3, 0, none⟩) (by simp; omega)).trans g0; have g1 := (hB.cell (p := ⟨w.heap.size + 3, 1, none⟩) (by simp; omega)).trans g1; have g2 := (hB.cell (p := ⟨w.heap.size + 3, 2, none⟩) (by simp; omega)).trans g2; have p0 := (hB.cell (p := ⟨w.heap.size + 4, 0, none⟩) (by simp; omega)).trans p0; have p1 := (hB.cell (p := ⟨w.heap.size + 4, 1, none⟩) (by simp; omega)).trans p1; have p2 := (hB.cell (p := ⟨w.heap.size + 4, 2, none⟩) (by simp; omega)).trans p2; have HB := Lib.hid (HB.out.trans (hB.mono hz)); have hz := Nat.le_trans hz hB.size; have hlt := Nat.lt_of_lt_of_le hlt hB.size; clear hn hB; have S0 := Lib.hid True.intro)
    | (go_at_call 105; (fail_if_success have z := S1); have z := S0; clear z; refine (rtwo_any _ _ _ _ _ _ _ HV_so.out.1 HV_K.out.1 (by (repeat (first | rw [bothN_len] | rw [wordN_len] | rw [opN_len] | rw [deepN_len] | rw [groupN_len])); omega)).mono ?_; rintro e w3 ⟨A_F, c_F, rfl, hn, hB⟩; have HV_F := Lib.hid (hn.less hz); have HV_so := Lib.hid (HV_so.out.past hB); have HN := Lib.hid (HN.out.past hB); have y0 := (hB.cell (p := ⟨w.heap.size, 0, none⟩) (by simp; omega)).trans y0; have y1 := (hB.cell (p := ⟨w.heap.size, 1, none⟩) (by simp; omega)).trans y1; have y2 := (hB.cell (p := ⟨w.heap.size, 2, none⟩) (by simp; omega)).trans y2; have g0 := (hB.cell (p := ⟨w.heap.size + 3, 0, none⟩) (by simp; omega)).trans g0; have g1 := (hB.cell (p := ⟨w.heap.size + 3, 1, none⟩) (by simp; omega)).trans g1; have g2 := (hB.cell (p := ⟨w.heap.size + 3, 2, none⟩) (by simp; omega)).trans g2; have p0 := (hB.cell (p := ⟨w.heap.size + 4, 0, none⟩) (by simp; omega)).trans p0; have p1 := (hB.cell (p := ⟨w.heap.size + 4, 1, none⟩) (by simp; omega)).trans p1; have p2 := (hB.cell (p := ⟨w.heap.size + 4, 2, none⟩) (by simp; omega)).trans p2; have HB := Lib.hid (HB.out.trans (hB.mono hz)); have hz := Nat.le_trans hz hB.size; have hlt := Nat.lt_of_lt_of_le hlt hB.size; clear hn hB; have S1 := Lib.hid True.intro)
    | (go_at_call 104; (fail_if_success have z := S2); have z := S1; clear z; refine (rdeep_any _ _ _ _ HV_F.out.1 (by (repeat (first | rw [bothN_len] | rw [wordN_len] | rw [opN_len] | rw [deepN_len] | rw [groupN_len])); omega)).mono ?_; rintro e w4 ⟨A_G, c_G, rfl, hn, hB⟩; have HV_G := Lib.hid (hn.less hz); have HV_so := Lib.hid (HV_so.out.past hB); have HN := Lib.hid (HN.out.past hB); have y0 := (hB.cell (p := ⟨w.heap.size, 0, none⟩) (by simp; omega)).trans y0; have y1 := (hB.cell (p := ⟨w.heap.size, 1, none⟩) (by simp; omega)).trans y1; have y2 := (hB.cell (p := ⟨w.heap.size, 2, none⟩) (by simp; omega)).trans y2; have g0 := (hB.cell (p := ⟨w.heap.size + 3, 0, none⟩) (by simp; omega)).trans g0; have g1 := (hB.cell (p := ⟨w.heap.size + 3, 1, none⟩) (by simp; omega)).trans g1; have g2 := (hB.cell (p := ⟨w.heap.size + 3, 2, none⟩) (by simp; omega)).trans g2; have p0 := (hB.cell (p := ⟨w.heap.size + 4, 0, none⟩) (by simp; omega)).trans p0; have p1 := (hB.cell (p := ⟨w.heap.size + 4, 1, none⟩) (by simp; omega)).trans p1; have p2 := (hB.cell (p := ⟨w.heap.size + 4, 2, none⟩) (by simp; omega)).trans p2; have HB := Lib.hid (HB.out.trans (hB.mono hz)); have hz := Nat.le_trans hz hB.size; have hlt := Nat.lt_of_lt_of_le hlt hB.size; clear hn hB; have S2 := Lib.hid True.intro))
  go_wp2_with fail
  go_region_held3 (fun w' => w'.cell? ⟨w.heap.size + 3, 0, none⟩ = some (.int .i64 8) ∧ w'.cell? ⟨w.heap.size + 3, 1, none⟩ = some (.string .empty) ∧ w'.cell? ⟨w.heap.size + 3, 2, none⟩ = some (.int .i64 0))
    (exact ⟨g0, g1, g2⟩)
    (first
    | (go_at_call 101; (fail_if_success have z := T0); refine (rword_any _ HSZ.out _).mono ?_; rintro e w6 ⟨A_O, c_O, rfl, hn, hB⟩; have hB := past_drew hB; have HV_O := Lib.hid (hn.less hz); have HN := Lib.hid (HN.out.past hB); have HV_so := Lib.hid (HV_so.out.past hB); have HV_G := Lib.hid (HV_G.out.past hB); have g0 := (hB.cell (p := ⟨w.heap.size + 3, 0, none⟩) (by simp; omega)).trans g0; have g1 := (hB.cell (p := ⟨w.heap.size + 3, 1, none⟩) (by simp; omega)).trans g1; have g2 := (hB.cell (p := ⟨w.heap.size + 3, 2, none⟩) (by simp; omega)).trans g2; have HB := Lib.hid (HB.out.trans (hB.mono hz)); have hz := Nat.le_trans hz hB.size; have hlt := Nat.lt_of_lt_of_le hlt hB.size; clear hn hB; have T0 := Lib.hid True.intro)
    | (go_at_call 101; (fail_if_success have z := T1); have z := T0; clear z; refine (rword_any ⟨#[93]⟩ (by decide) _).mono ?_; rintro e w7 ⟨A_E, c_E, rfl, hn, hB⟩; have HV_E := Lib.hid (hn.less hz); have HN := Lib.hid (HN.out.past hB); have HV_so := Lib.hid (HV_so.out.past hB); have HV_G := Lib.hid (HV_G.out.past hB); have HV_O := Lib.hid (HV_O.out.past hB); have g0 := (hB.cell (p := ⟨w.heap.size + 3, 0, none⟩) (by simp; omega)).trans g0; have g1 := (hB.cell (p := ⟨w.heap.size + 3, 1, none⟩) (by simp; omega)).trans g1; have g2 := (hB.cell (p := ⟨w.heap.size + 3, 2, none⟩) (by simp; omega)).trans g2; have HB := Lib.hid (HB.out.trans (hB.mono hz)); have hz := Nat.le_trans hz hB.size; have hlt := Nat.lt_of_lt_of_le hlt hB.size; clear hn hB; have T1 := Lib.hid True.intro)
    | (go_at_call 105; (fail_if_success have z := T2); have z := T1; clear z; refine (rtwo_any _ _ _ _ _ _ _ HV_so.out.1 HV_E.out.1 (by (repeat (first | rw [bothN_len] | rw [wordN_len] | rw [opN_len] | rw [deepN_len] | rw [groupN_len])); omega)).mono ?_; rintro e w8 ⟨A_H, c_H, rfl, hn, hB⟩; have HV_H := Lib.hid (hn.less hz); have HN := Lib.hid (HN.out.past hB); have HV_G := Lib.hid (HV_G.out.past hB); have HV_O := Lib.hid (HV_O.out.past hB); have g0 := (hB.cell (p := ⟨w.heap.size + 3, 0, none⟩) (by simp; omega)).trans g0; have g1 := (hB.cell (p := ⟨w.heap.size + 3, 1, none⟩) (by simp; omega)).trans g1; have g2 := (hB.cell (p := ⟨w.heap.size + 3, 2, none⟩) (by simp; omega)).trans g2; have HB := Lib.hid (HB.out.trans (hB.mono hz)); have hz := Nat.le_trans hz hB.size; have hlt := Nat.lt_of_lt_of_le hlt hB.size; clear hn hB; have T2 := Lib.hid True.intro)
    | (go_at_call 105; (fail_if_success have z := T3); have z := T2; clear z; refine (rtwo_any _ _ _ _ _ _ _ HV_G.out.1 HV_H.out.1 (by (repeat (first | rw [bothN_len] | rw [wordN_len] | rw [opN_len] | rw [deepN_len] | rw [groupN_len])); omega)).mono ?_; rintro e w9 ⟨A_I, c_I, rfl, hn, hB⟩; have HV_I := Lib.hid (hn.less hz); have HN := Lib.hid (HN.out.past hB); have HV_O := Lib.hid (HV_O.out.past hB); have g0 := (hB.cell (p := ⟨w.heap.size + 3, 0, none⟩) (by simp; omega)).trans g0; have g1 := (hB.cell (p := ⟨w.heap.size + 3, 1, none⟩) (by simp; omega)).trans g1; have g2 := (hB.cell (p := ⟨w.heap.size + 3, 2, none⟩) (by simp; omega)).trans g2; have HB := Lib.hid (HB.out.trans (hB.mono hz)); have hz := Nat.le_trans hz hB.size; have hlt := Nat.lt_of_lt_of_le hlt hB.size; clear hn hB; have T3 := Lib.hid True.intro)
    | (go_at_call 105; (fail_if_success have z := T4); have z := T3; clear z; refine (rtwo_any _ _ _ _ _ _ _ HV_O.out.1 HV_I.out.1 (by (repeat (first | rw [bothN_len] | rw [wordN_len] | rw [opN_len] | rw [deepN_len] | rw [groupN_len])); omega)).mono ?_; rintro e w10 ⟨A_J, c_J, rfl, hn, hB⟩; have HV_J := Lib.hid (hn.less hz); have HN := Lib.hid (HN.out.past hB); have g0 := (hB.cell (p := ⟨w.heap.size + 3, 0, none⟩) (by simp; omega)).trans g0; have g1 := (hB.cell (p := ⟨w.heap.size + 3, 1, none⟩) (by simp; omega)).trans g1; have g2 := (hB.cell (p := ⟨w.heap.size + 3, 2, none⟩) (by simp; omega)).trans g2; have HB := Lib.hid (HB.out.trans (hB.mono hz)); have hz := Nat.le_trans hz hB.size; have hlt := Nat.lt_of_lt_of_le hlt hB.size; clear hn hB; have T4 := Lib.hid True.intro)
    | (go_at_call 104; (fail_if_success have z := T5); have z := T4; clear z; refine (rgroup_any _ _ _ _ HV_J.out.1 (by (repeat (first | rw [bothN_len] | rw [wordN_len] | rw [opN_len] | rw [deepN_len] | rw [groupN_len])); omega)).mono ?_; rintro e w11 ⟨A_Q, c_Q, rfl, hn, hB⟩; have HV_Q := Lib.hid (hn.less hz); have HN := Lib.hid (HN.out.past hB); have g0 := (hB.cell (p := ⟨w.heap.size + 3, 0, none⟩) (by simp; omega)).trans g0; have g1 := (hB.cell (p := ⟨w.heap.size + 3, 1, none⟩) (by simp; omega)).trans g1; have g2 := (hB.cell (p := ⟨w.heap.size + 3, 2, none⟩) (by simp; omega)).trans g2; have HB := Lib.hid (HB.out.trans (hB.mono hz)); have hz := Nat.le_trans hz hB.size; have hlt := Nat.lt_of_lt_of_le hlt hB.size; clear hn hB; have T5 := Lib.hid True.intro))
  go_wp2
  go_ret
  exact ⟨A_Q, c_Q, rfl, HV_Q.out, HB.out⟩
end Go.Proofs.YtddfdmopaeghnacGreatDoor
