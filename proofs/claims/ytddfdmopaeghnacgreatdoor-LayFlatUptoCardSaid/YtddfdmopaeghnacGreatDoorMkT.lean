/- Walk of lay's maker (printed by wip/genmk.py): make. Conditions: the maker's block is the caller's own, the slice of nodes lies below it and is a statement that may be. -/
import Derived.Test.YtddfdmopaeghnacGreatDoorMkU
namespace Go.Proofs.YtddfdmopaeghnacGreatDoor
open Go.RowKit

/-- The maker past a node, and the node that the call holds in a block of its own. -/
structure MkN (g h : Nat) (A : Option Addr) (c : Nat) (l : List Nd) (i : Nat) (op : Int) (t : ByteArray) (n : Int) (w0 w : World) : Prop where
  st : MkSt g A c l i w
  nd : w.heap[h]? = some (.cells #[.int .i64 op, .string t, .int .i64 n] 25 (0, 0))
  gr : w0.grownBy w (some g)
  lt : g < h
  sz : w0.heap.size ≤ w.heap.size
theorem MkN.cells {g h : Nat} {A : Option Addr} {c i : Nat} {l : List Nd} {op n : Int} {t : ByteArray} {w0 w : World} (x : MkN g h A c l i op t n w0 w) :
    w.cell? ⟨h, 0, none⟩ = some (.int .i64 op) ∧ w.cell? ⟨h, 1, none⟩ = some (.string t) ∧ w.cell? ⟨h, 2, none⟩ = some (.int .i64 n) := by
  refine ⟨?_, ?_, ?_⟩ <;> rw [Lib.cell_of_heap x.nd] <;> rfl

set_option maxRecDepth 100000 in
set_option maxHeartbeats 4000000 in
theorem lmake_1 {g c : Nat} {A : Option Addr} {l : List Nd} {i : Nat} {t : ByteArray} {n : Int} {w : World} (hs : MkSt g A c l i w) (hi : i < l.length) (hnd : l[i] = Nd.mk 1 t n) (h40 : l.length ≤ 40) (n0 : 0 ≤ n) (n1 : n ≤ 999999) :
    Calls Tryz.prog 42 #[.pointer (some ⟨g, 0, none⟩)] w (MkTo g A c l (wordN ⟨(Lib.itoa n).toArray⟩) (i + 1) w) := by
  have k1 : IntKind.i64.wrap ((i : Int) + 1) = (i : Int) + 1 := IntWalk.i64_in _ (by omega)
  have hsz : (⟨(Lib.itoa n).toArray⟩ : ByteArray).size ≤ maxLen := by
    have := (itoa_len6 n0 n1).2
    simp only [ByteArray.size, maxLen, List.size_toArray]; omega
  have HSZ := Lib.hid hsz
  have HIT := Lib.hid (fun w' hp => litoa_any n0 n1 w' hp)
  generalize (⟨(Lib.itoa n).toArray⟩ : ByteArray) = T at *
  clear hsz
  obtain ⟨b, off, op, t', n', rfl, hb, hnd', hts, d1, d2, d3⟩ := hs.nds.node (Below.refl _ _) hi
  rw [hnd] at hnd'
  cases hnd'
  have hgl := hs.lt
  obtain ⟨c0, c1, f1⟩ := hs.cells
  have HS := Lib.hid hs
  have hbw : b < w.heap.size := by omega
  clear hs hnd
  go_enter Tryz.func42, Tryz.ntmps42
  go_wp2
  go_region
  go_upto_region 3 with (fail)
  obtain ⟨h, hh⟩ : ∃ h, h = w.heap.size := ⟨_, rfl⟩
  rw [← hh]
  refine mk_named (fun wy => MkN g h (some ⟨b, off, none⟩) c l (i + 1) 1 t n w wy) ?named ?_
  case named =>
    have hsz : (w.setCell ⟨g, 1, none⟩ (.int .i64 ((i : Int) + 1))).heap.size = w.heap.size := by simp [World.setCell]
    exact ⟨((HS.out.set (i + 1) (by omega)).past ((Below.refl _ _).alloc (Nat.le_refl _) _)).drew, heap_new (by rw [hsz, hh]), grown_below (grown_setM w g 1 _) (((Below.refl _ _).alloc (Nat.le_refl _) _).drew), by omega, by
      show w.heap.size ≤ ((w.setCell ⟨g, 1, none⟩ (.int .i64 ((i : Int) + 1))).alloc _).heap.size
      simp [World.setCell]⟩
  clear hh c0 c1 f1 d1 d2 d3 HS
  rintro wy hy
  obtain ⟨y0, y1, y2⟩ := hy.cells
  have HM := Lib.hid hy.st; have HG := Lib.hid hy.gr; have hz := hy.sz; have hlt := mkheap_lt hy.nd; have hgh := hy.lt
  clear hy k1
  go_wp2_with (first
    | (go_at_call 81; refine (HIT.out _ HM.out.pow).mono ?_; rintro e w3 ⟨rfl, hB⟩; have HM := Lib.hid (HM.out.past hB); have HG := Lib.hid (grown_below HG.out hB); have hz := Nat.le_trans hz hB.size; clear hB)
    | (go_at_call 80; refine (lword_any T HSZ.out _).mono ?_; rintro e w4 ⟨A_R, c_R, rfl, hn, hB⟩; have HV_R := Lib.hid (hn.less hz); have HM := Lib.hid (HM.out.past hB); have HG := Lib.hid (grown_below HG.out hB); clear hn hB))
  go_ret
  exact ⟨A_R, c_R, rfl, HV_R.out, HM.out, HG.out⟩

set_option maxRecDepth 100000 in
set_option maxHeartbeats 4000000 in
theorem lmake_2 {g c : Nat} {A : Option Addr} {l : List Nd} {i : Nat} {t : ByteArray} {n : Int} {w : World} (hs : MkSt g A c l i w) (hi : i < l.length) (hnd : l[i] = Nd.mk 2 t n) (h40 : l.length ≤ 40)  :
    Calls Tryz.prog 42 #[.pointer (some ⟨g, 0, none⟩)] w (MkTo g A c l (wordN t) (i + 1) w) := by
  have k1 : IntKind.i64.wrap ((i : Int) + 1) = (i : Int) + 1 := IntWalk.i64_in _ (by omega)
  obtain ⟨b, off, op, t', n', rfl, hb, hnd', hts, d1, d2, d3⟩ := hs.nds.node (Below.refl _ _) hi
  rw [hnd] at hnd'
  cases hnd'
  have hgl := hs.lt
  obtain ⟨c0, c1, f1⟩ := hs.cells
  have HS := Lib.hid hs
  have hbw : b < w.heap.size := by omega
  clear hs hnd
  go_enter Tryz.func42, Tryz.ntmps42
  go_wp2
  go_region
  go_upto_region 3 with (fail)
  obtain ⟨h, hh⟩ : ∃ h, h = w.heap.size := ⟨_, rfl⟩
  rw [← hh]
  refine mk_named (fun wy => MkN g h (some ⟨b, off, none⟩) c l (i + 1) 2 t n w wy) ?named ?_
  case named =>
    have hsz : (w.setCell ⟨g, 1, none⟩ (.int .i64 ((i : Int) + 1))).heap.size = w.heap.size := by simp [World.setCell]
    exact ⟨((HS.out.set (i + 1) (by omega)).past ((Below.refl _ _).alloc (Nat.le_refl _) _)).drew, heap_new (by rw [hsz, hh]), grown_below (grown_setM w g 1 _) (((Below.refl _ _).alloc (Nat.le_refl _) _).drew), by omega, by
      show w.heap.size ≤ ((w.setCell ⟨g, 1, none⟩ (.int .i64 ((i : Int) + 1))).alloc _).heap.size
      simp [World.setCell]⟩
  clear hh c0 c1 f1 d1 d2 d3 HS
  rintro wy hy
  obtain ⟨y0, y1, y2⟩ := hy.cells
  have HM := Lib.hid hy.st; have HG := Lib.hid hy.gr; have hz := hy.sz; have hlt := mkheap_lt hy.nd; have hgh := hy.lt
  clear hy k1
  go_wp2_with (go_at_call 80; refine (lword_any t hts _).mono ?_; rintro e w4 ⟨A_R, c_R, rfl, hn, hB⟩; have HV_R := Lib.hid (hn.less hz); have HM := Lib.hid (HM.out.past hB); have HG := Lib.hid (grown_below HG.out hB); clear hn hB)
  go_ret
  exact ⟨A_R, c_R, rfl, HV_R.out, HM.out, HG.out⟩

set_option maxRecDepth 100000 in
set_option maxHeartbeats 4000000 in
theorem lmake_3 {g c : Nat} {A : Option Addr} {l : List Nd} {i : Nat} {t : ByteArray} {n : Int} {w : World} (hs : MkSt g A c l i w) (hi : i < l.length) (hnd : l[i] = Nd.mk 3 t n) (h40 : l.length ≤ 40) (ht8 : t.size ≤ 8) {R : List Nd} {z : Nat} (HL : Hid (∀ w', MkSt g A c l (i + 1) w' → Calls Tryz.prog 82 #[.pointer (some ⟨g, 0, none⟩), .agg #[.int .i64 3, .string t, .int .i64 n], .string (t ++ ⟨#[40]⟩), .string ⟨#[41]⟩] w' (MkTo g A c l R z w'))) :
    Calls Tryz.prog 42 #[.pointer (some ⟨g, 0, none⟩)] w (MkTo g A c l R z w) := by
  have k1 : IntKind.i64.wrap ((i : Int) + 1) = (i : Int) + 1 := IntWalk.i64_in _ (by omega)
  obtain ⟨b, off, op, t', n', rfl, hb, hnd', hts, d1, d2, d3⟩ := hs.nds.node (Below.refl _ _) hi
  rw [hnd] at hnd'
  cases hnd'
  have hgl := hs.lt
  obtain ⟨c0, c1, f1⟩ := hs.cells
  have HS := Lib.hid hs
  have hbw : b < w.heap.size := by omega
  clear hs hnd
  go_enter Tryz.func42, Tryz.ntmps42
  go_wp2
  go_region
  go_upto_region 3 with (fail)
  obtain ⟨h, hh⟩ : ∃ h, h = w.heap.size := ⟨_, rfl⟩
  rw [← hh]
  refine mk_named (fun wy => MkN g h (some ⟨b, off, none⟩) c l (i + 1) 3 t n w wy) ?named ?_
  case named =>
    have hsz : (w.setCell ⟨g, 1, none⟩ (.int .i64 ((i : Int) + 1))).heap.size = w.heap.size := by simp [World.setCell]
    exact ⟨((HS.out.set (i + 1) (by omega)).past ((Below.refl _ _).alloc (Nat.le_refl _) _)).drew, heap_new (by rw [hsz, hh]), grown_below (grown_setM w g 1 _) (((Below.refl _ _).alloc (Nat.le_refl _) _).drew), by omega, by
      show w.heap.size ≤ ((w.setCell ⟨g, 1, none⟩ (.int .i64 ((i : Int) + 1))).alloc _).heap.size
      simp [World.setCell]⟩
  clear hh c0 c1 f1 d1 d2 d3 HS
  rintro wy hy
  obtain ⟨y0, y1, y2⟩ := hy.cells
  have HM := Lib.hid hy.st; have HG := Lib.hid hy.gr; have hz := hy.sz; have hlt := mkheap_lt hy.nd; have hgh := hy.lt
  clear hy k1
  go_wp2_with (go_at_call 82; refine (HL.out _ HM.out).mono ?_; rintro e w3 ⟨A_R, c_R, rfl, hn, hm3, hG⟩; have HV_R := Lib.hid (hn.less hz); have HM := Lib.hid hm3; have HG := Lib.hid (grown_trans HG.out hG); clear hn hm3 hG)
  go_ret
  exact ⟨A_R, c_R, rfl, HV_R.out, HM.out, HG.out⟩

set_option maxRecDepth 100000 in
set_option maxHeartbeats 4000000 in
theorem lmake_4 {g c : Nat} {A : Option Addr} {l : List Nd} {i : Nat} {t : ByteArray} {n : Int} {w : World} (hs : MkSt g A c l i w) (hi : i < l.length) (hnd : l[i] = Nd.mk 4 t n) (h40 : l.length ≤ 40) {R : List Nd} {z : Nat} (HL : Hid (∀ w', MkSt g A c l (i + 1) w' → Calls Tryz.prog 82 #[.pointer (some ⟨g, 0, none⟩), .agg #[.int .i64 4, .string t, .int .i64 n], .string ⟨#[91]⟩, .string ⟨#[93]⟩] w' (MkTo g A c l R z w'))) :
    Calls Tryz.prog 42 #[.pointer (some ⟨g, 0, none⟩)] w (MkTo g A c l R z w) := by
  have k1 : IntKind.i64.wrap ((i : Int) + 1) = (i : Int) + 1 := IntWalk.i64_in _ (by omega)
  obtain ⟨b, off, op, t', n', rfl, hb, hnd', hts, d1, d2, d3⟩ := hs.nds.node (Below.refl _ _) hi
  rw [hnd] at hnd'
  cases hnd'
  have hgl := hs.lt
  obtain ⟨c0, c1, f1⟩ := hs.cells
  have HS := Lib.hid hs
  have hbw : b < w.heap.size := by omega
  clear hs hnd
  go_enter Tryz.func42, Tryz.ntmps42
  go_wp2
  go_region
  go_upto_region 3 with (fail)
  obtain ⟨h, hh⟩ : ∃ h, h = w.heap.size := ⟨_, rfl⟩
  rw [← hh]
  refine mk_named (fun wy => MkN g h (some ⟨b, off, none⟩) c l (i + 1) 4 t n w wy) ?named ?_
  case named =>
    have hsz : (w.setCell ⟨g, 1, none⟩ (.int .i64 ((i : Int) + 1))).heap.size = w.heap.size := by simp [World.setCell]
    exact ⟨((HS.out.set (i + 1) (by omega)).past ((Below.refl _ _).alloc (Nat.le_refl _) _)).drew, heap_new (by rw [hsz, hh]), grown_below (grown_setM w g 1 _) (((Below.refl _ _).alloc (Nat.le_refl _) _).drew), by omega, by
      show w.heap.size ≤ ((w.setCell ⟨g, 1, none⟩ (.int .i64 ((i : Int) + 1))).alloc _).heap.size
      simp [World.setCell]⟩
  clear hh c0 c1 f1 d1 d2 d3 HS
  rintro wy hy
  obtain ⟨y0, y1, y2⟩ := hy.cells
  have HM := Lib.hid hy.st; have HG := Lib.hid hy.gr; have hz := hy.sz; have hlt := mkheap_lt hy.nd; have hgh := hy.lt
  clear hy k1
  go_wp2_with (go_at_call 82; refine (HL.out _ HM.out).mono ?_; rintro e w3 ⟨A_R, c_R, rfl, hn, hm3, hG⟩; have HV_R := Lib.hid (hn.less hz); have HM := Lib.hid hm3; have HG := Lib.hid (grown_trans HG.out hG); clear hn hm3 hG)
  go_ret
  exact ⟨A_R, c_R, rfl, HV_R.out, HM.out, HG.out⟩

set_option maxRecDepth 100000 in
set_option maxHeartbeats 4000000 in
theorem lmake_5 {g c : Nat} {A : Option Addr} {l : List Nd} {i : Nat} {t : ByteArray} {n : Int} {w : World} (hs : MkSt g A c l i w) (hi : i < l.length) (hnd : l[i] = Nd.mk 5 t n) (h40 : l.length ≤ 40) {R : List Nd} {z : Nat} (HL : Hid (∀ w', MkSt g A c l (i + 1) w' → Calls Tryz.prog 83 #[.pointer (some ⟨g, 0, none⟩), .agg #[.int .i64 5, .string t, .int .i64 n], .string ⟨#[43, 32]⟩] w' (MkTo g A c l R z w'))) :
    Calls Tryz.prog 42 #[.pointer (some ⟨g, 0, none⟩)] w (MkTo g A c l R z w) := by
  have k1 : IntKind.i64.wrap ((i : Int) + 1) = (i : Int) + 1 := IntWalk.i64_in _ (by omega)
  obtain ⟨b, off, op, t', n', rfl, hb, hnd', hts, d1, d2, d3⟩ := hs.nds.node (Below.refl _ _) hi
  rw [hnd] at hnd'
  cases hnd'
  have hgl := hs.lt
  obtain ⟨c0, c1, f1⟩ := hs.cells
  have HS := Lib.hid hs
  have hbw : b < w.heap.size := by omega
  clear hs hnd
  go_enter Tryz.func42, Tryz.ntmps42
  go_wp2
  go_region
  go_upto_region 3 with (fail)
  obtain ⟨h, hh⟩ : ∃ h, h = w.heap.size := ⟨_, rfl⟩
  rw [← hh]
  refine mk_named (fun wy => MkN g h (some ⟨b, off, none⟩) c l (i + 1) 5 t n w wy) ?named ?_
  case named =>
    have hsz : (w.setCell ⟨g, 1, none⟩ (.int .i64 ((i : Int) + 1))).heap.size = w.heap.size := by simp [World.setCell]
    exact ⟨((HS.out.set (i + 1) (by omega)).past ((Below.refl _ _).alloc (Nat.le_refl _) _)).drew, heap_new (by rw [hsz, hh]), grown_below (grown_setM w g 1 _) (((Below.refl _ _).alloc (Nat.le_refl _) _).drew), by omega, by
      show w.heap.size ≤ ((w.setCell ⟨g, 1, none⟩ (.int .i64 ((i : Int) + 1))).alloc _).heap.size
      simp [World.setCell]⟩
  clear hh c0 c1 f1 d1 d2 d3 HS
  rintro wy hy
  obtain ⟨y0, y1, y2⟩ := hy.cells
  have HM := Lib.hid hy.st; have HG := Lib.hid hy.gr; have hz := hy.sz; have hlt := mkheap_lt hy.nd; have hgh := hy.lt
  clear hy k1
  go_wp2_with (go_at_call 83; refine (HL.out _ HM.out).mono ?_; rintro e w3 ⟨A_R, c_R, rfl, hn, hm3, hG⟩; have HV_R := Lib.hid (hn.less hz); have HM := Lib.hid hm3; have HG := Lib.hid (grown_trans HG.out hG); clear hn hm3 hG)
  go_ret
  exact ⟨A_R, c_R, rfl, HV_R.out, HM.out, HG.out⟩

set_option maxRecDepth 100000 in
set_option maxHeartbeats 4000000 in
theorem lmake_6 {g c : Nat} {A : Option Addr} {l : List Nd} {i : Nat} {t : ByteArray} {n : Int} {w : World} (hs : MkSt g A c l i w) (hi : i < l.length) (hnd : l[i] = Nd.mk 6 t n) (h40 : l.length ≤ 40) {R : List Nd} {z : Nat} (HL : Hid (∀ w', MkSt g A c l (i + 1) w' → Calls Tryz.prog 83 #[.pointer (some ⟨g, 0, none⟩), .agg #[.int .i64 6, .string t, .int .i64 n], .string ⟨#[42, 32]⟩] w' (MkTo g A c l R z w'))) :
    Calls Tryz.prog 42 #[.pointer (some ⟨g, 0, none⟩)] w (MkTo g A c l R z w) := by
  have k1 : IntKind.i64.wrap ((i : Int) + 1) = (i : Int) + 1 := IntWalk.i64_in _ (by omega)
  obtain ⟨b, off, op, t', n', rfl, hb, hnd', hts, d1, d2, d3⟩ := hs.nds.node (Below.refl _ _) hi
  rw [hnd] at hnd'
  cases hnd'
  have hgl := hs.lt
  obtain ⟨c0, c1, f1⟩ := hs.cells
  have HS := Lib.hid hs
  have hbw : b < w.heap.size := by omega
  clear hs hnd
  go_enter Tryz.func42, Tryz.ntmps42
  go_wp2
  go_region
  go_upto_region 3 with (fail)
  obtain ⟨h, hh⟩ : ∃ h, h = w.heap.size := ⟨_, rfl⟩
  rw [← hh]
  refine mk_named (fun wy => MkN g h (some ⟨b, off, none⟩) c l (i + 1) 6 t n w wy) ?named ?_
  case named =>
    have hsz : (w.setCell ⟨g, 1, none⟩ (.int .i64 ((i : Int) + 1))).heap.size = w.heap.size := by simp [World.setCell]
    exact ⟨((HS.out.set (i + 1) (by omega)).past ((Below.refl _ _).alloc (Nat.le_refl _) _)).drew, heap_new (by rw [hsz, hh]), grown_below (grown_setM w g 1 _) (((Below.refl _ _).alloc (Nat.le_refl _) _).drew), by omega, by
      show w.heap.size ≤ ((w.setCell ⟨g, 1, none⟩ (.int .i64 ((i : Int) + 1))).alloc _).heap.size
      simp [World.setCell]⟩
  clear hh c0 c1 f1 d1 d2 d3 HS
  rintro wy hy
  obtain ⟨y0, y1, y2⟩ := hy.cells
  have HM := Lib.hid hy.st; have HG := Lib.hid hy.gr; have hz := hy.sz; have hlt := mkheap_lt hy.nd; have hgh := hy.lt
  clear hy k1
  go_wp2_with (go_at_call 83; refine (HL.out _ HM.out).mono ?_; rintro e w3 ⟨A_R, c_R, rfl, hn, hm3, hG⟩; have HV_R := Lib.hid (hn.less hz); have HM := Lib.hid hm3; have HG := Lib.hid (grown_trans HG.out hG); clear hn hm3 hG)
  go_ret
  exact ⟨A_R, c_R, rfl, HV_R.out, HM.out, HG.out⟩

set_option maxRecDepth 100000 in
set_option maxHeartbeats 4000000 in
theorem lmake_7 {g c : Nat} {A : Option Addr} {l : List Nd} {i : Nat} {t : ByteArray} {n : Int} {w : World} (hs : MkSt g A c l i w) (hi : i < l.length) (hnd : l[i] = Nd.mk 7 t n) (h40 : l.length ≤ 40) (ht8 : t.size ≤ 8) {d : List Nd} {z : Nat} (hdl : d.length ≤ 900) (HD : Hid (∀ w', MkSt g A c l (i + 1) w' → Calls Tryz.prog 42 #[.pointer (some ⟨g, 0, none⟩)] w' (MkTo g A c l d z w'))) :
    Calls Tryz.prog 42 #[.pointer (some ⟨g, 0, none⟩)] w (MkTo g A c l (groupN (bothN (wordN (⟨#[108, 101, 116, 32]⟩ ++ t ++ ⟨#[32, 61]⟩)) (deepN (bothN (opN 2) (bothN d (wordN ⟨#[59]⟩)))))) z w) := by
  have k1 : IntKind.i64.wrap ((i : Int) + 1) = (i : Int) + 1 := IntWalk.i64_in _ (by omega)
  have hsz : (⟨#[108, 101, 116, 32]⟩ ++ t ++ ⟨#[32, 61]⟩ : ByteArray).size ≤ maxLen := by
    simp only [ByteArray.size_append, maxLen]
    show 4 + t.size + 2 ≤ _
    omega
  have HSZ := Lib.hid hsz
  clear hsz
  have hcat0 : ∀ w', (Op.stringOp .add ⟨#[108, 101, 116, 32]⟩ t).run Tryz.prog w' = .ok (.string (⟨#[108, 101, 116, 32]⟩ ++ t)) w' := fun w' => run_string_add_sum w' _ t (by show 4 + t.size ≤ _; omega)
  have hcat1 : ∀ w', (Op.stringOp .add (⟨#[108, 101, 116, 32]⟩ ++ t) ⟨#[32, 61]⟩).run Tryz.prog w' = .ok (.string (⟨#[108, 101, 116, 32]⟩ ++ t ++ ⟨#[32, 61]⟩)) w' := fun w' => run_string_add_sum w' _ _ (by rw [ByteArray.size_append]; show 4 + t.size + 2 ≤ _; omega)
  obtain ⟨b, off, op, t', n', rfl, hb, hnd', hts, d1, d2, d3⟩ := hs.nds.node (Below.refl _ _) hi
  rw [hnd] at hnd'
  cases hnd'
  have hgl := hs.lt
  obtain ⟨c0, c1, f1⟩ := hs.cells
  have HS := Lib.hid hs
  have hbw : b < w.heap.size := by omega
  clear hs hnd
  go_enter Tryz.func42, Tryz.ntmps42
  go_wp2
  go_region
  go_upto_region 3 with (fail)
  obtain ⟨h, hh⟩ : ∃ h, h = w.heap.size := ⟨_, rfl⟩
  rw [← hh]
  refine mk_named (fun wy => MkN g h (some ⟨b, off, none⟩) c l (i + 1) 7 t n w wy) ?named ?_
  case named =>
    have hsz : (w.setCell ⟨g, 1, none⟩ (.int .i64 ((i : Int) + 1))).heap.size = w.heap.size := by simp [World.setCell]
    exact ⟨((HS.out.set (i + 1) (by omega)).past ((Below.refl _ _).alloc (Nat.le_refl _) _)).drew, heap_new (by rw [hsz, hh]), grown_below (grown_setM w g 1 _) (((Below.refl _ _).alloc (Nat.le_refl _) _).drew), by omega, by
      show w.heap.size ≤ ((w.setCell ⟨g, 1, none⟩ (.int .i64 ((i : Int) + 1))).alloc _).heap.size
      simp [World.setCell]⟩
  clear hh c0 c1 f1 d1 d2 d3 HS
  rintro wy hy
  obtain ⟨y0, y1, y2⟩ := hy.cells
  have HM := Lib.hid hy.st; have HG := Lib.hid hy.gr; have hz := hy.sz; have hlt := mkheap_lt hy.nd; have hgh := hy.lt
  clear hy k1
  go_wp2_with (first
    | (go_at_call 86; (fail_if_success have z := T0); refine (lop_any 2 _).mono ?_; rintro e w3 ⟨A_O, c_O, rfl, hn, hB⟩; have HV_O := Lib.hid (hn.less hz); have HM := Lib.hid (HM.out.past hB); have y0 := (hB.cell (p := ⟨h, 0, none⟩) hlt).trans y0; have y1 := (hB.cell (p := ⟨h, 1, none⟩) hlt).trans y1; have y2 := (hB.cell (p := ⟨h, 2, none⟩) hlt).trans y2; have HG := Lib.hid (grown_below HG.out hB); have hz := Nat.le_trans hz hB.size; have hlt := Nat.lt_of_lt_of_le hlt hB.size; clear hn hB; have T0 := Lib.hid True.intro)
    | (go_at_call 42; (fail_if_success have z := T1); have z := T0; clear z; refine (HD.out _ HM.out).mono ?_; rintro e w4 ⟨A_d, c_d, rfl, hn, hm, hG⟩; have HV_d := Lib.hid (hn.less hz); have HM := Lib.hid hm; have HV_O := Lib.hid (HV_O.out.grow hG (fun k e => by injection e with e; omega)); have y0 := (hG.cell y0 (by simp; omega)); have y1 := (hG.cell y1 (by simp; omega)); have y2 := (hG.cell y2 (by simp; omega)); have HG := Lib.hid (grown_trans HG.out hG); have hz := Nat.le_trans hz hG.size; have hlt := Nat.lt_of_lt_of_le hlt hG.size; clear hn hm hG; have T1 := Lib.hid True.intro)
    | (go_at_call 80; (fail_if_success have z := T2); have z := T1; clear z; refine (lword_any ⟨#[59]⟩ (by decide) _).mono ?_; rintro e w5 ⟨A_S, c_S, rfl, hn, hB⟩; have HV_S := Lib.hid (hn.less hz); have HM := Lib.hid (HM.out.past hB); have HV_O := Lib.hid (HV_O.out.past hB); have HV_d := Lib.hid (HV_d.out.past hB); have y0 := (hB.cell (p := ⟨h, 0, none⟩) hlt).trans y0; have y1 := (hB.cell (p := ⟨h, 1, none⟩) hlt).trans y1; have y2 := (hB.cell (p := ⟨h, 2, none⟩) hlt).trans y2; have HG := Lib.hid (grown_below HG.out hB); have hz := Nat.le_trans hz hB.size; have hlt := Nat.lt_of_lt_of_le hlt hB.size; clear hn hB; have T2 := Lib.hid True.intro)
    | (go_at_call 85; (fail_if_success have z := T3); have z := T2; clear z; refine (lboth_any _ _ _ _ _ _ _ HV_d.out.1 HV_S.out.1 (by (repeat (first | rw [bothN_len] | rw [wordN_len] | rw [opN_len] | rw [deepN_len] | rw [groupN_len])); omega)).mono ?_; rintro e w6 ⟨A_F, c_F, rfl, hn, hB⟩; have HV_F := Lib.hid (hn.less hz); have HM := Lib.hid (HM.out.past hB); have HV_O := Lib.hid (HV_O.out.past hB); have y0 := (hB.cell (p := ⟨h, 0, none⟩) hlt).trans y0; have y1 := (hB.cell (p := ⟨h, 1, none⟩) hlt).trans y1; have y2 := (hB.cell (p := ⟨h, 2, none⟩) hlt).trans y2; have HG := Lib.hid (grown_below HG.out hB); have hz := Nat.le_trans hz hB.size; have hlt := Nat.lt_of_lt_of_le hlt hB.size; clear hn hB; have T3 := Lib.hid True.intro)
    | (go_at_call 85; (fail_if_success have z := T4); have z := T3; clear z; refine (lboth_any _ _ _ _ _ _ _ HV_O.out.1 HV_F.out.1 (by (repeat (first | rw [bothN_len] | rw [wordN_len] | rw [opN_len] | rw [deepN_len] | rw [groupN_len])); omega)).mono ?_; rintro e w7 ⟨A_G, c_G, rfl, hn, hB⟩; have HV_G := Lib.hid (hn.less hz); have HM := Lib.hid (HM.out.past hB); have y0 := (hB.cell (p := ⟨h, 0, none⟩) hlt).trans y0; have y1 := (hB.cell (p := ⟨h, 1, none⟩) hlt).trans y1; have y2 := (hB.cell (p := ⟨h, 2, none⟩) hlt).trans y2; have HG := Lib.hid (grown_below HG.out hB); have hz := Nat.le_trans hz hB.size; have hlt := Nat.lt_of_lt_of_le hlt hB.size; clear hn hB; have T4 := Lib.hid True.intro)
    | (go_at_call 84; (fail_if_success have z := T5); have z := T4; clear z; refine (ldeep_any _ _ _ _ HV_G.out.1 (by (repeat (first | rw [bothN_len] | rw [wordN_len] | rw [opN_len] | rw [deepN_len] | rw [groupN_len])); omega)).mono ?_; rintro e w8 ⟨A_H, c_H, rfl, hn, hB⟩; have HV_H := Lib.hid (hn.less hz); have HM := Lib.hid (HM.out.past hB); have y0 := (hB.cell (p := ⟨h, 0, none⟩) hlt).trans y0; have y1 := (hB.cell (p := ⟨h, 1, none⟩) hlt).trans y1; have y2 := (hB.cell (p := ⟨h, 2, none⟩) hlt).trans y2; have HG := Lib.hid (grown_below HG.out hB); have hz := Nat.le_trans hz hB.size; have hlt := Nat.lt_of_lt_of_le hlt hB.size; clear hn hB; have T5 := Lib.hid True.intro)
    | (go_at_call 80; (fail_if_success have z := T6); have z := T5; clear z; refine (lword_any _ HSZ.out _).mono ?_; rintro e w9 ⟨A_W, c_W, rfl, hn, hB⟩; have HV_W := Lib.hid (hn.less hz); have HM := Lib.hid (HM.out.past hB); have HV_H := Lib.hid (HV_H.out.past hB); have y0 := (hB.cell (p := ⟨h, 0, none⟩) hlt).trans y0; have y1 := (hB.cell (p := ⟨h, 1, none⟩) hlt).trans y1; have y2 := (hB.cell (p := ⟨h, 2, none⟩) hlt).trans y2; have HG := Lib.hid (grown_below HG.out hB); have hz := Nat.le_trans hz hB.size; have hlt := Nat.lt_of_lt_of_le hlt hB.size; clear hn hB; have T6 := Lib.hid True.intro)
    | (go_at_call 85; (fail_if_success have z := T7); have z := T6; clear z; refine (lboth_any _ _ _ _ _ _ _ HV_W.out.1 HV_H.out.1 (by (repeat (first | rw [bothN_len] | rw [wordN_len] | rw [opN_len] | rw [deepN_len] | rw [groupN_len])); omega)).mono ?_; rintro e w10 ⟨A_J, c_J, rfl, hn, hB⟩; have HV_J := Lib.hid (hn.less hz); have HM := Lib.hid (HM.out.past hB); have y0 := (hB.cell (p := ⟨h, 0, none⟩) hlt).trans y0; have y1 := (hB.cell (p := ⟨h, 1, none⟩) hlt).trans y1; have y2 := (hB.cell (p := ⟨h, 2, none⟩) hlt).trans y2; have HG := Lib.hid (grown_below HG.out hB); have hz := Nat.le_trans hz hB.size; have hlt := Nat.lt_of_lt_of_le hlt hB.size; clear hn hB; have T7 := Lib.hid True.intro)
    | (go_at_call 87; (fail_if_success have z := T8); have z := T7; clear z; refine (lgroup_any _ _ _ _ HV_J.out.1 (by (repeat (first | rw [bothN_len] | rw [wordN_len] | rw [opN_len] | rw [deepN_len] | rw [groupN_len])); omega)).mono ?_; rintro e w11 ⟨A_R, c_R, rfl, hn, hB⟩; have HV_R := Lib.hid (hn.less hz); have HM := Lib.hid (HM.out.past hB); have y0 := (hB.cell (p := ⟨h, 0, none⟩) hlt).trans y0; have y1 := (hB.cell (p := ⟨h, 1, none⟩) hlt).trans y1; have y2 := (hB.cell (p := ⟨h, 2, none⟩) hlt).trans y2; have HG := Lib.hid (grown_below HG.out hB); have hz := Nat.le_trans hz hB.size; have hlt := Nat.lt_of_lt_of_le hlt hB.size; clear hn hB; have T8 := Lib.hid True.intro))
  go_ret
  exact ⟨A_R, c_R, rfl, HV_R.out, HM.out, HG.out⟩

set_option maxRecDepth 100000 in
set_option maxHeartbeats 4000000 in
theorem lmake_8 {g c : Nat} {A : Option Addr} {l : List Nd} {i : Nat} {t : ByteArray} {n : Int} {w : World} (hs : MkSt g A c l i w) (hi : i < l.length) (hnd : l[i] = Nd.mk 8 t n) (h40 : l.length ≤ 40) {d : List Nd} {z : Nat} (hdl : d.length ≤ 900) (HD : Hid (∀ w', MkSt g A c l (i + 1) w' → Calls Tryz.prog 42 #[.pointer (some ⟨g, 0, none⟩)] w' (MkTo g A c l d z w'))) :
    Calls Tryz.prog 42 #[.pointer (some ⟨g, 0, none⟩)] w (MkTo g A c l (bothN d (wordN ⟨#[59]⟩)) z w) := by
  have k1 : IntKind.i64.wrap ((i : Int) + 1) = (i : Int) + 1 := IntWalk.i64_in _ (by omega)
  obtain ⟨b, off, op, t', n', rfl, hb, hnd', hts, d1, d2, d3⟩ := hs.nds.node (Below.refl _ _) hi
  rw [hnd] at hnd'
  cases hnd'
  have hgl := hs.lt
  obtain ⟨c0, c1, f1⟩ := hs.cells
  have HS := Lib.hid hs
  have hbw : b < w.heap.size := by omega
  clear hs hnd
  go_enter Tryz.func42, Tryz.ntmps42
  go_wp2
  go_region
  go_upto_region 3 with (fail)
  obtain ⟨h, hh⟩ : ∃ h, h = w.heap.size := ⟨_, rfl⟩
  rw [← hh]
  refine mk_named (fun wy => MkN g h (some ⟨b, off, none⟩) c l (i + 1) 8 t n w wy) ?named ?_
  case named =>
    have hsz : (w.setCell ⟨g, 1, none⟩ (.int .i64 ((i : Int) + 1))).heap.size = w.heap.size := by simp [World.setCell]
    exact ⟨((HS.out.set (i + 1) (by omega)).past ((Below.refl _ _).alloc (Nat.le_refl _) _)).drew, heap_new (by rw [hsz, hh]), grown_below (grown_setM w g 1 _) (((Below.refl _ _).alloc (Nat.le_refl _) _).drew), by omega, by
      show w.heap.size ≤ ((w.setCell ⟨g, 1, none⟩ (.int .i64 ((i : Int) + 1))).alloc _).heap.size
      simp [World.setCell]⟩
  clear hh c0 c1 f1 d1 d2 d3 HS
  rintro wy hy
  obtain ⟨y0, y1, y2⟩ := hy.cells
  have HM := Lib.hid hy.st; have HG := Lib.hid hy.gr; have hz := hy.sz; have hlt := mkheap_lt hy.nd; have hgh := hy.lt
  clear hy k1
  go_wp2_with (first
    | (go_at_call 42; (fail_if_success have z := T0); refine (HD.out _ HM.out).mono ?_; rintro e w3 ⟨A_d, c_d, rfl, hn, hm, hG⟩; have HV_d := Lib.hid (hn.less hz); have HM := Lib.hid hm; have HG := Lib.hid (grown_trans HG.out hG); have hz := Nat.le_trans hz hG.size; clear hn hm hG; have T0 := Lib.hid True.intro)
    | (go_at_call 80; (fail_if_success have z := T1); have z := T0; clear z; refine (lword_any ⟨#[59]⟩ (by decide) _).mono ?_; rintro e w4 ⟨A_S, c_S, rfl, hn, hB⟩; have HV_S := Lib.hid (hn.less hz); have HM := Lib.hid (HM.out.past hB); have HV_d := Lib.hid (HV_d.out.past hB); have HG := Lib.hid (grown_below HG.out hB); have hz := Nat.le_trans hz hB.size; clear hn hB; have T1 := Lib.hid True.intro)
    | (go_at_call 85; (fail_if_success have z := T2); have z := T1; clear z; refine (lboth_any _ _ _ _ _ _ _ HV_d.out.1 HV_S.out.1 (by (repeat (first | rw [bothN_len] | rw [wordN_len] | rw [opN_len] | rw [deepN_len] | rw [groupN_len])); omega)).mono ?_; rintro e w5 ⟨A_R, c_R, rfl, hn, hB⟩; have HV_R := Lib.hid (hn.less hz); have HM := Lib.hid (HM.out.past hB); have HG := Lib.hid (grown_below HG.out hB); have hz := Nat.le_trans hz hB.size; clear hn hB; have T2 := Lib.hid True.intro))
  go_ret
  exact ⟨A_R, c_R, rfl, HV_R.out, HM.out, HG.out⟩

set_option maxRecDepth 100000 in
theorem lmake_any {g c : Nat} {A : Option Addr} {l : List Nd} (hT : Tr l) : ∀ f, MakeSaid g A c l f := by
  intro f
  induction f with
  | zero => intro i w hs hi hf; omega
  | succ f ih =>
  intro i w hs hi hf h9
  have hk := hT.kidsP hi
  have hone := hT.one _ (List.getElem_mem hi)
  have hmm : (manyL l).getD i 0 = (manyF l[i].op l[i].n).toNat := manyL_at hi rfl
  rw [hmm] at hk
  clear hmm
  have hoe : opAt l i = l[i].op := by rw [opAt, getD_at hi]
  rw [hoe] at h9
  clear hoe
  obtain ⟨op, t, n, hnd⟩ : ∃ op t n, l[i] = Nd.mk op t n := ⟨_, _, _, rfl⟩
  rw [hnd] at hone hk h9
  simp only at hone hk h9
  have hop : 1 ≤ op ∧ op ≤ 8 := by
    by_cases hc : op < 1 ∨ 9 < op
    · rw [treeOne, if_pos (by rcases hc with h | h; exact .inl h; exact .inr (.inl h))] at hone; cases hone
    · omega
  have hnm : namedF op = true → t.size ≤ 8 := fun h => (name_facts (tone_word hone h h9)).2.1
  have hn6 := manyF_bd hone
  have hm40 := hT.len
  have hcs : op = 1 ∨ op = 2 ∨ op = 3 ∨ op = 4 ∨ op = 5 ∨ op = 6 ∨ op = 7 ∨ op = 8 := by omega
  rcases hcs with rfl | rfl | rfl | rfl | rfl | rfl | rfl | rfl
  · obtain ⟨n0, n1⟩ := tone_num hone
    rw [show (manyF 1 n).toNat = 0 from rfl, KidsP] at hk
    rw [← hk]
    rw [show docT l (f + 1) i = wordN ⟨(Lib.itoa n).toArray⟩ by
      rw [docT, getD_at hi, hnd]
      simp only [if_true]]
    exact lmake_1 hs hi hnd hm40 n0 n1
  · rw [show (manyF 2 n).toNat = 0 from rfl, KidsP] at hk
    rw [← hk]
    rw [show docT l (f + 1) i = wordN t by
      rw [docT, getD_at hi, hnd]
      simp only [show ¬ (2 : Int) = 1 by decide, if_false, if_true]]
    exact lmake_2 hs hi hnd hm40
  · rw [show manyF 3 n = n from rfl] at hk hn6
    obtain ⟨m, rfl⟩ : ∃ m : Nat, n = m := ⟨n.toNat, by omega⟩
    rw [Int.toNat_natCast] at hk
    rw [show docT l (f + 1) i = listD (t ++ ⟨#[40]⟩) ⟨#[41]⟩ m (kidsD (docT l f) (tEnd l) (i + 1) m) by
      rw [docT, getD_at hi, hnd]
      simp only [show ¬ (3 : Int) = 1 by decide, show ¬ (3 : Int) = 2 by decide, if_false, if_true, Int.toNat_natCast]]
    exact lmake_3 hs hi hnd hm40 (hnm rfl) (Lib.hid (fun w' hs' => llisted_any hT ih 3 m (i + 1) (tEnd l i) m t _ _ w' (by decide) rfl (by omega) hk (by omega) (by omega) (by omega) hs' (by rw [ByteArray.size_append]; have := hnm rfl; show t.size + 1 ≤ 100; omega) (by decide)))
  · rw [show manyF 4 n = n from rfl] at hk hn6
    obtain ⟨m, rfl⟩ : ∃ m : Nat, n = m := ⟨n.toNat, by omega⟩
    rw [Int.toNat_natCast] at hk
    rw [show docT l (f + 1) i = listD ⟨#[91]⟩ ⟨#[93]⟩ m (kidsD (docT l f) (tEnd l) (i + 1) m) by
      rw [docT, getD_at hi, hnd]
      simp only [show ¬ (4 : Int) = 1 by decide, show ¬ (4 : Int) = 2 by decide, show ¬ (4 : Int) = 3 by decide, if_false, if_true, Int.toNat_natCast]]
    exact lmake_4 hs hi hnd hm40 (Lib.hid (fun w' hs' => llisted_any hT ih 4 m (i + 1) (tEnd l i) m t _ _ w' (by decide) rfl (by omega) hk (by omega) (by omega) (by omega) hs' (by decide) (by decide)))
  · rw [show (manyF 5 n).toNat = 2 from rfl] at hk
    rw [show docT l (f + 1) i = twoD ⟨#[43, 32]⟩ (kidD 5 (opAt l (i + 1)) false (docT l f (i + 1))) (kidD 5 (opAt l (tEnd l (i + 1))) true (docT l f (tEnd l (i + 1)))) by
      rw [docT, getD_at hi, hnd]
      simp only [show ¬ (5 : Int) = 1 by decide, show ¬ (5 : Int) = 2 by decide, show ¬ (5 : Int) = 3 by decide, show ¬ (5 : Int) = 4 by decide, if_false, if_true]]
    exact lmake_5 hs hi hnd hm40 (Lib.hid (fun w' hs' => ltwo_any hT ih 5 n (i + 1) (tEnd l i) t _ w' hk (by omega) (by omega) hs' (by decide)))
  · rw [show (manyF 6 n).toNat = 2 from rfl] at hk
    rw [show docT l (f + 1) i = twoD ⟨#[42, 32]⟩ (kidD 6 (opAt l (i + 1)) false (docT l f (i + 1))) (kidD 6 (opAt l (tEnd l (i + 1))) true (docT l f (tEnd l (i + 1)))) by
      rw [docT, getD_at hi, hnd]
      simp only [show ¬ (6 : Int) = 1 by decide, show ¬ (6 : Int) = 2 by decide, show ¬ (6 : Int) = 3 by decide, show ¬ (6 : Int) = 4 by decide, show ¬ (6 : Int) = 5 by decide, if_false, if_true]]
    exact lmake_6 hs hi hnd hm40 (Lib.hid (fun w' hs' => ltwo_any hT ih 6 n (i + 1) (tEnd l i) t _ w' hk (by omega) (by omega) hs' (by decide)))
  · rw [show (manyF 7 n).toNat = 1 from rfl] at hk
    obtain ⟨q1, q2, q3⟩ : i + 1 < l.length ∧ i + 1 < tEnd l (i + 1) ∧ tEnd l (i + 1) = tEnd l i := ⟨hk.1, hk.2.1, hk.2.2⟩
    rw [show docT l (f + 1) i = groupN (bothN (wordN (⟨#[108, 101, 116, 32]⟩ ++ t ++ ⟨#[32, 61]⟩)) (deepN (bothN (opN 2) (bothN (docT l f (i + 1)) (wordN ⟨#[59]⟩))))) by
      rw [docT, getD_at hi, hnd]
      simp only [show ¬ (7 : Int) = 1 by decide, show ¬ (7 : Int) = 2 by decide, show ¬ (7 : Int) = 3 by decide, show ¬ (7 : Int) = 4 by decide, show ¬ (7 : Int) = 5 by decide, show ¬ (7 : Int) = 6 by decide, if_false, if_true]]
    have h99 := low_at hT q1 (by omega)
    have hI := fun w' hs' => ih (i + 1) w' hs' q1 (by omega) h99
    rw [q3] at hI
    exact lmake_7 hs hi hnd hm40 (hnm rfl) (doc_small hT (f := f) (by omega) q1 h99) (Lib.hid hI)
  · rw [show (manyF 8 n).toNat = 1 from rfl] at hk
    obtain ⟨q1, q2, q3⟩ : i + 1 < l.length ∧ i + 1 < tEnd l (i + 1) ∧ tEnd l (i + 1) = tEnd l i := ⟨hk.1, hk.2.1, hk.2.2⟩
    rw [show docT l (f + 1) i = bothN (docT l f (i + 1)) (wordN ⟨#[59]⟩) by
      rw [docT, getD_at hi, hnd]
      simp only [show ¬ (8 : Int) = 1 by decide, show ¬ (8 : Int) = 2 by decide, show ¬ (8 : Int) = 3 by decide, show ¬ (8 : Int) = 4 by decide, show ¬ (8 : Int) = 5 by decide, show ¬ (8 : Int) = 6 by decide, show ¬ (8 : Int) = 7 by decide, if_false, if_false]]
    have h99 := low_at hT q1 (by omega)
    have hI := fun w' hs' => ih (i + 1) w' hs' q1 (by omega) h99
    rw [q3] at hI
    exact lmake_8 hs hi hnd hm40 (doc_small hT (f := f) (by omega) q1 h99) (Lib.hid hI)
end Go.Proofs.YtddfdmopaeghnacGreatDoor
