/- Walks of syn's parser: peek, take, fail, must, name. Conditions: the parser's block is the caller's own, its words and places lie below it, it stands at a word or at the end. -/
import Derived.Test.YtddfdmopaeghnacGreatDoorCatW
import Derived.Test.YtddfdmopaeghnacGreatDoorPrP
import Derived.Test.YtddfdmopaeghnacGreatDoorTreeV
import Derived.Deep.RegionHeld3
import Derived.RegionDies
namespace Go.Proofs.YtddfdmopaeghnacGreatDoor
open Go.RowKit

/-- The parser in block g: the words, where they begin, the next one. -/
structure PsSt (g : Nat) (W : Option Addr) (cw : Nat) (ws : List ByteArray) (P : Option Addr) (cp : Nat) (ps : List Nat) (k : Nat) (w : World) : Prop where
  blk : w.heap[g]? = some (.cells #[.slice W ws.length cw, .slice P ps.length cp, .int .i64 (k : Nat)] 132 (0, 0))
  txs : Txs w g W ws
  pls : Sl w g 1 P ps.length (ps.map fun p => .int .i64 (p : Nat))
  len : ps.length = ws.length + 1
  few : ws.length ≤ 60000
theorem wdAt_at {ws : List ByteArray} {k : Nat} (h : k < ws.length) : wdAt ws k = ws[k] := by simp [wdAt, List.getD_eq_getElem?_getD, h]
theorem wdAt_end {ws : List ByteArray} {k : Nat} (h : ws.length ≤ k) : wdAt ws k = .empty := by simp [wdAt, List.getD_eq_getElem?_getD, h]
theorem ps_below (w : World) (g j : Nat) (v : Value) : Below g w (w.setCell ⟨g, j, none⟩ v) := (Below.refl g w).setCell (p := ⟨g, j, none⟩) (Nat.le_refl _) v
theorem ps_grown (w : World) (g j : Nat) (v : Value) : w.grownBy (w.setCell ⟨g, j, none⟩ v) (some g) := ⟨rfl, rfl, rfl, by simp [World.setCell], fun k _ hn => Below.heap_setCell _ _ _ _ (fun e => hn (by rw [e]))⟩
theorem ps_row {w w' : World} (row : Option Nat) (hb : Below w.heap.size w w') : w.grownBy w' row := ⟨hb.os, hb.tape, hb.output, hb.size, fun k hk _ => hb.block k hk⟩
section
variable {g cw cp k : Nat} {W P : Option Addr} {ws : List ByteArray} {ps : List Nat} {w w' : World}
theorem PsSt.lt (h : PsSt g W cw ws P cp ps k w) : g < w.heap.size := (Array.getElem?_eq_some_iff.1 h.blk).1
theorem PsSt.past (h : PsSt g W cw ws P cp ps k w) (hb : Below w.heap.size w w') : PsSt g W cw ws P cp ps k w' :=
  ⟨(hb.block g h.lt).trans h.blk, ⟨h.txs.1.below hb (Nat.le_of_lt h.lt), h.txs.2⟩, h.pls.below hb (Nat.le_of_lt h.lt), h.len, h.few⟩
theorem PsSt.cells (h : PsSt g W cw ws P cp ps k w) : w.cell? ⟨g, 0, none⟩ = some (.slice W ws.length cw) ∧ w.cell? ⟨g, 1, none⟩ = some (.slice P ps.length cp) ∧ w.cell? ⟨g, 2, none⟩ = some (.int .i64 (k : Nat)) ∧ w.frozen? ⟨g, 2, none⟩ = false := by
  refine ⟨?_, ?_, ?_, Lib.frozen_of_heap h.blk 2⟩ <;> rw [Lib.cell_of_heap h.blk] <;> rfl
theorem PsSt.set (h : PsSt g W cw ws P cp ps k w) (j : Nat) {v : Int} (hv : v = j) : PsSt g W cw ws P cp ps j (w.setCell ⟨g, 2, none⟩ (.int .i64 v)) := by
  subst hv
  exact ⟨by simp [World.setCell, Array.getElem?_modify, h.blk], ⟨h.txs.1.below (ps_below _ _ _ _) (Nat.le_refl _), h.txs.2⟩, h.pls.below (ps_below _ _ _ _) (Nat.le_refl _), h.len, h.few⟩
theorem PsSt.word (h : PsSt g W cw ws P cp ps k w) (hk : k < ws.length) : ∃ b off, W = some ⟨b, off, none⟩ ∧ b < g ∧ w.cell? ⟨b, off + k, none⟩ = some (.string (wdAt ws k)) := by
  obtain ⟨b, off, u, e, hb, hu, hc⟩ := h.txs.1.one (k := k) hk
  refine ⟨b, off, e, hb, ?_⟩
  rw [wdAt_at hk, hc]
  rw [List.getElem?_map, List.getElem?_eq_getElem hk] at hu
  simpa using hu.symm
theorem PsSt.size (h : PsSt g W cw ws P cp ps k w) (j : Nat) : (wdAt ws j).size ≤ maxLen := by
  rcases Nat.lt_or_ge j ws.length with hj | hj
  · rw [wdAt_at hj]; exact h.txs.2.2 _ (List.getElem_mem _)
  · rw [wdAt_end hj]; exact Nat.zero_le _
theorem PsSt.place (h : PsSt g W cw ws P cp ps k w) (hk : k ≤ ws.length) : ∃ b off, P = some ⟨b, off, none⟩ ∧ b < g ∧ w.cell? ⟨b, off + k, none⟩ = some (.int .i64 (ps.getD k 0 : Nat)) := by
  have hk2 : k < ps.length := by have := h.len; omega
  obtain ⟨b, off, u, e, hb, hu, hc⟩ := h.pls.one (k := k) hk2
  refine ⟨b, off, e, hb, ?_⟩
  rw [hc, List.getD_eq_getElem?_getD, List.getElem?_eq_getElem hk2]
  rw [List.getElem?_map, List.getElem?_eq_getElem hk2] at hu
  simpa using hu.symm
end

/-- A word could not stand: its place is thrown. -/
def PsBad (g : Nat) (ps : List Nat) (x : Nat) (w : World) (e : Ending) (w' : World) : Prop := e = .panicked [{ v := .iface 193 (.agg #[.int .i64 (ps.getD x 0 : Nat)]), recovered := false }] ∧ w.grownBy w' (some g)
/-- A call has handed back a value and gone on. -/
def PsOk (g : Nat) (W : Option Addr) (cw : Nat) (ws : List ByteArray) (P : Option Addr) (cp : Nat) (ps : List Nat) (k : Nat) (v : Value) (w : World) (e : Ending) (w' : World) : Prop :=
  e = .returned v ∧ PsSt g W cw ws P cp ps k w' ∧ w.grownBy w' (some g)

set_option maxRecDepth 100000 in
set_option maxHeartbeats 2000000 in
theorem peek_any {g cw cp k : Nat} {W P : Option Addr} {ws : List ByteArray} {ps : List Nat} (w : World) (hs : PsSt g W cw ws P cp ps k w) (hk : k ≤ ws.length) :
    Calls Tryz.prog 113 #[.pointer (some ⟨g, 0, none⟩)] w (Ret w (.string (wdAt ws k))) := by
  obtain ⟨c0, c1, c2, f2⟩ := hs.cells
  have hg := hs.lt
  have hf := hs.few
  by_cases hlt : k < ws.length
  · obtain ⟨b, off, rfl, hb, hw⟩ := hs.word hlt
    generalize wdAt ws k = s at *
    generalize ws.length = n at *
    clear hs c1 f2
    have q2 : decide ((k : Int) < (n : Int)) = true := decide_eq_true (by omega)
    go_enter Tryz.func113, Tryz.ntmps113
    go_wp2
    go_quiet (fail)
    go_wp2
    go_quiet (fail)
    go_wp2
    go_ret
    exact ⟨rfl, by first | exact below_undrewN (below_undrewN (Below.refl _ _)) | exact below_undrewN (Below.refl _ _)⟩
  · rw [wdAt_end (by omega)]
    generalize ws.length = n at *
    clear hs c1 f2
    have q2 : decide ((k : Int) < (n : Int)) = false := decide_eq_false (by omega)
    go_enter Tryz.func113, Tryz.ntmps113
    go_wp2
    go_quiet (fail)
    go_wp2
    go_ret
    exact ⟨rfl, by first | exact below_undrewN (below_undrewN (Below.refl _ _)) | exact below_undrewN (Below.refl _ _)⟩

set_option maxRecDepth 100000 in
set_option maxHeartbeats 2000000 in
theorem take_any {g cw cp k : Nat} {W P : Option Addr} {ws : List ByteArray} {ps : List Nat} (w : World) (hs : PsSt g W cw ws P cp ps k w) (hk : k ≤ ws.length) :
    Calls Tryz.prog 163 #[.pointer (some ⟨g, 0, none⟩)] w (PsOk g W cw ws P cp ps (k + 1) (.string (wdAt ws k)) w) := by
  have HP := Lib.hid (peek_any w hs hk)
  have HS := Lib.hid hs
  have hf := hs.few
  generalize wdAt ws k = s at *
  generalize ws.length = n at *
  clear hs
  go_enter Tryz.func163, Tryz.ntmps163
  go_wp2_with (go_at_call 113; refine HP.out.mono ?_; rintro e w1 ⟨rfl, hB⟩; have hs1 := HS.out.past hB; obtain ⟨-, -, c2, f2⟩ := hs1.cells; have HM := Lib.hid hs1; have HG : Hid (w.grownBy w1 (some g)) := Lib.hid (ps_row _ hB); clear hB hs1)
  go_ret
  exact ⟨rfl, HM.out.set (k + 1) (by go_num), grown_trans HG.out (ps_grown _ _ _ _)⟩

set_option maxRecDepth 100000 in
set_option maxHeartbeats 2000000 in
theorem fail_any {g cw cp k : Nat} {W P : Option Addr} {ws : List ByteArray} {ps : List Nat} (w : World) (hs : PsSt g W cw ws P cp ps k w) (hk : k ≤ ws.length) :
    Calls Tryz.prog 189 #[.pointer (some ⟨g, 0, none⟩)] w (PsBad g ps k w) := by
  obtain ⟨c0, c1, c2, f2⟩ := hs.cells
  have hg := hs.lt
  have hf := hs.few
  have hl := hs.len
  obtain ⟨b, off, rfl, hb, hw⟩ := hs.place hk
  obtain ⟨x, hx⟩ : ∃ x, x = ps.getD k 0 := ⟨_, rfl⟩
  rw [← hx] at hw
  have HX := Lib.hid hx
  clear hx
  have q1 : (0 : Int) ≤ (k : Int) := by omega
  have q2 : (k : Int) < (ps.length : Int) := by omega
  have q3 : k < ps.length := by omega
  clear hs c0 f2 hl
  generalize ps.length = n at *
  go_enter Tryz.func189, Tryz.ntmps189
  go_wp2
  go_region_dies
  all_goals (try go_wp2)
  all_goals exact ⟨rfl, by rw [HX.out], ps_row _ (Below.refl _ _).drew⟩

set_option maxRecDepth 100000 in
set_option maxHeartbeats 2000000 in
theorem must_ok {g cw cp k : Nat} {W P : Option Addr} {ws : List ByteArray} {ps : List Nat} (s : ByteArray) (w : World) (hs : PsSt g W cw ws P cp ps k w) (hk : k ≤ ws.length) (h : ((wdAt ws k).toList == s.toList) = true) :
    Calls Tryz.prog 166 #[.pointer (some ⟨g, 0, none⟩), .string s] w (PsOk g W cw ws P cp ps (k + 1) (.tuple #[]) w) := by
  have HP := Lib.hid (peek_any w hs hk)
  have HS := Lib.hid hs
  have hf := hs.few
  generalize wdAt ws k = t at *
  generalize ws.length = n at *
  clear hs
  go_enter Tryz.func166, Tryz.ntmps166
  go_wp2_with (go_at_call 113; refine HP.out.mono ?_; rintro e w1 ⟨rfl, hB⟩; have hs1 := HS.out.past hB; obtain ⟨-, -, c2, f2⟩ := hs1.cells; have HM := Lib.hid hs1; have HG : Hid (w.grownBy w1 (some g)) := Lib.hid (ps_row _ hB); clear hB hs1)
  go_end0
  exact ⟨rfl, HM.out.set (k + 1) (by go_num), grown_trans HG.out (ps_grown _ _ _ _)⟩

set_option maxRecDepth 100000 in
set_option maxHeartbeats 2000000 in
theorem must_bad {g cw cp k : Nat} {W P : Option Addr} {ws : List ByteArray} {ps : List Nat} (s : ByteArray) (w : World) (hs : PsSt g W cw ws P cp ps k w) (hk : k ≤ ws.length) (h : ((wdAt ws k).toList == s.toList) = false) :
    Calls Tryz.prog 166 #[.pointer (some ⟨g, 0, none⟩), .string s] w (PsBad g ps k w) := by
  have HP := Lib.hid (peek_any w hs hk)
  have HF := Lib.hid (fun w' (h' : PsSt g W cw ws P cp ps k w') => fail_any w' h' hk)
  have HS := Lib.hid hs
  have hf := hs.few
  generalize wdAt ws k = t at *
  clear hs hf hk
  go_enter Tryz.func166, Tryz.ntmps166
  go_wp2_with (first
    | (go_at_call 113; refine HP.out.mono ?_; rintro e w1 ⟨rfl, hB⟩; have HM := Lib.hid (HS.out.past hB); have HG : Hid (w.grownBy w1 (some g)) := Lib.hid (ps_row _ hB); clear hB)
    | (go_at_call 189; refine (HF.out _ HM.out).mono ?_; rintro e w2 ⟨rfl, hG2⟩; have HG := Lib.hid (grown_trans HG.out hG2); clear hG2))
  exact ⟨rfl, by trivial, HG.out⟩

set_option maxRecDepth 100000 in
set_option maxHeartbeats 2000000 in
theorem pname_ok {g cw cp k : Nat} {W P : Option Addr} {ws : List ByteArray} {ps : List Nat} (w : World) (hs : PsSt g W cw ws P cp ps k w) (hk : k ≤ ws.length) (h : nameF (wdAt ws k) = true) :
    Calls Tryz.prog 165 #[.pointer (some ⟨g, 0, none⟩)] w (PsOk g W cw ws P cp ps (k + 1) (.string (wdAt ws k)) w) := by
  have HP := Lib.hid (peek_any w hs hk)
  have HT := Lib.hid (fun w' (h' : PsSt g W cw ws P cp ps k w') => take_any w' h' hk)
  have HN := Lib.hid (fun w' => name_is h (hs.size k) w')
  have HS := Lib.hid hs
  generalize wdAt ws k = s at *
  clear hs hk h
  go_enter Tryz.func165, Tryz.ntmps165
  go_wp2_with (first
    | (go_at_call 113; refine HP.out.mono ?_; rintro e w1 ⟨rfl, hB⟩; have HM := Lib.hid (HS.out.past hB); have HG : Hid (w.grownBy w1 (some g)) := Lib.hid (ps_row _ hB); clear hB)
    | (go_at_call 135; refine (HN.out _).mono ?_; rintro e w2 ⟨rfl, rfl⟩)
    | (go_at_call 163; refine (HT.out _ HM.out).mono ?_; rintro e w3 ⟨rfl, hs3, hG3⟩; have HM := Lib.hid hs3; have HG := Lib.hid (grown_trans HG.out hG3); clear hs3 hG3))
  go_ret
  exact ⟨rfl, HM.out, HG.out⟩

set_option maxRecDepth 100000 in
set_option maxHeartbeats 2000000 in
theorem pname_bad {g cw cp k : Nat} {W P : Option Addr} {ws : List ByteArray} {ps : List Nat} (w : World) (hs : PsSt g W cw ws P cp ps k w) (hk : k ≤ ws.length) (h : nameF (wdAt ws k) = false) :
    Calls Tryz.prog 165 #[.pointer (some ⟨g, 0, none⟩)] w (PsBad g ps k w) := by
  have HP := Lib.hid (peek_any w hs hk)
  have HF := Lib.hid (fun w' (h' : PsSt g W cw ws P cp ps k w') => fail_any w' h' hk)
  have HN := Lib.hid (fun w' => name_is h (hs.size k) w')
  have HS := Lib.hid hs
  generalize wdAt ws k = s at *
  clear hs hk h
  go_enter Tryz.func165, Tryz.ntmps165
  go_wp2_with (first
    | (go_at_call 113; refine HP.out.mono ?_; rintro e w1 ⟨rfl, hB⟩; have HM := Lib.hid (HS.out.past hB); have HG : Hid (w.grownBy w1 (some g)) := Lib.hid (ps_row _ hB); clear hB)
    | (go_at_call 135; refine (HN.out _).mono ?_; rintro e w2 ⟨rfl, rfl⟩)
    | (go_at_call 189; refine (HF.out _ HM.out).mono ?_; rintro e w3 ⟨rfl, hG3⟩; have HG := Lib.hid (grown_trans HG.out hG3); clear hG3))
  exact ⟨rfl, by trivial, HG.out⟩
end Go.Proofs.YtddfdmopaeghnacGreatDoor
