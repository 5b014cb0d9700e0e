/- strings.SplitSeq at the separator of one byte 10: what its maker hands back, what its iterator owes. Condition: a round keeps what lay. -/
import Derived.RangeFuncNested
import Derived.RangeFuncBound
import Derived.RangeFuncCalls
import Derived.RangeFuncLeaves
import Derived.Shelf.Abstract
import Derived.Shelf.RegionOpen
import Derived.WalkKit
import Derived.OwnWalkIn
import Derived.TacticsInMore
import Derived.LoopNIn
import Derived.LoopIn
import Derived.Test.YtddfdmopaeghnabDoorShelf
import Derived.Test.YtddfdmopaeghnabDoorSplitP
import Derived.Test.YtddfdmopaeghnabDoorRangeC
namespace Go.Proofs.YtddfdmopaeghnabDoor
open Go.RowKit Go.Shelf
attribute [local go_sem] Oper.semAt_some

/-- The world in which SplitSeq hands back its iterator. -/
def splitWorld (w : World) (s : ByteArray) : World := ((w.alloc (.cells #[.string s] 9)).alloc (.cells #[.string ⟨#[10]⟩] 9)).alloc (.cells #[.int .i64 0] 3)
def splitVal (b : Nat) : Value := .func (.func 100) #[] #[.pointer (some ⟨b + 1, 0, none⟩), .pointer (some ⟨b, 0, none⟩), .pointer (some ⟨b + 1 + 1, 0, none⟩)]

set_option maxHeartbeats 400000 in
theorem splitSeq_any (s : ByteArray) (w : World) :
    Calls Tryd.prog 71 #[.string s, .string ⟨#[10]⟩, .int .i64 0] w fun e w' => e = .returned (splitVal w.heap.size) ∧ w' = splitWorld w s := by
  go_enter Tryd.func71, Tryd.ntmps71
  go_wp2
  go_ret
  exact ⟨rfl, rfl⟩
set_option maxHeartbeats 400000 in
theorem splitSeq_all (s : ByteArray) (w : World) :
    Calls Tryd.prog 43 #[.string s, .string ⟨#[10]⟩] w fun e w' => e = .returned (splitVal w.heap.size) ∧ w' = splitWorld w s := by
  go_enter Tryd.func43, Tryd.ntmps43
  go_wp2_with (go_at_call 71; refine (splitSeq_any _ _).mono ?_; rintro e w1 ⟨rfl, rfl⟩)
  go_ret
  exact ⟨rfl, rfl⟩

/-- How much of the text is still to come. -/
def leftS (bs : Nat) (w : World) : Nat := match w.cell? ⟨bs, 0, none⟩ with
  | some (.string r) => r.size + 1
  | _ => 0
theorem leftS_eq {bs : Nat} {w : World} {r : ByteArray} (h : w.cell? ⟨bs, 0, none⟩ = some (.string r)) : leftS bs w = r.size + 1 := by simp [leftS, h]

theorem take_bytes (s : ByteArray) (k : Nat) : (⟨(s.data.toList.take k).toArray⟩ : ByteArray) = s.extract 0 k := by
  apply ByteArray.ext
  apply Array.ext'
  simp
theorem drop_bytes (s : ByteArray) (k : Nat) : (s.extract k s.size).data.toList = s.data.toList.drop k := by
  have e : s.size = s.data.toList.length := by simp
  rw [e]
  simp
  exact List.take_of_length_le (by simp)
theorem same_bytes (s : ByteArray) : (⟨s.data.toList.toArray⟩ : ByteArray) = s := by
  apply ByteArray.ext
  exact Array.toArray_toList

set_option maxRecDepth 100000 in
set_option maxHeartbeats 1000000 in
theorem split_seq (n : Nat) (hn : 1 ≤ n) (bs : Nat) (s : ByteArray) (hs : s.size ≤ 1000000000) (w0 : World) (hb : w0.heap[bs]? = some (.cells #[.string s] 9 (0, 0))) (hb1 : w0.heap[bs + 1]? = some (.cells #[.string ⟨#[10]⟩] 9 (0, 0))) (hb2 : w0.heap[bs + 1 + 1]? = some (.cells #[.int .i64 0] 3 (0, 0))) :
    SeqCell Fence.wide n Tryd.prog 100 #[.pointer (some ⟨bs + 1, 0, none⟩), .pointer (some ⟨bs, 0, none⟩), .pointer (some ⟨bs + 1 + 1, 0, none⟩)] (fun x : List UInt8 => .string ⟨x.toArray⟩) bs bs (bs + 3) (splitL s.data.toList) w0 := by
  intro l J W hBW hJset hY h0
  refine callsIn_of_wp Tryd.func100 rfl trivial ?_ rfl
  simp only [Tryd.ntmps100, List.size_toArray, List.length_cons, List.length_nil, Nat.reduceAdd, Nat.reduceSub, Array.replicate_succ, Array.replicate_zero, List.push_toArray, List.append_toArray, List.nil_append, List.cons_append]
  have hI := fun (r : ByteArray) (w' : World) => Tryd.strings_Index_one r 10 w'
  have c1 : W.cell? ⟨bs + 1, 0, none⟩ = some (.string ⟨#[10]⟩) := cell_of_row W (bs + 1) 0 _ _ _ ((hBW _ (by omega) (by omega)).trans hb1)
  have HY := Lib.hid hY; have HJ := Lib.hid hJset; have H0 := Lib.hid h0; have HB := Lib.hid hBW; have HII := Lib.hid hI
  have HC1 := Lib.hid hb1; have HC2 := Lib.hid hb2; have HC0 := Lib.hid hb
  clear hY hJset h0 hBW hI hb hb1 hb2
  gi_wp2
  gi_loopw [7, 8] (fun _ _ wr => ∃ (pre : List (List UInt8)) (r : ByteArray), splitL s.data.toList = pre ++ splitL r.data.toList ∧ r.size ≤ s.size ∧ J pre wr ∧ wr.heap[bs]? = some (.cells #[.string r] 9 (0, 0)) ∧ wr.heap[bs + 1]? = some (.cells #[.string ⟨#[10]⟩] 9 (0, 0)) ∧ wr.heap[bs + 1 + 1]? = some (.cells #[.int .i64 0] 3 (0, 0))) (fun _ _ wr => leftS bs wr)
  case atStart =>
    refine ⟨[], s, rfl, Nat.le_refl _, H0.out, ?_, ?_, ?_⟩
    · exact (HB.out _ (by omega) (by omega)).trans HC0.out
    · exact (HB.out _ (by omega) (by omega)).trans HC1.out
    · exact (HB.out _ (by omega) (by omega)).trans HC2.out
  case round =>
    obtain ⟨pre, r, hsp, hrs, hJr, hb0, hb1, hb2⟩ := hrel
    have e0 : wr.cell? ⟨bs, 0, none⟩ = some (.string r) := cell_of_row wr bs 0 _ _ _ hb0
    have e1 : wr.cell? ⟨bs + 1, 0, none⟩ = some (.string ⟨#[10]⟩) := cell_of_row wr (bs + 1) 0 _ _ _ hb1
    have e2 : wr.cell? ⟨bs + 1 + 1, 0, none⟩ = some (.int .i64 0) := cell_of_row wr (bs + 1 + 1) 0 _ _ _ hb2
    have HSP := Lib.hid hsp; have HJR := Lib.hid hJr; have HB0 := Lib.hid hb0; have HB1 := Lib.hid hb1; have HB2 := Lib.hid hb2
    clear hsp hJr hb0 hb1 hb2
    obtain ⟨idx, hidx⟩ : ∃ idx, Lib.indexByte r.data.toList 10 = idx := ⟨_, rfl⟩
    have HIR := Lib.hid (HII.out r)
    rw [hidx] at HIR
    have HIX := Lib.hid hidx
    by_cases hneg : idx < 0
    · have hno : splitL r.data.toList = [r.data.toList] := splitL_no (index_no (by rw [hidx]; exact hneg))
      have hall : splitL s.data.toList = pre ++ [r.data.toList] := by rw [HSP.out, hno]
      obtain ⟨fn, tmps, assign, body, hy, hR⟩ := HY.out pre r.data.toList wr HJR.out ⟨[], by rw [hall]; simp⟩
      rw [← hall] at hR
      simp only [same_bytes] at hy
      have k1 : decide (idx < 0) = true := decide_eq_true hneg
      clear hidx hno hall hneg
      gi_wp2_with (refine ⟨trivial, ?_⟩; gi_at_call 102; refine (callsIn_wide.2 (HIR.out _)).mono ?_; rintro e w' ⟨rfl, rfl⟩)
      refine hR.mono ?_
      rintro e W3 ⟨rfl, hJ3, hk3⟩
      gi_wp2
      go_end0
      exact ⟨⟨_, rfl⟩, hJ3⟩
    · obtain ⟨o, rfl⟩ : ∃ o : Nat, idx = o := ⟨idx.toNat, by omega⟩
      obtain ⟨ho, _, hsl⟩ := index_yes hidx
      have hall : splitL s.data.toList = (pre ++ [r.data.toList.take o]) ++ splitL (r.data.toList.drop (o + 1)) := by rw [HSP.out, hsl]; simp
      obtain ⟨fn, tmps, assign, body, hy, hR⟩ := HY.out pre (r.data.toList.take o) wr HJR.out ⟨_, hall.symm⟩
      have hor : o < r.size := by simpa using ho
      simp only [take_bytes] at hy
      have k1 : decide ((o : Int) < 0) = false := decide_eq_false (by omega)
      have HAL := Lib.hid hall
      clear hidx hall hneg hsl ho
      gi_wp2_with (refine ⟨trivial, ?_⟩; gi_at_call 102; refine (callsIn_wide.2 (HIR.out _)).mono ?_; rintro e w' ⟨rfl, rfl⟩)
      refine hR.mono ?_
      rintro e W3 ⟨rfl, hJ3, hk3⟩
      have hc0 := (hk3 _ (by omega) (by omega)).trans HB0.out; have hc1 := (hk3 _ (by omega) (by omega)).trans HB1.out; have hc2 := (hk3 _ (by omega) (by omega)).trans HB2.out
      have f0 : W3.cell? ⟨bs, 0, none⟩ = some (.string r) := cell_of_row W3 bs 0 _ _ _ hc0
      have f1 : W3.cell? ⟨bs + 1, 0, none⟩ = some (.string ⟨#[10]⟩) := cell_of_row W3 (bs + 1) 0 _ _ _ hc1
      have f3 : W3.frozen? ⟨bs, 0, none⟩ = false := by simp [World.frozen?, hc0]
      have HC0' := Lib.hid hc0; have HC1' := Lib.hid hc1; have HC2' := Lib.hid hc2; have HJ3 := Lib.hid hJ3
      clear hc0 hc1 hc2 hJ3 hk3
      gi_wp2
      go_roundw
      case rel =>
        refine ⟨pre ++ [r.data.toList.take o], r.extract (o + 1) r.size, ?_, ?_, HJ.out _ _ _ HJ3.out, ?_, ?_, ?_⟩
        · rw [drop_bytes]; exact HAL.out
        · rw [ByteArray.size_extract]; omega
        · simp [World.setCell, Array.getElem?_modify, HC0'.out]
        · exact (Below.heap_setCell _ _ _ _ (by simp)).trans HC1'.out
        · exact (Below.heap_setCell _ _ _ _ (by simp; omega)).trans HC2'.out
      case measure =>
        rw [leftS_eq (r := r.extract (o + 1) r.size) (World.cell?_setCell_same' _ _ _ (by rw [f0]; rfl)), leftS_eq e0, ByteArray.size_extract]
        omega
end Go.Proofs.YtddfdmopaeghnabDoor
