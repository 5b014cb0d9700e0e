/- Walk of the law LexIs: it returns true. Conditions: errors.errorType reads as the program's text lays it; the text's own size. -/
import Derived.Test.YtddfdmopaeghnabDoorLexO
import Derived.Test.YtddfdmopaeghnabDoorLexN
import Derived.Test.YtddfdmopaeghnabDoorInts0
import Derived.Test.YtddfdmopaeghnabDoorErrW
namespace Go.Proofs.YtddfdmopaeghnabDoor
open Go.RowKit

theorem lexof_ok_c {s : ByteArray} (h : (lexE s).1 = 0) (w : World) (hs : s.size ≤ maxLen) : Calls Tryd.prog 17 #[.string s] w fun e w' => ∃ A c A2 c2, e = .returned (.tuple #[.slice A (lexWs s).length c, .slice A2 (lexWs s).length c2, .int .i64 0, .int .i64 0]) ∧
    Txs w' w'.heap.size A (wordBs (lexWs s)) ∧ Sl w' w'.heap.size 1 A2 (lexWs s).length (placeV (lexWs s)) ∧ Below w.heap.size w w' :=
  (lexof_any s w hs).mono fun _ _ hh => by
    rcases hh with ⟨h1, _⟩ | ⟨_, h2⟩
    · exact absurd h h1
    · exact h2
theorem lexof_bad_c {s : ByteArray} (h : (lexE s).1 ≠ 0) (w : World) (hs : s.size ≤ maxLen) :
    Calls Tryd.prog 17 #[.string s] w fun e w' => e = .returned (.tuple #[.slice none 0 0, .slice none 0 0, .int .i64 ((lexE s).2 : Nat), .int .i64 (lexE s).1]) ∧ Below w.heap.size w w' :=
  (lexof_any s w hs).mono fun _ _ hh => by
    rcases hh with ⟨_, h1, h2⟩ | ⟨h2, _⟩
    · exact ⟨h1, h2⟩
    · exact absurd h2 h
theorem txs_nil (w : World) : Txs w w.heap.size none [] := ⟨⟨rfl, fun h => by simp at h⟩, by simp, fun t h => by simp at h⟩

set_option maxRecDepth 100000 in
set_option maxHeartbeats 4000000 in
theorem lexIs_any (s : ByteArray) (w : World) (hs : s.size ≤ maxLen) (ht : ErrT w) (hg : 0 + 1 ≤ w.heap.size) :
    Calls Tryd.prog 4 #[.string s] w (Ret w (.bool true)) := by
  have HT : Hid (∀ w' : World, Below w.heap.size w w' → ErrT w' ∧ 0 + 1 ≤ w'.heap.size) := Lib.hid (fun w' hb => ⟨ht.past hg hb, Nat.le_trans hg hb.size⟩)
  have HB : Hid (Below w.heap.size w w) := Lib.hid (Below.refl _ _)
  clear ht
  by_cases he : (lexE s).1 = 0
  · have HR := Lib.hid (fun w' => lexof_ok_c he w' hs)
    have HW := Lib.hid (fun w' => lex_ok_c he w' hs)
    have hcn := lexWs_count he
    have hwl : (wordBs (lexWs s)).length = (lexWs s).length := by simp [wordBs]
    have hpl : (placesL (lexWs s)).length = (lexWs s).length := by simp [placesL]
    have HII := Lib.hid (fun (A1 A2 : Option Addr) (c1 c2 : Nat) (w' : World) h1 h2 => ints_any (placesL (lexWs s)) (placesL (lexWs s)) _ _ hpl hpl A1 A2 c1 c2 w' h1 h2)
    rw [decide_eq_true rfl] at HII
    have HTS := Lib.hid (fun (A1 A2 : Option Addr) (c1 c2 : Nat) (w' : World) h1 h2 => texts_same (wordBs (lexWs s)) _ hwl A1 A2 c1 c2 w' h1 h2)
    have hm : (lexWs s).length ≤ maxLen := by simp only [maxLen]; omega
    clear he hpl hwl
    go_enter Tryd.func4, Tryd.ntmps4
    go_wp2_with (first
      | (go_at_call 17; refine (HR.out _).mono ?_; rintro e w1 ⟨A1, c1, A2, c2, rfl, ht1, hp1, hB1⟩; have HT1 := Lib.hid ht1; have HN1 := Lib.hid (numsI_places hp1 hm); have HB1 := Lib.hid hB1; clear ht1 hp1 hB1)
      | (go_at_call 18; refine (HW.out _).mono ?_; rintro e w2 ⟨A3, c3, A4, c4, rfl, ht2, hp2, hB2⟩; have HT2 := Lib.hid ht2; have HN2 := Lib.hid (numsI_places hp2 hm); have HT1 := Lib.hid (HT1.out.past hB2); have HN1 := Lib.hid (HN1.out.past hB2); have HB := Lib.hid (HB1.out.trans (hB2.mono HB1.out.size)); clear ht2 hp2 hB2)
      | (go_at_call 13; refine (error_nil _ (HT.out _ HB.out).1 (HT.out _ HB.out).2).mono ?_; rintro e w3 ⟨rfl, hB3⟩; have HT1 := Lib.hid (HT1.out.past hB3); have HN1 := Lib.hid (HN1.out.past hB3); have HT2 := Lib.hid (HT2.out.past hB3); have HN2 := Lib.hid (HN2.out.past hB3); have HB := Lib.hid (HB.out.trans (hB3.mono HB.out.size)); clear hB3)
      | (go_at_call 19; refine (HTS.out _ _ _ _ _ HT2.out HT1.out).mono ?_; rintro e w4 ⟨rfl, hB4⟩; have HN1 := Lib.hid (HN1.out.past hB4); have HN2 := Lib.hid (HN2.out.past hB4); have HB := Lib.hid (HB.out.trans (hB4.mono HB.out.size)); clear hB4)
      | (go_at_call 20; refine (HII.out _ _ _ _ _ HN2.out HN1.out).mono ?_; rintro e w5 ⟨rfl, hB5⟩; have HB := Lib.hid (HB.out.trans (hB5.mono HB.out.size)); clear hB5))
    go_ret
    exact ⟨rfl, HB.out⟩
  · have HR := Lib.hid (fun w' => lexof_bad_c he w' hs)
    have HW := Lib.hid (fun w' => lex_bad_c he w' hs)
    have HES := Lib.hid (fun (w' : World) h1 h2 => error_same (lexE s).1 he w' h1 h2)
    have HII := Lib.hid (fun (w' : World) => ints_any [] [] 0 0 rfl rfl none none 0 0 w' (numsI_nil w' _) (numsI_nil w' _))
    have HTS := Lib.hid (fun (w' : World) => texts_same [] 0 rfl none none 0 0 w' (txs_nil w') (txs_nil w'))
    generalize (lexE s).1 = q at *
    generalize (lexE s).2 = q2 at *
    clear he
    go_enter Tryd.func4, Tryd.ntmps4
    go_wp2_with (first
      | (go_at_call 17; refine (HR.out _).mono ?_; rintro e w1 ⟨rfl, hB1⟩; have HB := Lib.hid (HB.out.trans (hB1.mono HB.out.size)); clear hB1)
      | (go_at_call 18; refine (HW.out _).mono ?_; rintro e w2 ⟨rfl, hB1⟩; have HB := Lib.hid (HB.out.trans (hB1.mono HB.out.size)); clear hB1)
      | (go_at_call 13; refine (HES.out _ (HT.out _ HB.out).1 (HT.out _ HB.out).2).mono ?_; rintro e w3 ⟨rfl, hB1⟩; have HB := Lib.hid (HB.out.trans (hB1.mono HB.out.size)); clear hB1)
      | (go_at_call 19; refine (HTS.out _).mono ?_; rintro e w4 ⟨rfl, hB1⟩; have HB := Lib.hid (HB.out.trans (hB1.mono HB.out.size)); clear hB1)
      | (go_at_call 20; refine (HII.out _).mono ?_; rintro e w5 ⟨rfl, hB1⟩; have HB := Lib.hid (HB.out.trans (hB1.mono HB.out.size)); clear hB1))
    go_ret
    exact ⟨rfl, HB.out⟩
end Go.Proofs.YtddfdmopaeghnabDoor
