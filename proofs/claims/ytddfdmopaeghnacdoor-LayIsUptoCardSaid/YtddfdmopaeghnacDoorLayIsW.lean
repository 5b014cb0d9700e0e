/- Walk of the law LayIs: it returns true. Conditions: the slice of nodes lies below the call's own blocks; its texts are shorter than 4294967281 bytes; errors.errorType and the table of the powers of ten read as the program's text lays them; internal/bytealg.MaxLen holds some number. -/
import Derived.Test.YtddfdmopaeghnacDoorLDocW
import Derived.Test.YtddfdmopaeghnacDoorRmT
import Derived.Test.YtddfdmopaeghnacDoorTRefF
import Derived.Test.YtddfdmopaeghnacDoorDocS
import Derived.Test.YtddfdmopaeghnacDoorTxsSame
import Derived.Test.YtddfdmopaeghnacDoorErrW
namespace Go.Proofs.YtddfdmopaeghnacDoor
open Go.RowKit

theorem docs_nil (w : World) : Calls Tryd.prog 14 #[.slice none 0 0, .slice none 0 0] w (Ret w (.bool true)) := by
  have hn : Nds w w.heap.size none [] := ⟨Sl.nil_, by simp [maxLen], by simp⟩
  have h := docs_any [] [] 0 0 rfl rfl none none 0 0 w hn hn
  rw [sameN_all rfl rfl] at h
  exact h
theorem texts_nil (w : World) : Calls Tryd.prog 16 #[.slice none 0 0, .slice none 0 0] w (Ret w (.bool true)) := by
  have hn : Txs w w.heap.size none [] := ⟨Sl.nil_, by simp [maxLen], by simp⟩
  exact texts_same [] 0 rfl none none 0 0 w hn hn

set_option maxRecDepth 100000 in
set_option maxHeartbeats 2000000 in
theorem layIs_bad (l : List Nd) (A : Option Addr) (c : Nat) (w : World) (hl : Nds w w.heap.size A l) (hsh : Short l) (hm : MaxL w) (_hp : PowT w) (ht : ErrT w) (hg : 0 + 1 ≤ w.heap.size) (h : treeF l ≠ 0) :
    Calls Tryd.prog 4 #[.slice A l.length c] w (Ret w (.bool true)) := by
  have hml := hl.2.1
  unfold maxLen at hml
  have HT : Hid (∀ w' : World, Below w.heap.size w w' → ErrT w' ∧ 0 + 1 ≤ w'.heap.size) := Lib.hid (fun w' hb => ⟨ht.past hg hb, Nat.le_trans hg hb.size⟩)
  have HB : Hid (Below w.heap.size w w) := Lib.hid (Below.refl _ _)
  have HTF := Lib.hid (fun (w' : World) (hb : Below w.heap.size w w') => treefault_any l A c w' (hl.past hb) hsh)
  have HD0 := Lib.hid (docs_nil)
  have HT0 := Lib.hid (texts_nil)
  have HLD := Lib.hid (fun (w' : World) (hb : Below w.heap.size w w') => ldoc_bad l A c w' (hl.past hb) hsh (hm.past hb) h)
  have HLN := Lib.hid (fun (w' : World) (hb : Below w.heap.size w w') => lnote_bad l A c w' (hl.past hb) hsh (hm.past hb) h)
  clear hl hsh hm ht
  generalize treeF l = k at *
  have hk := Lib.hid h
  have hk0 : (k == 0) = false := by simpa using h
  clear h
  go_enter Tryd.func4, Tryd.ntmps4
  go_wp2_with (first
    | (go_at_call 10; refine (HTF.out _ HB.out).mono ?_; rintro e w1 ⟨rfl, hB⟩; have HB := Lib.hid (HB.out.trans (hB.mono HB.out.size)); clear hB)
    | (go_at_call 13; refine (HLD.out _ HB.out).mono ?_; rintro e w3 ⟨rfl, hB⟩; have HB := Lib.hid (HB.out.trans (hB.mono HB.out.size)); clear hB)
    | (go_at_call 8; (fail_if_success have z := E1); refine (error_same k hk.out _ (HT.out _ HB.out).1 (HT.out _ HB.out).2).mono ?_; rintro e w4 ⟨rfl, hB⟩; have HB := Lib.hid (HB.out.trans (hB.mono HB.out.size)); clear hB; have E1 := Lib.hid True.intro)
    | (go_at_call 14; refine (HD0.out _).mono ?_; rintro e w5 ⟨rfl, hB⟩; have HB := Lib.hid (HB.out.trans (hB.mono HB.out.size)); clear hB)
    | (go_at_call 15; refine (HLN.out _ HB.out).mono ?_; rintro e w6 ⟨rfl, hB⟩; have HB := Lib.hid (HB.out.trans (hB.mono HB.out.size)); clear hB)
    | (go_at_call 8; have z := E1; clear z; refine (error_same k hk.out _ (HT.out _ HB.out).1 (HT.out _ HB.out).2).mono ?_; rintro e w7 ⟨rfl, hB⟩; have HB := Lib.hid (HB.out.trans (hB.mono HB.out.size)); clear hB)
    | (go_at_call 16; refine (HT0.out _).mono ?_; rintro e w8 ⟨rfl, hB⟩; have HB := Lib.hid (HB.out.trans (hB.mono HB.out.size)); clear hB))
  go_ret
  exact ⟨rfl, HB.out⟩

set_option maxRecDepth 100000 in
set_option maxHeartbeats 2000000 in
theorem layIs_note (l : List Nd) (A : Option Addr) (c : Nat) (w : World) (hl : Nds w w.heap.size A l) (hsh : Short l) (hm : MaxL w) (_hp : PowT w) (ht : ErrT w) (hg : 0 + 1 ≤ w.heap.size) (h : treeF l = 0) (h9 : opAt l 0 = 9) :
    Calls Tryd.prog 4 #[.slice A l.length c] w (Ret w (.bool true)) := by
  have hml := hl.2.1
  unfold maxLen at hml
  have HT : Hid (∀ w' : World, Below w.heap.size w w' → ErrT w' ∧ 0 + 1 ≤ w'.heap.size) := Lib.hid (fun w' hb => ⟨ht.past hg hb, Nat.le_trans hg hb.size⟩)
  have HB : Hid (Below w.heap.size w w) := Lib.hid (Below.refl _ _)
  have HTF := Lib.hid (fun (w' : World) (hb : Below w.heap.size w w') => treefault_any l A c w' (hl.past hb) hsh)
  have HD0 := Lib.hid (docs_nil)
  have HT0 := Lib.hid (texts_nil)
  rw [h] at HTF
  have h0 := (Tr.of_check h).pos0
  obtain ⟨b, off, op, t, n, rfl, hb, ho, hnd, hts, d1, d2⟩ := hl.head0 h0
  have HC1 : Hid (∀ w', Below w.heap.size w w' → w'.cell? ⟨b, off, none⟩ = some (.int .i64 op) ∧ w'.cell? ⟨b, off + 1, none⟩ = some (.string t)) := Lib.hid (fun w' hB => ⟨(hB.cell (p := ⟨b, off, none⟩) hb).trans d1, (hB.cell (p := ⟨b, off + 1, none⟩) hb).trans d2⟩)
  obtain rfl : op = 9 := by rw [← ho]; exact h9
  have hsz : t.size < 4294967281 := by have := hsh _ (List.getElem_mem h0); rw [hnd] at this; exact this
  have HNW := Lib.hid (fun w' => noteWords_any t w' hsz)
  have HLD := Lib.hid (fun (w' : World) (hb : Below w.heap.size w w') => ldoc_note l (some ⟨b, off, none⟩) c w' (hl.past hb) hsh (hm.past hb) h h9)
  have HLN := Lib.hid (fun (w' : World) (hb : Below w.heap.size w w') => lnote_ok l (some ⟨b, off, none⟩) c w' (hl.past hb) hsh (hm.past hb) h (n := n) (t := t) (by rw [getD_at h0, hnd]))
  clear hl hsh hm ht h ho hnd h9
  go_enter Tryd.func4, Tryd.ntmps4
  go_wp2_with (first
    | (go_at_call 10; refine (HTF.out _ HB.out).mono ?_; rintro e w1 ⟨rfl, hB⟩; have e1 := (HC1.out w1 hB).1; have e2 := (HC1.out w1 hB).2; have HB := Lib.hid (HB.out.trans (hB.mono HB.out.size)); clear hB)
    | (go_at_call 11; refine (HNW.out _).mono ?_; rintro e w2 ⟨A_n, c_n, rfl, htx, hB⟩; have HX := Lib.hid htx; clear htx; have HB := Lib.hid (HB.out.trans (hB.mono HB.out.size)); clear hB)
    | (go_at_call 13; refine (HLD.out _ HB.out).mono ?_; rintro e w3 ⟨rfl, hB⟩; have HX := Lib.hid (HX.out.past hB); have HB := Lib.hid (HB.out.trans (hB.mono HB.out.size)); clear hB)
    | (go_at_call 8; (fail_if_success have z := E1); refine (error_same 2 (by decide) _ (HT.out _ HB.out).1 (HT.out _ HB.out).2).mono ?_; rintro e w4 ⟨rfl, hB⟩; have HX := Lib.hid (HX.out.past hB); have HB := Lib.hid (HB.out.trans (hB.mono HB.out.size)); clear hB; have E1 := Lib.hid True.intro)
    | (go_at_call 14; refine (HD0.out _).mono ?_; rintro e w5 ⟨rfl, hB⟩; have HX := Lib.hid (HX.out.past hB); have HB := Lib.hid (HB.out.trans (hB.mono HB.out.size)); clear hB)
    | (go_at_call 15; refine (HLN.out _ HB.out).mono ?_; rintro e w6 ⟨A_m, c_m, rfl, htx, hB⟩; have HX := Lib.hid (HX.out.past hB); have HY := Lib.hid htx; clear htx; have HB := Lib.hid (HB.out.trans (hB.mono HB.out.size)); clear hB)
    | (go_at_call 8; have z := E1; clear z; refine (error_nil _ (HT.out _ HB.out).1 (HT.out _ HB.out).2).mono ?_; rintro e w7 ⟨rfl, hB⟩; have HX := Lib.hid (HX.out.past hB); have HY := Lib.hid (HY.out.past hB); have HB := Lib.hid (HB.out.trans (hB.mono HB.out.size)); clear hB)
    | (go_at_call 16; refine (texts_same (noteL t) _ rfl _ _ _ _ _ HY.out HX.out).mono ?_; rintro e w8 ⟨rfl, hB⟩; have HB := Lib.hid (HB.out.trans (hB.mono HB.out.size)); clear hB))
  go_ret
  exact ⟨rfl, HB.out⟩

set_option maxRecDepth 100000 in
set_option maxHeartbeats 2000000 in
theorem layIs_good (l : List Nd) (A : Option Addr) (c : Nat) (w : World) (hl : Nds w w.heap.size A l) (hsh : Short l) (hm : MaxL w) (hp : PowT w) (ht : ErrT w) (hg : 0 + 1 ≤ w.heap.size) (h : treeF l = 0) (h9 : opAt l 0 ≠ 9) (h4 : ¬ 400 < (docL l).length) :
    Calls Tryd.prog 4 #[.slice A l.length c] w (Ret w (.bool true)) := by
  have hml := hl.2.1
  unfold maxLen at hml
  have HT : Hid (∀ w' : World, Below w.heap.size w w' → ErrT w' ∧ 0 + 1 ≤ w'.heap.size) := Lib.hid (fun w' hb => ⟨ht.past hg hb, Nat.le_trans hg hb.size⟩)
  have HB : Hid (Below w.heap.size w w) := Lib.hid (Below.refl _ _)
  have HTF := Lib.hid (fun (w' : World) (hb : Below w.heap.size w w') => treefault_any l A c w' (hl.past hb) hsh)
  have HD0 := Lib.hid (docs_nil)
  have HT0 := Lib.hid (texts_nil)
  rw [h] at HTF
  have h0 := (Tr.of_check h).pos0
  obtain ⟨b, off, op, t, n, rfl, hb, ho, hnd, hts, d1, d2⟩ := hl.head0 h0
  have HC1 : Hid (∀ w', Below w.heap.size w w' → w'.cell? ⟨b, off, none⟩ = some (.int .i64 op) ∧ w'.cell? ⟨b, off + 1, none⟩ = some (.string t)) := Lib.hid (fun w' hB => ⟨(hB.cell (p := ⟨b, off, none⟩) hb).trans d1, (hB.cell (p := ⟨b, off + 1, none⟩) hb).trans d2⟩)
  have ho9 : (op == 9) = false := by rw [← ho]; simpa using h9
  have HDO := Lib.hid (fun (w' : World) (hb : Below w.heap.size w w') => rdoc_any (A := some ⟨b, off, none⟩) (c := c) (Tr.of_check h) l.length 0 0 w' rfl (hl.past hb) h0 (by omega) h9)
  rw [show docT l l.length 0 = docL l from rfl] at HDO
  have HLN := Lib.hid (fun (w' : World) (hb : Below w.heap.size w w') => lnote_doc l (some ⟨b, off, none⟩) c w' (hl.past hb) hsh (hm.past hb) h h9)
  have HLD := Lib.hid (fun (w' : World) (hb : Below w.heap.size w w') => (ldoc_good l (some ⟨b, off, none⟩) c w' (hl.past hb) hsh (hm.past hb) (hp.past hb) h h9).1 h4)
  have hd9 := doc_small (Tr.of_check h) (f := l.length) (by omega) h0 h9
  rw [show docT l l.length 0 = docL l from rfl] at hd9
  generalize docL l = d at *
  clear hl hsh hm hp ht h ho hnd h9
  go_enter Tryd.func4, Tryd.ntmps4
  go_wp2_with (first
    | (go_at_call 10; refine (HTF.out _ HB.out).mono ?_; rintro e w1 ⟨rfl, hB⟩; have e1 := (HC1.out w1 hB).1; have e2 := (HC1.out w1 hB).2; have HB := Lib.hid (HB.out.trans (hB.mono HB.out.size)); clear hB)
    | (go_at_call 12; refine (HDO.out _ HB.out).mono ?_; rintro e w2 ⟨A_d, c_d, rfl, hn, hB⟩; have HX := Lib.hid hn.1; clear hn; have HB := Lib.hid (HB.out.trans (hB.mono HB.out.size)); clear hB)
    | (go_at_call 13; refine (HLD.out _ HB.out).mono ?_; rintro e w3 ⟨A_e, c_e, rfl, hn, hB⟩; have HX := Lib.hid (HX.out.past hB); have HY := Lib.hid hn.1; clear hn; have HB := Lib.hid (HB.out.trans (hB.mono HB.out.size)); clear hB)
    | (go_at_call 8; (fail_if_success have z := E1); refine (error_nil _ (HT.out _ HB.out).1 (HT.out _ HB.out).2).mono ?_; rintro e w4 ⟨rfl, hB⟩; have HX := Lib.hid (HX.out.past hB); have HY := Lib.hid (HY.out.past hB); have HB := Lib.hid (HB.out.trans (hB.mono HB.out.size)); clear hB; have E1 := Lib.hid True.intro)
    | (go_at_call 14; refine (docs_any d d _ _ rfl rfl _ _ _ _ _ HY.out HX.out).mono ?_; rw [sameN_all rfl rfl]; rintro e w5 ⟨rfl, hB⟩; have HB := Lib.hid (HB.out.trans (hB.mono HB.out.size)); clear hB)
    | (go_at_call 15; refine (HLN.out _ HB.out).mono ?_; rintro e w6 ⟨rfl, hB⟩; have HB := Lib.hid (HB.out.trans (hB.mono HB.out.size)); clear hB)
    | (go_at_call 8; have z := E1; clear z; refine (error_same 2 (by decide) _ (HT.out _ HB.out).1 (HT.out _ HB.out).2).mono ?_; rintro e w7 ⟨rfl, hB⟩; have HB := Lib.hid (HB.out.trans (hB.mono HB.out.size)); clear hB)
    | (go_at_call 16; refine (HT0.out _).mono ?_; rintro e w8 ⟨rfl, hB⟩; have HB := Lib.hid (HB.out.trans (hB.mono HB.out.size)); clear hB))
  go_ret
  exact ⟨rfl, HB.out⟩

set_option maxRecDepth 100000 in
set_option maxHeartbeats 2000000 in
theorem layIs_full (l : List Nd) (A : Option Addr) (c : Nat) (w : World) (hl : Nds w w.heap.size A l) (hsh : Short l) (hm : MaxL w) (hp : PowT w) (ht : ErrT w) (hg : 0 + 1 ≤ w.heap.size) (h : treeF l = 0) (h9 : opAt l 0 ≠ 9) (h4 : 400 < (docL l).length) :
    Calls Tryd.prog 4 #[.slice A l.length c] w (Ret w (.bool true)) := by
  have hml := hl.2.1
  unfold maxLen at hml
  have HT : Hid (∀ w' : World, Below w.heap.size w w' → ErrT w' ∧ 0 + 1 ≤ w'.heap.size) := Lib.hid (fun w' hb => ⟨ht.past hg hb, Nat.le_trans hg hb.size⟩)
  have HB : Hid (Below w.heap.size w w) := Lib.hid (Below.refl _ _)
  have HTF := Lib.hid (fun (w' : World) (hb : Below w.heap.size w w') => treefault_any l A c w' (hl.past hb) hsh)
  have HD0 := Lib.hid (docs_nil)
  have HT0 := Lib.hid (texts_nil)
  rw [h] at HTF
  have h0 := (Tr.of_check h).pos0
  obtain ⟨b, off, op, t, n, rfl, hb, ho, hnd, hts, d1, d2⟩ := hl.head0 h0
  have HC1 : Hid (∀ w', Below w.heap.size w w' → w'.cell? ⟨b, off, none⟩ = some (.int .i64 op) ∧ w'.cell? ⟨b, off + 1, none⟩ = some (.string t)) := Lib.hid (fun w' hB => ⟨(hB.cell (p := ⟨b, off, none⟩) hb).trans d1, (hB.cell (p := ⟨b, off + 1, none⟩) hb).trans d2⟩)
  have ho9 : (op == 9) = false := by rw [← ho]; simpa using h9
  have HDO := Lib.hid (fun (w' : World) (hb : Below w.heap.size w w') => rdoc_any (A := some ⟨b, off, none⟩) (c := c) (Tr.of_check h) l.length 0 0 w' rfl (hl.past hb) h0 (by omega) h9)
  rw [show docT l l.length 0 = docL l from rfl] at HDO
  have HLN := Lib.hid (fun (w' : World) (hb : Below w.heap.size w w') => lnote_doc l (some ⟨b, off, none⟩) c w' (hl.past hb) hsh (hm.past hb) h h9)
  have HLD := Lib.hid (fun (w' : World) (hb : Below w.heap.size w w') => (ldoc_good l (some ⟨b, off, none⟩) c w' (hl.past hb) hsh (hm.past hb) (hp.past hb) h h9).2 h4)
  have hd9 := doc_small (Tr.of_check h) (f := l.length) (by omega) h0 h9
  rw [show docT l l.length 0 = docL l from rfl] at hd9
  generalize docL l = d at *
  clear hl hsh hm hp ht h ho hnd h9
  go_enter Tryd.func4, Tryd.ntmps4
  go_wp2_with (first
    | (go_at_call 10; refine (HTF.out _ HB.out).mono ?_; rintro e w1 ⟨rfl, hB⟩; have e1 := (HC1.out w1 hB).1; have e2 := (HC1.out w1 hB).2; have HB := Lib.hid (HB.out.trans (hB.mono HB.out.size)); clear hB)
    | (go_at_call 12; refine (HDO.out _ HB.out).mono ?_; rintro e w2 ⟨A_d, c_d, rfl, hn, hB⟩; have HX := Lib.hid hn.1; clear hn; have HB := Lib.hid (HB.out.trans (hB.mono HB.out.size)); clear hB)
    | (go_at_call 13; refine (HLD.out _ HB.out).mono ?_; rintro e w3 ⟨rfl, hB⟩; have HB := Lib.hid (HB.out.trans (hB.mono HB.out.size)); clear hB)
    | (go_at_call 8; (fail_if_success have z := E1); refine (error_same 3 (by decide) _ (HT.out _ HB.out).1 (HT.out _ HB.out).2).mono ?_; rintro e w4 ⟨rfl, hB⟩; have HB := Lib.hid (HB.out.trans (hB.mono HB.out.size)); clear hB; have E1 := Lib.hid True.intro)
    | (go_at_call 14; refine (HD0.out _).mono ?_; rintro e w5 ⟨rfl, hB⟩; have HB := Lib.hid (HB.out.trans (hB.mono HB.out.size)); clear hB)
    | (go_at_call 15; refine (HLN.out _ HB.out).mono ?_; rintro e w6 ⟨rfl, hB⟩; have HB := Lib.hid (HB.out.trans (hB.mono HB.out.size)); clear hB)
    | (go_at_call 8; have z := E1; clear z; refine (error_same 2 (by decide) _ (HT.out _ HB.out).1 (HT.out _ HB.out).2).mono ?_; rintro e w7 ⟨rfl, hB⟩; have HB := Lib.hid (HB.out.trans (hB.mono HB.out.size)); clear hB)
    | (go_at_call 16; refine (HT0.out _).mono ?_; rintro e w8 ⟨rfl, hB⟩; have HB := Lib.hid (HB.out.trans (hB.mono HB.out.size)); clear hB))
  go_ret
  exact ⟨rfl, HB.out⟩

theorem layIs_any (l : List Nd) (A : Option Addr) (c : Nat) (w : World) (hl : Nds w w.heap.size A l) (hsh : Short l) (hm : MaxL w) (hp : PowT w) (ht : ErrT w) (hg : 0 + 1 ≤ w.heap.size) :
    Calls Tryd.prog 4 #[.slice A l.length c] w (Ret w (.bool true)) := by
  by_cases h : treeF l = 0
  · by_cases h9 : opAt l 0 = 9
    · exact layIs_note l A c w hl hsh hm hp ht hg h h9
    · by_cases h4 : 400 < (docL l).length
      · exact layIs_full l A c w hl hsh hm hp ht hg h h9 h4
      · exact layIs_good l A c w hl hsh hm hp ht hg h h9 h4
  · exact layIs_bad l A c w hl hsh hm hp ht hg h
end Go.Proofs.YtddfdmopaeghnacDoor
