/- Walks of lay.Doc, lay.Note. Conditions: the slice of nodes lies below the call's own blocks; its texts are shorter than 4294967281 bytes; internal/bytealg.MaxLen holds some number; the table of the powers of ten reads as the program's text lays it. -/
import Derived.Test.YtddfdmopaeghnacGreatDoorMkT
import Derived.Test.YtddfdmopaeghnacGreatDoorTreeC
namespace Go.Proofs.YtddfdmopaeghnacGreatDoor
open Go.RowKit

theorem lcheck_ok (l : List Nd) (A : Option Addr) (c : Nat) (w : World) (hl : Nds w w.heap.size A l) (hsh : Short l) (hm : MaxL w) (h : treeF l = 0) :
    Calls Tryz.prog 41 #[.slice A l.length c] w (Ret w .nilIface) := by rw [errV_zero h]; exact tcheck_any l A c w hl hsh hm
theorem lcheck_bad (l : List Nd) (A : Option Addr) (c : Nat) (w : World) (hl : Nds w w.heap.size A l) (hsh : Short l) (hm : MaxL w) (h : treeF l ≠ 0) :
    Calls Tryz.prog 41 #[.slice A l.length c] w (Ret w (.iface 43 (.int .i64 (treeF l)))) := by rw [errV_pos h]; exact tcheck_any l A c w hl hsh hm

theorem Tr.pos0 {l : List Nd} (h : Tr l) : 0 < l.length := by
  have h1 := h.root
  rcases Nat.eq_zero_or_pos l.length with h2 | h2
  · rw [posAt_ge (by omega)] at h1; cases h1
  · exact h2
/-- A statement's first node. -/
theorem Nds.head0 {w : World} {A : Option Addr} {l : List Nd} (hN : Nds w w.heap.size A l) (h0 : 0 < l.length) :
    ∃ b off op t n, A = some ⟨b, off, none⟩ ∧ b < w.heap.size ∧ opAt l 0 = op ∧ l[0] = Nd.mk op t n ∧ t.size ≤ maxLen ∧ w.cell? ⟨b, off, none⟩ = some (.int .i64 op) ∧ w.cell? ⟨b, off + 1, none⟩ = some (.string t) := by
  obtain ⟨b, off, op, t, n, h1, h2, h3, h4, h5, h6, _⟩ := hN.node (Below.refl _ _) h0
  exact ⟨b, off, op, t, n, h1, h2, by rw [opAt, getD_at h0, h3], h3, h4, by simpa using h5, by simpa using h6⟩

/-- A doc, and no error. -/
def LdTo (d : List Nd) (w : World) (e : Ending) (w' : World) : Prop := ∃ A c, e = .returned (.tuple #[.slice A d.length c, .nilIface]) ∧ NdF w.heap.size w' A d ∧ Below w.heap.size w w'
def docL (l : List Nd) : List Nd := docT l l.length 0

set_option maxHeartbeats 1000000 in
theorem ldoc_bad (l : List Nd) (A : Option Addr) (c : Nat) (w : World) (hl : Nds w w.heap.size A l) (hsh : Short l) (hm : MaxL w) (h : treeF l ≠ 0) :
    Calls Tryz.prog 13 #[.slice A l.length c] w (Ret w (.tuple #[.slice none 0 0, .iface 43 (.int .i64 (treeF l))])) := by
  have HK := Lib.hid (lcheck_bad l A c w hl hsh hm h)
  clear hl hsh hm h
  go_enter Tryz.func13, Tryz.ntmps13
  go_wp2_with (go_at_call 41; refine HK.out.mono ?_; rintro e w1 ⟨rfl, hB1⟩)
  go_ret2
  exact ⟨rfl, hB1⟩
set_option maxHeartbeats 1000000 in
theorem ldoc_note (l : List Nd) (A : Option Addr) (c : Nat) (w : World) (hl : Nds w w.heap.size A l) (hsh : Short l) (hm : MaxL w) (h : treeF l = 0) (h9 : opAt l 0 = 9) :
    Calls Tryz.prog 13 #[.slice A l.length c] w (Ret w (.tuple #[.slice none 0 0, .iface 43 (.int .i64 2)])) := by
  have HK := Lib.hid (lcheck_ok l A c w hl hsh hm h)
  have h0 := (Tr.of_check h).pos0
  obtain ⟨b, off, op, t, n, rfl, hb, ho, hnd, hts, d1, d2⟩ := hl.head0 h0
  obtain rfl : op = 9 := by rw [← ho]; exact h9
  have hlen := hl.2.1
  unfold maxLen at hlen
  clear hl hsh hm h ho hnd h9
  go_enter Tryz.func13, Tryz.ntmps13
  go_wp2_with (go_at_call 41; refine HK.out.mono ?_; rintro e w1 ⟨rfl, hB1⟩; have e1 := (hB1.cell (p := ⟨b, off, none⟩) hb).trans d1)
  go_ret2
  exact ⟨rfl, hB1⟩

theorem below_grownM {w w1 : World} {g : Nat} {o : Obj} (hg : w.heap.size = g) (h : (w.alloc o).grownBy w1 (some g)) : Below w.heap.size w w1 :=
  ((Below.refl w.heap.size w).alloc (Nat.le_refl _) o).grown h (by simp) (fun k e => by injection e with e; omega)

set_option maxRecDepth 100000 in
set_option maxHeartbeats 2000000 in
theorem ldoc_good (l : List Nd) (A : Option Addr) (c : Nat) (w : World) (hl : Nds w w.heap.size A l) (hsh : Short l) (hm : MaxL w) (hp : PowT w) (h : treeF l = 0) (h9 : opAt l 0 ≠ 9) :
    (¬ 400 < (docL l).length → Calls Tryz.prog 13 #[.slice A l.length c] w (LdTo (docL l) w)) ∧
    (400 < (docL l).length → Calls Tryz.prog 13 #[.slice A l.length c] w (Ret w (.tuple #[.slice none 0 0, .iface 43 (.int .i64 3)]))) := by
  have HK := Lib.hid (lcheck_ok l A c w hl hsh hm h)
  have hT := Tr.of_check h
  have h0 := hT.pos0
  have HMK := Lib.hid (fun (g : Nat) w' (hs : MkSt g A c l 0 w') => lmake_any hT l.length 0 w' hs h0 (by omega) h9)
  have hds := doc_small hT (f := l.length) (by omega) h0 h9
  have HST : Hid (∀ w1, Below w.heap.size w w1 → MkSt w1.heap.size A c l 0 (w1.alloc (.cells #[.slice A l.length c, .int .i64 (0 : Nat)] 90))) := Lib.hid (fun w1 hB => by
    have hp1 := hp.past hB
    refine ⟨heap_new rfl, (hl.past hB).mkunder ((Below.refl _ _).alloc (Nat.le_refl _) _) (Nat.le_refl _), hp1.past ((Below.refl _ _).alloc (Nat.le_refl _) _), hp1.lt⟩)
  obtain ⟨b, off, op, t, n, rfl, hb, ho, hnd, hts, d1, d2⟩ := hl.head0 h0
  have ho9 : (op == 9) = false := by rw [← ho]; simpa using h9
  have hlen := hl.2.1
  unfold maxLen at hlen
  rw [show docT l l.length 0 = docL l from rfl] at HMK hds
  generalize docL l = d at *
  generalize tEnd l 0 = z at *
  clear hl hsh hm h ho hnd h9 hT hp
  constructor
  · intro h400
    go_enter Tryz.func13, Tryz.ntmps13
    go_wp2_with (first
      | (go_at_call 41; refine HK.out.mono ?_; rintro e w1 ⟨rfl, hB1⟩; have e1 := (hB1.cell (p := ⟨b, off, none⟩) hb).trans d1; have HS := Lib.hid (HST.out w1 hB1))
      | (go_at_call 42; refine (HMK.out w1.heap.size _ HS.out).mono ?_; rintro e w2 ⟨A2, c2, rfl, hn, hm2, hG⟩; have hB2 := below_grownM rfl hG; have hz := hB1.size; have HN := Lib.hid (hn.less (lo' := w.heap.size) (by simp; omega)); clear hn hm2 hG))
    go_ret2
    exact ⟨A2, c2, rfl, HN.out, hB1.trans (hB2.mono hz)⟩
  · intro h400
    go_enter Tryz.func13, Tryz.ntmps13
    go_wp2_with (first
      | (go_at_call 41; refine HK.out.mono ?_; rintro e w1 ⟨rfl, hB1⟩; have e1 := (hB1.cell (p := ⟨b, off, none⟩) hb).trans d1; have HS := Lib.hid (HST.out w1 hB1))
      | (go_at_call 42; refine (HMK.out w1.heap.size _ HS.out).mono ?_; rintro e w2 ⟨A2, c2, rfl, hn, hm2, hG⟩; have hB2 := below_grownM rfl hG; have hz := hB1.size; clear hn hm2 hG))
    go_ret2
    exact ⟨rfl, hB1.trans (hB2.mono hz)⟩

set_option maxHeartbeats 1000000 in
theorem lnote_bad (l : List Nd) (A : Option Addr) (c : Nat) (w : World) (hl : Nds w w.heap.size A l) (hsh : Short l) (hm : MaxL w) (h : treeF l ≠ 0) :
    Calls Tryz.prog 95 #[.slice A l.length c] w (Ret w (.tuple #[.slice none 0 0, .iface 43 (.int .i64 (treeF l))])) := by
  have HK := Lib.hid (lcheck_bad l A c w hl hsh hm h)
  clear hl hsh hm h
  go_enter Tryz.func95, Tryz.ntmps95
  go_wp2_with (go_at_call 41; refine HK.out.mono ?_; rintro e w1 ⟨rfl, hB1⟩)
  go_ret2
  exact ⟨rfl, hB1⟩
set_option maxHeartbeats 1000000 in
theorem lnote_doc (l : List Nd) (A : Option Addr) (c : Nat) (w : World) (hl : Nds w w.heap.size A l) (hsh : Short l) (hm : MaxL w) (h : treeF l = 0) (h9 : opAt l 0 ≠ 9) :
    Calls Tryz.prog 95 #[.slice A l.length c] w (Ret w (.tuple #[.slice none 0 0, .iface 43 (.int .i64 2)])) := by
  have HK := Lib.hid (lcheck_ok l A c w hl hsh hm h)
  have h0 := (Tr.of_check h).pos0
  obtain ⟨b, off, op, t, n, rfl, hb, ho, hnd, hts, d1, d2⟩ := hl.head0 h0
  have ho9 : (op == 9) = false := by rw [← ho]; simpa using h9
  have hn9 : (op != 9) = true := by rw [← ho]; simpa using h9
  have hlen := hl.2.1
  unfold maxLen at hlen
  clear hl hsh hm h ho hnd h9
  go_enter Tryz.func95, Tryz.ntmps95
  go_wp2_with (go_at_call 41; refine HK.out.mono ?_; rintro e w1 ⟨rfl, hB1⟩; have e1 := (hB1.cell (p := ⟨b, off, none⟩) hb).trans d1)
  go_ret2
  exact ⟨rfl, hB1⟩
/-- A note's words, and no error. -/
def LnTo (t : ByteArray) (w : World) (e : Ending) (w' : World) : Prop := ∃ A c, e = .returned (.tuple #[.slice A (noteL t).length c, .nilIface]) ∧ Txs w' w'.heap.size A (noteL t) ∧ Below w.heap.size w w'
set_option maxHeartbeats 1000000 in
theorem lnote_ok (l : List Nd) (A : Option Addr) (c : Nat) (w : World) (hl : Nds w w.heap.size A l) (hsh : Short l) (hm : MaxL w) (h : treeF l = 0) {n : Int} {t : ByteArray} (hnd : l.getD 0 ⟨0, .empty, 0⟩ = Nd.mk 9 t n) :
    Calls Tryz.prog 95 #[.slice A l.length c] w (LnTo t w) := by
  have HK := Lib.hid (lcheck_ok l A c w hl hsh hm h)
  have h0 := (Tr.of_check h).pos0
  obtain ⟨b, off, op, t', n', rfl, hb, ho, hnd', hts, d1, d2⟩ := hl.head0 h0
  rw [getD_at h0, hnd'] at hnd
  cases hnd
  have hsz : t.size < 4294967281 := by have := hsh _ (List.getElem_mem h0); rw [hnd'] at this; exact this
  have HMX := Lib.hid hm
  have hlen := hl.2.1
  unfold maxLen at hlen
  clear hl hsh hm h ho hnd'
  go_enter Tryz.func95, Tryz.ntmps95
  go_wp2_with (first
    | (go_at_call 41; refine HK.out.mono ?_; rintro e w1 ⟨rfl, hB1⟩; have e1 := (hB1.cell (p := ⟨b, off, none⟩) hb).trans d1; have e2 := (hB1.cell (p := ⟨b, off + 1, none⟩) hb).trans d2)
    | (go_at_call 134; refine (twords_any t _ hsz (HMX.out.past hB1)).mono ?_; rintro e w2 ⟨A2, c2, rfl, htx, hB2⟩; have HT := Lib.hid htx; clear htx))
  go_ret2
  exact ⟨A2, c2, rfl, HT.out, hB1.trans (hB2.mono hB1.size)⟩
end Go.Proofs.YtddfdmopaeghnacGreatDoor
