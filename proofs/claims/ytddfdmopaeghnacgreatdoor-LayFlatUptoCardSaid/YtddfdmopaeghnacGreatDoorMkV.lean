/- Walks of lay's maker (printed by wip/genmk.py): kid, kids, listed, two, make. Conditions: the maker's block is the caller's own, the slice of nodes lies below it and is a statement that may be. -/
import Derived.Test.YtddfdmopaeghnacGreatDoorMkW
import Derived.Deep.RegionHeld3
import Derived.Deep.RegionWith
import Derived.Test.YtddfdmopaeghnacGreatDoorShelf
namespace Go.Proofs.YtddfdmopaeghnacGreatDoor
open Go.RowKit

theorem mkheap_lt {w : World} {g : Nat} {o : Obj} (h : w.heap[g]? = some o) : g < w.heap.size := (Array.getElem?_eq_some_iff.1 h).1
theorem Nds.mkunder {w w' : World} {B C : Nat} {A : Option Addr} {l : List Nd} (h : Nds w B A l) (hb : Below C w w') (hC : B ≤ C) : Nds w' B A l := ⟨h.1.below hb hC, h.2⟩
theorem set_belowM (w : World) (g j : Nat) (v : Value) : Below g w (w.setCell ⟨g, j, none⟩ v) := (Below.refl g w).setCell (p := ⟨g, j, none⟩) (Nat.le_refl _) v
theorem grown_setM (w : World) (g j : Nat) (v : Value) : w.grownBy (w.setCell ⟨g, j, none⟩ v) (some g) := ⟨rfl, rfl, rfl, by simp [World.setCell], fun k _ hn => Below.heap_setCell _ _ _ _ (fun e => hn (by rw [e]))⟩
theorem mk_named {P : Program} {c : Code} {Q : Exit → Act → World → Prop} {a : Act} {w : World} (S : World → Prop) (hS : S w) (h : ∀ w', S w' → Code.wp P c Q a w') : Code.wp P c Q a w := h w hS

/-- The table of the powers of ten, as the program's text lays it. -/
def PowT (w : World) : Prop := Lib.TabIs Tryz.prog w "internal/strconv.uint64pow10" .u64 Lib.pow10Tab
theorem PowT.keep {w w' : World} (h : PowT w) (hb : w'.heap[2]? = w.heap[2]?) : PowT w' := by
  have hgn : Tryz.prog.globalNamed "internal/strconv.uint64pow10" = some 2 := by kernel_rfl
  unfold PowT Lib.TabIs World.var? at h ⊢
  rw [hgn] at h ⊢
  simp only [Option.bind_some] at h ⊢
  rw [hb]
  exact h
theorem PowT.lt {w : World} (h : PowT w) : 2 < w.heap.size := by
  have hgn : Tryz.prog.globalNamed "internal/strconv.uint64pow10" = some 2 := by kernel_rfl
  unfold PowT Lib.TabIs World.var? at h
  rw [hgn] at h
  simp only [Option.bind_some] at h
  rcases Nat.lt_or_ge 2 w.heap.size with h' | h'
  · exact h'
  · rw [Array.getElem?_eq_none h'] at h; cases h
theorem PowT.past {w w' : World} (h : PowT w) (hb : Below w.heap.size w w') : PowT w' := h.keep (hb.block _ h.lt)
theorem below_growD (w : World) (k : Nat) (os : Array Obj) : Below w.heap.size w (Go.Sort.grow (w.drewN k) os) := by
  refine below_undrewN (n := k) ⟨rfl, rfl, rfl, ?_, fun j hj => ?_⟩
  · simp [Go.Sort.grow]
  · simp only [Go.Sort.grow]
    rw [Array.getElem?_append_left (by simpa using hj)]
theorem litoa_any {n : Int} (h0 : 0 ≤ n) (h1 : n ≤ 999999) (w : World) (hp : PowT w) : Calls Tryz.prog 81 #[.int .i64 n] w (Ret w (.string ⟨(Lib.itoa n).toArray⟩)) := by
  refine (Tryz.strconv_Itoa n (by omega) (by omega) w hp).mono ?_
  rintro e w' ⟨rfl, k, os, rfl⟩
  exact ⟨rfl, below_growD w k os⟩

/-- The maker in block g: the statement, the place. -/
structure MkSt (g : Nat) (A : Option Addr) (c : Nat) (l : List Nd) (i : Nat) (w : World) : Prop where
  blk : w.heap[g]? = some (.cells #[.slice A l.length c, .int .i64 (i : Nat)] 90 (0, 0))
  nds : Nds w g A l
  pow : PowT w
  glob : 2 < g
section
variable {g c i : Nat} {A : Option Addr} {l : List Nd} {w w' : World}
theorem MkSt.lt (h : MkSt g A c l i w) : g < w.heap.size := mkheap_lt h.blk
theorem MkSt.past (h : MkSt g A c l i w) (hb : Below w.heap.size w w') : MkSt g A c l i w' := ⟨(hb.block g h.lt).trans h.blk, h.nds.mkunder hb (by have := h.lt; omega), h.pow.keep (hb.block _ (Nat.lt_trans h.glob h.lt)), h.glob⟩
theorem MkSt.cells (h : MkSt g A c l i w) : w.cell? ⟨g, 0, none⟩ = some (.slice A l.length c) ∧ w.cell? ⟨g, 1, none⟩ = some (.int .i64 (i : Nat)) ∧ w.frozen? ⟨g, 1, none⟩ = false := by
  refine ⟨?_, ?_, Lib.frozen_of_heap h.blk 1⟩ <;> rw [Lib.cell_of_heap h.blk] <;> rfl
theorem MkSt.set (h : MkSt g A c l i w) (j : Nat) {v : Int} (hv : v = j) : MkSt g A c l j (w.setCell ⟨g, 1, none⟩ (.int .i64 v)) := by
  subst hv
  exact ⟨by simp [World.setCell, Array.getElem?_modify, h.blk], h.nds.mkunder (set_belowM _ _ _ _) (Nat.le_refl _), h.pow.keep (Below.heap_setCell _ _ _ _ (Nat.ne_of_lt h.glob)), h.glob⟩
theorem MkSt.drew (h : MkSt g A c l i w) : MkSt g A c l i w.drew := h.past (Below.refl _ _).drew
end
theorem grown_row {w w' : World} (row : Option Nat) (hb : Below w.heap.size w w') : w.grownBy w' row := ⟨hb.os, hb.tape, hb.output, hb.size, fun k hk _ => hb.block k hk⟩

/-- A call hands back new nodes and leaves the maker at a place. -/
def MkTo (g : Nat) (A : Option Addr) (c : Nat) (l : List Nd) (d : List Nd) (z : Nat) (w : World) (e : Ending) (w' : World) : Prop :=
  ∃ A' c', e = .returned (.slice A' d.length c') ∧ NdF w.heap.size w' A' d ∧ MkSt g A c l z w' ∧ w.grownBy w' (some g)
def MakeSaid (g : Nat) (A : Option Addr) (c : Nat) (l : List Nd) (f : Nat) : Prop :=
  ∀ (i : Nat) (w : World), MkSt g A c l i w → i < l.length → l.length ≤ i + f → opAt l i ≠ 9 → Calls Tryz.prog 42 #[.pointer (some ⟨g, 0, none⟩)] w (MkTo g A c l (docT l f i) (tEnd l i) w)
theorem doc_small {l : List Nd} (hT : Tr l) {f i : Nat} (hf : l.length ≤ i + f) (hi : i < l.length) (h9 : opAt l i ≠ 9) : (docT l f i).length ≤ 900 := by
  have h1 : opAt l i = l[i].op := by rw [opAt, getD_at hi]
  have h2 := docT_len hT f i hf hi (by omega)
  have h3 := tEnd_bd hi
  have h4 := hT.len
  omega
theorem low_at {l : List Nd} (hT : Tr l) {i : Nat} (hi : i < l.length) (h0 : 0 < i) : opAt l i ≠ 9 := by
  have h1 : opAt l i = l[i].op := by rw [opAt, getD_at hi]
  have := hT.low hi h0
  omega
theorem kids_small {l : List Nd} (hT : Tr l) {f m a z : Nat} (h : KidsP l a m z) (h0 : 0 < a) (hf : l.length ≤ a + f) (hz : z ≤ l.length) : (kidsD (docT l f) (tEnd l) a m).length ≤ 900 := by
  have h1 := (kidsD_len (g := docT l f) m a z h (fun b hb hl => docT_len hT f b (by omega) hl (by have := hT.low hl (by omega); omega))).2
  have h4 := hT.len
  omega
theorem kidsP_le {l : List Nd} : ∀ {m a z : Nat}, KidsP l a m z → a ≤ l.length → a ≤ z ∧ z ≤ l.length := by
  intro m
  induction m with
  | zero => intro a z h ha; rw [KidsP] at h; omega
  | succ m ih =>
    intro a z h ha
    obtain ⟨h1, h2, h3⟩ := h
    have := ih h3 (tEnd_bd h1).2
    omega

set_option maxRecDepth 100000 in
set_option maxHeartbeats 4000000 in
theorem lkid_any {g c f : Nat} {A : Option Addr} {l : List Nd} (hT : Tr l) (ih : MakeSaid g A c l f) (i : Nat) (w : World) (po pn : Int) (pt : ByteArray) (sec : Bool) (hs : MkSt g A c l i w) (hi : i < l.length) (h0 : 0 < i) (hf : l.length ≤ i + f) :
    Calls Tryz.prog 138 #[.pointer (some ⟨g, 0, none⟩), .agg #[.int .i64 po, .string pt, .int .i64 pn], .bool sec] w (MkTo g A c l (kidD po (opAt l i) sec (docT l f i)) (tEnd l i) w) := by
  have h9 := low_at hT hi h0
  have hdl := doc_small hT hf hi h9
  have HI := Lib.hid (fun w' hs' => ih i w' hs' hi hf h9)
  obtain ⟨b, off, op, t, n, rfl, hb, hnd, hts, d1, d2, d3⟩ := hs.nds.node (Below.refl _ _) hi
  have hoe : opAt l i = op := by rw [opAt, getD_at hi, hnd]
  rw [hoe]
  generalize docT l f i = d at *
  generalize tEnd l i = z at *
  have hgl := hs.lt
  obtain ⟨c0, c1, f1⟩ := hs.cells
  have hm := hT.len
  have HS := Lib.hid hs
  have HBD := Lib.hid (fun w' => bound_any po pn op n pt t sec w')
  clear hs hnd hoe ih hT h9 f1 hf
  cases hbd : boundF po op sec with
  | true =>
    rw [hbd] at HBD
    have hk : kidD po op sec d = bothN (wordN ⟨#[40]⟩) (bothN d (wordN ⟨#[41]⟩)) := by simp [kidD, hbd]
    rw [hk]
    clear hk hbd
    go_enter Tryz.func138, Tryz.ntmps138
    go_wp2_with fail
    obtain ⟨wa, hwa⟩ : ∃ wa, wa = w.alloc (.cells #[.int .i64 po, .string pt, .int .i64 pn] 25) := ⟨_, rfl⟩
    have hBa : Below w.heap.size w wa := by rw [hwa]; exact (Below.refl _ _).alloc (Nat.le_refl _) _
    have hza : wa.heap[w.heap.size]? = some (.cells #[.int .i64 po, .string pt, .int .i64 pn] 25 (0, 0)) := by rw [hwa]; exact heap_new rfl
    rw [← hwa]
    obtain ⟨h, hh⟩ : ∃ h, h = w.heap.size := ⟨_, rfl⟩
    rw [← hh] at hza
    have hlt : h < wa.heap.size := (Array.getElem?_eq_some_iff.1 hza).1
    have p0 : wa.cell? ⟨h, 0, none⟩ = some (.int .i64 po) := by rw [Lib.cell_of_heap hza]; rfl
    have p1 : wa.cell? ⟨h, 1, none⟩ = some (.string pt) := by rw [Lib.cell_of_heap hza]; rfl
    have p2 : wa.cell? ⟨h, 2, none⟩ = some (.int .i64 pn) := by rw [Lib.cell_of_heap hza]; rfl
    have hgh : g < h := by omega
    have HG : Hid (w.grownBy wa (some g)) := Lib.hid (grown_row _ hBa)
    have hz : w.heap.size ≤ wa.heap.size := hBa.size
    have HM := Lib.hid (HS.out.past hBa)
    try rw [← hh]
    have hBn := hBa
    clear hwa hza hh hBa
    obtain ⟨e0, e1, -⟩ := HM.out.cells
    have k0 := (hBn.cell (p := ⟨b, off + i * 3, none⟩) (by simp; omega)).trans d1
    have k1 := (hBn.cell (p := ⟨b, off + i * 3 + 1, none⟩) (by simp; omega)).trans d2
    have k2 := (hBn.cell (p := ⟨b, off + i * 3 + 2, none⟩) (by simp; omega)).trans d3
    clear c0 c1 d1 d2 d3
    go_region_held3 (fun w' => w'.cell? ⟨g, 0, none⟩ = some (.slice (some ⟨b, off, none⟩) l.length c) ∧ w'.cell? ⟨g, 1, none⟩ = some (.int .i64 (i : Nat)) ∧ w'.cell? ⟨h, 0, none⟩ = some (.int .i64 po) ∧ w'.cell? ⟨h, 1, none⟩ = some (.string pt) ∧ w'.cell? ⟨h, 2, none⟩ = some (.int .i64 pn) ∧ w'.cell? ⟨b, off + i * 3, none⟩ = some (.int .i64 op) ∧ w'.cell? ⟨b, off + i * 3 + 1, none⟩ = some (.string t) ∧ w'.cell? ⟨b, off + i * 3 + 2, none⟩ = some (.int .i64 n))
      (exact ⟨e0, e1, p0, p1, p2, k0, k1, k2⟩)
      (first | (go_at_call 179; refine (HBD.out _).mono ?_; rintro e w1 ⟨rfl, hB⟩; have e0 := (hB.cell (p := ⟨g, 0, none⟩) (by simp; omega)).trans e0; have e1 := (hB.cell (p := ⟨g, 1, none⟩) (by simp; omega)).trans e1; have p0 := (hB.cell (p := ⟨h, 0, none⟩) hlt).trans p0; have p1 := (hB.cell (p := ⟨h, 1, none⟩) hlt).trans p1; have p2 := (hB.cell (p := ⟨h, 2, none⟩) hlt).trans p2; have k0 := (hB.cell (p := ⟨b, off + i * 3, none⟩) (by simp; omega)).trans k0; have k1 := (hB.cell (p := ⟨b, off + i * 3 + 1, none⟩) (by simp; omega)).trans k1; have k2 := (hB.cell (p := ⟨b, off + i * 3 + 2, none⟩) (by simp; omega)).trans k2; have hB := past_drew hB; have HM := Lib.hid (HM.out.past hB); have HG := Lib.hid (grown_below HG.out hB); have hz := Nat.le_trans hz hB.size))
    go_wp2_with (go_at_call 42; refine (HI.out _ HM.out).mono ?_; rintro e w2 ⟨A_d, c_d, rfl, hn, hm2, hG⟩; have HV_d := Lib.hid (hn.less hz); have HM := Lib.hid hm2; have HG := Lib.hid (grown_trans HG.out hG); have hz := Nat.le_trans hz hG.size; clear hn hm2 hG)
    go_wp2_with (first
      | (go_at_call 80; (fail_if_success have z := T0); refine (lword_any ⟨#[40]⟩ (by decide) _).mono ?_; rintro e w3 ⟨A_X, c_X, rfl, hn, hB⟩; have HV_X := Lib.hid (hn.less hz); have HM := Lib.hid (HM.out.past hB); have HV_d := Lib.hid (HV_d.out.past hB); have HG := Lib.hid (grown_below HG.out hB); have hz := Nat.le_trans hz hB.size; clear hn hB; have T0 := Lib.hid True.intro)
      | (go_at_call 80; (fail_if_success have z := T1); have z := T0; clear z; refine (lword_any ⟨#[41]⟩ (by decide) _).mono ?_; rintro e w4 ⟨A_Y, c_Y, rfl, hn, hB⟩; have HV_Y := Lib.hid (hn.less hz); have HM := Lib.hid (HM.out.past hB); have HV_d := Lib.hid (HV_d.out.past hB); have HV_X := Lib.hid (HV_X.out.past hB); have HG := Lib.hid (grown_below HG.out hB); have hz := Nat.le_trans hz hB.size; clear hn hB; have T1 := Lib.hid True.intro)
      | (go_at_call 85; (fail_if_success have z := T2); have z := T1; clear z; refine (lboth_any _ _ _ _ _ _ _ HV_d.out.1 HV_Y.out.1 (by (repeat (first | rw [bothN_len] | rw [wordN_len] | rw [opN_len] | rw [deepN_len] | rw [groupN_len])); omega)).mono ?_; rintro e w5 ⟨A_Z, c_Z, rfl, hn, hB⟩; have HV_Z := Lib.hid (hn.less hz); have HM := Lib.hid (HM.out.past hB); have HV_X := Lib.hid (HV_X.out.past hB); have HG := Lib.hid (grown_below HG.out hB); have hz := Nat.le_trans hz hB.size; clear hn hB; have T2 := Lib.hid True.intro)
      | (go_at_call 85; (fail_if_success have z := T3); have z := T2; clear z; refine (lboth_any _ _ _ _ _ _ _ HV_X.out.1 HV_Z.out.1 (by (repeat (first | rw [bothN_len] | rw [wordN_len] | rw [opN_len] | rw [deepN_len] | rw [groupN_len])); omega)).mono ?_; rintro e w6 ⟨A_R, c_R, rfl, hn, hB⟩; have HV_R := Lib.hid (hn.less hz); have HM := Lib.hid (HM.out.past hB); have HG := Lib.hid (grown_below HG.out hB); have hz := Nat.le_trans hz hB.size; clear hn hB; have T3 := Lib.hid True.intro))
    go_ret
    exact ⟨A_R, c_R, rfl, HV_R.out, HM.out, HG.out⟩
  | false =>
    rw [hbd] at HBD
    have hk : kidD po op sec d = d := by simp [kidD, hbd]
    rw [hk]
    clear hk hbd
    go_enter Tryz.func138, Tryz.ntmps138
    go_wp2_with fail
    obtain ⟨wa, hwa⟩ : ∃ wa, wa = w.alloc (.cells #[.int .i64 po, .string pt, .int .i64 pn] 25) := ⟨_, rfl⟩
    have hBa : Below w.heap.size w wa := by rw [hwa]; exact (Below.refl _ _).alloc (Nat.le_refl _) _
    have hza : wa.heap[w.heap.size]? = some (.cells #[.int .i64 po, .string pt, .int .i64 pn] 25 (0, 0)) := by rw [hwa]; exact heap_new rfl
    rw [← hwa]
    obtain ⟨h, hh⟩ : ∃ h, h = w.heap.size := ⟨_, rfl⟩
    rw [← hh] at hza
    have hlt : h < wa.heap.size := (Array.getElem?_eq_some_iff.1 hza).1
    have p0 : wa.cell? ⟨h, 0, none⟩ = some (.int .i64 po) := by rw [Lib.cell_of_heap hza]; rfl
    have p1 : wa.cell? ⟨h, 1, none⟩ = some (.string pt) := by rw [Lib.cell_of_heap hza]; rfl
    have p2 : wa.cell? ⟨h, 2, none⟩ = some (.int .i64 pn) := by rw [Lib.cell_of_heap hza]; rfl
    have hgh : g < h := by omega
    have HG : Hid (w.grownBy wa (some g)) := Lib.hid (grown_row _ hBa)
    have hz : w.heap.size ≤ wa.heap.size := hBa.size
    have HM := Lib.hid (HS.out.past hBa)
    try rw [← hh]
    have hBn := hBa
    clear hwa hza hh hBa
    obtain ⟨e0, e1, -⟩ := HM.out.cells
    have k0 := (hBn.cell (p := ⟨b, off + i * 3, none⟩) (by simp; omega)).trans d1
    have k1 := (hBn.cell (p := ⟨b, off + i * 3 + 1, none⟩) (by simp; omega)).trans d2
    have k2 := (hBn.cell (p := ⟨b, off + i * 3 + 2, none⟩) (by simp; omega)).trans d3
    clear c0 c1 d1 d2 d3
    go_region_held3 (fun w' => w'.cell? ⟨g, 0, none⟩ = some (.slice (some ⟨b, off, none⟩) l.length c) ∧ w'.cell? ⟨g, 1, none⟩ = some (.int .i64 (i : Nat)) ∧ w'.cell? ⟨h, 0, none⟩ = some (.int .i64 po) ∧ w'.cell? ⟨h, 1, none⟩ = some (.string pt) ∧ w'.cell? ⟨h, 2, none⟩ = some (.int .i64 pn) ∧ w'.cell? ⟨b, off + i * 3, none⟩ = some (.int .i64 op) ∧ w'.cell? ⟨b, off + i * 3 + 1, none⟩ = some (.string t) ∧ w'.cell? ⟨b, off + i * 3 + 2, none⟩ = some (.int .i64 n))
      (exact ⟨e0, e1, p0, p1, p2, k0, k1, k2⟩)
      (first | (go_at_call 179; refine (HBD.out _).mono ?_; rintro e w1 ⟨rfl, hB⟩; have e0 := (hB.cell (p := ⟨g, 0, none⟩) (by simp; omega)).trans e0; have e1 := (hB.cell (p := ⟨g, 1, none⟩) (by simp; omega)).trans e1; have p0 := (hB.cell (p := ⟨h, 0, none⟩) hlt).trans p0; have p1 := (hB.cell (p := ⟨h, 1, none⟩) hlt).trans p1; have p2 := (hB.cell (p := ⟨h, 2, none⟩) hlt).trans p2; have k0 := (hB.cell (p := ⟨b, off + i * 3, none⟩) (by simp; omega)).trans k0; have k1 := (hB.cell (p := ⟨b, off + i * 3 + 1, none⟩) (by simp; omega)).trans k1; have k2 := (hB.cell (p := ⟨b, off + i * 3 + 2, none⟩) (by simp; omega)).trans k2; have hB := past_drew hB; have HM := Lib.hid (HM.out.past hB); have HG := Lib.hid (grown_below HG.out hB); have hz := Nat.le_trans hz hB.size))
    go_wp2_with (go_at_call 42; refine (HI.out _ HM.out).mono ?_; rintro e w2 ⟨A_d, c_d, rfl, hn, hm2, hG⟩; have hn := hn.less hz; have HN := Lib.hid hn; have HM := Lib.hid hm2; have HG := Lib.hid (grown_trans HG.out hG); clear hn hm2 hG)
    go_ret
    exact ⟨A_d, c_d, rfl, HN.out, HM.out, HG.out⟩

theorem kidD_plain {po ko : Int} {b : Bool} {x : List Nd} (h : po = 3 ∨ po = 4) : kidD po ko b x = x := by
  have : boundF po ko b = false := by rcases h with rfl | rfl <;> simp [boundF]
  simp [kidD, this]
set_option maxRecDepth 100000 in
set_option maxHeartbeats 4000000 in
theorem lkids_any {g c f : Nat} {A : Option Addr} {l : List Nd} (hT : Tr l) (ih : MakeSaid g A c l f) (po pn : Int) (pt : ByteArray) (hpo : po = 3 ∨ po = 4) :
    ∀ (m a z : Nat) (w : World), KidsP l a (m + 1) z → 0 < a → l.length ≤ a + f → MkSt g A c l a w → ∀ v : Int, v = (m : Int) + 1 → v ≤ 100 →
      Calls Tryz.prog 137 #[.pointer (some ⟨g, 0, none⟩), .agg #[.int .i64 po, .string pt, .int .i64 pn], .int .i64 v] w (MkTo g A c l (kidsD (docT l f) (tEnd l) a (m + 1)) z w) := by
  intro m
  induction m with
  | zero =>
    intro a z w hP h0 hf hs v hv hv6
    obtain ⟨q1, q2, q3⟩ := hP
    rw [KidsP] at q3
    rw [← q3, show kidsD (docT l f) (tEnd l) a (0 + 1) = docT l f a by simp [kidsD]]
    have hK := fun w' hs' => lkid_any hT ih a w' po pn pt false hs' q1 h0 hf
    simp only [kidD_plain hpo] at hK
    have HK := Lib.hid hK
    have hgl := hs.lt
    have HS := Lib.hid hs
    obtain rfl : v = 1 := by omega
    generalize docT l f a = d at *
    generalize tEnd l a = z' at *
    clear hK hs hpo ih hT q3 hv
    go_enter Tryz.func137, Tryz.ntmps137
    go_wp2_with fail
    obtain ⟨wa, hwa⟩ : ∃ wa, wa = w.alloc (.cells #[.int .i64 po, .string pt, .int .i64 pn] 25) := ⟨_, rfl⟩
    have hBa : Below w.heap.size w wa := by rw [hwa]; exact (Below.refl _ _).alloc (Nat.le_refl _) _
    have hza : wa.heap[w.heap.size]? = some (.cells #[.int .i64 po, .string pt, .int .i64 pn] 25 (0, 0)) := by rw [hwa]; exact heap_new rfl
    rw [← hwa]
    obtain ⟨h, hh⟩ : ∃ h, h = w.heap.size := ⟨_, rfl⟩
    rw [← hh] at hza
    have hlt : h < wa.heap.size := (Array.getElem?_eq_some_iff.1 hza).1
    have p0 : wa.cell? ⟨h, 0, none⟩ = some (.int .i64 po) := by rw [Lib.cell_of_heap hza]; rfl
    have p1 : wa.cell? ⟨h, 1, none⟩ = some (.string pt) := by rw [Lib.cell_of_heap hza]; rfl
    have p2 : wa.cell? ⟨h, 2, none⟩ = some (.int .i64 pn) := by rw [Lib.cell_of_heap hza]; rfl
    have hgh : g < h := by omega
    have HG : Hid (w.grownBy wa (some g)) := Lib.hid (grown_row _ hBa)
    have hz : w.heap.size ≤ wa.heap.size := hBa.size
    have HM := Lib.hid (HS.out.past hBa)
    try rw [← hh]
    clear hwa hza hh hBa
    go_wp2_with (go_at_call 138; refine (HK.out _ HM.out).mono ?_; rintro e w2 ⟨A_d, c_d, rfl, hn, hm2, hG⟩; have HN := Lib.hid (hn.less hz); have HM := Lib.hid hm2; have HG := Lib.hid (grown_trans HG.out hG); clear hn hm2 hG)
    go_ret
    exact ⟨A_d, c_d, rfl, HN.out, HM.out, HG.out⟩
  | succ m im =>
    intro a z w hP h0 hf hs v hv hv6
    have hzl := (kidsP_le hP (by have := hP.1; omega)).2
    obtain ⟨q1, q2, q3⟩ := hP
    have hks := kids_small (f := f) hT q3 (by omega) (by omega) hzl
    have hdl := doc_small hT hf q1 (low_at hT q1 h0)
    rw [show kidsD (docT l f) (tEnd l) a (m + 1 + 1) = bothN (bothN (docT l f a) (wordN ⟨#[44]⟩)) (bothN (opN 2) (kidsD (docT l f) (tEnd l) (tEnd l a) (m + 1))) by simp [kidsD]]
    have hK := fun w' hs' => lkid_any hT ih a w' po pn pt false hs' q1 h0 hf
    simp only [kidD_plain hpo] at hK
    have HK := Lib.hid hK
    have HI := Lib.hid (fun w' hs' => im (tEnd l a) z w' q3 (by omega) (by omega) hs' (v - 1) (by omega) (by omega))
    have hgl := hs.lt
    have HS := Lib.hid hs
    have hv1 : (v == 1) = false := by simp; omega
    have hv2 : 2 ≤ v := by omega
    have kw : IntKind.i64.wrap (v - 1) = v - 1 := IntWalk.i64_in _ (by omega)
    generalize kidsD (docT l f) (tEnd l) (tEnd l a) (m + 1) = K at *
    generalize docT l f a = d at *
    generalize tEnd l a = z' at *
    clear hK hs hpo ih hT q3 hv im
    go_enter Tryz.func137, Tryz.ntmps137
    go_wp2_with fail
    obtain ⟨wa, hwa⟩ : ∃ wa, wa = w.alloc (.cells #[.int .i64 po, .string pt, .int .i64 pn] 25) := ⟨_, rfl⟩
    have hBa : Below w.heap.size w wa := by rw [hwa]; exact (Below.refl _ _).alloc (Nat.le_refl _) _
    have hza : wa.heap[w.heap.size]? = some (.cells #[.int .i64 po, .string pt, .int .i64 pn] 25 (0, 0)) := by rw [hwa]; exact heap_new rfl
    rw [← hwa]
    obtain ⟨h, hh⟩ : ∃ h, h = w.heap.size := ⟨_, rfl⟩
    rw [← hh] at hza
    have hlt : h < wa.heap.size := (Array.getElem?_eq_some_iff.1 hza).1
    have p0 : wa.cell? ⟨h, 0, none⟩ = some (.int .i64 po) := by rw [Lib.cell_of_heap hza]; rfl
    have p1 : wa.cell? ⟨h, 1, none⟩ = some (.string pt) := by rw [Lib.cell_of_heap hza]; rfl
    have p2 : wa.cell? ⟨h, 2, none⟩ = some (.int .i64 pn) := by rw [Lib.cell_of_heap hza]; rfl
    have hgh : g < h := by omega
    have HG : Hid (w.grownBy wa (some g)) := Lib.hid (grown_row _ hBa)
    have hz : w.heap.size ≤ wa.heap.size := hBa.size
    have HM := Lib.hid (HS.out.past hBa)
    try rw [← hh]
    clear hwa hza hh hBa
    go_wp2_with (go_at_call 138; refine (HK.out _ HM.out).mono ?_; rintro e w2 ⟨A_d, c_d, rfl, hn, hm2, hG⟩; have HV_d := Lib.hid (hn.less hz); have p0 := hG.cell p0 (by simp; omega); have p1 := hG.cell p1 (by simp; omega); have p2 := hG.cell p2 (by simp; omega); have HM := Lib.hid hm2; have HG := Lib.hid (grown_trans HG.out hG); have hz := Nat.le_trans hz hG.size; have hlt := Nat.lt_of_lt_of_le hlt hG.size; clear hn hm2 hG)
    go_region_held3 (fun w' => w'.cell? ⟨h, 0, none⟩ = some (.int .i64 po) ∧ w'.cell? ⟨h, 1, none⟩ = some (.string pt) ∧ w'.cell? ⟨h, 2, none⟩ = some (.int .i64 pn))
      (exact ⟨p0, p1, p2⟩)
      (first
        | (go_at_call 80; (fail_if_success have z := T0); refine (lword_any ⟨#[44]⟩ (by decide) _).mono ?_; rintro e w3 ⟨A_X, c_X, rfl, hn, hB⟩; have hB := past_drew hB; have HV_X := Lib.hid (hn.less hz); have HM := Lib.hid (HM.out.past hB); have HV_d := Lib.hid (HV_d.out.past hB); have p0 := (hB.cell (p := ⟨h, 0, none⟩) hlt).trans p0; have p1 := (hB.cell (p := ⟨h, 1, none⟩) hlt).trans p1; have p2 := (hB.cell (p := ⟨h, 2, none⟩) hlt).trans p2; have HG := Lib.hid (grown_below HG.out hB); have hz := Nat.le_trans hz hB.size; have hlt := Nat.lt_of_lt_of_le hlt hB.size; clear hn hB; have T0 := Lib.hid True.intro)
        | (go_at_call 85; (fail_if_success have z := T1); have z := T0; clear z; refine (lboth_any _ _ _ _ _ _ _ HV_d.out.1 HV_X.out.1 (by (repeat (first | rw [bothN_len] | rw [wordN_len] | rw [opN_len] | rw [deepN_len] | rw [groupN_len])); omega)).mono ?_; rintro e w4 ⟨A_Y, c_Y, rfl, hn, hB⟩; have HV_Y := Lib.hid (hn.less hz); have HM := Lib.hid (HM.out.past hB); have p0 := (hB.cell (p := ⟨h, 0, none⟩) hlt).trans p0; have p1 := (hB.cell (p := ⟨h, 1, none⟩) hlt).trans p1; have p2 := (hB.cell (p := ⟨h, 2, none⟩) hlt).trans p2; have HG := Lib.hid (grown_below HG.out hB); have hz := Nat.le_trans hz hB.size; have hlt := Nat.lt_of_lt_of_le hlt hB.size; clear hn hB; have T1 := Lib.hid True.intro)
        | (go_at_call 86; (fail_if_success have z := T2); have z := T1; clear z; refine (lop_any 2 _).mono ?_; rintro e w5 ⟨A_Z, c_Z, rfl, hn, hB⟩; have HV_Z := Lib.hid (hn.less hz); have HM := Lib.hid (HM.out.past hB); have HV_Y := Lib.hid (HV_Y.out.past hB); have p0 := (hB.cell (p := ⟨h, 0, none⟩) hlt).trans p0; have p1 := (hB.cell (p := ⟨h, 1, none⟩) hlt).trans p1; have p2 := (hB.cell (p := ⟨h, 2, none⟩) hlt).trans p2; have HG := Lib.hid (grown_below HG.out hB); have hz := Nat.le_trans hz hB.size; have hlt := Nat.lt_of_lt_of_le hlt hB.size; clear hn hB; have T2 := Lib.hid True.intro)
        | (go_at_call 137; (fail_if_success have z := T3); have z := T2; clear z; refine (HI.out _ HM.out).mono ?_; rintro e w6 ⟨A_K, c_K, rfl, hn, hm, hG⟩; have HV_K := Lib.hid (hn.less hz); have HM := Lib.hid hm; have HV_Y := Lib.hid (HV_Y.out.grow hG (fun k e => by injection e with e; omega)); have HV_Z := Lib.hid (HV_Z.out.grow hG (fun k e => by injection e with e; omega)); have p0 := (hG.cell p0 (by simp; omega)); have p1 := (hG.cell p1 (by simp; omega)); have p2 := (hG.cell p2 (by simp; omega)); have HG := Lib.hid (grown_trans HG.out hG); have hz := Nat.le_trans hz hG.size; have hlt := Nat.lt_of_lt_of_le hlt hG.size; clear hn hm hG; have T3 := Lib.hid True.intro)
        | (go_at_call 85; (fail_if_success have z := T4); have z := T3; clear z; refine (lboth_any _ _ _ _ _ _ _ HV_Z.out.1 HV_K.out.1 (by (repeat (first | rw [bothN_len] | rw [wordN_len] | rw [opN_len] | rw [deepN_len] | rw [groupN_len])); omega)).mono ?_; rintro e w7 ⟨A_V, c_V, rfl, hn, hB⟩; have HV_V := Lib.hid (hn.less hz); have HM := Lib.hid (HM.out.past hB); have HV_Y := Lib.hid (HV_Y.out.past hB); have p0 := (hB.cell (p := ⟨h, 0, none⟩) hlt).trans p0; have p1 := (hB.cell (p := ⟨h, 1, none⟩) hlt).trans p1; have p2 := (hB.cell (p := ⟨h, 2, none⟩) hlt).trans p2; have HG := Lib.hid (grown_below HG.out hB); have hz := Nat.le_trans hz hB.size; have hlt := Nat.lt_of_lt_of_le hlt hB.size; clear hn hB; have T4 := Lib.hid True.intro)
        | (go_at_call 85; (fail_if_success have z := T5); have z := T4; clear z; refine (lboth_any _ _ _ _ _ _ _ HV_Y.out.1 HV_V.out.1 (by (repeat (first | rw [bothN_len] | rw [wordN_len] | rw [opN_len] | rw [deepN_len] | rw [groupN_len])); omega)).mono ?_; rintro e w8 ⟨A_R, c_R, rfl, hn, hB⟩; have HV_R := Lib.hid (hn.less hz); have HM := Lib.hid (HM.out.past hB); have p0 := (hB.cell (p := ⟨h, 0, none⟩) hlt).trans p0; have p1 := (hB.cell (p := ⟨h, 1, none⟩) hlt).trans p1; have p2 := (hB.cell (p := ⟨h, 2, none⟩) hlt).trans p2; have HG := Lib.hid (grown_below HG.out hB); have hz := Nat.le_trans hz hB.size; have hlt := Nat.lt_of_lt_of_le hlt hB.size; clear hn hB; have T5 := Lib.hid True.intro))
    go_wp2
    go_ret
    exact ⟨A_R, c_R, rfl, HV_R.out, HM.out, HG.out⟩
end Go.Proofs.YtddfdmopaeghnacGreatDoor
