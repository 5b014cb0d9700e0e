/- Walk of the law BestLeast: it returns true (over way.Of's contract). Conditions: both slices lie below the call's own blocks. -/
import Derived.Test.YtddfdmopaeghnabBestE
import Derived.Test.YtddfdmopaeghnabCostR
import Derived.Test.YtddfdmopaeghnabShowQ
import Derived.Test.YtddfdmopaeghnabAheadQ
import Derived.Test.YtddfdmopaeghnabRefF
namespace Go.Proofs.Ytddfdmopaeghnab
open Go.RowKit Go.Maps Go.ChangeMaps

def ndAb : Nd := ⟨1, ⟨#[97, 98]⟩, 0⟩
def ndCc : Nd := ⟨1, ⟨#[99]⟩, 0⟩
def ndB2 : Nd := ⟨2, .empty, 0⟩
def ndG8 : Nd := ⟨8, .empty, 0⟩
def ndB6 : Nd := ⟨6, .empty, 0⟩
def factD : D := .un ndG8 (.bin ndB6 (.leaf ndAb) (.bin ndB6 (.leaf ndB2) (.leaf ndCc)))
theorem Doc.factD : Doc [ndG8, ndB6, ndAb, ndB6, ndB2, ndCc] factD :=
  ⟨⟨rfl, rfl, rfl, rfl, rfl, rfl⟩, rfl, by decide +kernel, by decide⟩
theorem factD_text : bT 3 factD = ⟨#[97, 98, 10, 99]⟩ := by decide +kernel
theorem factD_cost : bC 3 factD = (0, 1) := by decide +kernel

theorem Nds.lit6 (w : World) (a b c d e f : Nd) (g : Nat) (hg : w.heap.size = g) (h : ∀ z ∈ [a, b, c, d, e, f], z.text.size ≤ maxLen) :
    Nds (w.alloc (.cells #[.int .i64 a.op, .string a.text, .int .i64 a.n, .int .i64 b.op, .string b.text, .int .i64 b.n, .int .i64 c.op, .string c.text, .int .i64 c.n, .int .i64 d.op, .string d.text, .int .i64 d.n, .int .i64 e.op, .string e.text, .int .i64 e.n, .int .i64 f.op, .string f.text, .int .i64 f.n] 31)) (w.alloc (.cells #[.int .i64 a.op, .string a.text, .int .i64 a.n, .int .i64 b.op, .string b.text, .int .i64 b.n, .int .i64 c.op, .string c.text, .int .i64 c.n, .int .i64 d.op, .string d.text, .int .i64 d.n, .int .i64 e.op, .string e.text, .int .i64 e.n, .int .i64 f.op, .string f.text, .int .i64 f.n] 31)).heap.size (some ⟨g, 0, none⟩) [a, b, c, d, e, f] := by
  subst hg
  exact ⟨.lit w _ _ 6 rfl, by simp [maxLen], h⟩
theorem blk_set2L {w : World} {b : Nat} {x y p q : Value} {T : TypeId} {fr : Nat × Nat} (h : w.heap[b]? = some (.cells #[x, y] T fr)) : ((w.setCell ⟨b, 0, none⟩ p).setCell ⟨b, 1, none⟩ q).heap[b]? = some (.cells #[p, q] T fr) := by
  simp [World.setCell, Array.getElem?_modify, h]
/-- Numbers in another block lie as they lay. -/
theorem NumsI.setOther {w : World} {A : Option Addr} {u : List Int} (h : NumsI w w.heap.size A u) (p : Addr) (hne : ∀ q : Addr, A = some q → q.block ≠ p.block) (v : Value) : NumsI (w.setCell p v) (w.setCell p v).heap.size A u := by
  have hs : (w.setCell p v).heap.size = w.heap.size := by simp [World.setCell]
  rw [hs]
  refine ⟨⟨h.1.1, fun hn => ?_⟩, h.2⟩
  obtain ⟨b, off, e, hb, hc⟩ := h.1.2 hn
  refine ⟨b, off, e, hb, fun j z hz => ?_⟩
  have h1 := hne _ e
  exact (World.cell?_setCell_other _ _ _ _ (fun e2 => h1 (by rw [e2]))).trans (hc j z hz)

set_option maxRecDepth 100000 in
set_option maxHeartbeats 2000000 in
theorem bestLeast_any (hof : OfFromSaid) (a : List Nd) (width : Int) (ww : List Int) (A M : Option Addr) (c cm : Nat) (w : World) (ha : Nds w w.heap.size A a) (hM : NumsI w w.heap.size M ww) (hcm : ww.length ≤ cm) :
    Calls Try.prog 5 #[.slice A a.length c, .int .i64 width, .slice M ww.length cm] w (Ret w (.bool true)) := by
  have h6 : ∀ z ∈ [ndG8, ndB6, ndAb, ndB6, ndB2, ndCc], z.text.size ≤ maxLen := by decide +kernel
  have L1 := Lib.hid (Nds.lit6 w ndG8 ndB6 ndAb ndB6 ndB2 ndCc w.heap.size rfl h6)
  clear h6
  have HOF := Lib.hid hof; have HOS := Lib.hid (OfFromSaid.said hof)
  have HA := Lib.hid ha; have HM := Lib.hid hM
  have hla := HA.out.2.1
  have hlm := HM.out.2
  unfold maxLen at hla hlm
  clear ha hM hof
  go_enter Try.func5, Try.ntmps5
  go_wp2_with fail
  refine (best_good HOF.out Doc.factD _ 6 _ rfl 3 rfl (by omega) _ L1.out).mono ?_
  rintro e w1 ⟨A1, c1, rfl, hn1, hc1, hB1⟩
  rw [factD_text, factD_cost]
  have hB1' : Below w.heap.size w w1 := ((Below.refl _ _).alloc (Nat.le_refl _) _).trans (hB1.mono (by simp))
  clear hB1 L1 hn1 hc1
  go_upto_region 4 with fail
  refine wp_named (fun wx => Below w.heap.size w wx ∧ wx.heap[w1.heap.size]? = some (.cells #[.int .i64 0, .int .i64 1] 25 (0, 0))) ⟨hB1'.alloc hB1'.size _, heap_new rfl⟩ ?_
  rintro w2 ⟨hB2, hC2⟩
  have hg0 : w.heap.size ≤ w1.heap.size := hB1'.size
  generalize w1.heap.size = g0 at *
  have HB2 := Lib.hid hB2; have HC2 := Lib.hid hC2
  clear hB1' hB2 hC2
  have hcase : (checkF a ≠ 0 ∨ (checkF a = 0 ∧ width < 0) ∨ (checkF a = 0 ∧ 0 ≤ width ∧ 100 < width)) ∨ (checkF a = 0 ∧ 0 ≤ width ∧ width ≤ 100) := by omega
  rcases hcase with hbad | ⟨ea, hwd⟩
  · have hb : ∃ q : Int, ∀ w', Nds w' w'.heap.size A a → Calls Try.prog 6 #[.slice A a.length c, .int .i64 width] w' (Ret w' (.tuple #[.string .empty, .slice none 0 0, .agg #[.int .i64 0, .int .i64 0], .iface 36 (.int .i64 q)])) := by
      by_cases he : checkF a = 0
      · exact ⟨1, fun w' h => best_wide he A _ c rfl (by omega) w' h⟩
      · exact ⟨checkF a, fun w' h => best_bad he A _ c rfl width w' h⟩
    obtain ⟨q, hb⟩ := hb
    have HBD := Lib.hid hb
    clear hb
    go_wp2_with fail
    refine (HBD.out _ (HA.out.past HB2.out)).mono ?_
    rintro e w3 ⟨rfl, hB3⟩
    have hB3' := HB2.out.trans (hB3.mono HB2.out.size)
    have hC3 := blk_below HC2.out hB3
    have m0 := blk_cell (j := 0) hC3; have m1 := blk_cell (j := 1) hC3; have m2 := blk_free (j := 0) hC3; have m3 := blk_free (j := 1) hC3
    simp at m0 m1
    have hB4 : Below w.heap.size w ((w3.setCell ⟨g0, 0, none⟩ (.int .i64 0)).setCell ⟨g0, 1, none⟩ (.int .i64 0)) := (hB3'.setCell (p := ⟨g0, 0, none⟩) hg0 _).setCell (p := ⟨g0, 1, none⟩) hg0 _
    have HB4 := Lib.hid hB4
    clear hB3 hB3' hC3 hB4
    go_upto_region 5 with fail
    refine wp_named (fun wx => Below w.heap.size w wx) HB4.out ?_
    rintro w4 hB5
    clear HB4 m0 m1 m2 m3
    have HB5 := Lib.hid hB5
    clear hB5
    rcases hbad with he | ⟨he, hw⟩ | ⟨he, hw0, hw⟩
    · have k1 : (checkF a != 0) = true := by simpa using he
      have k2 : (checkF a == 0) = false := by simpa using he
      go_wp2_with (go_at_call 10; refine (docfault_any a A c _ (HA.out.past HB5.out)).mono ?_; rintro e w5 ⟨rfl, hB6⟩)
      go_ret
      exact ⟨rfl, HB5.out.trans (hB6.mono HB5.out.size)⟩
    · have k1 : decide (width < 0) = true := decide_eq_true hw
      clear hw
      have HE := Lib.hid he
      clear he
      go_wp2_with (go_at_call 10; refine (docfault_any a A c _ (HA.out.past HB5.out)).mono ?_; rw [HE.out]; rintro e w5 ⟨rfl, hB6⟩)
      go_ret
      exact ⟨rfl, HB5.out.trans (hB6.mono HB5.out.size)⟩
    · have k1 : decide (width < 0) = false := decide_eq_false (by omega)
      have k2 : decide (100 < width) = true := decide_eq_true hw
      clear hw hw0
      have HE := Lib.hid he
      clear he
      go_wp2_with (go_at_call 10; refine (docfault_any a A c _ (HA.out.past HB5.out)).mono ?_; rw [HE.out]; rintro e w5 ⟨rfl, hB6⟩)
      go_ret
      exact ⟨rfl, HB5.out.trans (hB6.mono HB5.out.size)⟩
  · obtain ⟨x, da⟩ := Doc.of_check ea
    obtain ⟨W, rfl⟩ : ∃ W : Nat, width = W := ⟨width.toNat, by omega⟩
    have hW : W ≤ 100 := by omega
    have DA := Lib.hid da
    have hsh := da.best_shown W
    have SH := Lib.hid hsh
    have hsz := hsh.size
    have hct := bC_T W x
    clear ea da hwd hsh
    go_wp2_with fail
    refine (best_goodF HOF.out DA.out _ _ _ rfl W rfl hW _ (HA.out.past HB2.out)).mono ?_
    rintro e w3 ⟨A3, c3, rfl, hn3, hc3, hB3, hf3⟩
    have hB3' : Below w.heap.size w w3 := HB2.out.trans (hB3.mono HB2.out.size)
    have hC3 := blk_below HC2.out hB3
    have m0 := blk_cell (j := 0) hC3; have m1 := blk_cell (j := 1) hC3; have m2 := blk_free (j := 0) hC3; have m3 := blk_free (j := 1) hC3
    simp at m0 m1
    generalize hp : bC W x = p at *
    obtain ⟨pa, pb⟩ := p
    simp only
    have hB4 : Below w.heap.size w ((w3.setCell ⟨g0, 0, none⟩ (.int .i64 (pa : Nat))).setCell ⟨g0, 1, none⟩ (.int .i64 (pb : Nat))) := (hB3'.setCell (p := ⟨g0, 0, none⟩) hg0 _).setCell (p := ⟨g0, 1, none⟩) hg0 _
    have hC4 : ((w3.setCell ⟨g0, 0, none⟩ (.int .i64 (pa : Nat))).setCell ⟨g0, 1, none⟩ (.int .i64 (pb : Nat))).heap[g0]? = _ := blk_set2L hC3
    have hlt : g0 < w2.heap.size := lt_of_heap HC2.out
    have hN4 := NumsI.setOther (NumsI.setOther hn3 ⟨g0, 0, none⟩ (fun q hq => by have := hf3 q hq; simp only; omega) (.int .i64 (pa : Nat))) ⟨g0, 1, none⟩ (fun q hq => by have := hf3 q hq; simp only; omega) (.int .i64 (pb : Nat))
    have HB4 := Lib.hid hB4; have HC4 := Lib.hid hC4; have HN4 := Lib.hid hN4
    have HCO : Hid (∀ w' : World, Calls Try.prog 12 #[.string (bT W x), .int .i64 (W : Nat)] w' (Ret w' (.agg #[.int .i64 (pa : Nat), .int .i64 (pb : Nat)]))) := Lib.hid (fun w' => by
      have := costof_any (bT W x) (by omega) W w'
      rw [← hct] at this
      exact this)
    have HP := Lib.hid hp
    clear hB3 hB3' hC3 hB4 hC4 hN4 hn3 hf3 hct hp
    go_upto_region 5 with fail
    refine wp_named (fun wx => Below w.heap.size w wx ∧ wx.heap[g0]? = some (.cells #[.int .i64 (pa : Nat), .int .i64 (pb : Nat)] 25 (0, 0)) ∧ NumsI wx wx.heap.size A3 (bU W x)) ⟨HB4.out, HC4.out, HN4.out⟩ ?_
    rintro w4 ⟨hB5, hC5, hN5⟩
    clear HB4 HC4 HN4 HC2 HB2 m0 m1 m2 m3 hlt
    have HB5 := Lib.hid hB5; have HC5 := Lib.hid hC5; have HN5 := Lib.hid hN5
    clear hB5 hC5 hN5
    go_wp2_with fail
    refine (show_ok HOS.out SH.out A a.length c rfl A3 (bU W x).length c3 rfl hc3 w4 (HA.out.past HB5.out) HN5.out).mono ?_
    rintro e w5 ⟨rfl, hB6⟩
    have hC6 := blk_below HC5.out hB6
    have HC6 := Lib.hid hC6
    have HB6 := Lib.hid (HB5.out.trans (hB6.mono HB5.out.size))
    have HN6 := Lib.hid (HN5.out.past hB6)
    clear hB6 HB5 HC5 HN5
    have m0 := blk_cell (j := 0) hC6; have m1 := blk_cell (j := 1) hC6
    simp at m0 m1
    clear hC6
    go_upto_region 8 with fail
    generalize htx : bT W x = tx at *
    go_region_held3 (fun w' => w'.cell? ⟨g0, 0, none⟩ = some (.int .i64 (pa : Nat)) ∧ w'.cell? ⟨g0, 1, none⟩ = some (.int .i64 (pb : Nat)))
      (first | exact ⟨m0, m1⟩ | exact ⟨n0, n1⟩)
      ((go_at_call 12; refine (HCO.out _).mono ?_; rintro e wc ⟨rfl, hB7⟩; have n0 := (hB7.cell (p := ⟨g0, 0, none⟩) (lt_of_heap HC6.out)).trans m0; have n1 := (hB7.cell (p := ⟨g0, 1, none⟩) (lt_of_heap HC6.out)).trans m1))
    · have hBc : Below w5.heap.size w5 wc := by first | exact hB7 | exact past_drew hB7 | exact past_drewN hB7
      clear hB7 n0 n1
      subst htx
      have HBc := Lib.hid (HB6.out.trans (hBc.mono HB6.out.size))
      have HNc := Lib.hid (HN6.out.past hBc)
      have HCc := Lib.hid (blk_below HC6.out hBc)
      clear hBc HB6 HC6 HN6 m0 m1
      cases hsw : showF a ww with
      | error q =>
        have HSW := Lib.hid hsw
        clear hsw
        go_wp2_with fail
        refine (show_no HOS.out HSW.out _ _ _ rfl _ _ _ rfl hcm _ (HA.out.past HBc.out) (HM.out.past HBc.out)).mono ?_
        rintro e w7 ⟨rfl, hB8⟩
        have HB8 := Lib.hid (HBc.out.trans (hB8.mono HBc.out.size))
        go_wp2_with fail
        go_ret
        exact ⟨rfl, HB8.out⟩
      | ok t =>
        obtain ⟨x', hsw⟩ := showF_ok hsw
        have hxx : x' = x := by rw [← hsw.doc.root, ← DA.out.root]
        subst hxx
        have HSW := Lib.hid hsw
        have hts := hsw.size
        clear hsw
        go_wp2_with fail
        refine (show_ok HOS.out HSW.out _ _ _ rfl _ _ _ rfl hcm _ (HA.out.past HBc.out) (HM.out.past HBc.out)).mono ?_
        rintro e w7 ⟨rfl, hB8⟩
        have hC8 := blk_below HCc.out hB8
        have HC8 := Lib.hid hC8
        have HN8 := Lib.hid (HNc.out.past hB8)
        have HB8 := Lib.hid (HBc.out.trans (hB8.mono HBc.out.size))
        clear hB8 hC8 HCc HNc HBc
        obtain ⟨ka, kb, hk⟩ : ∃ ka kb, cst W 0 t.data.toList = (ka, kb) := ⟨_, _, rfl⟩
        have HCT : Hid (∀ w' : World, Calls Try.prog 12 #[.string t, .int .i64 (W : Nat)] w' (Ret w' (.agg #[.int .i64 (ka : Nat), .int .i64 (kb : Nat)]))) := Lib.hid (fun w' => by
          have := costof_any t (by omega) W w'
          rw [hk] at this
          exact this)
        have HLE : Hid (cLess (ka, kb) (pa, pb) = false) := Lib.hid (by have := HSW.out.least W; rwa [hk, HP.out] at this)
        have HFI : Hid ((ka, kb) = (pa, pb) → aheadL ww (bU W x') = false) := Lib.hid (fun h => HSW.out.first (by rw [hk, HP.out, h]))
        clear hk
        go_wp2_with fail
        refine (HCT.out _).mono ?_
        rintro e w9 ⟨rfl, hB9⟩
        have hC9 := blk_below HC8.out hB9
        have HN9 := Lib.hid (HN8.out.past hB9)
        have HB9 := Lib.hid (HB8.out.trans (hB9.mono HB8.out.size))
        clear hB9 HC8 HN8 HB8
        go_upto_region 14 with fail
        refine wp_named (fun wx => Below w.heap.size w wx ∧ wx.heap[g0]? = some (.cells #[.int .i64 (pa : Nat), .int .i64 (pb : Nat)] 25 (0, 0)) ∧ wx.heap[w9.heap.size]? = some (.cells #[.int .i64 (ka : Nat), .int .i64 (kb : Nat)] 25 (0, 0)) ∧ NumsI wx wx.heap.size A3 (bU W x'))
          ⟨HB9.out.alloc HB9.out.size _, (Below.heap_alloc _ _ _ (lt_of_heap hC9)).trans hC9, heap_new rfl, HN9.out.past ((Below.refl _ _).alloc (Nat.le_refl _) _)⟩ ?_
        rintro wa ⟨hBa, hCa, hKa, hNa⟩
        generalize w9.heap.size = g1 at *
        clear hC9 HN9 HB9
        have m0 := blk_cell (j := 0) hCa; have m1 := blk_cell (j := 1) hCa; have k0 := blk_cell (j := 0) hKa; have k1 := blk_cell (j := 1) hKa
        simp at m0 m1 k0 k1
        have HBa := Lib.hid hBa; have HCa := Lib.hid hCa; have HKa := Lib.hid hKa; have HNa := Lib.hid hNa
        clear hBa hCa hKa hNa
        go_upto_if 100 with (go_at_call 7; refine (refless_any (ka, kb) (pa, pb) HLE.out _).mono ?_; rintro e wb ⟨rfl, hBb⟩)
        have HCb := Lib.hid (blk_below HCa.out hBb); have HKb := Lib.hid (blk_below HKa.out hBb)
        have HBb := Lib.hid (HBa.out.trans (hBb.mono HBa.out.size))
        have HNb := Lib.hid (HNa.out.past hBb)
        clear hBb HBa HCa HKa HNa m0 m1 k0 k1
        have m0 := blk_cell (j := 0) HCb.out; have m1 := blk_cell (j := 1) HCb.out; have k0 := blk_cell (j := 0) HKb.out; have k1 := blk_cell (j := 1) HKb.out
        simp at m0 m1 k0 k1
        by_cases he : (ka, kb) = (pa, pb)
        · have HF := Lib.hid (HFI.out he)
          obtain ⟨rfl, rfl⟩ := Prod.mk.inj he
          have HAH := Lib.hid (fun w' h1 h2 => ahead_q ww (bU W x') ww.length (bU W x').length rfl rfl M A3 cm c3 w' h1 h2)
          rw [HF.out] at HAH
          clear he
          go_wp2_with (go_at_call 13; refine (HAH.out _ (HM.out.past HBb.out) HNb.out).mono ?_; rintro e wd ⟨rfl, m, rfl⟩)
          all_goals
            go_ret
            exact ⟨rfl, below_drewN HBb.out _⟩
        · go_wp2_with fail
          all_goals first
            | (go_ret; exact ⟨rfl, HBb.out⟩)
            | (exfalso; apply he; ext <;> simp <;> omega)
end Go.Proofs.Ytddfdmopaeghnab
