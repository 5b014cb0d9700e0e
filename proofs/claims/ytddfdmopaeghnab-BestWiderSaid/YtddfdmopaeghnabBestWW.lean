/- Walk of the law BestWider: it returns true (over way.Of's contract). Conditions: both slices of nodes lie below the call's own blocks. -/
import Derived.Test.YtddfdmopaeghnabBestE
import Derived.Test.YtddfdmopaeghnabCostR
import Derived.Test.YtddfdmopaeghnabNdS
namespace Go.Proofs.Ytddfdmopaeghnab
open Go.RowKit Go.Maps Go.ChangeMaps

theorem Nds.lit3w (w : World) (d d' d2 : Nd) (g : Nat) (hg : w.heap.size = g) (hd : d.text.size ≤ maxLen) (hd' : d'.text.size ≤ maxLen) (hd2 : d2.text.size ≤ maxLen) :
    Nds (w.alloc (.cells #[.int .i64 d.op, .string d.text, .int .i64 d.n, .int .i64 d'.op, .string d'.text, .int .i64 d'.n, .int .i64 d2.op, .string d2.text, .int .i64 d2.n] 31)) (w.alloc (.cells #[.int .i64 d.op, .string d.text, .int .i64 d.n, .int .i64 d'.op, .string d'.text, .int .i64 d'.n, .int .i64 d2.op, .string d2.text, .int .i64 d2.n] 31)).heap.size (some ⟨g, 0, none⟩) [d, d', d2] := by
  subst hg
  exact ⟨.lit w _ _ 3 rfl, by simp [maxLen], by simpa using ⟨hd, hd', hd2⟩⟩
def ndAbc : Nd := ⟨1, ⟨#[97, 98, 99]⟩, 0⟩
def ndA1 : Nd := ⟨1, ⟨#[97]⟩, 0⟩
theorem Doc.factW : Doc [nd9, ndAbc, ndA1] (.bin nd9 (.leaf ndAbc) (.leaf ndA1)) :=
  ⟨⟨rfl, rfl, rfl⟩, rfl, by decide +kernel, by decide⟩
theorem factW_text : bT 2 (.bin nd9 (.leaf ndAbc) (.leaf ndA1)) = ⟨#[97]⟩ := by decide +kernel

/-- A cost as a value, compared. -/
theorem costV_eq (a b : Nat × Nat) (h : a = b) : (.agg #[.int .i64 (a.1 : Nat), .int .i64 (a.2 : Nat)] : Value) = .agg #[.int .i64 (b.1 : Nat), .int .i64 (b.2 : Nat)] := by rw [h]

theorem blk_set2W {w : World} {b : Nat} {x y p q : Value} {T : TypeId} {fr : Nat × Nat} (h : w.heap[b]? = some (.cells #[x, y] T fr)) : ((w.setCell ⟨b, 0, none⟩ p).setCell ⟨b, 1, none⟩ q).heap[b]? = some (.cells #[p, q] T fr) := by
  simp [World.setCell, Array.getElem?_modify, h]

set_option maxRecDepth 100000 in
set_option maxHeartbeats 16000000 in
theorem bestWider_any (hof : OfFromSaid) (a o : List Nd) (width : Int) (A B : Option Addr) (c d : Nat) (w : World) (ha : Nds w w.heap.size A a) (ho : Nds w w.heap.size B o) (ho62 : o.length ≤ 4611686018427387904) :
    Calls Try.prog 3 #[.slice A a.length c, .slice B o.length d, .int .i64 width] w (Ret w (.bool true)) := by
  have h1 : nd9.text.size ≤ maxLen := by decide +kernel
  have h2 : ndAbc.text.size ≤ maxLen := by decide +kernel
  have h3 : ndA1.text.size ≤ maxLen := by decide +kernel
  have L1 := Lib.hid (Nds.lit3w w nd9 ndAbc ndA1 w.heap.size rfl h1 h2 h3)
  clear h1 h2 h3
  have HOF := Lib.hid hof
  have HA := Lib.hid ha; have HO := Lib.hid ho
  have hla := HA.out.2.1
  have hlo := HO.out.2.1
  unfold maxLen at hla hlo
  obtain ⟨i0, hi0, hz0, hz1, hz2⟩ := info_parts node_info
  clear ha ho hof
  go_enter Try.func3, Try.ntmps3
  go_wp2_with fail
  refine (best_good HOF.out Doc.factW _ 3 _ rfl 2 rfl (by omega) _ L1.out).mono ?_
  rintro e w1 ⟨A1, c1, rfl, hn1, hc1, hB1⟩
  rw [factW_text]
  have hB1' : Below w.heap.size w w1 := ((Below.refl _ _).alloc (Nat.le_refl _) _).trans (hB1.mono (by simp))
  clear hB1 L1 hn1 hc1
  by_cases ea : checkF a = 0
  · obtain ⟨x, da⟩ := Doc.of_check ea
    have DA := Lib.hid da
    have h4a := da.len
    by_cases hwd : 0 ≤ width ∧ width ≤ 100
    · obtain ⟨W, rfl⟩ : ∃ W : Nat, width = W := ⟨width.toNat, by omega⟩
      have hW : W ≤ 100 := by omega
      clear ea da hwd
      go_wp2_with fail
      refine (best_good HOF.out DA.out _ _ _ rfl W rfl hW _ (HA.out.past (hB1'.alloc hB1'.size _))).mono ?_
      rintro e w2 ⟨A2, c2, rfl, hn2, hc2, hB2⟩
      have hB2' : Below w.heap.size w w2 := (hB1'.alloc hB1'.size _).trans (hB2.mono (by have := hB1'.size; simp; omega))
      clear hB2 hn2 hc2 hB1'
      generalize hp : bC W x = p at *
      obtain ⟨pa, pb⟩ := p
      simp only
      by_cases hlen : 400 ≤ a.length + o.length
      · have hs2 := hB2'.size
        go_wp2_with fail
        go_ret
        exact ⟨rfl, (by repeat (first | exact Below.refl _ _ | assumption | apply Below.drew | refine below_drewN ?_ _ | apply Below.setCell _ (by first | omega | (simp; done) | (simp; omega)) | apply Below.alloc _ (by first | omega | (simp; done) | (simp; omega))))⟩
      · go_upto_if 64 with fail
        go_cut [] (fun wx => Below w.heap.size w wx ∧ wx.heap[w2.heap.size]? = some (.cells #[.int .i64 (pa : Nat), .int .i64 (pb : Nat)] 25 (0, 0)))
        case first =>
          have hw3 : Below w.heap.size w (w2.alloc (.cells #[.int .i64 (pa : Nat), .int .i64 (pb : Nat)] 25)) := hB2'.alloc hB2'.size _
          have hc3 : (w2.alloc (.cells #[.int .i64 (pa : Nat), .int .i64 (pb : Nat)] 25)).heap[w2.heap.size]? = some (.cells #[.int .i64 (pa : Nat), .int .i64 (pb : Nat)] 25 (0, 0)) := heap_new rfl
          have HC3 := Lib.hid hc3
          by_cases h100 : W < 100
          · have k1 : decide ((W : Int) < 100) = true := decide_eq_true (by omega)
            have hless : cLess (pa, pb) (bC (W + 1) x) = false := by rw [← hp]; exact best_wider W x
            generalize hq : bC (W + 1) x = q at *
            obtain ⟨qa, qb⟩ := q
            have HLS := Lib.hid hless
            clear hless hc3
            go_wp2_with (first
              | (go_at_call 6; refine (best_good HOF.out DA.out _ _ _ rfl (W + 1) (width := (W : Int) + 1) (by push_cast; rfl) (by omega) _ (HA.out.past hw3)).mono ?_; rintro e w4 ⟨A4, c4, rfl, hn4, hc4, hB4⟩; rw [hq]; have hc5 := blk_below HC3.out hB4; have HC5 := Lib.hid hc5; have hlt5 := lt_of_heap hc5; have m0 := blk_cell (j := 0) hc5; have m1 := blk_cell (j := 1) hc5; simp at m0 m1; have hw5 : Below w.heap.size w w4 := hw3.trans (hB4.mono (by have := hB2'.size; simp; omega)); clear hn4 hc4 hB4 hc5)
              | (go_at_call 7; refine (refless_any (pa, pb) (qa, qb) HLS.out _).mono ?_; rintro e w6 ⟨rfl, hB6⟩))
            go_meet
            case rel => exact ⟨hw5.alloc hw5.size _ |>.trans (hB6.mono (by have := hw5.size; simp; omega)), blk_below ((Below.heap_alloc _ _ _ (lt_of_heap HC5.out)).trans HC5.out) hB6⟩
          · have k1 : decide ((W : Int) < 100) = false := decide_eq_false (by omega)
            go_wp2_with fail
            go_meet
            case rel => exact ⟨hw3, HC3.out⟩
        case rest =>
          obtain ⟨hB3, hC3⟩ := hcut
          have HC3 := Lib.hid hC3
          have hgc : w2.heap.size < wc.heap.size := lt_of_heap hC3
          have hg0 : w.heap.size ≤ w2.heap.size := hB2'.size
          have HLG := Lib.hid (show cLess (pa, pb) (bC W (.un ndGr x)) = false by rw [← hp]; exact best_group W x)
          generalize hg : w2.heap.size = g0 at *
          have H0 := Lib.hid (World.ownsRow_lit (base := wc.heap.size) (e := 31) (size := 3) wc #[.int .i64 8, .string .empty, .int .i64 0] 1 (Nat.le_refl _) (by simp [maxLen]) (by simp))
          have HA3 := Lib.hid ((HA.out.past hB3).1.alloc (.cells #[.int .i64 8, .string .empty, .int .i64 0] 31))
          go_upto_region 13 with (at_builtin; refine wpList_app _ rfl (.tmp 83) (.tmp 84) _ rfl wc.heap.size 31 i0 _ 3 32 Try.underlying22 hi0 hz0 hz1 hz2 rfl (by omega) _ 1 _ rfl H0.out _ A a.length c _ rfl HA3.out (nd_one a) (by simp only [maxLen]; omega) (by omega) (by simp) ?_; intro v7 w7 hown7 hg7 hat7; clear hat7; obtain ⟨A7, c7, hv7⟩ := own_slice hown7; subst hv7; have H7 := Lib.hid hown7; have HG7 := Lib.hid hg7; clear hown7 hg7)
          have hG7 : Below wc.heap.size wc w7 := below_app ((Below.refl _ _).alloc (Nat.le_refl _) _) H0.out HG7.out (by simp) (Nat.le_refl _)
          have hB7 : Below w.heap.size w w7 := hB3.trans (hG7.mono hB3.size)
          have hc7 := blk_below HC3.out hG7
          have HC7 := Lib.hid hc7
          have N7 := Lib.hid (Nds.own (l := ndGr :: a) (by simpa [ndCells, ndGr] using H7.out) (by simp; omega) (by simp [maxLen]; omega) (by
            intro z hz
            rcases List.mem_cons.1 hz with rfl | hz
            · simp [ndGr, maxLen]
            · exact HA.out.2.2 _ hz))
          clear H0 HA3 H7 HG7 hB3 hG7 hc7 hC3 HC3 hgc
          generalize hq : bC W (.un ndGr x) = q at HLG
          obtain ⟨qa, qb⟩ := q
          go_wp2_with fail
          refine (best_good HOF.out (DA.out.gr (by omega)) A7 (1 + a.length) c7 (by simp; omega) W rfl hW w7 N7.out).mono ?_
          rintro e w8 ⟨A8, c8, rfl, hn8, hc8, hB8⟩
          rw [hq]
          have hc8' := blk_below HC7.out hB8
          have hB8' : Below w.heap.size w w8 := hB7.trans (hB8.mono hB7.size)
          clear hn8 hc8 hB8 hB7 N7 HC7
          go_upto_region 14 with fail
          refine wp_named (fun w9 => Below w.heap.size w w9 ∧ w9.heap[g0]? = some (.cells #[.int .i64 (pa : Nat), .int .i64 (pb : Nat)] 25 (0, 0)) ∧ w9.heap[w8.heap.size]? = some (.cells #[.int .i64 (qa : Nat), .int .i64 (qb : Nat)] 25 (0, 0)))
            ⟨hB8'.alloc hB8'.size _, (Below.heap_alloc _ _ _ (lt_of_heap hc8')).trans hc8', heap_new rfl⟩ ?_
          rintro w9 ⟨hB9, hC9, hD9⟩
          have hg1 : g0 < w8.heap.size := lt_of_heap hc8'
          generalize w8.heap.size = g1 at *
          clear hB8' hc8'
          have m0 := blk_cell (j := 0) hC9; have m1 := blk_cell (j := 1) hC9
          have d0 := blk_cell (j := 0) hD9; have d1 := blk_cell (j := 1) hD9
          simp at m0 m1 d0 d1
          have HB9 := Lib.hid hB9; have HC9 := Lib.hid hC9; have HD9 := Lib.hid hD9
          clear hB9 hC9 hD9
          go_upto_region 16 with (go_at_call 7; refine (refless_any (pa, pb) (qa, qb) HLG.out _).mono ?_; rintro e w10 ⟨rfl, hB10⟩)
          have hC10 := blk_below HC9.out hB10
          have hD10 := blk_below HD9.out hB10
          have hB10' := HB9.out.trans (hB10.mono HB9.out.size)
          have HB10 := Lib.hid hB10'; have HC10 := Lib.hid hC10; have HD10 := Lib.hid hD10
          clear m0 m1 d0 d1 HB9 HC9 HD9 hC10 hD10 hB10 hB10'
          by_cases eo : checkF o = 0
          · obtain ⟨y, do_⟩ := Doc.of_check eo
            have DO := Lib.hid do_
            have h4o := do_.len
            clear eo do_
            go_wp2_with fail
            refine (best_good HOF.out DO.out _ _ _ rfl W rfl hW _ (HO.out.past HB10.out)).mono ?_
            rintro e w11 ⟨A11, c11, rfl, hn11, hc11, hB11⟩
            have hC11 := blk_below HC10.out hB11
            have hD11 := blk_below HD10.out hB11
            have hB11' := HB10.out.trans (hB11.mono HB10.out.size)
            generalize hr : bC W y = r at *
            obtain ⟨ra, rb⟩ := r
            simp only
            clear hn11 hc11 hB11 HC10 HD10
            go_upto_region 17 with fail
            refine wp_named (fun w12 => Below w.heap.size w w12 ∧ w12.heap[g0]? = some (.cells #[.int .i64 (pa : Nat), .int .i64 (pb : Nat)] 25 (0, 0)) ∧ w12.heap[g1]? = some (.cells #[.int .i64 (qa : Nat), .int .i64 (qb : Nat)] 25 (0, 0)) ∧ w12.heap[w11.heap.size]? = some (.cells #[.int .i64 (ra : Nat), .int .i64 (rb : Nat)] 25 (0, 0)))
              ⟨hB11'.alloc hB11'.size _, (Below.heap_alloc _ _ _ (lt_of_heap hC11)).trans hC11, (Below.heap_alloc _ _ _ (lt_of_heap hD11)).trans hD11, heap_new rfl⟩ ?_
            rintro w12 ⟨hB12, hC12, hD12, hE12⟩
            have hg2 : g1 < w11.heap.size := lt_of_heap hD11
            generalize w11.heap.size = g2 at *
            have HB12 := Lib.hid hB12; have HC12 := Lib.hid hC12; have HD12 := Lib.hid hD12; have HE12 := Lib.hid hE12
            clear hB11' hC11 hD11 hB12 hC12 hD12 hE12
            have H0 := Lib.hid (World.ownsRow_lit (base := w12.heap.size) (e := 31) (size := 3) w12 #[.int .i64 9, .string .empty, .int .i64 0] 1 (Nat.le_refl _) (by simp [maxLen]) (by simp))
            have HA3 := Lib.hid ((HA.out.past HB12.out).1.alloc (.cells #[.int .i64 9, .string .empty, .int .i64 0] 31))
            have hb13 : Below w12.heap.size w12 (w12.alloc (.cells #[.int .i64 9, .string .empty, .int .i64 0] 31)) := (Below.refl _ _).alloc (Nat.le_refl _) _
            have HB13 := Lib.hid hb13
            clear hb13
            go_upto_region 21 with (at_builtin; refine wpList_app _ rfl (.tmp 113) (.tmp 114) _ rfl w12.heap.size 31 i0 _ 3 32 Try.underlying22 hi0 hz0 hz1 hz2 rfl (by omega) _ 1 _ rfl H0.out _ A a.length c _ rfl HA3.out (nd_one a) (by simp only [maxLen]; omega) (by omega) (by simp) ?_; intro v7 w7 hown7 hg7 hat7; clear hat7; have H7 := Lib.hid hown7; have HG7 := Lib.hid hg7; clear hown7 hg7)
            have hG7 : Below w12.heap.size w12 w7 := below_app HB13.out H0.out HG7.out (by simp) (Nat.le_refl _)
            have HG8 := Lib.hid hG7
            have HO7 := Lib.hid ((HO.out.past (HB12.out.trans (hG7.mono HB12.out.size))).1)
            have hs7 := hG7.size
            clear H0 HA3 HG7 HB13 hG7
            go_upto_region 22 with (at_builtin; refine wpList_app _ rfl (.tmp 116) (.tmp 117) _ rfl w12.heap.size 31 i0 _ 3 32 Try.underlying22 hi0 hz0 hz1 hz2 rfl (by omega) v7 (1 + a.length) _ rfl H7.out _ B o.length d _ rfl HO7.out (nd_one o) (by simp only [maxLen]; omega) (by omega) hs7 ?_; intro v13 w13 hown13 hg13 hat13; clear hat13; obtain ⟨A13, c13, hv13⟩ := own_slice hown13; subst hv13; have H13 := Lib.hid hown13; have HG13 := Lib.hid hg13; clear hown13 hg13)
            have hG13 : Below w12.heap.size w12 w13 := below_app HG8.out H7.out HG13.out hs7 (Nat.le_refl _)
            have N13 := Lib.hid (Nds.own (l := nd9 :: (a ++ o)) (by simpa [ndCells, nd9] using H13.out) (by simp; omega) (by simp [maxLen]; omega) (by
              intro z hz
              rcases List.mem_cons.1 hz with rfl | hz
              · decide +kernel
              · rcases List.mem_append.1 hz with hz | hz
                · exact HA.out.2.2 _ hz
                · exact HO.out.2.2 _ hz))
            have hB13 : Below w.heap.size w w13 := HB12.out.trans (hG13.mono HB12.out.size)
            have hC13 := blk_below HC12.out hG13
            have hD13 := blk_below HD12.out hG13
            have hE13 := blk_below HE12.out hG13
            have HB13 := Lib.hid hB13; have HC13 := Lib.hid hC13; have HD13 := Lib.hid hD13; have HE13 := Lib.hid hE13
            obtain ⟨ka, kb, hk⟩ : ∃ ka kb, bC W (.bin nd9 x y) = (ka, kb) := ⟨_, _, rfl⟩
            have HK := Lib.hid hk
            have HP := Lib.hid hp; have HR := Lib.hid hr
            clear hB13 hC13 hD13 hE13 hG13 HG13 H13 H7 HO7 HG8 HB12 HC12 HD12 HE12 hk hp hr
            go_wp2_with fail
            refine (best_good HOF.out (DA.out.ei DO.out (by omega)) A13 (1 + a.length + o.length) c13 (by simp; omega) W rfl hW w13 N13.out).mono ?_
            rintro e w14 ⟨A14, c14, rfl, hn14, hc14, hB14⟩
            rw [HK.out]
            have hC14 := blk_below HC13.out hB14
            have hD14 := blk_below HD13.out hB14
            have hE14 := blk_below HE13.out hB14
            have hB14' := HB13.out.trans (hB14.mono HB13.out.size)
            clear hn14 hc14 hB14 HB13 HC13 HD13 HE13 N13
            have m0 := blk_cell (j := 0) hC14; have m1 := blk_cell (j := 1) hC14
            have d0 := blk_cell (j := 0) hD14; have d1 := blk_cell (j := 1) hD14; have d2 := blk_free (j := 0) hD14; have d3 := blk_free (j := 1) hD14
            simp at m0 m1 d0 d1
            have hg3 : g2 < w14.heap.size := lt_of_heap hE14
            have hB15 : Below w.heap.size w ((w14.setCell ⟨g1, 0, none⟩ (.int .i64 (ka : Nat))).setCell ⟨g1, 1, none⟩ (.int .i64 (kb : Nat))) := (hB14'.setCell (p := ⟨g1, 0, none⟩) (by simp; omega) _).setCell (p := ⟨g1, 1, none⟩) (by simp; omega) _
            have hC15 := blk_set (blk_set hC14 ⟨g1, 0, none⟩ (.int .i64 (ka : Nat)) (by simp; omega)) ⟨g1, 1, none⟩ (.int .i64 (kb : Nat)) (by simp; omega)
            have hE15 := blk_set (blk_set hE14 ⟨g1, 0, none⟩ (.int .i64 (ka : Nat)) (by simp; omega)) ⟨g1, 1, none⟩ (.int .i64 (kb : Nat)) (by simp; omega)
            have hD15 := blk_set2W (p := .int .i64 (ka : Nat)) (q := .int .i64 (kb : Nat)) hD14
            have HB15 := Lib.hid hB15; have HC15 := Lib.hid hC15; have HD15 := Lib.hid hD15; have HE15 := Lib.hid hE15
            clear hB15 hC15 hD15 hE15 hB14' hC14 hD14 hE14
            go_upto_region 23 with fail
            refine wp_named (fun w15 => Below w.heap.size w w15 ∧ w15.heap[g0]? = some (.cells #[.int .i64 (pa : Nat), .int .i64 (pb : Nat)] 25 (0, 0)) ∧ w15.heap[g1]? = some (.cells #[.int .i64 (ka : Nat), .int .i64 (kb : Nat)] 25 (0, 0)) ∧ w15.heap[g2]? = some (.cells #[.int .i64 (ra : Nat), .int .i64 (rb : Nat)] 25 (0, 0)))
              ⟨HB15.out, HC15.out, HD15.out, HE15.out⟩ ?_
            clear HB15 HC15 HD15 HE15 hg3 m0 m1 d0 d1 d2 d3
            rintro w15 ⟨hB15, hC15, hD15, hE15⟩
            have m0 := blk_cell (j := 0) hC15; have m1 := blk_cell (j := 1) hC15
            simp at m0 m1
            have hg3 : g2 < w15.heap.size := lt_of_heap hE15
            go_upto_region 24 with fail
            refine wp_named (fun w16 => Below w.heap.size w w16 ∧ w16.heap[g0]? = some (.cells #[.int .i64 (pa : Nat), .int .i64 (pb : Nat)] 25 (0, 0)) ∧ w16.heap[g1]? = some (.cells #[.int .i64 (ka : Nat), .int .i64 (kb : Nat)] 25 (0, 0)) ∧ w16.heap[g2]? = some (.cells #[.int .i64 (ra : Nat), .int .i64 (rb : Nat)] 25 (0, 0)) ∧ w16.heap[w15.heap.size]? = some (.cells #[.int .i64 (pa : Nat), .int .i64 (pb : Nat)] 25 (0, 0)))
              ⟨hB15.alloc hB15.size _, (Below.heap_alloc _ _ _ (lt_of_heap hC15)).trans hC15, (Below.heap_alloc _ _ _ (lt_of_heap hD15)).trans hD15, (Below.heap_alloc _ _ _ (lt_of_heap hE15)).trans hE15, heap_new rfl⟩ ?_
            rintro w16 ⟨hB16, hC16, hD16, hE16, hF16⟩
            clear m0 m1 hC15 hD15 hE15
            have hg16 : w.heap.size ≤ w15.heap.size := hB15.size
            generalize w15.heap.size = g3 at *
            have m0 := blk_cell (j := 0) hC16; have m1 := blk_cell (j := 1) hC16
            have e0 := blk_cell (j := 0) hE16; have e1 := blk_cell (j := 1) hE16
            simp at m0 m1 e0 e1
            have HB16 := Lib.hid hB16; have HC16 := Lib.hid hC16; have HD16 := Lib.hid hD16; have HE16 := Lib.hid hE16; have HF16 := Lib.hid hF16
            clear hB15 hB16 hC16 hD16 hE16 hF16
            cases hv : cLess (ra, rb) (pa, pb) with
            | true =>
              have hkk : ka = ra ∧ kb = rb := by
                have h := best_either W x y
                rw [HK.out, HP.out, HR.out, hv, if_pos rfl] at h
                exact Prod.mk.inj h
              obtain ⟨rfl, rfl⟩ := hkk
              have HV := Lib.hid hv
              clear hv
              go_upto_if 130 with (go_at_call 7; refine (refless_any (ka, kb) (pa, pb) HV.out _).mono ?_; rintro e w17 ⟨rfl, hB17⟩; have hC17 := blk_below HD16.out hB17; have hE17 := blk_below HE16.out hB17; have hF17 := blk_below HF16.out hB17; have n0 := blk_cell (j := 0) hE17; have n1 := blk_cell (j := 1) hE17; have f0 := blk_cell (j := 0) hF17; have f1 := blk_cell (j := 1) hF17; have f2 := blk_free (j := 0) hF17; have f3 := blk_free (j := 1) hF17; simp at n0 n1 f0 f1; have HB17 := Lib.hid (HB16.out.trans (hB17.mono HB16.out.size)); have HC17 := Lib.hid hC17; have HF17 := Lib.hid hF17; clear hC17 hE17 hF17 hB17)
              go_upto_region 26 with fail
              refine wp_named (fun w18 => Below w.heap.size w w18 ∧ w18.heap[g1]? = some (.cells #[.int .i64 (ka : Nat), .int .i64 (kb : Nat)] 25 (0, 0)) ∧ w18.heap[g3]? = some (.cells #[.int .i64 (ka : Nat), .int .i64 (kb : Nat)] 25 (0, 0)))
                ⟨(HB17.out.setCell (p := ⟨g3, 0, none⟩) hg16 _).setCell (p := ⟨g3, 1, none⟩) hg16 _, blk_set (blk_set HC17.out ⟨g3, 0, none⟩ _ (by simp; omega)) ⟨g3, 1, none⟩ _ (by simp; omega), blk_set2W HF17.out⟩ ?_
              rintro w18 ⟨hB18, hD18, hF18⟩
              have k0 := blk_cell (j := 0) hD18; have k1 := blk_cell (j := 1) hD18; have l0 := blk_cell (j := 0) hF18; have l1 := blk_cell (j := 1) hF18
              simp at k0 k1 l0 l1
              clear hD18 hF18
              go_wp2_with fail
              go_ret
              exact ⟨rfl, hB18⟩
            | false =>
              have hkk : ka = pa ∧ kb = pb := by
                have h := best_either W x y
                rw [HK.out, HP.out, HR.out, hv, if_neg (by simp)] at h
                exact Prod.mk.inj h
              obtain ⟨rfl, rfl⟩ := hkk
              have HV := Lib.hid hv
              clear hv
              go_upto_if 130 with (go_at_call 7; refine (refless_any (ra, rb) (ka, kb) HV.out _).mono ?_; rintro e w17 ⟨rfl, hB17⟩; have hC17 := blk_below HD16.out hB17; have hF17 := blk_below HF16.out hB17; have k0 := blk_cell (j := 0) hC17; have k1 := blk_cell (j := 1) hC17; have l0 := blk_cell (j := 0) hF17; have l1 := blk_cell (j := 1) hF17; simp at k0 k1 l0 l1; have HB17 := Lib.hid (HB16.out.trans (hB17.mono HB16.out.size)); clear hC17 hF17 hB17)
              go_wp2_with fail
              go_ret
              exact ⟨rfl, HB17.out⟩
          · have EO := Lib.hid eo
            clear eo
            go_wp2_with fail
            refine (best_bad EO.out _ _ _ rfl _ _ (HO.out.past HB10.out)).mono ?_
            rintro e w11 ⟨rfl, hB11⟩
            have hB11' : Below w.heap.size w w11 := HB10.out.trans (hB11.mono HB10.out.size)
            have hs11 := hB11'.size
            go_wp2_with fail
            go_ret
            exact ⟨rfl, (by repeat (first | exact Below.refl _ _ | assumption | apply Below.drew | refine below_drewN ?_ _ | apply Below.setCell _ (by first | omega | (simp; done) | (simp; omega)) | apply Below.alloc _ (by first | omega | (simp; done) | (simp; omega))))⟩
    · have EA := Lib.hid ea
      clear ea da
      go_wp2_with fail
      refine (best_wide EA.out _ _ _ rfl (by omega) _ (HA.out.past (hB1'.alloc hB1'.size _))).mono ?_
      rintro e w2 ⟨rfl, hB2⟩
      have hB2' : Below w.heap.size w w2 := (hB1'.alloc hB1'.size _).trans (hB2.mono (by have := hB1'.size; simp; omega))
      have hs2 := hB2'.size
      go_wp2_with fail
      go_ret
      exact ⟨rfl, (by repeat (first | exact Below.refl _ _ | assumption | apply Below.drew | refine below_drewN ?_ _ | apply Below.setCell _ (by first | omega | (simp; done) | (simp; omega)) | apply Below.alloc _ (by first | omega | (simp; done) | (simp; omega))))⟩
  · have EA := Lib.hid ea; clear ea
    go_wp2_with fail
    refine (best_bad EA.out _ _ _ rfl _ _ (HA.out.past (hB1'.alloc hB1'.size _))).mono ?_
    rintro e w2 ⟨rfl, hB2⟩
    have hB2' : Below w.heap.size w w2 := (hB1'.alloc hB1'.size _).trans (hB2.mono (by have := hB1'.size; simp; omega))
    have hs2 := hB2'.size
    go_wp2_with fail
    go_ret
    exact ⟨rfl, (by repeat (first | exact Below.refl _ _ | assumption | apply Below.drew | refine below_drewN ?_ _ | apply Below.setCell _ (by first | omega | (simp; done) | (simp; omega)) | apply Below.alloc _ (by first | omega | (simp; done) | (simp; omega))))⟩
end Go.Proofs.Ytddfdmopaeghnab
