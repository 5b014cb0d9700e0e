/- Walk of the law BestParts: it returns true (over way.Of's contract). Conditions: both slices of nodes lie below the call's own blocks; the second one is not too long for any machine. -/
import Derived.Test.YtddfdmopaeghnabBestE
import Derived.Test.YtddfdmopaeghnabIntsW
import Derived.Test.YtddfdmopaeghnabShowQ
import Derived.Test.YtddfdmopaeghnabTogW
namespace Go.Proofs.Ytddfdmopaeghnab
open Go.RowKit Go.Maps Go.ChangeMaps

theorem factP : bC 3 (.leaf ndL) = (0, 1) := by decide +kernel
theorem int_info3 : (Try.prog.info? 3).map (fun i => (i.zero, i.size, i.bytes)) = some (some (.int .i64 0), 1, 8) := by kernel_rfl

/-- What Best answers of whatever. -/
def BestSome (w : World) (e : Ending) (w' : World) : Prop := ∃ (s : ByteArray) (A' : Option Addr) (m c' p q : Nat) (er : Value), e = .returned (.tuple #[.string s, .slice A' m c', .agg #[.int .i64 (p : Nat), .int .i64 (q : Nat)], er]) ∧ Below w.heap.size w w'
theorem best_some (hof : OfFromSaid) (l : List Nd) (A : Option Addr) (n c : Nat) (hn : l.length = n) (width : Int) (w : World) (hl : Nds w w.heap.size A l) :
    Calls Try.prog 6 #[.slice A n c, .int .i64 width] w (BestSome w) := by
  by_cases he : checkF l = 0
  · by_cases hw : 0 ≤ width ∧ width ≤ 100
    · obtain ⟨x, hd⟩ := Doc.of_check he
      obtain ⟨W, rfl⟩ : ∃ W : Nat, width = W := ⟨width.toNat, by omega⟩
      exact (best_good hof hd A n c hn W rfl (by omega) w hl).mono fun e w' ⟨A', c', h1, _, _, h2⟩ => ⟨_, _, _, _, _, _, _, h1, h2⟩
    · exact (best_wide he A n c hn (by omega) w hl).mono fun e w' ⟨h1, h2⟩ => ⟨_, _, _, _, 0, 0, _, h1, h2⟩
  · exact (best_bad he A n c hn width w hl).mono fun e w' ⟨h1, h2⟩ => ⟨_, _, _, _, 0, 0, _, h1, h2⟩

theorem Doc.cost_le {l : List Nd} {x : D} (hd : Doc l x) (W : Nat) : (bC W x).1 ≤ 1320000 ∧ (bC W x).2 ≤ 1320000 := by
  have h := bestC_le W [(x, 0)] 0 (hd.text_le _ 0 _ (Nat.le_refl _) hd.rep0)
  have h2 := hd.szx
  have h3 := hd.len
  simp only [szK] at h
  unfold bC
  omega

set_option maxRecDepth 100000 in
set_option maxHeartbeats 16000000 in
theorem bestParts_any (hof : OfFromSaid) (a o : List Nd) (width : Int) (A B : Option Addr) (c d : Nat) (w : World) (ha : Nds w w.heap.size A a) (ho : Nds w w.heap.size B o) (ho62 : o.length ≤ 4611686018427387904) :
    Calls Try.prog 4 #[.slice A a.length c, .slice B o.length d, .int .i64 width] w (Ret w (.bool true)) := by
  have h1 : ndL.text.size ≤ maxLen := by decide +kernel
  have L1 := Lib.hid (Nds.lit1 w ndL w.heap.size rfl h1)
  clear h1
  have HOF := Lib.hid hof
  have HA := Lib.hid ha; have HO := Lib.hid ho
  have hla := HA.out.2.1
  have hlo := HO.out.2.1
  unfold maxLen at hla hlo
  obtain ⟨iI, hiI, hzI, hzI1, hzI2⟩ := info_parts int_info3
  clear ha ho hof
  go_enter Try.func4, Try.ntmps4
  go_wp2_with fail
  refine (best_good HOF.out Doc.leafL _ 1 _ rfl 3 rfl (by omega) _ L1.out).mono ?_
  rintro e w1 ⟨A1, c1, rfl, hn1, hc1, hB1⟩
  rw [factP]
  have hB1' : Below w.heap.size w w1 := ((Below.refl _ _).alloc (Nat.le_refl _) _).trans (hB1.mono (by simp))
  have L2 := Lib.hid (L1.out.past hB1)
  clear hB1 L1 hn1 hc1
  go_upto_region 5 with fail
  refine wp_named (fun wx => Below w.heap.size w wx ∧ Nds wx wx.heap.size (some ⟨w.heap.size, 0, none⟩) [ndL]) ⟨hB1'.alloc hB1'.size _, L2.out.past ((Below.refl _ _).alloc (Nat.le_refl _) _)⟩ ?_
  rintro w2 ⟨hB2, hL2⟩
  have HB2 := Lib.hid hB2; have HL2 := Lib.hid hL2
  clear hB1' L2 hB2 hL2
  have hcase : (checkF a ≠ 0 ∨ ¬ (0 ≤ width ∧ width ≤ 100)) ∨ (checkF a = 0 ∧ 0 ≤ width ∧ width ≤ 100) := by omega
  rcases hcase with hbad | ⟨ea, hwd⟩
  · have hb : ∃ q : Int, ∀ w', Nds w' w'.heap.size A a → Calls Try.prog 6 #[.slice A a.length c, .int .i64 width] w' (Ret w' (.tuple #[.string .empty, .slice none 0 0, .agg #[.int .i64 0, .int .i64 0], .iface 36 (.int .i64 q)])) := by
      by_cases he : checkF a = 0
      · exact ⟨1, fun w' h => best_wide he A _ c rfl (by omega) w' h⟩
      · exact ⟨checkF a, fun w' h => best_bad he A _ c rfl width w' h⟩
    obtain ⟨q, hb⟩ := hb
    have HBD := Lib.hid hb
    clear hbad hb
    go_wp2_with fail
    refine (HBD.out _ (HA.out.past HB2.out)).mono ?_
    rintro e w3 ⟨rfl, hB3⟩
    have hB3' := HB2.out.trans (hB3.mono HB2.out.size)
    clear hB3
    go_wp2_with fail
    refine (best_some HOF.out o B o.length d rfl width _ (HO.out.past (hB3'.alloc hB3'.size _))).mono ?_
    rintro e w4 ⟨s4, A4, m4, c4, p4, q4, er, rfl, hB4⟩
    have hB4' : Below w.heap.size w w4 := (hB3'.alloc hB3'.size _).trans (hB4.mono (by have := hB3'.size; simp; omega))
    have hs4 := hB4'.size
    clear hB4
    go_wp2_with fail
    go_ret
    exact ⟨rfl, (by repeat (first | exact Below.refl _ _ | assumption | apply Below.drew | refine below_drewN ?_ _ | apply Below.setCell _ (by first | omega | (simp; done) | (simp; omega)) | apply Below.alloc _ (by first | omega | (simp; done) | (simp; omega))))⟩
  · obtain ⟨x, da⟩ := Doc.of_check ea
    obtain ⟨W, rfl⟩ : ∃ W : Nat, width = W := ⟨width.toNat, by omega⟩
    have hW : W ≤ 100 := by omega
    have DA := Lib.hid da
    have h4a := da.len
    have hcx := da.cost_le W
    have hux := (da.best_shown W).few
    clear ea da hwd
    go_wp2_with fail
    refine (best_good HOF.out DA.out _ _ _ rfl W rfl hW _ (HA.out.past HB2.out)).mono ?_
    rintro e w3 ⟨A3, c3, rfl, hn3, hc3, hB3⟩
    have hB3' : Below w.heap.size w w3 := HB2.out.trans (hB3.mono HB2.out.size)
    have HL3 := Lib.hid (HL2.out.past hB3)
    have HN3 := Lib.hid hn3
    generalize hp : bC W x = p at *
    obtain ⟨pa, pb⟩ := p
    simp only at hcx ⊢
    clear hn3 hB3 HL2 HB2
    go_upto_region 6 with fail
    refine wp_named (fun wx => Below w.heap.size w wx ∧ Nds wx wx.heap.size (some ⟨w.heap.size, 0, none⟩) [ndL] ∧ NumsI wx wx.heap.size A3 (bU W x) ∧ wx.heap[w3.heap.size]? = some (.cells #[.int .i64 (pa : Nat), .int .i64 (pb : Nat)] 25 (0, 0)))
      ⟨hB3'.alloc hB3'.size _, HL3.out.past ((Below.refl _ _).alloc (Nat.le_refl _) _), HN3.out.past ((Below.refl _ _).alloc (Nat.le_refl _) _), heap_new rfl⟩ ?_
    rintro w4 ⟨hB4, hL4, hN4, hP4⟩
    have hg0 : w.heap.size ≤ w3.heap.size := hB3'.size
    generalize w3.heap.size = g0 at *
    have HB4 := Lib.hid hB4; have HL4 := Lib.hid hL4; have HN4 := Lib.hid hN4; have HP4 := Lib.hid hP4; have HP := Lib.hid hp
    clear hB3' HL3 HN3 hB4 hL4 hN4 hP4 hp
    by_cases eo : checkF o = 0
    · obtain ⟨y, do_⟩ := Doc.of_check eo
      have DO := Lib.hid do_
      have h4o := do_.len
      have hcy := do_.cost_le W
      have huy := (do_.best_shown W).few
      clear eo do_
      go_wp2_with fail
      refine (best_good HOF.out DO.out _ _ _ rfl W rfl hW _ (HO.out.past HB4.out)).mono ?_
      rintro e w5 ⟨A5, c5, rfl, hn5, hc5, hB5⟩
      have hB5' := HB4.out.trans (hB5.mono HB4.out.size)
      have HL5 := Lib.hid (HL4.out.past hB5)
      have HX5 := Lib.hid (HN4.out.past hB5)
      have HY5 := Lib.hid hn5
      have hP5 := blk_below HP4.out hB5
      have hs5 := hB5'.size
      generalize hr : bC W y = r at *
      obtain ⟨ra, rb⟩ := r
      simp only at hcy ⊢
      clear hn5 hB5 HB4 HL4 HN4 HP4
      by_cases hlen : 400 < a.length + o.length + 3
      · go_wp2_with fail
        go_ret
        exact ⟨rfl, (by repeat (first | exact Below.refl _ _ | assumption | apply Below.drew | refine below_drewN ?_ _ | apply Below.setCell _ (by first | omega | (simp; done) | (simp; omega)) | apply Below.alloc _ (by first | omega | (simp; done) | (simp; omega))))⟩
      · go_upto_region 9 with fail
        refine wp_named (fun wx => Below w.heap.size w wx ∧ Nds wx wx.heap.size (some ⟨w.heap.size, 0, none⟩) [ndL] ∧ NumsI wx wx.heap.size A3 (bU W x) ∧ NumsI wx wx.heap.size A5 (bU W y) ∧ wx.heap[g0]? = some (.cells #[.int .i64 (pa : Nat), .int .i64 (pb : Nat)] 25 (0, 0)) ∧ wx.heap[w5.heap.size]? = some (.cells #[.int .i64 (ra : Nat), .int .i64 (rb : Nat)] 25 (0, 0)))
          ⟨hB5'.alloc hB5'.size _, HL5.out.past ((Below.refl _ _).alloc (Nat.le_refl _) _), HX5.out.past ((Below.refl _ _).alloc (Nat.le_refl _) _), HY5.out.past ((Below.refl _ _).alloc (Nat.le_refl _) _), (Below.heap_alloc _ _ _ (lt_of_heap hP5)).trans hP5, heap_new rfl⟩ ?_
        rintro w6 ⟨hB6, hL6, hX6, hY6, hP6, hR6⟩
        have hg1 : g0 < w5.heap.size := lt_of_heap hP5
        generalize w5.heap.size = g1 at *
        have HB6 := Lib.hid hB6; have HL6 := Lib.hid hL6; have HX6 := Lib.hid hX6; have HY6 := Lib.hid hY6; have HP6 := Lib.hid hP6; have HR6 := Lib.hid hR6
        clear hB5' HL5 HX5 HY5 hP5 hB6 hL6 hX6 hY6 hP6 hR6
        obtain ⟨sa, sb, hk⟩ : ∃ sa sb, bC W (.bin nd6 x (.bin nd6 (.leaf ndL) y)) = (sa, sb) := ⟨_, _, rfl⟩
        have hbp := best_parts W x y (p := nd6) (c := ndL) (q := nd6) rfl rfl rfl rfl rfl
        have HU : Hid (bU W (.bin nd6 x (.bin nd6 (.leaf ndL) y)) = bU W x ++ bU W y) := Lib.hid hbp.1
        have hs := hbp.2
        rw [hk, HP.out, hr] at hs
        obtain ⟨hsa, hsb⟩ := Prod.mk.inj hs
        simp only at hsa hsb
        have HK := Lib.hid hk
        have HSA := Lib.hid hsa; have HSB := Lib.hid hsb
        clear hbp hs hk hr hsa hsb
        go_wp2_with fail
        refine (together_any [ndL] o 1 o.length rfl rfl (by omega) (by omega) _ _ _ _ _ HL6.out (HO.out.past HB6.out)).mono ?_
        rintro e w7 ⟨A7, c7, rfl, n7, hB7⟩
        have hB7' := HB6.out.trans (hB7.mono HB6.out.size)
        have N7 := Lib.hid n7
        clear n7
        go_wp2_with fail
        refine (together_any a (nd6 :: ([ndL] ++ o)) a.length (1 + 1 + o.length) rfl (by simp; omega) (by omega) (by omega) _ _ _ _ _ (HA.out.past hB7') N7.out).mono ?_
        rintro e w8 ⟨A8, c8, rfl, n8, hB8⟩
        have hb68 := hB7.trans (hB8.mono hB7.size)
        have N8 := Lib.hid n8
        clear n8 hB7' hB7 hB8 N7
        go_wp2_with fail
        refine (best_good HOF.out (DA.out.tog (Doc.leafL.tog DO.out (by simp; omega)) (by simp; omega)) A8 (1 + a.length + (1 + 1 + o.length)) c8 (by simp; omega) W rfl hW w8 N8.out).mono ?_
        rintro e w9 ⟨A9, c9, rfl, hn9, hc9, hB9⟩
        rw [HK.out, HU.out]
        rw [HU.out] at hn9 hc9
        have hb69 := hb68.trans (hB9.mono hb68.size)
        have hB9' := HB6.out.trans (hb69.mono HB6.out.size)
        have HX9 := Lib.hid (HX6.out.past hb69); have HY9 := Lib.hid (HY6.out.past hb69)
        have hP9 := blk_below HP6.out hb69; have hR9 := blk_below HR6.out hb69
        have HZ9 := Lib.hid hn9
        clear hn9 hb68 hb69 hB9 HB6 HL6 HX6 HY6 HP6 HR6 N8
        go_upto_region 10 with fail
        refine wp_named (fun wx => Below w.heap.size w wx ∧ NumsI wx wx.heap.size A3 (bU W x) ∧ NumsI wx wx.heap.size A5 (bU W y) ∧ NumsI wx wx.heap.size A9 (bU W x ++ bU W y) ∧ wx.heap[g0]? = some (.cells #[.int .i64 (pa : Nat), .int .i64 (pb : Nat)] 25 (0, 0)) ∧ wx.heap[g1]? = some (.cells #[.int .i64 (ra : Nat), .int .i64 (rb : Nat)] 25 (0, 0)) ∧ wx.heap[w9.heap.size]? = some (.cells #[.int .i64 (sa : Nat), .int .i64 (sb : Nat)] 25 (0, 0)))
          ⟨hB9'.alloc hB9'.size _, HX9.out.past ((Below.refl _ _).alloc (Nat.le_refl _) _), HY9.out.past ((Below.refl _ _).alloc (Nat.le_refl _) _), HZ9.out.past ((Below.refl _ _).alloc (Nat.le_refl _) _), (Below.heap_alloc _ _ _ (lt_of_heap hP9)).trans hP9, (Below.heap_alloc _ _ _ (lt_of_heap hR9)).trans hR9, heap_new rfl⟩ ?_
        rintro w10 ⟨hB10, hX10, hY10, hZ10, hP10, hR10, hS10⟩
        generalize w9.heap.size = g2 at *
        have HB10 := Lib.hid hB10; have HX10 := Lib.hid hX10; have HY10 := Lib.hid hY10; have HZ10 := Lib.hid hZ10; have HP10 := Lib.hid hP10; have HR10 := Lib.hid hR10; have HS10 := Lib.hid hS10
        clear hB9' HX9 HY9 HZ9 hP9 hR9 hB10 hX10 hY10 hZ10 hP10 hR10 hS10
        generalize bU W x = ux at *
        generalize bU W y = uy at *
        have H0 := Lib.hid (World.ownsRow_nil w10 w10.heap.size 3 1)
        have HSX := Lib.hid HX10.out.1
        have HB0 := Lib.hid (Below.refl w10.heap.size w10)
        go_upto_region 12 with (at_builtin; refine wpList_app _ rfl (.tmp 90) (.tmp 91) _ rfl w10.heap.size 3 iI _ 1 8 Try.underlying23 hiI hzI hzI1 hzI2 rfl (by omega) _ 0 _ rfl H0.out _ A3 ux.length c3 _ rfl HSX.out (int_one ux) (by simp only [maxLen]; omega) (by omega) (Nat.le_refl _) ?_; intro v1 w11 hown1 hg1 hat1; clear hat1; have H1 := Lib.hid hown1; have HG1 := Lib.hid hg1; clear hown1 hg1)
        have hG1 : Below w10.heap.size w10 w11 := below_app HB0.out H0.out HG1.out (Nat.le_refl _) (Nat.le_refl _)
        have HG1' := Lib.hid hG1
        have HSY := Lib.hid (HY10.out.past hG1).1
        have hs11 := hG1.size
        clear H0 HSX HG1 hG1 HB0
        go_upto_region 13 with (at_builtin; refine wpList_app _ rfl (.tmp 93) (.tmp 94) _ rfl w10.heap.size 3 iI _ 1 8 Try.underlying23 hiI hzI hzI1 hzI2 rfl (by omega) v1 (0 + ux.length) _ rfl H1.out _ A5 uy.length c5 _ rfl HSY.out (int_one uy) (by simp only [maxLen]; omega) (by omega) hs11 ?_; intro v2 w12 hown2 hg2 hat2; clear hat2; obtain ⟨A12, c12, hv2⟩ := own_slice hown2; subst hv2; have H2 := Lib.hid (NumsI.own (l := ux ++ uy) (by simpa using hown2) (by simp) (by simp [maxLen]; omega)); have hb12 := below_app HG1'.out H1.out hg2 hs11 (Nat.le_refl _); have HB12 := Lib.hid hb12; clear hown2 hg2 hb12)
        have hB12' := HB10.out.trans (HB12.out.mono HB10.out.size)
        have HZ12 := Lib.hid (HZ10.out.past HB12.out)
        have hP12 := blk_below HP10.out HB12.out; have hR12 := blk_below HR10.out HB12.out; have hS12 := blk_below HS10.out HB12.out
        clear H1 HSY HG1' HB10 HX10 HY10 HZ10 HP10 HR10 HS10 HB12
        go_wp2_with fail
        refine (ints_any (ux ++ uy) (ux ++ uy) _ _ (by simp) (by simp) A9 A12 c9 c12 w12 HZ12.out H2.out).mono ?_
        rintro e w13 ⟨rfl, hB13⟩
        rw [decide_eq_true rfl]
        have hB13' := hB12'.trans (hB13.mono hB12'.size)
        have hP13 := blk_below hP12 hB13; have hR13 := blk_below hR12 hB13; have hS13 := blk_below hS12 hB13
        have p0 := blk_cell (j := 0) hP13; have p1 := blk_cell (j := 1) hP13; have r0 := blk_cell (j := 0) hR13; have r1 := blk_cell (j := 1) hR13; have s0 := blk_cell (j := 0) hS13; have s1 := blk_cell (j := 1) hS13
        simp at p0 p1 r0 r1 s0 s1
        have k1 : ((sa : Int) == (pa : Int) + (ra : Int)) = true := by have := HSA.out; rw [beq_iff_eq]; omega
        have k2 : ((sb : Int) == (pb : Int) + (rb : Int) + 1) = true := by have := HSB.out; rw [beq_iff_eq]; omega
        clear hP12 hR12 hS12 hP13 hR13 hS13 hB13 hB12' HZ12 H2
        go_wp2_with fail
        go_ret
        exact ⟨rfl, hB13'⟩
    · have EO := Lib.hid eo
      clear eo
      go_wp2_with fail
      refine (best_bad EO.out _ _ _ rfl _ _ (HO.out.past HB4.out)).mono ?_
      rintro e w5 ⟨rfl, hB5⟩
      have hB5' : Below w.heap.size w w5 := HB4.out.trans (hB5.mono HB4.out.size)
      have hs5 := hB5'.size
      go_wp2_with fail
      go_ret
      exact ⟨rfl, (by repeat (first | exact Below.refl _ _ | assumption | apply Below.drew | refine below_drewN ?_ _ | apply Below.setCell _ (by first | omega | (simp; done) | (simp; omega)) | apply Below.alloc _ (by first | omega | (simp; done) | (simp; omega))))⟩
end Go.Proofs.Ytddfdmopaeghnab
