/- Walk: the cheapest course at a choice. Conditions: the plan and the doc lie below the search; the width is at most 100. -/
import Derived.Test.YtddfdmopaeghnacGreatDoorBestB
namespace Go.Proofs.YtddfdmopaeghnacGreatDoor
open Go.RowKit Go.Maps Go.ChangeMaps

def set2 (w : World) (b : Nat) (p q : Value) : World := (w.setCell ⟨b, 0, none⟩ p).setCell ⟨b, 1, none⟩ q
theorem CS.set2_ {w0 w : World} {gs gp bm W b : Nat} {l : List Nd} (h : CS w0 gs gp bm W l w) (h1 : b ≠ gs) (h2 : b ≠ bm) (h3 : w0.heap.size ≤ b) (p q : Value) : CS w0 gs gp bm W l (set2 w b p q) :=
  (h.set (p := ⟨b, 0, none⟩) h1 h2 h3 p).set (p := ⟨b, 1, none⟩) h1 h2 h3 q
theorem gb_set2 {a w : World} {m b : Nat} (h : a.grownBy w (some m)) (hb : a.heap.size ≤ b) (p q : Value) : a.grownBy (set2 w b p q) (some m) :=
  gb_set (gb_set h (p := ⟨b, 0, none⟩) hb p) (p := ⟨b, 1, none⟩) hb q
theorem blk_far2 {w : World} {g b : Nat} {o : Obj} (h : w.heap[g]? = some o) (hne : g ≠ b) (p q : Value) : (set2 w b p q).heap[g]? = some o :=
  blk_set (blk_set h ⟨b, 0, none⟩ p hne) ⟨b, 1, none⟩ q hne
theorem blk_set2 {w : World} {b : Nat} {x y p q : Value} {T : TypeId} {fr : Nat × Nat} (h : w.heap[b]? = some (.cells #[x, y] T fr)) : ((w.setCell ⟨b, 0, none⟩ p).setCell ⟨b, 1, none⟩ q).heap[b]? = some (.cells #[p, q] T fr) := by
  simp [World.setCell, Array.getElem?_modify, h]

set_option maxRecDepth 100000 in
set_option maxHeartbeats 16000000 in
theorem ask_no {l : List Nd} (h400 : l.length ≤ 400) {gp : Nat} {A : Option Addr} {c : Nat} (w0 : World) (hpl : IsPlan w0 gp A c l) (hnl : Nds w0 w0.heap.size A l) {gs bm W : Nat} {i col : Nat} {w : World} (hcs : CS w0 gs gp bm W l w) (hcol : col ≤ 2000000)
    {f : Value → Option Value} (hmf : MapF Tryz.prog 181 f bm w) (hv : f (spotV i col) = none) (hlt : i < l.length) {t0 t1 : ByteArray} {i0 i1 ea1 eb1 col1 da1 db1 pa1 pb1 : Nat} {ch1 : Int}
    (hpc : ∀ w, IsPlan w gp A c l → Nds w w.heap.size A l → Calls Tryz.prog 51 #[.pointer (some ⟨gp, 0, none⟩), .int .i64 i] w (Ret w (.tuple #[.string t1, .int .i64 (i : Nat), .bool true])))
    (hch0 : ∀ w, IsPlan w gp A c l → Nds w w.heap.size A l → Calls Tryz.prog 52 #[.pointer (some ⟨gp, 0, none⟩), .int .i64 i, .int .i64 0] w (Ret w (.tuple #[.string t0, .int .i64 (i0 : Nat), .bool false])))
    (hch1 : ∀ w, IsPlan w gp A c l → Nds w w.heap.size A l → Calls Tryz.prog 52 #[.pointer (some ⟨gp, 0, none⟩), .int .i64 i, .int .i64 1] w (Ret w (.tuple #[.string t1, .int .i64 (i1 : Nat), .bool true])))
    (hput1 : ∀ W' : World, W'.heap[gs]? = some (.cells #[.pointer (some ⟨gp, 0, none⟩), .int .i64 (W : Nat), .map (some bm)] 176 (0, 0)) → Calls Tryz.prog 152 #[.pointer (some ⟨gs, 0, none⟩), .string t1, .int .i64 (col : Nat)] W' (Ret W' (.tuple #[.agg #[.int .i64 (ea1 : Nat), .int .i64 (eb1 : Nat)], .int .i64 (col1 : Nat)])))
    (hcp1 : ∀ W' : World, CS w0 gs gp bm W l W' → Calls Tryz.prog 97 #[.pointer (some ⟨gs, 0, none⟩), .agg #[.int .i64 (i1 : Nat), .int .i64 (col1 : Nat)]] W' (CheapTo w0 gs gp bm W l (.agg #[.int .i64 (da1 : Nat), .int .i64 (db1 : Nat), .int .i64 ch1]) W'))
    (hpl1 : ∀ W' : World, Calls Tryz.prog 153 #[.agg #[.int .i64 (ea1 : Nat), .int .i64 (eb1 : Nat)], .agg #[.int .i64 (da1 : Nat), .int .i64 (db1 : Nat)]] W' (Ret W' (.agg #[.int .i64 (pa1 : Nat), .int .i64 (pb1 : Nat)])))
    (hkn : ∀ f' : Value → Option Value, KnownC l W f' → KnownC l W (putF f' (.agg #[.int .i64 (i : Nat), .int .i64 (col : Nat)]) (.agg #[.int .i64 (pa1 : Nat), .int .i64 (pb1 : Nat), .int .i64 1]))) :
    Calls Tryz.prog 97 #[.pointer (some ⟨gs, 0, none⟩), spotV i col] w (CheapTo w0 gs gp bm W l (.agg #[.int .i64 (pa1 : Nat), .int .i64 (pb1 : Nat), .int .i64 1]) w) := by
  obtain ⟨kl, hkl⟩ := spot_key (i := i) (col := col) (by omega) (by omega)
  have HPC := Lib.hid hpc; have HCH0 := Lib.hid hch0; have HCH1 := Lib.hid hch1; have HPUT1 := Lib.hid hput1; have HCP1 := Lib.hid hcp1; have HPL1 := Lib.hid hpl1; have HKN := Lib.hid hkn
  clear hpc hch0 hch1 hput1 hcp1 hpl1 hkn
  have hml := hcs.mlt
  have hms := hcs.ms
  have hsl := lt_of_heap hcs.blk
  obtain ⟨gn, gd, ge, gf', gi, cf, ci, hpa⟩ := hpl.past hcs.bel
  have z0 := hpa.c0
  have hgp := hpa.lp
  have hne : ((i : Int) == (l.length : Int)) = false := by rw [beq_eq_false_iff_ne]; omega
  have y0 := blk_cell (j := 0) hcs.blk
  have y2 := blk_cell (j := 2) hcs.blk
  simp at y0 y2
  have hb1 : ∀ o1 o2, Below w.heap.size w ((w.alloc o1).alloc o2) := fun o1 o2 => ((Below.refl _ _).alloc (Nat.le_refl _) _).alloc (by simp) _
  have HW : ∀ (o2 : Obj) W', Below (((w.alloc (.cells #[.int .i64 (i : Nat), .int .i64 (col : Nat)] 181)).alloc o2).heap.size) ((w.alloc (.cells #[.int .i64 (i : Nat), .int .i64 (col : Nat)] 181)).alloc o2) W' → HeadIs gs gp bm A c l.length w.heap.size i col f W' := fun o2 W' hW' => by
    refine HeadIs.past (((hb1 _ _).cell (p := ⟨gs, 0, none⟩) hsl).trans y0) (((hb1 _ _).cell (p := ⟨gs, 2, none⟩) hsl).trans y2) (((hb1 _ _).cell (p := ⟨gp, 0, none⟩) hgp).trans z0) ?_ (hmf.below (hb1 _ _)) (by simp; omega) (by simp; omega) hkl hW'
    exact (Below.heap_alloc _ _ _ (by simp)).trans (heap_new rfl)
  unfold HeadIs at HW
  simp only [hv, Option.getD_none, Option.isSome_none] at HW
  unfold spotV
  have HBX : Hid (∀ W', Below (((w.alloc (.cells #[.int .i64 (i : Nat), .int .i64 (col : Nat)] 181)).alloc (.cells #[.int .i64 0, .int .i64 0, .int .i64 0] 178)).heap.size) ((w.alloc (.cells #[.int .i64 (i : Nat), .int .i64 (col : Nat)] 181)).alloc (.cells #[.int .i64 0, .int .i64 0, .int .i64 0] 178)) W' → W'.heap[w.heap.size]? = some (.cells #[.int .i64 (i : Nat), .int .i64 (col : Nat)] 181 (0, 0)) ∧ W'.heap[w.heap.size + 1]? = some (.cells #[.int .i64 0, .int .i64 0, .int .i64 0] 178 (0, 0))) :=
    Lib.hid (fun W' hb => ⟨blk_below ((Below.heap_alloc _ _ _ (by simp)).trans (heap_new rfl)) hb, blk_below (heap_new (by simp)) hb⟩)
  have HGS : Hid (∀ W', Below w.heap.size w W' → W'.heap[gs]? = some (.cells #[.pointer (some ⟨gp, 0, none⟩), .int .i64 (W : Nat), .map (some bm)] 176 (0, 0))) := Lib.hid (fun W' hb => blk_below hcs.blk hb)
  have HWW := Lib.hid HW
  have HCS := Lib.hid hcs; have HKL := Lib.hid hkl
  have HPN : Hid (∀ W', Below w0.heap.size w0 W' → IsPlan W' gp A c l ∧ Nds W' W'.heap.size A l) := Lib.hid (fun W' hb => ⟨hpl.past hb, hnl.past hb⟩)
  have HPN1 : Hid (∀ W', Below w.heap.size w W' → IsPlan W' gp A c l ∧ Nds W' W'.heap.size A l) := Lib.hid (fun W' hb => HPN.out W' (hcs.bel.trans (hb.mono hcs.bel.size)))
  clear HW hpa hkl hcs hmf hv hpl y0 y2 z0 hnl
  go_enter Tryz.func97, Tryz.ntmps97
  go_wp2
  obtain ⟨q0, q2, z0, x0, x1, hl⟩ := HWW.out (.cells #[.int .i64 0, .int .i64 0, .int .i64 0] 178) _ (Below.refl _ _)
  clear hl
  go_quiet (fail)
  go_upto_region 3 with fail
  have hlk : ∀ n : Nat, (Instr.lookup 174 (.map (some bm)) (.agg #[.int .i64 (i : Nat), .int .i64 (col : Nat)]) true).run Tryz.prog (((w.alloc (.cells #[.int .i64 (i : Nat), .int .i64 (col : Nat)] 181)).alloc (.cells #[.int .i64 0, .int .i64 0, .int .i64 0] 178)).drewN n) = .ok (.tuple #[.agg #[.int .i64 0, .int .i64 0, .int .i64 0], .bool false]) (((w.alloc (.cells #[.int .i64 (i : Nat), .int .i64 (col : Nat)] 181)).alloc (.cells #[.int .i64 0, .int .i64 0, .int .i64 0] 178)).drewN n) :=
    fun n => (HWW.out _ _ (below_drewN (Below.refl _ _) n)).2.2.2.2.2
  have hlk2 : ∀ n : Nat, (Instr.lookup 174 (.map (some bm)) (.agg #[.int .i64 (i : Nat), .int .i64 (col : Nat)]) true).run Tryz.prog ((((w.alloc (.cells #[.int .i64 (i : Nat), .int .i64 (col : Nat)] 181)).alloc (.cells #[.int .i64 0, .int .i64 0, .int .i64 0] 178)).drewN n).alloc (.cells #[.int .i64 0, .int .i64 0, .int .i64 0] 178)) = .ok (.tuple #[.agg #[.int .i64 0, .int .i64 0, .int .i64 0], .bool false]) ((((w.alloc (.cells #[.int .i64 (i : Nat), .int .i64 (col : Nat)] 181)).alloc (.cells #[.int .i64 0, .int .i64 0, .int .i64 0] 178)).drewN n).alloc (.cells #[.int .i64 0, .int .i64 0, .int .i64 0] 178)) :=
    fun n => (HWW.out (.cells #[.int .i64 0, .int .i64 0, .int .i64 0] 178) ((((w.alloc (.cells #[.int .i64 (i : Nat), .int .i64 (col : Nat)] 181)).alloc (.cells #[.int .i64 0, .int .i64 0, .int .i64 0] 178)).drewN n).alloc (.cells #[.int .i64 0, .int .i64 0, .int .i64 0] 178)) (by repeat (first | exact Below.refl _ _ | assumption | apply Below.drew | refine below_drewN ?_ _ | apply Below.setCell _ (by first | omega | (simp; done) | (simp; omega)) | apply Below.alloc _ (by first | omega | (simp; done) | (simp; omega))))).2.2.2.2.2
  go_cut [6] from 31 to 39 (fun s6 wx => s6 = .bool false ∧ Below w.heap.size w wx ∧ wx.heap[w.heap.size]? = some (.cells #[.int .i64 (i : Nat), .int .i64 (col : Nat)] 181 (0, 0)) ∧ wx.heap[w.heap.size + 1]? = some (.cells #[.int .i64 0, .int .i64 0, .int .i64 0] 178 (0, 0)))
  case first =>
    go_region_held3 (fun w' => w'.cell? ⟨gs, 2, none⟩ = some (.map (some bm)) ∧ w'.cell? ⟨w.heap.size, 0, none⟩ = some (.int .i64 (i : Nat)) ∧ w'.cell? ⟨w.heap.size, 1, none⟩ = some (.int .i64 (col : Nat)))
      (exact ⟨(HWW.out (.cells #[.int .i64 0, .int .i64 0, .int .i64 0] 178) _ (by repeat (first | exact Below.refl _ _ | assumption | apply Below.drew | refine below_drewN ?_ _ | apply Below.setCell _ (by first | omega | (simp; done) | (simp; omega)) | apply Below.alloc _ (by first | omega | (simp; done) | (simp; omega))))).2.1, (HWW.out (.cells #[.int .i64 0, .int .i64 0, .int .i64 0] 178) _ (by repeat (first | exact Below.refl _ _ | assumption | apply Below.drew | refine below_drewN ?_ _ | apply Below.setCell _ (by first | omega | (simp; done) | (simp; omega)) | apply Below.alloc _ (by first | omega | (simp; done) | (simp; omega))))).2.2.2.1, (HWW.out (.cells #[.int .i64 0, .int .i64 0, .int .i64 0] 178) _ (by repeat (first | exact Below.refl _ _ | assumption | apply Below.drew | refine below_drewN ?_ _ | apply Below.setCell _ (by first | omega | (simp; done) | (simp; omega)) | apply Below.alloc _ (by first | omega | (simp; done) | (simp; omega))))).2.2.2.2.1⟩) (fail)
    all_goals
      go_wp2_with fail
      go_meet
      case rel => exact ⟨rfl, (by repeat (first | exact Below.refl _ _ | assumption | apply Below.drew | refine below_drewN ?_ _ | apply Below.setCell _ (by first | omega | (simp; done) | (simp; omega)) | apply Below.alloc _ (by first | omega | (simp; done) | (simp; omega)))), (HBX.out _ (by repeat (first | exact Below.refl _ _ | assumption | apply Below.drew | refine below_drewN ?_ _ | apply Below.setCell _ (by first | omega | (simp; done) | (simp; omega)) | apply Below.alloc _ (by first | omega | (simp; done) | (simp; omega))))).1, (HBX.out _ (by repeat (first | exact Below.refl _ _ | assumption | apply Below.drew | refine below_drewN ?_ _ | apply Below.setCell _ (by first | omega | (simp; done) | (simp; omega)) | apply Below.alloc _ (by first | omega | (simp; done) | (simp; omega))))).2⟩
  case rest =>
    obtain ⟨rfl, hBx, hX, hR⟩ := hcut
    clear hlk hlk2 x0 x1 z0 q0 q2 HBX HWW
    go_wp2_with fail
    refine wp_named (fun w3 => Below w.heap.size w w3 ∧ w3.heap[w.heap.size]? = some (.cells #[.int .i64 (i : Nat), .int .i64 (col : Nat)] 181 (0, 0)) ∧ w3.heap[w.heap.size + 1]? = some (.cells #[.int .i64 0, .int .i64 0, .int .i64 0] 178 (0, 0)) ∧ w3.heap[wc.heap.size]? = some (.cells #[.int .i64 0, .int .i64 0, .int .i64 (-1)] 178 (0, 0)))
      ⟨hBx.alloc hBx.size _, (Below.heap_alloc _ _ _ (lt_of_heap hX)).trans hX, (Below.heap_alloc _ _ _ (lt_of_heap hR)).trans hR, heap_new rfl⟩ ?_
    rintro w3 ⟨hB3, hX3, hR3, h73⟩
    obtain ⟨b7, hb7⟩ : ∃ b7, wc.heap.size = b7 := ⟨_, rfl⟩
    rw [hb7] at h73 ⊢
    have hb7' : w.heap.size + 2 ≤ b7 := by rw [← hb7]; exact lt_of_heap hR
    clear hb7 hX hR hBx
    have e0 := blk_cell (j := 0) (HGS.out w3 hB3)
    have e1 := blk_cell (j := 0) hX3
    simp at e0 e1
    go_region_held3 (fun w' => w'.cell? ⟨gs, 0, none⟩ = some (.pointer (some ⟨gp, 0, none⟩)) ∧ w'.cell? ⟨w.heap.size, 0, none⟩ = some (.int .i64 (i : Nat)))
      (first | exact ⟨e0, e1⟩ | exact ⟨e0', e1'⟩)
      ((go_at_call 51; refine (HPC.out _ (HPN1.out _ (by repeat (first | exact Below.refl _ _ | assumption | apply Below.drew | refine below_drewN ?_ _ | apply Below.setCell _ (by first | omega | (simp; done) | (simp; omega)) | apply Below.alloc _ (by first | omega | (simp; done) | (simp; omega))))).1 (HPN1.out _ (by repeat (first | exact Below.refl _ _ | assumption | apply Below.drew | refine below_drewN ?_ _ | apply Below.setCell _ (by first | omega | (simp; done) | (simp; omega)) | apply Below.alloc _ (by first | omega | (simp; done) | (simp; omega))))).2).mono ?_; rintro e w4 ⟨rfl, hB4⟩; have e0' := (hB4.cell (p := ⟨gs, 0, none⟩) (lt_of_heap (HGS.out w3 hB3))).trans e0; have e1' := (hB4.cell (p := ⟨w.heap.size, 0, none⟩) (lt_of_heap hX3)).trans e1))
    have hB34 : Below w3.heap.size w3 w4 := by first | exact hB4 | exact past_drew hB4 | exact past_drewN hB4
    have HC4 := Lib.hid (HCS.out.past (hB3.trans (hB34.mono hB3.size)))
    have GB4 := Lib.hid (gb_of_below (hB3.trans (hB34.mono hB3.size)) bm)
    have HX4 := Lib.hid (blk_below hX3 hB34)
    have HR4 := Lib.hid (blk_below hR3 hB34)
    have H74 := Lib.hid (blk_below h73 hB34)
    clear hB4 hB34 hB3 hX3 hR3 h73 e0 e1 e0' e1'
    go_wp2_with fail
    go_loopw [13] (fun s13 wr => CS w0 gs gp bm W l wr ∧ w.grownBy wr (some bm) ∧ wr.heap[w.heap.size]? = some (.cells #[.int .i64 (i : Nat), .int .i64 (col : Nat)] 181 (0, 0)) ∧ wr.heap[w.heap.size + 1]? = some (.cells #[.int .i64 0, .int .i64 0, .int .i64 0] 178 (0, 0)) ∧ ((s13 = .int .i64 0 ∧ wr.heap[b7]? = some (.cells #[.int .i64 0, .int .i64 0, .int .i64 (-1)] 178 (0, 0))) ∨ (s13 = .int .i64 1 ∧ wr.heap[b7]? = some (.cells #[.int .i64 0, .int .i64 0, .int .i64 (-1)] 178 (0, 0))) ∨ (s13 = .int .i64 2 ∧ wr.heap[b7]? = some (.cells #[.int .i64 (pa1 : Nat), .int .i64 (pb1 : Nat), .int .i64 1] 178 (0, 0))))) (fun s13 _ => 2 - (intOf s13).toNat)
    case atStart => exact ⟨HC4.out, GB4.out, HX4.out, HR4.out, .inl ⟨rfl, H74.out⟩⟩
    case round =>
      obtain ⟨hcr, hgr, hxr, hrr, h7r⟩ := hrel
      have HC := Lib.hid hcr; have GB := Lib.hid hgr; have HX := Lib.hid hxr; have HR := Lib.hid hrr
      have HPW : Hid (∀ W', Below wr.heap.size wr W' → IsPlan W' gp A c l ∧ Nds W' W'.heap.size A l) := Lib.hid (fun W' hb => HPN.out W' (hcr.bel.trans (hb.mono hcr.bel.size)))
      clear hcr hgr hxr hrr HC4 GB4 HX4 HR4 H74
      rcases h7r with ⟨rfl, h7c⟩ | ⟨rfl, h7c⟩ | ⟨rfl, h7c⟩
      · have H7 := Lib.hid h7c
        clear h7c
        have e0 := blk_cell (j := 0) HC.out.blk
        have e1 := blk_cell (j := 0) HX.out
        simp at e0 e1
        go_wp2_with fail
        go_region_held3 (fun w' => w'.cell? ⟨gs, 0, none⟩ = some (.pointer (some ⟨gp, 0, none⟩)) ∧ w'.cell? ⟨w.heap.size, 0, none⟩ = some (.int .i64 (i : Nat)))
          (first | exact ⟨e0, e1⟩ | exact ⟨e0', e1'⟩)
          ((go_at_call 52; refine (HCH0.out _ (HPW.out _ (by repeat (first | exact Below.refl _ _ | assumption | apply Below.drew | refine below_drewN ?_ _ | apply Below.setCell _ (by first | omega | (simp; done) | (simp; omega)) | apply Below.alloc _ (by first | omega | (simp; done) | (simp; omega))))).1 (HPW.out _ (by repeat (first | exact Below.refl _ _ | assumption | apply Below.drew | refine below_drewN ?_ _ | apply Below.setCell _ (by first | omega | (simp; done) | (simp; omega)) | apply Below.alloc _ (by first | omega | (simp; done) | (simp; omega))))).2).mono ?_; rintro e w4 ⟨rfl, hB4⟩; have e0' := (hB4.cell (p := ⟨gs, 0, none⟩) (lt_of_heap HC.out.blk)).trans e0; have e1' := (hB4.cell (p := ⟨w.heap.size, 0, none⟩) (lt_of_heap HX.out)).trans e1))
        have hB34 : Below wr.heap.size wr w4 := by first | exact hB4 | exact past_drew hB4 | exact past_drewN hB4
        go_wp2_with fail
        go_roundw
        case measure => simp [intOf]
        case rel => exact ⟨HC.out.past hB34, gb_below GB.out hB34, blk_below HX.out hB34, blk_below HR.out hB34, .inr (.inl ⟨by first | rfl | go_num, blk_below H7.out hB34⟩)⟩
      · have H7 := Lib.hid h7c
        clear h7c
        have e0 := blk_cell (j := 0) HC.out.blk
        have e1 := blk_cell (j := 0) HX.out
        simp at e0 e1
        go_wp2_with fail
        go_region_held3 (fun w' => w'.cell? ⟨gs, 0, none⟩ = some (.pointer (some ⟨gp, 0, none⟩)) ∧ w'.cell? ⟨w.heap.size, 0, none⟩ = some (.int .i64 (i : Nat)))
          (first | exact ⟨e0, e1⟩ | exact ⟨e0', e1'⟩)
          ((go_at_call 52; refine (HCH1.out _ (HPW.out _ (by repeat (first | exact Below.refl _ _ | assumption | apply Below.drew | refine below_drewN ?_ _ | apply Below.setCell _ (by first | omega | (simp; done) | (simp; omega)) | apply Below.alloc _ (by first | omega | (simp; done) | (simp; omega))))).1 (HPW.out _ (by repeat (first | exact Below.refl _ _ | assumption | apply Below.drew | refine below_drewN ?_ _ | apply Below.setCell _ (by first | omega | (simp; done) | (simp; omega)) | apply Below.alloc _ (by first | omega | (simp; done) | (simp; omega))))).2).mono ?_; rintro e w4 ⟨rfl, hB4⟩; have e0' := (hB4.cell (p := ⟨gs, 0, none⟩) (lt_of_heap HC.out.blk)).trans e0; have e1' := (hB4.cell (p := ⟨w.heap.size, 0, none⟩) (lt_of_heap HX.out)).trans e1))
        have hB34 : Below wr.heap.size wr w4 := by first | exact hB4 | exact past_drew hB4 | exact past_drewN hB4
        have HC4 := Lib.hid (HC.out.past hB34); have GB4 := Lib.hid (gb_below GB.out hB34); have HX4 := Lib.hid (blk_below HX.out hB34); have HR4 := Lib.hid (blk_below HR.out hB34); have H74 := Lib.hid (blk_below H7.out hB34)
        have e2 := blk_cell (j := 1) HX4.out
        simp at e2
        clear hB4 hB34 e0 e1 e0' e1' HC GB HX HR H7
        go_wp2_with (go_at_call 152; refine (HPUT1.out _ HC4.out.blk).mono ?_; rintro e w5 ⟨rfl, hB5⟩)
        refine wp_named (fun w6 => CS w0 gs gp bm W l w6 ∧ w.grownBy w6 (some bm) ∧ w6.heap[w.heap.size]? = some (.cells #[.int .i64 (i : Nat), .int .i64 (col : Nat)] 181 (0, 0)) ∧ w6.heap[w.heap.size + 1]? = some (.cells #[.int .i64 0, .int .i64 0, .int .i64 0] 178 (0, 0)) ∧ w6.heap[b7]? = some (.cells #[.int .i64 0, .int .i64 0, .int .i64 (-1)] 178 (0, 0)) ∧ w6.heap[w5.heap.size]? = some (.cells #[.int .i64 (ea1 : Nat), .int .i64 (eb1 : Nat)] 47 (0, 0)))
          ⟨(HC4.out.past hB5).past ((Below.refl _ _).alloc (Nat.le_refl _) _), gb_alloc (gb_below GB4.out hB5) _, (Below.heap_alloc _ _ _ (lt_of_heap (blk_below HX4.out hB5))).trans (blk_below HX4.out hB5), (Below.heap_alloc _ _ _ (lt_of_heap (blk_below HR4.out hB5))).trans (blk_below HR4.out hB5), (Below.heap_alloc _ _ _ (lt_of_heap (blk_below H74.out hB5))).trans (blk_below H74.out hB5), heap_new rfl⟩ ?_
        rintro w6 ⟨hc6, hg6, hX6, hR6, h76, h116⟩
        obtain ⟨b11, hb11⟩ : ∃ b11, w5.heap.size = b11 := ⟨_, rfl⟩
        rw [hb11] at h116 ⊢
        have hb11' : b7 < b11 := by rw [← hb11]; exact lt_of_heap (blk_below H74.out hB5)
        clear hb11 hB5 e2 HC4 GB4 HX4 HR4 H74
        have f0 := blk_cell (j := 0) h116
        have f1 := blk_cell (j := 1) h116
        simp at f0 f1
        have hfld := course_cost
        have HC6 : Hid (∀ W', Below w6.heap.size w6 W' → CS w0 gs gp bm W l W') := Lib.hid (fun W' hb => hc6.past hb)
        have HG6 := Lib.hid hg6
        clear hc6 hg6
        go_region_with (first
            | (go_at_call 97; refine (HCP1.out _ (HC6.out _ (by repeat (first | exact Below.refl _ _ | assumption | apply Below.drew | refine below_drewN ?_ _ | apply Below.setCell _ (by first | omega | (simp; done) | (simp; omega)) | apply Below.alloc _ (by first | omega | (simp; done) | (simp; omega)))))).mono ?_; rintro e w7 ⟨rfl, hcs7, hg7⟩; have HC7 := Lib.hid hcs7; have HG7 := Lib.hid hg7; have h117 := blk_gb' hg7 h116 (by omega); have f0' := (show w7.cell? ⟨b11, 0, none⟩ = some (.int .i64 (ea1 : Nat)) from blk_cell (j := 0) h117); have f1' := (show w7.cell? ⟨b11, 1, none⟩ = some (.int .i64 (eb1 : Nat)) from blk_cell (j := 1) h117); clear hcs7 hg7)
            | (go_at_call 153; refine (HPL1.out _).mono ?_; rintro e w8 ⟨rfl, hB8⟩; have HB8 := Lib.hid hB8; have f0'' := (hB8.cell (p := ⟨b11, 0, none⟩) (lt_of_heap h117)).trans f0'; have f1'' := (hB8.cell (p := ⟨b11, 1, none⟩) (lt_of_heap h117)).trans f1'; have k0 := (hB8.frozen (p := ⟨b11, 0, none⟩) (lt_of_heap h117)).trans (blk_free (j := 0) h117); have k1 := (hB8.frozen (p := ⟨b11, 1, none⟩) (lt_of_heap h117)).trans (blk_free (j := 1) h117); clear hB8))
        all_goals
          have hB78 : Below w7.heap.size w7 w8 := by first | exact HB8.out | exact past_drew HB8.out | exact past_drewN HB8.out
          have gb7 : w.grownBy w7 (some bm) := grown_trans (by first | exact HG6.out | exact gb_drew HG6.out | exact gb_drewN HG6.out _) HG7.out
          have HG8 := Lib.hid (gb_below gb7 hB78)
          have HC8 := Lib.hid (HC7.out.past hB78)
          have hX8 := blk_below (blk_gb' HG7.out hX6 (by omega)) hB78
          have hR8 := blk_below (blk_gb' HG7.out hR6 (by omega)) hB78
          have h78 := blk_below (blk_gb' HG7.out h76 (by omega)) hB78
          have h118 := blk_below h117 hB78
          clear f0 f1 f0' f1' f0'' f1'' k0 k1 hfld h117 HB8 HG7 HC7 gb7 hB78 hX6 hR6 h76 h116 HC6 HG6
          refine then_named (fun w9 => CS w0 gs gp bm W l w9 ∧ w.grownBy w9 (some bm) ∧ w9.heap[w.heap.size]? = some (.cells #[.int .i64 (i : Nat), .int .i64 (col : Nat)] 181 (0, 0)) ∧ w9.heap[w.heap.size + 1]? = some (.cells #[.int .i64 0, .int .i64 0, .int .i64 0] 178 (0, 0)) ∧ w9.heap[b7]? = some (.cells #[.int .i64 0, .int .i64 0, .int .i64 (-1)] 178 (0, 0)) ∧ w9.heap[b11]? = some (.cells #[.int .i64 (pa1 : Nat), .int .i64 (pb1 : Nat)] 47 (0, 0)))
            ⟨HC8.out.set2_ (by omega) (by omega) (by have := HCS.out.bel.size; omega) _ _, gb_set2 HG8.out (by omega) _ _, blk_far2 hX8 (by omega) _ _, blk_far2 hR8 (by omega) _ _, blk_far2 h78 (by omega) _ _, blk_set2 h118⟩ ?_
          rintro w9 ⟨hC9, gb9, hX9, hR9, h79, h119⟩
          have HC9 := Lib.hid hC9; have GB9 := Lib.hid gb9; have HX9 := Lib.hid hX9; have HR9 := Lib.hid hR9; have H79 := Lib.hid h79; have H119 := Lib.hid h119
          clear hC9 gb9 hX9 hR9 h79 h119 hX8 hR8 h78 h118 HC8 HG8
          have m0 := blk_cell (j := 0) H79.out
          have m1 := blk_cell (j := 1) H79.out
          have m2 := blk_cell (j := 2) H79.out
          have m3 := blk_cell (j := 0) H119.out
          have m4 := blk_cell (j := 1) H119.out
          have m5 := blk_free (j := 0) H79.out
          have m6 := blk_free (j := 1) H79.out
          have m7 := blk_free (j := 2) H79.out
          simp at m0 m1 m2 m3 m4

          go_wp2_with fail
          go_roundw
          case measure => simp [intOf]
          case rel => exact ⟨HC9.out.set3_ (by omega) (by omega) (by have := HCS.out.bel.size; omega) _ _ _, gb_set3 GB9.out (by omega) _ _ _, blk_far3 HX9.out (by omega) _ _ _, blk_far3 HR9.out (by omega) _ _ _, .inr (.inr ⟨by first | rfl | go_num, blk_set3 H79.out⟩)⟩
      · have H7 := Lib.hid h7c
        clear h7c
        go_wp2_with fail
        obtain ⟨f', hm', hk'⟩ := HC.out.map
        obtain ⟨o, ho⟩ := hm'.store spotLaw Tryz.underlying174 HKL.out (.agg #[.int .i64 (pa1 : Nat), .int .i64 (pb1 : Nat), .int .i64 1])
        unfold spotV at ho
        have HO := Lib.hid ho
        have hk2 := HKN.out f' hk'
        have HK2 := Lib.hid hk2
        have hup : (Instr.mapUpdate 174 (.map (some bm)) (.agg #[.int .i64 (i : Nat), .int .i64 (col : Nat)]) (.agg #[.int .i64 (pa1 : Nat), .int .i64 (pb1 : Nat), .int .i64 1])).run Tryz.prog wr.drew = .ok () (setBlock wr.drew bm o) := (ho wr.drew rfl).1
        have v0 : wr.cell? ⟨gs, 2, none⟩ = some (.map (some bm)) := blk_cell (j := 2) HC.out.blk
        have v1 : wr.cell? ⟨w.heap.size, 0, none⟩ = some (.int .i64 (i : Nat)) := blk_cell (j := 0) HX.out
        have v2 : wr.cell? ⟨w.heap.size, 1, none⟩ = some (.int .i64 (col : Nat)) := blk_cell (j := 1) HX.out
        have v3 : wr.cell? ⟨b7, 0, none⟩ = some (.int .i64 (pa1 : Nat)) := blk_cell (j := 0) H7.out
        have v4 : wr.cell? ⟨b7, 1, none⟩ = some (.int .i64 (pb1 : Nat)) := blk_cell (j := 1) H7.out
        have v5 : wr.cell? ⟨b7, 2, none⟩ = some (.int .i64 1) := blk_cell (j := 2) H7.out
        have far : ∀ (g : Nat) (x : Obj), g ≠ bm → wr.heap[g]? = some x → (setBlock wr.drew bm o).heap[g]? = some x := fun g x hne hg => blk_gb' (HO.out wr.drew rfl).2.2 hg hne
        have FAR := Lib.hid far
        have u0 : (setBlock wr.drew bm o).cell? ⟨gs, 2, none⟩ = some (.map (some bm)) := blk_cell (j := 2) (far gs _ hms HC.out.blk)
        have u1 : (setBlock wr.drew bm o).cell? ⟨w.heap.size, 0, none⟩ = some (.int .i64 (i : Nat)) := blk_cell (j := 0) (far _ _ (by omega) HX.out)
        have u2 : (setBlock wr.drew bm o).cell? ⟨w.heap.size, 1, none⟩ = some (.int .i64 (col : Nat)) := blk_cell (j := 1) (far _ _ (by omega) HX.out)
        have u3 : (setBlock wr.drew bm o).cell? ⟨b7, 0, none⟩ = some (.int .i64 (pa1 : Nat)) := blk_cell (j := 0) (far _ _ (by omega) H7.out)
        have u4 : (setBlock wr.drew bm o).cell? ⟨b7, 1, none⟩ = some (.int .i64 (pb1 : Nat)) := blk_cell (j := 1) (far _ _ (by omega) H7.out)
        have u5' : (setBlock wr.drew bm o).cell? ⟨b7, 2, none⟩ = some (.int .i64 1) := blk_cell (j := 2) (far _ _ (by omega) H7.out)
        clear ho hk2 hk' hm' far
        go_region_held3 (fun w' => w'.cell? ⟨gs, 2, none⟩ = some (.map (some bm)) ∧ w'.cell? ⟨w.heap.size, 0, none⟩ = some (.int .i64 (i : Nat)) ∧ w'.cell? ⟨w.heap.size, 1, none⟩ = some (.int .i64 (col : Nat)) ∧ w'.cell? ⟨b7, 0, none⟩ = some (.int .i64 (pa1 : Nat)) ∧ w'.cell? ⟨b7, 1, none⟩ = some (.int .i64 (pb1 : Nat)) ∧ w'.cell? ⟨b7, 2, none⟩ = some (.int .i64 1))
          (first | exact ⟨v0, v1, v2, v3, v4, v5⟩ | exact ⟨u0, u1, u2, u3, u4, u5'⟩) (fail)
        clear hup u0 u1 u2 u3 u4 u5' v0 v1 v2 v3 v4 v5
        refine then_named (fun wy => CS w0 gs gp bm W l wy ∧ w.grownBy wy (some bm) ∧ wy.heap[w.heap.size + 1]? = some (.cells #[.int .i64 0, .int .i64 0, .int .i64 0] 178 (0, 0)) ∧ wy.heap[b7]? = some (.cells #[.int .i64 (pa1 : Nat), .int .i64 (pb1 : Nat), .int .i64 1] 178 (0, 0))) ⟨HC.out.store HO.out HK2.out 1, grown_trans (gb_drew GB.out) (HO.out wr.drew rfl).2.2, FAR.out _ _ (by omega) HR.out, FAR.out _ _ (by omega) H7.out⟩ ?_
        rintro wy ⟨hCy, gby, hRy, h7y⟩
        have a0 := blk_cell (j := 0) h7y
        have a1 := blk_cell (j := 1) h7y
        have a2 := blk_cell (j := 2) h7y
        have a3 := blk_cell (j := 0) hRy
        have a4 := blk_cell (j := 1) hRy
        have a5 := blk_cell (j := 2) hRy
        have a6 := blk_free (j := 0) hRy
        have a7 := blk_free (j := 1) hRy
        have a8 := blk_free (j := 2) hRy
        simp at a0 a1 a2 a3 a4 a5
        have HCY := Lib.hid hCy; have GBY := Lib.hid gby; have HRY := Lib.hid hRy
        clear hCy gby hRy h7y HX HR H7
        go_wp2
        have b0 := blk_set3 (p := .int .i64 (pa1 : Nat)) (q := .int .i64 (pb1 : Nat)) (r := .int .i64 1) HRY.out
        have b1 := blk_cell (j := 0) b0
        have b2 := blk_cell (j := 1) b0
        have b3 := blk_cell (j := 2) b0
        simp at b1 b2 b3
        simp [bodyPost, results, Tryz.results97, go_sem, b1, b2, b3]
        refine ⟨?_, HCY.out.set3_ (by omega) (by omega) (by have := HCS.out.bel.size; omega) _ _ _, gb_set3 GBY.out (by omega) _ _ _⟩
        rfl

set_option maxRecDepth 100000 in
set_option maxHeartbeats 16000000 in
theorem ask_first {l : List Nd} (h400 : l.length ≤ 400) {gp : Nat} {A : Option Addr} {c : Nat} (w0 : World) (hpl : IsPlan w0 gp A c l) (hnl : Nds w0 w0.heap.size A l) {gs bm W : Nat} {i col : Nat} {w : World} (hcs : CS w0 gs gp bm W l w) (hcol : col ≤ 2000000)
    {f : Value → Option Value} (hmf : MapF Tryz.prog 181 f bm w) (hv : f (spotV i col) = none) (hlt : i < l.length) {t0 t1 : ByteArray} {i0 i1 ea0 eb0 col0 da0 db0 pa0 pb0 ea1 eb1 col1 da1 db1 pa1 pb1 : Nat} {ch0 ch1 : Int}
    (hpc : ∀ w, IsPlan w gp A c l → Nds w w.heap.size A l → Calls Tryz.prog 51 #[.pointer (some ⟨gp, 0, none⟩), .int .i64 i] w (Ret w (.tuple #[.string t1, .int .i64 (i : Nat), .bool true])))
    (hch0 : ∀ w, IsPlan w gp A c l → Nds w w.heap.size A l → Calls Tryz.prog 52 #[.pointer (some ⟨gp, 0, none⟩), .int .i64 i, .int .i64 0] w (Ret w (.tuple #[.string t0, .int .i64 (i0 : Nat), .bool true])))
    (hch1 : ∀ w, IsPlan w gp A c l → Nds w w.heap.size A l → Calls Tryz.prog 52 #[.pointer (some ⟨gp, 0, none⟩), .int .i64 i, .int .i64 1] w (Ret w (.tuple #[.string t1, .int .i64 (i1 : Nat), .bool true])))
    (hput0 : ∀ W' : World, W'.heap[gs]? = some (.cells #[.pointer (some ⟨gp, 0, none⟩), .int .i64 (W : Nat), .map (some bm)] 176 (0, 0)) → Calls Tryz.prog 152 #[.pointer (some ⟨gs, 0, none⟩), .string t0, .int .i64 (col : Nat)] W' (Ret W' (.tuple #[.agg #[.int .i64 (ea0 : Nat), .int .i64 (eb0 : Nat)], .int .i64 (col0 : Nat)])))
    (hcp0 : ∀ W' : World, CS w0 gs gp bm W l W' → Calls Tryz.prog 97 #[.pointer (some ⟨gs, 0, none⟩), .agg #[.int .i64 (i0 : Nat), .int .i64 (col0 : Nat)]] W' (CheapTo w0 gs gp bm W l (.agg #[.int .i64 (da0 : Nat), .int .i64 (db0 : Nat), .int .i64 ch0]) W'))
    (hpl0 : ∀ W' : World, Calls Tryz.prog 153 #[.agg #[.int .i64 (ea0 : Nat), .int .i64 (eb0 : Nat)], .agg #[.int .i64 (da0 : Nat), .int .i64 (db0 : Nat)]] W' (Ret W' (.agg #[.int .i64 (pa0 : Nat), .int .i64 (pb0 : Nat)])))
    (hput1 : ∀ W' : World, W'.heap[gs]? = some (.cells #[.pointer (some ⟨gp, 0, none⟩), .int .i64 (W : Nat), .map (some bm)] 176 (0, 0)) → Calls Tryz.prog 152 #[.pointer (some ⟨gs, 0, none⟩), .string t1, .int .i64 (col : Nat)] W' (Ret W' (.tuple #[.agg #[.int .i64 (ea1 : Nat), .int .i64 (eb1 : Nat)], .int .i64 (col1 : Nat)])))
    (hcp1 : ∀ W' : World, CS w0 gs gp bm W l W' → Calls Tryz.prog 97 #[.pointer (some ⟨gs, 0, none⟩), .agg #[.int .i64 (i1 : Nat), .int .i64 (col1 : Nat)]] W' (CheapTo w0 gs gp bm W l (.agg #[.int .i64 (da1 : Nat), .int .i64 (db1 : Nat), .int .i64 ch1]) W'))
    (hpl1 : ∀ W' : World, Calls Tryz.prog 153 #[.agg #[.int .i64 (ea1 : Nat), .int .i64 (eb1 : Nat)], .agg #[.int .i64 (da1 : Nat), .int .i64 (db1 : Nat)]] W' (Ret W' (.agg #[.int .i64 (pa1 : Nat), .int .i64 (pb1 : Nat)])))
    (hun : ∀ W' : World, Calls Tryz.prog 154 #[.agg #[.int .i64 (pa1 : Nat), .int .i64 (pb1 : Nat)], .agg #[.int .i64 (pa0 : Nat), .int .i64 (pb0 : Nat)]] W' (Ret W' (.bool false)))
    (hkn : ∀ f' : Value → Option Value, KnownC l W f' → KnownC l W (putF f' (.agg #[.int .i64 (i : Nat), .int .i64 (col : Nat)]) (.agg #[.int .i64 (pa0 : Nat), .int .i64 (pb0 : Nat), .int .i64 0]))) :
    Calls Tryz.prog 97 #[.pointer (some ⟨gs, 0, none⟩), spotV i col] w (CheapTo w0 gs gp bm W l (.agg #[.int .i64 (pa0 : Nat), .int .i64 (pb0 : Nat), .int .i64 0]) w) := by
  obtain ⟨kl, hkl⟩ := spot_key (i := i) (col := col) (by omega) (by omega)
  have HPC := Lib.hid hpc; have HCH0 := Lib.hid hch0; have HCH1 := Lib.hid hch1; have HPUT1 := Lib.hid hput1; have HCP1 := Lib.hid hcp1; have HPL1 := Lib.hid hpl1; have HKN := Lib.hid hkn
  have HPUT0 := Lib.hid hput0; have HCP0 := Lib.hid hcp0; have HPL0 := Lib.hid hpl0
  clear hput0 hcp0 hpl0
  have HUN := Lib.hid hun
  clear hun
  clear hpc hch0 hch1 hput1 hcp1 hpl1 hkn
  have hml := hcs.mlt
  have hms := hcs.ms
  have hsl := lt_of_heap hcs.blk
  obtain ⟨gn, gd, ge, gf', gi, cf, ci, hpa⟩ := hpl.past hcs.bel
  have z0 := hpa.c0
  have hgp := hpa.lp
  have hne : ((i : Int) == (l.length : Int)) = false := by rw [beq_eq_false_iff_ne]; omega
  have y0 := blk_cell (j := 0) hcs.blk
  have y2 := blk_cell (j := 2) hcs.blk
  simp at y0 y2
  have hb1 : ∀ o1 o2, Below w.heap.size w ((w.alloc o1).alloc o2) := fun o1 o2 => ((Below.refl _ _).alloc (Nat.le_refl _) _).alloc (by simp) _
  have HW : ∀ (o2 : Obj) W', Below (((w.alloc (.cells #[.int .i64 (i : Nat), .int .i64 (col : Nat)] 181)).alloc o2).heap.size) ((w.alloc (.cells #[.int .i64 (i : Nat), .int .i64 (col : Nat)] 181)).alloc o2) W' → HeadIs gs gp bm A c l.length w.heap.size i col f W' := fun o2 W' hW' => by
    refine HeadIs.past (((hb1 _ _).cell (p := ⟨gs, 0, none⟩) hsl).trans y0) (((hb1 _ _).cell (p := ⟨gs, 2, none⟩) hsl).trans y2) (((hb1 _ _).cell (p := ⟨gp, 0, none⟩) hgp).trans z0) ?_ (hmf.below (hb1 _ _)) (by simp; omega) (by simp; omega) hkl hW'
    exact (Below.heap_alloc _ _ _ (by simp)).trans (heap_new rfl)
  unfold HeadIs at HW
  simp only [hv, Option.getD_none, Option.isSome_none] at HW
  unfold spotV
  have HBX : Hid (∀ W', Below (((w.alloc (.cells #[.int .i64 (i : Nat), .int .i64 (col : Nat)] 181)).alloc (.cells #[.int .i64 0, .int .i64 0, .int .i64 0] 178)).heap.size) ((w.alloc (.cells #[.int .i64 (i : Nat), .int .i64 (col : Nat)] 181)).alloc (.cells #[.int .i64 0, .int .i64 0, .int .i64 0] 178)) W' → W'.heap[w.heap.size]? = some (.cells #[.int .i64 (i : Nat), .int .i64 (col : Nat)] 181 (0, 0)) ∧ W'.heap[w.heap.size + 1]? = some (.cells #[.int .i64 0, .int .i64 0, .int .i64 0] 178 (0, 0))) :=
    Lib.hid (fun W' hb => ⟨blk_below ((Below.heap_alloc _ _ _ (by simp)).trans (heap_new rfl)) hb, blk_below (heap_new (by simp)) hb⟩)
  have HGS : Hid (∀ W', Below w.heap.size w W' → W'.heap[gs]? = some (.cells #[.pointer (some ⟨gp, 0, none⟩), .int .i64 (W : Nat), .map (some bm)] 176 (0, 0))) := Lib.hid (fun W' hb => blk_below hcs.blk hb)
  have HWW := Lib.hid HW
  have HCS := Lib.hid hcs; have HKL := Lib.hid hkl
  have HPN : Hid (∀ W', Below w0.heap.size w0 W' → IsPlan W' gp A c l ∧ Nds W' W'.heap.size A l) := Lib.hid (fun W' hb => ⟨hpl.past hb, hnl.past hb⟩)
  have HPN1 : Hid (∀ W', Below w.heap.size w W' → IsPlan W' gp A c l ∧ Nds W' W'.heap.size A l) := Lib.hid (fun W' hb => HPN.out W' (hcs.bel.trans (hb.mono hcs.bel.size)))
  clear HW hpa hkl hcs hmf hv hpl y0 y2 z0 hnl
  go_enter Tryz.func97, Tryz.ntmps97
  go_wp2
  obtain ⟨q0, q2, z0, x0, x1, hl⟩ := HWW.out (.cells #[.int .i64 0, .int .i64 0, .int .i64 0] 178) _ (Below.refl _ _)
  clear hl
  go_quiet (fail)
  go_upto_region 3 with fail
  have hlk : ∀ n : Nat, (Instr.lookup 174 (.map (some bm)) (.agg #[.int .i64 (i : Nat), .int .i64 (col : Nat)]) true).run Tryz.prog (((w.alloc (.cells #[.int .i64 (i : Nat), .int .i64 (col : Nat)] 181)).alloc (.cells #[.int .i64 0, .int .i64 0, .int .i64 0] 178)).drewN n) = .ok (.tuple #[.agg #[.int .i64 0, .int .i64 0, .int .i64 0], .bool false]) (((w.alloc (.cells #[.int .i64 (i : Nat), .int .i64 (col : Nat)] 181)).alloc (.cells #[.int .i64 0, .int .i64 0, .int .i64 0] 178)).drewN n) :=
    fun n => (HWW.out _ _ (below_drewN (Below.refl _ _) n)).2.2.2.2.2
  have hlk2 : ∀ n : Nat, (Instr.lookup 174 (.map (some bm)) (.agg #[.int .i64 (i : Nat), .int .i64 (col : Nat)]) true).run Tryz.prog ((((w.alloc (.cells #[.int .i64 (i : Nat), .int .i64 (col : Nat)] 181)).alloc (.cells #[.int .i64 0, .int .i64 0, .int .i64 0] 178)).drewN n).alloc (.cells #[.int .i64 0, .int .i64 0, .int .i64 0] 178)) = .ok (.tuple #[.agg #[.int .i64 0, .int .i64 0, .int .i64 0], .bool false]) ((((w.alloc (.cells #[.int .i64 (i : Nat), .int .i64 (col : Nat)] 181)).alloc (.cells #[.int .i64 0, .int .i64 0, .int .i64 0] 178)).drewN n).alloc (.cells #[.int .i64 0, .int .i64 0, .int .i64 0] 178)) :=
    fun n => (HWW.out (.cells #[.int .i64 0, .int .i64 0, .int .i64 0] 178) ((((w.alloc (.cells #[.int .i64 (i : Nat), .int .i64 (col : Nat)] 181)).alloc (.cells #[.int .i64 0, .int .i64 0, .int .i64 0] 178)).drewN n).alloc (.cells #[.int .i64 0, .int .i64 0, .int .i64 0] 178)) (by repeat (first | exact Below.refl _ _ | assumption | apply Below.drew | refine below_drewN ?_ _ | apply Below.setCell _ (by first | omega | (simp; done) | (simp; omega)) | apply Below.alloc _ (by first | omega | (simp; done) | (simp; omega))))).2.2.2.2.2
  go_cut [6] from 31 to 39 (fun s6 wx => s6 = .bool false ∧ Below w.heap.size w wx ∧ wx.heap[w.heap.size]? = some (.cells #[.int .i64 (i : Nat), .int .i64 (col : Nat)] 181 (0, 0)) ∧ wx.heap[w.heap.size + 1]? = some (.cells #[.int .i64 0, .int .i64 0, .int .i64 0] 178 (0, 0)))
  case first =>
    go_region_held3 (fun w' => w'.cell? ⟨gs, 2, none⟩ = some (.map (some bm)) ∧ w'.cell? ⟨w.heap.size, 0, none⟩ = some (.int .i64 (i : Nat)) ∧ w'.cell? ⟨w.heap.size, 1, none⟩ = some (.int .i64 (col : Nat)))
      (exact ⟨(HWW.out (.cells #[.int .i64 0, .int .i64 0, .int .i64 0] 178) _ (by repeat (first | exact Below.refl _ _ | assumption | apply Below.drew | refine below_drewN ?_ _ | apply Below.setCell _ (by first | omega | (simp; done) | (simp; omega)) | apply Below.alloc _ (by first | omega | (simp; done) | (simp; omega))))).2.1, (HWW.out (.cells #[.int .i64 0, .int .i64 0, .int .i64 0] 178) _ (by repeat (first | exact Below.refl _ _ | assumption | apply Below.drew | refine below_drewN ?_ _ | apply Below.setCell _ (by first | omega | (simp; done) | (simp; omega)) | apply Below.alloc _ (by first | omega | (simp; done) | (simp; omega))))).2.2.2.1, (HWW.out (.cells #[.int .i64 0, .int .i64 0, .int .i64 0] 178) _ (by repeat (first | exact Below.refl _ _ | assumption | apply Below.drew | refine below_drewN ?_ _ | apply Below.setCell _ (by first | omega | (simp; done) | (simp; omega)) | apply Below.alloc _ (by first | omega | (simp; done) | (simp; omega))))).2.2.2.2.1⟩) (fail)
    all_goals
      go_wp2_with fail
      go_meet
      case rel => exact ⟨rfl, (by repeat (first | exact Below.refl _ _ | assumption | apply Below.drew | refine below_drewN ?_ _ | apply Below.setCell _ (by first | omega | (simp; done) | (simp; omega)) | apply Below.alloc _ (by first | omega | (simp; done) | (simp; omega)))), (HBX.out _ (by repeat (first | exact Below.refl _ _ | assumption | apply Below.drew | refine below_drewN ?_ _ | apply Below.setCell _ (by first | omega | (simp; done) | (simp; omega)) | apply Below.alloc _ (by first | omega | (simp; done) | (simp; omega))))).1, (HBX.out _ (by repeat (first | exact Below.refl _ _ | assumption | apply Below.drew | refine below_drewN ?_ _ | apply Below.setCell _ (by first | omega | (simp; done) | (simp; omega)) | apply Below.alloc _ (by first | omega | (simp; done) | (simp; omega))))).2⟩
  case rest =>
    obtain ⟨rfl, hBx, hX, hR⟩ := hcut
    clear hlk hlk2 x0 x1 z0 q0 q2 HBX HWW
    go_wp2_with fail
    refine wp_named (fun w3 => Below w.heap.size w w3 ∧ w3.heap[w.heap.size]? = some (.cells #[.int .i64 (i : Nat), .int .i64 (col : Nat)] 181 (0, 0)) ∧ w3.heap[w.heap.size + 1]? = some (.cells #[.int .i64 0, .int .i64 0, .int .i64 0] 178 (0, 0)) ∧ w3.heap[wc.heap.size]? = some (.cells #[.int .i64 0, .int .i64 0, .int .i64 (-1)] 178 (0, 0)))
      ⟨hBx.alloc hBx.size _, (Below.heap_alloc _ _ _ (lt_of_heap hX)).trans hX, (Below.heap_alloc _ _ _ (lt_of_heap hR)).trans hR, heap_new rfl⟩ ?_
    rintro w3 ⟨hB3, hX3, hR3, h73⟩
    obtain ⟨b7, hb7⟩ : ∃ b7, wc.heap.size = b7 := ⟨_, rfl⟩
    rw [hb7] at h73 ⊢
    have hb7' : w.heap.size + 2 ≤ b7 := by rw [← hb7]; exact lt_of_heap hR
    clear hb7 hX hR hBx
    have e0 := blk_cell (j := 0) (HGS.out w3 hB3)
    have e1 := blk_cell (j := 0) hX3
    simp at e0 e1
    go_region_held3 (fun w' => w'.cell? ⟨gs, 0, none⟩ = some (.pointer (some ⟨gp, 0, none⟩)) ∧ w'.cell? ⟨w.heap.size, 0, none⟩ = some (.int .i64 (i : Nat)))
      (first | exact ⟨e0, e1⟩ | exact ⟨e0', e1'⟩)
      ((go_at_call 51; refine (HPC.out _ (HPN1.out _ (by repeat (first | exact Below.refl _ _ | assumption | apply Below.drew | refine below_drewN ?_ _ | apply Below.setCell _ (by first | omega | (simp; done) | (simp; omega)) | apply Below.alloc _ (by first | omega | (simp; done) | (simp; omega))))).1 (HPN1.out _ (by repeat (first | exact Below.refl _ _ | assumption | apply Below.drew | refine below_drewN ?_ _ | apply Below.setCell _ (by first | omega | (simp; done) | (simp; omega)) | apply Below.alloc _ (by first | omega | (simp; done) | (simp; omega))))).2).mono ?_; rintro e w4 ⟨rfl, hB4⟩; have e0' := (hB4.cell (p := ⟨gs, 0, none⟩) (lt_of_heap (HGS.out w3 hB3))).trans e0; have e1' := (hB4.cell (p := ⟨w.heap.size, 0, none⟩) (lt_of_heap hX3)).trans e1))
    have hB34 : Below w3.heap.size w3 w4 := by first | exact hB4 | exact past_drew hB4 | exact past_drewN hB4
    have HC4 := Lib.hid (HCS.out.past (hB3.trans (hB34.mono hB3.size)))
    have GB4 := Lib.hid (gb_of_below (hB3.trans (hB34.mono hB3.size)) bm)
    have HX4 := Lib.hid (blk_below hX3 hB34)
    have HR4 := Lib.hid (blk_below hR3 hB34)
    have H74 := Lib.hid (blk_below h73 hB34)
    clear hB4 hB34 hB3 hX3 hR3 h73 e0 e1 e0' e1'
    go_wp2_with fail
    go_loopw [13] (fun s13 wr => CS w0 gs gp bm W l wr ∧ w.grownBy wr (some bm) ∧ wr.heap[w.heap.size]? = some (.cells #[.int .i64 (i : Nat), .int .i64 (col : Nat)] 181 (0, 0)) ∧ wr.heap[w.heap.size + 1]? = some (.cells #[.int .i64 0, .int .i64 0, .int .i64 0] 178 (0, 0)) ∧ ((s13 = .int .i64 0 ∧ wr.heap[b7]? = some (.cells #[.int .i64 0, .int .i64 0, .int .i64 (-1)] 178 (0, 0))) ∨ (s13 = .int .i64 1 ∧ wr.heap[b7]? = some (.cells #[.int .i64 (pa0 : Nat), .int .i64 (pb0 : Nat), .int .i64 0] 178 (0, 0))) ∨ (s13 = .int .i64 2 ∧ wr.heap[b7]? = some (.cells #[.int .i64 (pa0 : Nat), .int .i64 (pb0 : Nat), .int .i64 0] 178 (0, 0))))) (fun s13 _ => 2 - (intOf s13).toNat)
    case atStart => exact ⟨HC4.out, GB4.out, HX4.out, HR4.out, .inl ⟨rfl, H74.out⟩⟩
    case round =>
      obtain ⟨hcr, hgr, hxr, hrr, h7r⟩ := hrel
      have HC := Lib.hid hcr; have GB := Lib.hid hgr; have HX := Lib.hid hxr; have HR := Lib.hid hrr
      have HPW : Hid (∀ W', Below wr.heap.size wr W' → IsPlan W' gp A c l ∧ Nds W' W'.heap.size A l) := Lib.hid (fun W' hb => HPN.out W' (hcr.bel.trans (hb.mono hcr.bel.size)))
      clear hcr hgr hxr hrr HC4 GB4 HX4 HR4 H74
      rcases h7r with ⟨rfl, h7c⟩ | ⟨rfl, h7c⟩ | ⟨rfl, h7c⟩
      · have H7 := Lib.hid h7c
        clear h7c
        have e0 := blk_cell (j := 0) HC.out.blk
        have e1 := blk_cell (j := 0) HX.out
        simp at e0 e1
        go_wp2_with fail
        go_region_held3 (fun w' => w'.cell? ⟨gs, 0, none⟩ = some (.pointer (some ⟨gp, 0, none⟩)) ∧ w'.cell? ⟨w.heap.size, 0, none⟩ = some (.int .i64 (i : Nat)))
          (first | exact ⟨e0, e1⟩ | exact ⟨e0', e1'⟩)
          ((go_at_call 52; refine (HCH0.out _ (HPW.out _ (by repeat (first | exact Below.refl _ _ | assumption | apply Below.drew | refine below_drewN ?_ _ | apply Below.setCell _ (by first | omega | (simp; done) | (simp; omega)) | apply Below.alloc _ (by first | omega | (simp; done) | (simp; omega))))).1 (HPW.out _ (by repeat (first | exact Below.refl _ _ | assumption | apply Below.drew | refine below_drewN ?_ _ | apply Below.setCell _ (by first | omega | (simp; done) | (simp; omega)) | apply Below.alloc _ (by first | omega | (simp; done) | (simp; omega))))).2).mono ?_; rintro e w4 ⟨rfl, hB4⟩; have e0' := (hB4.cell (p := ⟨gs, 0, none⟩) (lt_of_heap HC.out.blk)).trans e0; have e1' := (hB4.cell (p := ⟨w.heap.size, 0, none⟩) (lt_of_heap HX.out)).trans e1))
        have hB34 : Below wr.heap.size wr w4 := by first | exact hB4 | exact past_drew hB4 | exact past_drewN hB4
        have HC4 := Lib.hid (HC.out.past hB34); have GB4 := Lib.hid (gb_below GB.out hB34); have HX4 := Lib.hid (blk_below HX.out hB34); have HR4 := Lib.hid (blk_below HR.out hB34); have H74 := Lib.hid (blk_below H7.out hB34)
        have e2 := blk_cell (j := 1) HX4.out
        simp at e2
        clear hB4 hB34 e0 e1 e0' e1' HC GB HX HR H7
        go_wp2_with (go_at_call 152; refine (HPUT0.out _ HC4.out.blk).mono ?_; rintro e w5 ⟨rfl, hB5⟩)
        refine wp_named (fun w6 => CS w0 gs gp bm W l w6 ∧ w.grownBy w6 (some bm) ∧ w6.heap[w.heap.size]? = some (.cells #[.int .i64 (i : Nat), .int .i64 (col : Nat)] 181 (0, 0)) ∧ w6.heap[w.heap.size + 1]? = some (.cells #[.int .i64 0, .int .i64 0, .int .i64 0] 178 (0, 0)) ∧ w6.heap[b7]? = some (.cells #[.int .i64 0, .int .i64 0, .int .i64 (-1)] 178 (0, 0)) ∧ w6.heap[w5.heap.size]? = some (.cells #[.int .i64 (ea0 : Nat), .int .i64 (eb0 : Nat)] 47 (0, 0)))
          ⟨(HC4.out.past hB5).past ((Below.refl _ _).alloc (Nat.le_refl _) _), gb_alloc (gb_below GB4.out hB5) _, (Below.heap_alloc _ _ _ (lt_of_heap (blk_below HX4.out hB5))).trans (blk_below HX4.out hB5), (Below.heap_alloc _ _ _ (lt_of_heap (blk_below HR4.out hB5))).trans (blk_below HR4.out hB5), (Below.heap_alloc _ _ _ (lt_of_heap (blk_below H74.out hB5))).trans (blk_below H74.out hB5), heap_new rfl⟩ ?_
        rintro w6 ⟨hc6, hg6, hX6, hR6, h76, h116⟩
        obtain ⟨b11, hb11⟩ : ∃ b11, w5.heap.size = b11 := ⟨_, rfl⟩
        rw [hb11] at h116 ⊢
        have hb11' : b7 < b11 := by rw [← hb11]; exact lt_of_heap (blk_below H74.out hB5)
        clear hb11 hB5 e2 HC4 GB4 HX4 HR4 H74
        have f0 := blk_cell (j := 0) h116
        have f1 := blk_cell (j := 1) h116
        simp at f0 f1
        have hfld := course_cost
        have HC6 : Hid (∀ W', Below w6.heap.size w6 W' → CS w0 gs gp bm W l W') := Lib.hid (fun W' hb => hc6.past hb)
        have HG6 := Lib.hid hg6
        clear hc6 hg6
        go_region_with (first
            | (go_at_call 97; refine (HCP0.out _ (HC6.out _ (by repeat (first | exact Below.refl _ _ | assumption | apply Below.drew | refine below_drewN ?_ _ | apply Below.setCell _ (by first | omega | (simp; done) | (simp; omega)) | apply Below.alloc _ (by first | omega | (simp; done) | (simp; omega)))))).mono ?_; rintro e w7 ⟨rfl, hcs7, hg7⟩; have HC7 := Lib.hid hcs7; have HG7 := Lib.hid hg7; have h117 := blk_gb' hg7 h116 (by omega); have f0' := (show w7.cell? ⟨b11, 0, none⟩ = some (.int .i64 (ea0 : Nat)) from blk_cell (j := 0) h117); have f1' := (show w7.cell? ⟨b11, 1, none⟩ = some (.int .i64 (eb0 : Nat)) from blk_cell (j := 1) h117); clear hcs7 hg7)
            | (go_at_call 153; refine (HPL0.out _).mono ?_; rintro e w8 ⟨rfl, hB8⟩; have HB8 := Lib.hid hB8; have f0'' := (hB8.cell (p := ⟨b11, 0, none⟩) (lt_of_heap h117)).trans f0'; have f1'' := (hB8.cell (p := ⟨b11, 1, none⟩) (lt_of_heap h117)).trans f1'; have k0 := (hB8.frozen (p := ⟨b11, 0, none⟩) (lt_of_heap h117)).trans (blk_free (j := 0) h117); have k1 := (hB8.frozen (p := ⟨b11, 1, none⟩) (lt_of_heap h117)).trans (blk_free (j := 1) h117); clear hB8))
        all_goals
          have hB78 : Below w7.heap.size w7 w8 := by first | exact HB8.out | exact past_drew HB8.out | exact past_drewN HB8.out
          have gb7 : w.grownBy w7 (some bm) := grown_trans (by first | exact HG6.out | exact gb_drew HG6.out | exact gb_drewN HG6.out _) HG7.out
          have HG8 := Lib.hid (gb_below gb7 hB78)
          have HC8 := Lib.hid (HC7.out.past hB78)
          have hX8 := blk_below (blk_gb' HG7.out hX6 (by omega)) hB78
          have hR8 := blk_below (blk_gb' HG7.out hR6 (by omega)) hB78
          have h78 := blk_below (blk_gb' HG7.out h76 (by omega)) hB78
          have h118 := blk_below h117 hB78
          clear f0 f1 f0' f1' f0'' f1'' k0 k1 hfld h117 HB8 HG7 HC7 gb7 hB78 hX6 hR6 h76 h116 HC6 HG6
          refine then_named (fun w9 => CS w0 gs gp bm W l w9 ∧ w.grownBy w9 (some bm) ∧ w9.heap[w.heap.size]? = some (.cells #[.int .i64 (i : Nat), .int .i64 (col : Nat)] 181 (0, 0)) ∧ w9.heap[w.heap.size + 1]? = some (.cells #[.int .i64 0, .int .i64 0, .int .i64 0] 178 (0, 0)) ∧ w9.heap[b7]? = some (.cells #[.int .i64 0, .int .i64 0, .int .i64 (-1)] 178 (0, 0)) ∧ w9.heap[b11]? = some (.cells #[.int .i64 (pa0 : Nat), .int .i64 (pb0 : Nat)] 47 (0, 0)))
            ⟨HC8.out.set2_ (by omega) (by omega) (by have := HCS.out.bel.size; omega) _ _, gb_set2 HG8.out (by omega) _ _, blk_far2 hX8 (by omega) _ _, blk_far2 hR8 (by omega) _ _, blk_far2 h78 (by omega) _ _, blk_set2 h118⟩ ?_
          rintro w9 ⟨hC9, gb9, hX9, hR9, h79, h119⟩
          have HC9 := Lib.hid hC9; have GB9 := Lib.hid gb9; have HX9 := Lib.hid hX9; have HR9 := Lib.hid hR9; have H79 := Lib.hid h79; have H119 := Lib.hid h119
          clear hC9 gb9 hX9 hR9 h79 h119 hX8 hR8 h78 h118 HC8 HG8
          have m0 := blk_cell (j := 0) H79.out
          have m1 := blk_cell (j := 1) H79.out
          have m2 := blk_cell (j := 2) H79.out
          have m3 := blk_cell (j := 0) H119.out
          have m4 := blk_cell (j := 1) H119.out
          have m5 := blk_free (j := 0) H79.out
          have m6 := blk_free (j := 1) H79.out
          have m7 := blk_free (j := 2) H79.out
          simp at m0 m1 m2 m3 m4

          go_wp2_with fail
          go_roundw
          case measure => simp [intOf]
          case rel => exact ⟨HC9.out.set3_ (by omega) (by omega) (by have := HCS.out.bel.size; omega) _ _ _, gb_set3 GB9.out (by omega) _ _ _, blk_far3 HX9.out (by omega) _ _ _, blk_far3 HR9.out (by omega) _ _ _, .inr (.inl ⟨by first | rfl | go_num, blk_set3 H79.out⟩)⟩
      · have H7 := Lib.hid h7c
        clear h7c
        have e0 := blk_cell (j := 0) HC.out.blk
        have e1 := blk_cell (j := 0) HX.out
        simp at e0 e1
        go_wp2_with fail
        go_region_held3 (fun w' => w'.cell? ⟨gs, 0, none⟩ = some (.pointer (some ⟨gp, 0, none⟩)) ∧ w'.cell? ⟨w.heap.size, 0, none⟩ = some (.int .i64 (i : Nat)))
          (first | exact ⟨e0, e1⟩ | exact ⟨e0', e1'⟩)
          ((go_at_call 52; refine (HCH1.out _ (HPW.out _ (by repeat (first | exact Below.refl _ _ | assumption | apply Below.drew | refine below_drewN ?_ _ | apply Below.setCell _ (by first | omega | (simp; done) | (simp; omega)) | apply Below.alloc _ (by first | omega | (simp; done) | (simp; omega))))).1 (HPW.out _ (by repeat (first | exact Below.refl _ _ | assumption | apply Below.drew | refine below_drewN ?_ _ | apply Below.setCell _ (by first | omega | (simp; done) | (simp; omega)) | apply Below.alloc _ (by first | omega | (simp; done) | (simp; omega))))).2).mono ?_; rintro e w4 ⟨rfl, hB4⟩; have e0' := (hB4.cell (p := ⟨gs, 0, none⟩) (lt_of_heap HC.out.blk)).trans e0; have e1' := (hB4.cell (p := ⟨w.heap.size, 0, none⟩) (lt_of_heap HX.out)).trans e1))
        have hB34 : Below wr.heap.size wr w4 := by first | exact hB4 | exact past_drew hB4 | exact past_drewN hB4
        have HC4 := Lib.hid (HC.out.past hB34); have GB4 := Lib.hid (gb_below GB.out hB34); have HX4 := Lib.hid (blk_below HX.out hB34); have HR4 := Lib.hid (blk_below HR.out hB34); have H74 := Lib.hid (blk_below H7.out hB34)
        have e2 := blk_cell (j := 1) HX4.out
        simp at e2
        clear hB4 hB34 e0 e1 e0' e1' HC GB HX HR H7
        go_wp2_with (go_at_call 152; refine (HPUT1.out _ HC4.out.blk).mono ?_; rintro e w5 ⟨rfl, hB5⟩)
        refine wp_named (fun w6 => CS w0 gs gp bm W l w6 ∧ w.grownBy w6 (some bm) ∧ w6.heap[w.heap.size]? = some (.cells #[.int .i64 (i : Nat), .int .i64 (col : Nat)] 181 (0, 0)) ∧ w6.heap[w.heap.size + 1]? = some (.cells #[.int .i64 0, .int .i64 0, .int .i64 0] 178 (0, 0)) ∧ w6.heap[b7]? = some (.cells #[.int .i64 (pa0 : Nat), .int .i64 (pb0 : Nat), .int .i64 0] 178 (0, 0)) ∧ w6.heap[w5.heap.size]? = some (.cells #[.int .i64 (ea1 : Nat), .int .i64 (eb1 : Nat)] 47 (0, 0)))
          ⟨(HC4.out.past hB5).past ((Below.refl _ _).alloc (Nat.le_refl _) _), gb_alloc (gb_below GB4.out hB5) _, (Below.heap_alloc _ _ _ (lt_of_heap (blk_below HX4.out hB5))).trans (blk_below HX4.out hB5), (Below.heap_alloc _ _ _ (lt_of_heap (blk_below HR4.out hB5))).trans (blk_below HR4.out hB5), (Below.heap_alloc _ _ _ (lt_of_heap (blk_below H74.out hB5))).trans (blk_below H74.out hB5), heap_new rfl⟩ ?_
        rintro w6 ⟨hc6, hg6, hX6, hR6, h76, h116⟩
        obtain ⟨b11, hb11⟩ : ∃ b11, w5.heap.size = b11 := ⟨_, rfl⟩
        rw [hb11] at h116 ⊢
        have hb11' : b7 < b11 := by rw [← hb11]; exact lt_of_heap (blk_below H74.out hB5)
        clear hb11 hB5 e2 HC4 GB4 HX4 HR4 H74
        have f0 := blk_cell (j := 0) h116
        have f1 := blk_cell (j := 1) h116
        simp at f0 f1
        have hfld := course_cost
        have HC6 : Hid (∀ W', Below w6.heap.size w6 W' → CS w0 gs gp bm W l W') := Lib.hid (fun W' hb => hc6.past hb)
        have HG6 := Lib.hid hg6
        clear hc6 hg6
        go_region_with (first
            | (go_at_call 97; refine (HCP1.out _ (HC6.out _ (by repeat (first | exact Below.refl _ _ | assumption | apply Below.drew | refine below_drewN ?_ _ | apply Below.setCell _ (by first | omega | (simp; done) | (simp; omega)) | apply Below.alloc _ (by first | omega | (simp; done) | (simp; omega)))))).mono ?_; rintro e w7 ⟨rfl, hcs7, hg7⟩; have HC7 := Lib.hid hcs7; have HG7 := Lib.hid hg7; have h117 := blk_gb' hg7 h116 (by omega); have f0' := (show w7.cell? ⟨b11, 0, none⟩ = some (.int .i64 (ea1 : Nat)) from blk_cell (j := 0) h117); have f1' := (show w7.cell? ⟨b11, 1, none⟩ = some (.int .i64 (eb1 : Nat)) from blk_cell (j := 1) h117); clear hcs7 hg7)
            | (go_at_call 153; refine (HPL1.out _).mono ?_; rintro e w8 ⟨rfl, hB8⟩; have HB8 := Lib.hid hB8; have f0'' := (hB8.cell (p := ⟨b11, 0, none⟩) (lt_of_heap h117)).trans f0'; have f1'' := (hB8.cell (p := ⟨b11, 1, none⟩) (lt_of_heap h117)).trans f1'; have k0 := (hB8.frozen (p := ⟨b11, 0, none⟩) (lt_of_heap h117)).trans (blk_free (j := 0) h117); have k1 := (hB8.frozen (p := ⟨b11, 1, none⟩) (lt_of_heap h117)).trans (blk_free (j := 1) h117); clear hB8))
        all_goals
          have hB78 : Below w7.heap.size w7 w8 := by first | exact HB8.out | exact past_drew HB8.out | exact past_drewN HB8.out
          have gb7 : w.grownBy w7 (some bm) := grown_trans (by first | exact HG6.out | exact gb_drew HG6.out | exact gb_drewN HG6.out _) HG7.out
          have HG8 := Lib.hid (gb_below gb7 hB78)
          have HC8 := Lib.hid (HC7.out.past hB78)
          have hX8 := blk_below (blk_gb' HG7.out hX6 (by omega)) hB78
          have hR8 := blk_below (blk_gb' HG7.out hR6 (by omega)) hB78
          have h78 := blk_below (blk_gb' HG7.out h76 (by omega)) hB78
          have h118 := blk_below h117 hB78
          clear f0 f1 f0' f1' f0'' f1'' k0 k1 hfld h117 HB8 HG7 HC7 gb7 hB78 hX6 hR6 h76 h116 HC6 HG6
          refine then_named (fun w9 => CS w0 gs gp bm W l w9 ∧ w.grownBy w9 (some bm) ∧ w9.heap[w.heap.size]? = some (.cells #[.int .i64 (i : Nat), .int .i64 (col : Nat)] 181 (0, 0)) ∧ w9.heap[w.heap.size + 1]? = some (.cells #[.int .i64 0, .int .i64 0, .int .i64 0] 178 (0, 0)) ∧ w9.heap[b7]? = some (.cells #[.int .i64 (pa0 : Nat), .int .i64 (pb0 : Nat), .int .i64 0] 178 (0, 0)) ∧ w9.heap[b11]? = some (.cells #[.int .i64 (pa1 : Nat), .int .i64 (pb1 : Nat)] 47 (0, 0)))
            ⟨HC8.out.set2_ (by omega) (by omega) (by have := HCS.out.bel.size; omega) _ _, gb_set2 HG8.out (by omega) _ _, blk_far2 hX8 (by omega) _ _, blk_far2 hR8 (by omega) _ _, blk_far2 h78 (by omega) _ _, blk_set2 h118⟩ ?_
          rintro w9 ⟨hC9, gb9, hX9, hR9, h79, h119⟩
          have HC9 := Lib.hid hC9; have GB9 := Lib.hid gb9; have HX9 := Lib.hid hX9; have HR9 := Lib.hid hR9; have H79 := Lib.hid h79; have H119 := Lib.hid h119
          clear hC9 gb9 hX9 hR9 h79 h119 hX8 hR8 h78 h118 HC8 HG8
          have m0 := blk_cell (j := 0) H79.out
          have m1 := blk_cell (j := 1) H79.out
          have m2 := blk_cell (j := 2) H79.out
          have m3 := blk_cell (j := 0) H119.out
          have m4 := blk_cell (j := 1) H119.out
          have m5 := blk_free (j := 0) H79.out
          have m6 := blk_free (j := 1) H79.out
          have m7 := blk_free (j := 2) H79.out
          simp at m0 m1 m2 m3 m4

          go_wp2_with (go_at_call 154; refine (HUN.out _).mono ?_; rintro e w10 ⟨rfl, hB10⟩; have n3 := (hB10.cell (p := ⟨b11, 0, none⟩) (lt_of_heap H119.out)).trans m3; have n4 := (hB10.cell (p := ⟨b11, 1, none⟩) (lt_of_heap H119.out)).trans m4; have n0 := (hB10.cell (p := ⟨b7, 0, none⟩) (lt_of_heap H79.out)).trans m0; have n1 := (hB10.cell (p := ⟨b7, 1, none⟩) (lt_of_heap H79.out)).trans m1; have n2 := (hB10.cell (p := ⟨b7, 2, none⟩) (lt_of_heap H79.out)).trans m2; have n5 := (hB10.frozen (p := ⟨b7, 0, none⟩) (lt_of_heap H79.out)).trans m5; have n6 := (hB10.frozen (p := ⟨b7, 1, none⟩) (lt_of_heap H79.out)).trans m6; have n7 := (hB10.frozen (p := ⟨b7, 2, none⟩) (lt_of_heap H79.out)).trans m7)
          go_roundw
          case measure => simp [intOf]
          case rel => exact ⟨HC9.out.past hB10, gb_below GB9.out hB10, blk_below HX9.out hB10, blk_below HR9.out hB10, .inr (.inr ⟨by first | rfl | go_num, blk_below H79.out hB10⟩)⟩
      · have H7 := Lib.hid h7c
        clear h7c
        go_wp2_with fail
        obtain ⟨f', hm', hk'⟩ := HC.out.map
        obtain ⟨o, ho⟩ := hm'.store spotLaw Tryz.underlying174 HKL.out (.agg #[.int .i64 (pa0 : Nat), .int .i64 (pb0 : Nat), .int .i64 0])
        unfold spotV at ho
        have HO := Lib.hid ho
        have hk2 := HKN.out f' hk'
        have HK2 := Lib.hid hk2
        have hup : (Instr.mapUpdate 174 (.map (some bm)) (.agg #[.int .i64 (i : Nat), .int .i64 (col : Nat)]) (.agg #[.int .i64 (pa0 : Nat), .int .i64 (pb0 : Nat), .int .i64 0])).run Tryz.prog wr.drew = .ok () (setBlock wr.drew bm o) := (ho wr.drew rfl).1
        have v0 : wr.cell? ⟨gs, 2, none⟩ = some (.map (some bm)) := blk_cell (j := 2) HC.out.blk
        have v1 : wr.cell? ⟨w.heap.size, 0, none⟩ = some (.int .i64 (i : Nat)) := blk_cell (j := 0) HX.out
        have v2 : wr.cell? ⟨w.heap.size, 1, none⟩ = some (.int .i64 (col : Nat)) := blk_cell (j := 1) HX.out
        have v3 : wr.cell? ⟨b7, 0, none⟩ = some (.int .i64 (pa0 : Nat)) := blk_cell (j := 0) H7.out
        have v4 : wr.cell? ⟨b7, 1, none⟩ = some (.int .i64 (pb0 : Nat)) := blk_cell (j := 1) H7.out
        have v5 : wr.cell? ⟨b7, 2, none⟩ = some (.int .i64 0) := blk_cell (j := 2) H7.out
        have far : ∀ (g : Nat) (x : Obj), g ≠ bm → wr.heap[g]? = some x → (setBlock wr.drew bm o).heap[g]? = some x := fun g x hne hg => blk_gb' (HO.out wr.drew rfl).2.2 hg hne
        have FAR := Lib.hid far
        have u0 : (setBlock wr.drew bm o).cell? ⟨gs, 2, none⟩ = some (.map (some bm)) := blk_cell (j := 2) (far gs _ hms HC.out.blk)
        have u1 : (setBlock wr.drew bm o).cell? ⟨w.heap.size, 0, none⟩ = some (.int .i64 (i : Nat)) := blk_cell (j := 0) (far _ _ (by omega) HX.out)
        have u2 : (setBlock wr.drew bm o).cell? ⟨w.heap.size, 1, none⟩ = some (.int .i64 (col : Nat)) := blk_cell (j := 1) (far _ _ (by omega) HX.out)
        have u3 : (setBlock wr.drew bm o).cell? ⟨b7, 0, none⟩ = some (.int .i64 (pa0 : Nat)) := blk_cell (j := 0) (far _ _ (by omega) H7.out)
        have u4 : (setBlock wr.drew bm o).cell? ⟨b7, 1, none⟩ = some (.int .i64 (pb0 : Nat)) := blk_cell (j := 1) (far _ _ (by omega) H7.out)
        have u5' : (setBlock wr.drew bm o).cell? ⟨b7, 2, none⟩ = some (.int .i64 0) := blk_cell (j := 2) (far _ _ (by omega) H7.out)
        clear ho hk2 hk' hm' far
        go_region_held3 (fun w' => w'.cell? ⟨gs, 2, none⟩ = some (.map (some bm)) ∧ w'.cell? ⟨w.heap.size, 0, none⟩ = some (.int .i64 (i : Nat)) ∧ w'.cell? ⟨w.heap.size, 1, none⟩ = some (.int .i64 (col : Nat)) ∧ w'.cell? ⟨b7, 0, none⟩ = some (.int .i64 (pa0 : Nat)) ∧ w'.cell? ⟨b7, 1, none⟩ = some (.int .i64 (pb0 : Nat)) ∧ w'.cell? ⟨b7, 2, none⟩ = some (.int .i64 0))
          (first | exact ⟨v0, v1, v2, v3, v4, v5⟩ | exact ⟨u0, u1, u2, u3, u4, u5'⟩) (fail)
        clear hup u0 u1 u2 u3 u4 u5' v0 v1 v2 v3 v4 v5
        refine then_named (fun wy => CS w0 gs gp bm W l wy ∧ w.grownBy wy (some bm) ∧ wy.heap[w.heap.size + 1]? = some (.cells #[.int .i64 0, .int .i64 0, .int .i64 0] 178 (0, 0)) ∧ wy.heap[b7]? = some (.cells #[.int .i64 (pa0 : Nat), .int .i64 (pb0 : Nat), .int .i64 0] 178 (0, 0))) ⟨HC.out.store HO.out HK2.out 1, grown_trans (gb_drew GB.out) (HO.out wr.drew rfl).2.2, FAR.out _ _ (by omega) HR.out, FAR.out _ _ (by omega) H7.out⟩ ?_
        rintro wy ⟨hCy, gby, hRy, h7y⟩
        have a0 := blk_cell (j := 0) h7y
        have a1 := blk_cell (j := 1) h7y
        have a2 := blk_cell (j := 2) h7y
        have a3 := blk_cell (j := 0) hRy
        have a4 := blk_cell (j := 1) hRy
        have a5 := blk_cell (j := 2) hRy
        have a6 := blk_free (j := 0) hRy
        have a7 := blk_free (j := 1) hRy
        have a8 := blk_free (j := 2) hRy
        simp at a0 a1 a2 a3 a4 a5
        have HCY := Lib.hid hCy; have GBY := Lib.hid gby; have HRY := Lib.hid hRy
        clear hCy gby hRy h7y HX HR H7
        go_wp2
        have b0 := blk_set3 (p := .int .i64 (pa0 : Nat)) (q := .int .i64 (pb0 : Nat)) (r := .int .i64 0) HRY.out
        have b1 := blk_cell (j := 0) b0
        have b2 := blk_cell (j := 1) b0
        have b3 := blk_cell (j := 2) b0
        simp at b1 b2 b3
        simp [bodyPost, results, Tryz.results97, go_sem, b1, b2, b3]
        refine ⟨?_, HCY.out.set3_ (by omega) (by omega) (by have := HCS.out.bel.size; omega) _ _ _, gb_set3 GBY.out (by omega) _ _ _⟩
        rfl

set_option maxRecDepth 100000 in
set_option maxHeartbeats 16000000 in
theorem ask_second {l : List Nd} (h400 : l.length ≤ 400) {gp : Nat} {A : Option Addr} {c : Nat} (w0 : World) (hpl : IsPlan w0 gp A c l) (hnl : Nds w0 w0.heap.size A l) {gs bm W : Nat} {i col : Nat} {w : World} (hcs : CS w0 gs gp bm W l w) (hcol : col ≤ 2000000)
    {f : Value → Option Value} (hmf : MapF Tryz.prog 181 f bm w) (hv : f (spotV i col) = none) (hlt : i < l.length) {t0 t1 : ByteArray} {i0 i1 ea0 eb0 col0 da0 db0 pa0 pb0 ea1 eb1 col1 da1 db1 pa1 pb1 : Nat} {ch0 ch1 : Int}
    (hpc : ∀ w, IsPlan w gp A c l → Nds w w.heap.size A l → Calls Tryz.prog 51 #[.pointer (some ⟨gp, 0, none⟩), .int .i64 i] w (Ret w (.tuple #[.string t1, .int .i64 (i : Nat), .bool true])))
    (hch0 : ∀ w, IsPlan w gp A c l → Nds w w.heap.size A l → Calls Tryz.prog 52 #[.pointer (some ⟨gp, 0, none⟩), .int .i64 i, .int .i64 0] w (Ret w (.tuple #[.string t0, .int .i64 (i0 : Nat), .bool true])))
    (hch1 : ∀ w, IsPlan w gp A c l → Nds w w.heap.size A l → Calls Tryz.prog 52 #[.pointer (some ⟨gp, 0, none⟩), .int .i64 i, .int .i64 1] w (Ret w (.tuple #[.string t1, .int .i64 (i1 : Nat), .bool true])))
    (hput0 : ∀ W' : World, W'.heap[gs]? = some (.cells #[.pointer (some ⟨gp, 0, none⟩), .int .i64 (W : Nat), .map (some bm)] 176 (0, 0)) → Calls Tryz.prog 152 #[.pointer (some ⟨gs, 0, none⟩), .string t0, .int .i64 (col : Nat)] W' (Ret W' (.tuple #[.agg #[.int .i64 (ea0 : Nat), .int .i64 (eb0 : Nat)], .int .i64 (col0 : Nat)])))
    (hcp0 : ∀ W' : World, CS w0 gs gp bm W l W' → Calls Tryz.prog 97 #[.pointer (some ⟨gs, 0, none⟩), .agg #[.int .i64 (i0 : Nat), .int .i64 (col0 : Nat)]] W' (CheapTo w0 gs gp bm W l (.agg #[.int .i64 (da0 : Nat), .int .i64 (db0 : Nat), .int .i64 ch0]) W'))
    (hpl0 : ∀ W' : World, Calls Tryz.prog 153 #[.agg #[.int .i64 (ea0 : Nat), .int .i64 (eb0 : Nat)], .agg #[.int .i64 (da0 : Nat), .int .i64 (db0 : Nat)]] W' (Ret W' (.agg #[.int .i64 (pa0 : Nat), .int .i64 (pb0 : Nat)])))
    (hput1 : ∀ W' : World, W'.heap[gs]? = some (.cells #[.pointer (some ⟨gp, 0, none⟩), .int .i64 (W : Nat), .map (some bm)] 176 (0, 0)) → Calls Tryz.prog 152 #[.pointer (some ⟨gs, 0, none⟩), .string t1, .int .i64 (col : Nat)] W' (Ret W' (.tuple #[.agg #[.int .i64 (ea1 : Nat), .int .i64 (eb1 : Nat)], .int .i64 (col1 : Nat)])))
    (hcp1 : ∀ W' : World, CS w0 gs gp bm W l W' → Calls Tryz.prog 97 #[.pointer (some ⟨gs, 0, none⟩), .agg #[.int .i64 (i1 : Nat), .int .i64 (col1 : Nat)]] W' (CheapTo w0 gs gp bm W l (.agg #[.int .i64 (da1 : Nat), .int .i64 (db1 : Nat), .int .i64 ch1]) W'))
    (hpl1 : ∀ W' : World, Calls Tryz.prog 153 #[.agg #[.int .i64 (ea1 : Nat), .int .i64 (eb1 : Nat)], .agg #[.int .i64 (da1 : Nat), .int .i64 (db1 : Nat)]] W' (Ret W' (.agg #[.int .i64 (pa1 : Nat), .int .i64 (pb1 : Nat)])))
    (hun : ∀ W' : World, Calls Tryz.prog 154 #[.agg #[.int .i64 (pa1 : Nat), .int .i64 (pb1 : Nat)], .agg #[.int .i64 (pa0 : Nat), .int .i64 (pb0 : Nat)]] W' (Ret W' (.bool true)))
    (hkn : ∀ f' : Value → Option Value, KnownC l W f' → KnownC l W (putF f' (.agg #[.int .i64 (i : Nat), .int .i64 (col : Nat)]) (.agg #[.int .i64 (pa1 : Nat), .int .i64 (pb1 : Nat), .int .i64 1]))) :
    Calls Tryz.prog 97 #[.pointer (some ⟨gs, 0, none⟩), spotV i col] w (CheapTo w0 gs gp bm W l (.agg #[.int .i64 (pa1 : Nat), .int .i64 (pb1 : Nat), .int .i64 1]) w) := by
  obtain ⟨kl, hkl⟩ := spot_key (i := i) (col := col) (by omega) (by omega)
  have HPC := Lib.hid hpc; have HCH0 := Lib.hid hch0; have HCH1 := Lib.hid hch1; have HPUT1 := Lib.hid hput1; have HCP1 := Lib.hid hcp1; have HPL1 := Lib.hid hpl1; have HKN := Lib.hid hkn
  have HPUT0 := Lib.hid hput0; have HCP0 := Lib.hid hcp0; have HPL0 := Lib.hid hpl0
  clear hput0 hcp0 hpl0
  have HUN := Lib.hid hun
  clear hun
  clear hpc hch0 hch1 hput1 hcp1 hpl1 hkn
  have hml := hcs.mlt
  have hms := hcs.ms
  have hsl := lt_of_heap hcs.blk
  obtain ⟨gn, gd, ge, gf', gi, cf, ci, hpa⟩ := hpl.past hcs.bel
  have z0 := hpa.c0
  have hgp := hpa.lp
  have hne : ((i : Int) == (l.length : Int)) = false := by rw [beq_eq_false_iff_ne]; omega
  have y0 := blk_cell (j := 0) hcs.blk
  have y2 := blk_cell (j := 2) hcs.blk
  simp at y0 y2
  have hb1 : ∀ o1 o2, Below w.heap.size w ((w.alloc o1).alloc o2) := fun o1 o2 => ((Below.refl _ _).alloc (Nat.le_refl _) _).alloc (by simp) _
  have HW : ∀ (o2 : Obj) W', Below (((w.alloc (.cells #[.int .i64 (i : Nat), .int .i64 (col : Nat)] 181)).alloc o2).heap.size) ((w.alloc (.cells #[.int .i64 (i : Nat), .int .i64 (col : Nat)] 181)).alloc o2) W' → HeadIs gs gp bm A c l.length w.heap.size i col f W' := fun o2 W' hW' => by
    refine HeadIs.past (((hb1 _ _).cell (p := ⟨gs, 0, none⟩) hsl).trans y0) (((hb1 _ _).cell (p := ⟨gs, 2, none⟩) hsl).trans y2) (((hb1 _ _).cell (p := ⟨gp, 0, none⟩) hgp).trans z0) ?_ (hmf.below (hb1 _ _)) (by simp; omega) (by simp; omega) hkl hW'
    exact (Below.heap_alloc _ _ _ (by simp)).trans (heap_new rfl)
  unfold HeadIs at HW
  simp only [hv, Option.getD_none, Option.isSome_none] at HW
  unfold spotV
  have HBX : Hid (∀ W', Below (((w.alloc (.cells #[.int .i64 (i : Nat), .int .i64 (col : Nat)] 181)).alloc (.cells #[.int .i64 0, .int .i64 0, .int .i64 0] 178)).heap.size) ((w.alloc (.cells #[.int .i64 (i : Nat), .int .i64 (col : Nat)] 181)).alloc (.cells #[.int .i64 0, .int .i64 0, .int .i64 0] 178)) W' → W'.heap[w.heap.size]? = some (.cells #[.int .i64 (i : Nat), .int .i64 (col : Nat)] 181 (0, 0)) ∧ W'.heap[w.heap.size + 1]? = some (.cells #[.int .i64 0, .int .i64 0, .int .i64 0] 178 (0, 0))) :=
    Lib.hid (fun W' hb => ⟨blk_below ((Below.heap_alloc _ _ _ (by simp)).trans (heap_new rfl)) hb, blk_below (heap_new (by simp)) hb⟩)
  have HGS : Hid (∀ W', Below w.heap.size w W' → W'.heap[gs]? = some (.cells #[.pointer (some ⟨gp, 0, none⟩), .int .i64 (W : Nat), .map (some bm)] 176 (0, 0))) := Lib.hid (fun W' hb => blk_below hcs.blk hb)
  have HWW := Lib.hid HW
  have HCS := Lib.hid hcs; have HKL := Lib.hid hkl
  have HPN : Hid (∀ W', Below w0.heap.size w0 W' → IsPlan W' gp A c l ∧ Nds W' W'.heap.size A l) := Lib.hid (fun W' hb => ⟨hpl.past hb, hnl.past hb⟩)
  have HPN1 : Hid (∀ W', Below w.heap.size w W' → IsPlan W' gp A c l ∧ Nds W' W'.heap.size A l) := Lib.hid (fun W' hb => HPN.out W' (hcs.bel.trans (hb.mono hcs.bel.size)))
  clear HW hpa hkl hcs hmf hv hpl y0 y2 z0 hnl
  go_enter Tryz.func97, Tryz.ntmps97
  go_wp2
  obtain ⟨q0, q2, z0, x0, x1, hl⟩ := HWW.out (.cells #[.int .i64 0, .int .i64 0, .int .i64 0] 178) _ (Below.refl _ _)
  clear hl
  go_quiet (fail)
  go_upto_region 3 with fail
  have hlk : ∀ n : Nat, (Instr.lookup 174 (.map (some bm)) (.agg #[.int .i64 (i : Nat), .int .i64 (col : Nat)]) true).run Tryz.prog (((w.alloc (.cells #[.int .i64 (i : Nat), .int .i64 (col : Nat)] 181)).alloc (.cells #[.int .i64 0, .int .i64 0, .int .i64 0] 178)).drewN n) = .ok (.tuple #[.agg #[.int .i64 0, .int .i64 0, .int .i64 0], .bool false]) (((w.alloc (.cells #[.int .i64 (i : Nat), .int .i64 (col : Nat)] 181)).alloc (.cells #[.int .i64 0, .int .i64 0, .int .i64 0] 178)).drewN n) :=
    fun n => (HWW.out _ _ (below_drewN (Below.refl _ _) n)).2.2.2.2.2
  have hlk2 : ∀ n : Nat, (Instr.lookup 174 (.map (some bm)) (.agg #[.int .i64 (i : Nat), .int .i64 (col : Nat)]) true).run Tryz.prog ((((w.alloc (.cells #[.int .i64 (i : Nat), .int .i64 (col : Nat)] 181)).alloc (.cells #[.int .i64 0, .int .i64 0, .int .i64 0] 178)).drewN n).alloc (.cells #[.int .i64 0, .int .i64 0, .int .i64 0] 178)) = .ok (.tuple #[.agg #[.int .i64 0, .int .i64 0, .int .i64 0], .bool false]) ((((w.alloc (.cells #[.int .i64 (i : Nat), .int .i64 (col : Nat)] 181)).alloc (.cells #[.int .i64 0, .int .i64 0, .int .i64 0] 178)).drewN n).alloc (.cells #[.int .i64 0, .int .i64 0, .int .i64 0] 178)) :=
    fun n => (HWW.out (.cells #[.int .i64 0, .int .i64 0, .int .i64 0] 178) ((((w.alloc (.cells #[.int .i64 (i : Nat), .int .i64 (col : Nat)] 181)).alloc (.cells #[.int .i64 0, .int .i64 0, .int .i64 0] 178)).drewN n).alloc (.cells #[.int .i64 0, .int .i64 0, .int .i64 0] 178)) (by repeat (first | exact Below.refl _ _ | assumption | apply Below.drew | refine below_drewN ?_ _ | apply Below.setCell _ (by first | omega | (simp; done) | (simp; omega)) | apply Below.alloc _ (by first | omega | (simp; done) | (simp; omega))))).2.2.2.2.2
  go_cut [6] from 31 to 39 (fun s6 wx => s6 = .bool false ∧ Below w.heap.size w wx ∧ wx.heap[w.heap.size]? = some (.cells #[.int .i64 (i : Nat), .int .i64 (col : Nat)] 181 (0, 0)) ∧ wx.heap[w.heap.size + 1]? = some (.cells #[.int .i64 0, .int .i64 0, .int .i64 0] 178 (0, 0)))
  case first =>
    go_region_held3 (fun w' => w'.cell? ⟨gs, 2, none⟩ = some (.map (some bm)) ∧ w'.cell? ⟨w.heap.size, 0, none⟩ = some (.int .i64 (i : Nat)) ∧ w'.cell? ⟨w.heap.size, 1, none⟩ = some (.int .i64 (col : Nat)))
      (exact ⟨(HWW.out (.cells #[.int .i64 0, .int .i64 0, .int .i64 0] 178) _ (by repeat (first | exact Below.refl _ _ | assumption | apply Below.drew | refine below_drewN ?_ _ | apply Below.setCell _ (by first | omega | (simp; done) | (simp; omega)) | apply Below.alloc _ (by first | omega | (simp; done) | (simp; omega))))).2.1, (HWW.out (.cells #[.int .i64 0, .int .i64 0, .int .i64 0] 178) _ (by repeat (first | exact Below.refl _ _ | assumption | apply Below.drew | refine below_drewN ?_ _ | apply Below.setCell _ (by first | omega | (simp; done) | (simp; omega)) | apply Below.alloc _ (by first | omega | (simp; done) | (simp; omega))))).2.2.2.1, (HWW.out (.cells #[.int .i64 0, .int .i64 0, .int .i64 0] 178) _ (by repeat (first | exact Below.refl _ _ | assumption | apply Below.drew | refine below_drewN ?_ _ | apply Below.setCell _ (by first | omega | (simp; done) | (simp; omega)) | apply Below.alloc _ (by first | omega | (simp; done) | (simp; omega))))).2.2.2.2.1⟩) (fail)
    all_goals
      go_wp2_with fail
      go_meet
      case rel => exact ⟨rfl, (by repeat (first | exact Below.refl _ _ | assumption | apply Below.drew | refine below_drewN ?_ _ | apply Below.setCell _ (by first | omega | (simp; done) | (simp; omega)) | apply Below.alloc _ (by first | omega | (simp; done) | (simp; omega)))), (HBX.out _ (by repeat (first | exact Below.refl _ _ | assumption | apply Below.drew | refine below_drewN ?_ _ | apply Below.setCell _ (by first | omega | (simp; done) | (simp; omega)) | apply Below.alloc _ (by first | omega | (simp; done) | (simp; omega))))).1, (HBX.out _ (by repeat (first | exact Below.refl _ _ | assumption | apply Below.drew | refine below_drewN ?_ _ | apply Below.setCell _ (by first | omega | (simp; done) | (simp; omega)) | apply Below.alloc _ (by first | omega | (simp; done) | (simp; omega))))).2⟩
  case rest =>
    obtain ⟨rfl, hBx, hX, hR⟩ := hcut
    clear hlk hlk2 x0 x1 z0 q0 q2 HBX HWW
    go_wp2_with fail
    refine wp_named (fun w3 => Below w.heap.size w w3 ∧ w3.heap[w.heap.size]? = some (.cells #[.int .i64 (i : Nat), .int .i64 (col : Nat)] 181 (0, 0)) ∧ w3.heap[w.heap.size + 1]? = some (.cells #[.int .i64 0, .int .i64 0, .int .i64 0] 178 (0, 0)) ∧ w3.heap[wc.heap.size]? = some (.cells #[.int .i64 0, .int .i64 0, .int .i64 (-1)] 178 (0, 0)))
      ⟨hBx.alloc hBx.size _, (Below.heap_alloc _ _ _ (lt_of_heap hX)).trans hX, (Below.heap_alloc _ _ _ (lt_of_heap hR)).trans hR, heap_new rfl⟩ ?_
    rintro w3 ⟨hB3, hX3, hR3, h73⟩
    obtain ⟨b7, hb7⟩ : ∃ b7, wc.heap.size = b7 := ⟨_, rfl⟩
    rw [hb7] at h73 ⊢
    have hb7' : w.heap.size + 2 ≤ b7 := by rw [← hb7]; exact lt_of_heap hR
    clear hb7 hX hR hBx
    have e0 := blk_cell (j := 0) (HGS.out w3 hB3)
    have e1 := blk_cell (j := 0) hX3
    simp at e0 e1
    go_region_held3 (fun w' => w'.cell? ⟨gs, 0, none⟩ = some (.pointer (some ⟨gp, 0, none⟩)) ∧ w'.cell? ⟨w.heap.size, 0, none⟩ = some (.int .i64 (i : Nat)))
      (first | exact ⟨e0, e1⟩ | exact ⟨e0', e1'⟩)
      ((go_at_call 51; refine (HPC.out _ (HPN1.out _ (by repeat (first | exact Below.refl _ _ | assumption | apply Below.drew | refine below_drewN ?_ _ | apply Below.setCell _ (by first | omega | (simp; done) | (simp; omega)) | apply Below.alloc _ (by first | omega | (simp; done) | (simp; omega))))).1 (HPN1.out _ (by repeat (first | exact Below.refl _ _ | assumption | apply Below.drew | refine below_drewN ?_ _ | apply Below.setCell _ (by first | omega | (simp; done) | (simp; omega)) | apply Below.alloc _ (by first | omega | (simp; done) | (simp; omega))))).2).mono ?_; rintro e w4 ⟨rfl, hB4⟩; have e0' := (hB4.cell (p := ⟨gs, 0, none⟩) (lt_of_heap (HGS.out w3 hB3))).trans e0; have e1' := (hB4.cell (p := ⟨w.heap.size, 0, none⟩) (lt_of_heap hX3)).trans e1))
    have hB34 : Below w3.heap.size w3 w4 := by first | exact hB4 | exact past_drew hB4 | exact past_drewN hB4
    have HC4 := Lib.hid (HCS.out.past (hB3.trans (hB34.mono hB3.size)))
    have GB4 := Lib.hid (gb_of_below (hB3.trans (hB34.mono hB3.size)) bm)
    have HX4 := Lib.hid (blk_below hX3 hB34)
    have HR4 := Lib.hid (blk_below hR3 hB34)
    have H74 := Lib.hid (blk_below h73 hB34)
    clear hB4 hB34 hB3 hX3 hR3 h73 e0 e1 e0' e1'
    go_wp2_with fail
    go_loopw [13] (fun s13 wr => CS w0 gs gp bm W l wr ∧ w.grownBy wr (some bm) ∧ wr.heap[w.heap.size]? = some (.cells #[.int .i64 (i : Nat), .int .i64 (col : Nat)] 181 (0, 0)) ∧ wr.heap[w.heap.size + 1]? = some (.cells #[.int .i64 0, .int .i64 0, .int .i64 0] 178 (0, 0)) ∧ ((s13 = .int .i64 0 ∧ wr.heap[b7]? = some (.cells #[.int .i64 0, .int .i64 0, .int .i64 (-1)] 178 (0, 0))) ∨ (s13 = .int .i64 1 ∧ wr.heap[b7]? = some (.cells #[.int .i64 (pa0 : Nat), .int .i64 (pb0 : Nat), .int .i64 0] 178 (0, 0))) ∨ (s13 = .int .i64 2 ∧ wr.heap[b7]? = some (.cells #[.int .i64 (pa1 : Nat), .int .i64 (pb1 : Nat), .int .i64 1] 178 (0, 0))))) (fun s13 _ => 2 - (intOf s13).toNat)
    case atStart => exact ⟨HC4.out, GB4.out, HX4.out, HR4.out, .inl ⟨rfl, H74.out⟩⟩
    case round =>
      obtain ⟨hcr, hgr, hxr, hrr, h7r⟩ := hrel
      have HC := Lib.hid hcr; have GB := Lib.hid hgr; have HX := Lib.hid hxr; have HR := Lib.hid hrr
      have HPW : Hid (∀ W', Below wr.heap.size wr W' → IsPlan W' gp A c l ∧ Nds W' W'.heap.size A l) := Lib.hid (fun W' hb => HPN.out W' (hcr.bel.trans (hb.mono hcr.bel.size)))
      clear hcr hgr hxr hrr HC4 GB4 HX4 HR4 H74
      rcases h7r with ⟨rfl, h7c⟩ | ⟨rfl, h7c⟩ | ⟨rfl, h7c⟩
      · have H7 := Lib.hid h7c
        clear h7c
        have e0 := blk_cell (j := 0) HC.out.blk
        have e1 := blk_cell (j := 0) HX.out
        simp at e0 e1
        go_wp2_with fail
        go_region_held3 (fun w' => w'.cell? ⟨gs, 0, none⟩ = some (.pointer (some ⟨gp, 0, none⟩)) ∧ w'.cell? ⟨w.heap.size, 0, none⟩ = some (.int .i64 (i : Nat)))
          (first | exact ⟨e0, e1⟩ | exact ⟨e0', e1'⟩)
          ((go_at_call 52; refine (HCH0.out _ (HPW.out _ (by repeat (first | exact Below.refl _ _ | assumption | apply Below.drew | refine below_drewN ?_ _ | apply Below.setCell _ (by first | omega | (simp; done) | (simp; omega)) | apply Below.alloc _ (by first | omega | (simp; done) | (simp; omega))))).1 (HPW.out _ (by repeat (first | exact Below.refl _ _ | assumption | apply Below.drew | refine below_drewN ?_ _ | apply Below.setCell _ (by first | omega | (simp; done) | (simp; omega)) | apply Below.alloc _ (by first | omega | (simp; done) | (simp; omega))))).2).mono ?_; rintro e w4 ⟨rfl, hB4⟩; have e0' := (hB4.cell (p := ⟨gs, 0, none⟩) (lt_of_heap HC.out.blk)).trans e0; have e1' := (hB4.cell (p := ⟨w.heap.size, 0, none⟩) (lt_of_heap HX.out)).trans e1))
        have hB34 : Below wr.heap.size wr w4 := by first | exact hB4 | exact past_drew hB4 | exact past_drewN hB4
        have HC4 := Lib.hid (HC.out.past hB34); have GB4 := Lib.hid (gb_below GB.out hB34); have HX4 := Lib.hid (blk_below HX.out hB34); have HR4 := Lib.hid (blk_below HR.out hB34); have H74 := Lib.hid (blk_below H7.out hB34)
        have e2 := blk_cell (j := 1) HX4.out
        simp at e2
        clear hB4 hB34 e0 e1 e0' e1' HC GB HX HR H7
        go_wp2_with (go_at_call 152; refine (HPUT0.out _ HC4.out.blk).mono ?_; rintro e w5 ⟨rfl, hB5⟩)
        refine wp_named (fun w6 => CS w0 gs gp bm W l w6 ∧ w.grownBy w6 (some bm) ∧ w6.heap[w.heap.size]? = some (.cells #[.int .i64 (i : Nat), .int .i64 (col : Nat)] 181 (0, 0)) ∧ w6.heap[w.heap.size + 1]? = some (.cells #[.int .i64 0, .int .i64 0, .int .i64 0] 178 (0, 0)) ∧ w6.heap[b7]? = some (.cells #[.int .i64 0, .int .i64 0, .int .i64 (-1)] 178 (0, 0)) ∧ w6.heap[w5.heap.size]? = some (.cells #[.int .i64 (ea0 : Nat), .int .i64 (eb0 : Nat)] 47 (0, 0)))
          ⟨(HC4.out.past hB5).past ((Below.refl _ _).alloc (Nat.le_refl _) _), gb_alloc (gb_below GB4.out hB5) _, (Below.heap_alloc _ _ _ (lt_of_heap (blk_below HX4.out hB5))).trans (blk_below HX4.out hB5), (Below.heap_alloc _ _ _ (lt_of_heap (blk_below HR4.out hB5))).trans (blk_below HR4.out hB5), (Below.heap_alloc _ _ _ (lt_of_heap (blk_below H74.out hB5))).trans (blk_below H74.out hB5), heap_new rfl⟩ ?_
        rintro w6 ⟨hc6, hg6, hX6, hR6, h76, h116⟩
        obtain ⟨b11, hb11⟩ : ∃ b11, w5.heap.size = b11 := ⟨_, rfl⟩
        rw [hb11] at h116 ⊢
        have hb11' : b7 < b11 := by rw [← hb11]; exact lt_of_heap (blk_below H74.out hB5)
        clear hb11 hB5 e2 HC4 GB4 HX4 HR4 H74
        have f0 := blk_cell (j := 0) h116
        have f1 := blk_cell (j := 1) h116
        simp at f0 f1
        have hfld := course_cost
        have HC6 : Hid (∀ W', Below w6.heap.size w6 W' → CS w0 gs gp bm W l W') := Lib.hid (fun W' hb => hc6.past hb)
        have HG6 := Lib.hid hg6
        clear hc6 hg6
        go_region_with (first
            | (go_at_call 97; refine (HCP0.out _ (HC6.out _ (by repeat (first | exact Below.refl _ _ | assumption | apply Below.drew | refine below_drewN ?_ _ | apply Below.setCell _ (by first | omega | (simp; done) | (simp; omega)) | apply Below.alloc _ (by first | omega | (simp; done) | (simp; omega)))))).mono ?_; rintro e w7 ⟨rfl, hcs7, hg7⟩; have HC7 := Lib.hid hcs7; have HG7 := Lib.hid hg7; have h117 := blk_gb' hg7 h116 (by omega); have f0' := (show w7.cell? ⟨b11, 0, none⟩ = some (.int .i64 (ea0 : Nat)) from blk_cell (j := 0) h117); have f1' := (show w7.cell? ⟨b11, 1, none⟩ = some (.int .i64 (eb0 : Nat)) from blk_cell (j := 1) h117); clear hcs7 hg7)
            | (go_at_call 153; refine (HPL0.out _).mono ?_; rintro e w8 ⟨rfl, hB8⟩; have HB8 := Lib.hid hB8; have f0'' := (hB8.cell (p := ⟨b11, 0, none⟩) (lt_of_heap h117)).trans f0'; have f1'' := (hB8.cell (p := ⟨b11, 1, none⟩) (lt_of_heap h117)).trans f1'; have k0 := (hB8.frozen (p := ⟨b11, 0, none⟩) (lt_of_heap h117)).trans (blk_free (j := 0) h117); have k1 := (hB8.frozen (p := ⟨b11, 1, none⟩) (lt_of_heap h117)).trans (blk_free (j := 1) h117); clear hB8))
        all_goals
          have hB78 : Below w7.heap.size w7 w8 := by first | exact HB8.out | exact past_drew HB8.out | exact past_drewN HB8.out
          have gb7 : w.grownBy w7 (some bm) := grown_trans (by first | exact HG6.out | exact gb_drew HG6.out | exact gb_drewN HG6.out _) HG7.out
          have HG8 := Lib.hid (gb_below gb7 hB78)
          have HC8 := Lib.hid (HC7.out.past hB78)
          have hX8 := blk_below (blk_gb' HG7.out hX6 (by omega)) hB78
          have hR8 := blk_below (blk_gb' HG7.out hR6 (by omega)) hB78
          have h78 := blk_below (blk_gb' HG7.out h76 (by omega)) hB78
          have h118 := blk_below h117 hB78
          clear f0 f1 f0' f1' f0'' f1'' k0 k1 hfld h117 HB8 HG7 HC7 gb7 hB78 hX6 hR6 h76 h116 HC6 HG6
          refine then_named (fun w9 => CS w0 gs gp bm W l w9 ∧ w.grownBy w9 (some bm) ∧ w9.heap[w.heap.size]? = some (.cells #[.int .i64 (i : Nat), .int .i64 (col : Nat)] 181 (0, 0)) ∧ w9.heap[w.heap.size + 1]? = some (.cells #[.int .i64 0, .int .i64 0, .int .i64 0] 178 (0, 0)) ∧ w9.heap[b7]? = some (.cells #[.int .i64 0, .int .i64 0, .int .i64 (-1)] 178 (0, 0)) ∧ w9.heap[b11]? = some (.cells #[.int .i64 (pa0 : Nat), .int .i64 (pb0 : Nat)] 47 (0, 0)))
            ⟨HC8.out.set2_ (by omega) (by omega) (by have := HCS.out.bel.size; omega) _ _, gb_set2 HG8.out (by omega) _ _, blk_far2 hX8 (by omega) _ _, blk_far2 hR8 (by omega) _ _, blk_far2 h78 (by omega) _ _, blk_set2 h118⟩ ?_
          rintro w9 ⟨hC9, gb9, hX9, hR9, h79, h119⟩
          have HC9 := Lib.hid hC9; have GB9 := Lib.hid gb9; have HX9 := Lib.hid hX9; have HR9 := Lib.hid hR9; have H79 := Lib.hid h79; have H119 := Lib.hid h119
          clear hC9 gb9 hX9 hR9 h79 h119 hX8 hR8 h78 h118 HC8 HG8
          have m0 := blk_cell (j := 0) H79.out
          have m1 := blk_cell (j := 1) H79.out
          have m2 := blk_cell (j := 2) H79.out
          have m3 := blk_cell (j := 0) H119.out
          have m4 := blk_cell (j := 1) H119.out
          have m5 := blk_free (j := 0) H79.out
          have m6 := blk_free (j := 1) H79.out
          have m7 := blk_free (j := 2) H79.out
          simp at m0 m1 m2 m3 m4

          go_wp2_with fail
          go_roundw
          case measure => simp [intOf]
          case rel => exact ⟨HC9.out.set3_ (by omega) (by omega) (by have := HCS.out.bel.size; omega) _ _ _, gb_set3 GB9.out (by omega) _ _ _, blk_far3 HX9.out (by omega) _ _ _, blk_far3 HR9.out (by omega) _ _ _, .inr (.inl ⟨by first | rfl | go_num, blk_set3 H79.out⟩)⟩
      · have H7 := Lib.hid h7c
        clear h7c
        have e0 := blk_cell (j := 0) HC.out.blk
        have e1 := blk_cell (j := 0) HX.out
        simp at e0 e1
        go_wp2_with fail
        go_region_held3 (fun w' => w'.cell? ⟨gs, 0, none⟩ = some (.pointer (some ⟨gp, 0, none⟩)) ∧ w'.cell? ⟨w.heap.size, 0, none⟩ = some (.int .i64 (i : Nat)))
          (first | exact ⟨e0, e1⟩ | exact ⟨e0', e1'⟩)
          ((go_at_call 52; refine (HCH1.out _ (HPW.out _ (by repeat (first | exact Below.refl _ _ | assumption | apply Below.drew | refine below_drewN ?_ _ | apply Below.setCell _ (by first | omega | (simp; done) | (simp; omega)) | apply Below.alloc _ (by first | omega | (simp; done) | (simp; omega))))).1 (HPW.out _ (by repeat (first | exact Below.refl _ _ | assumption | apply Below.drew | refine below_drewN ?_ _ | apply Below.setCell _ (by first | omega | (simp; done) | (simp; omega)) | apply Below.alloc _ (by first | omega | (simp; done) | (simp; omega))))).2).mono ?_; rintro e w4 ⟨rfl, hB4⟩; have e0' := (hB4.cell (p := ⟨gs, 0, none⟩) (lt_of_heap HC.out.blk)).trans e0; have e1' := (hB4.cell (p := ⟨w.heap.size, 0, none⟩) (lt_of_heap HX.out)).trans e1))
        have hB34 : Below wr.heap.size wr w4 := by first | exact hB4 | exact past_drew hB4 | exact past_drewN hB4
        have HC4 := Lib.hid (HC.out.past hB34); have GB4 := Lib.hid (gb_below GB.out hB34); have HX4 := Lib.hid (blk_below HX.out hB34); have HR4 := Lib.hid (blk_below HR.out hB34); have H74 := Lib.hid (blk_below H7.out hB34)
        have e2 := blk_cell (j := 1) HX4.out
        simp at e2
        clear hB4 hB34 e0 e1 e0' e1' HC GB HX HR H7
        go_wp2_with (go_at_call 152; refine (HPUT1.out _ HC4.out.blk).mono ?_; rintro e w5 ⟨rfl, hB5⟩)
        refine wp_named (fun w6 => CS w0 gs gp bm W l w6 ∧ w.grownBy w6 (some bm) ∧ w6.heap[w.heap.size]? = some (.cells #[.int .i64 (i : Nat), .int .i64 (col : Nat)] 181 (0, 0)) ∧ w6.heap[w.heap.size + 1]? = some (.cells #[.int .i64 0, .int .i64 0, .int .i64 0] 178 (0, 0)) ∧ w6.heap[b7]? = some (.cells #[.int .i64 (pa0 : Nat), .int .i64 (pb0 : Nat), .int .i64 0] 178 (0, 0)) ∧ w6.heap[w5.heap.size]? = some (.cells #[.int .i64 (ea1 : Nat), .int .i64 (eb1 : Nat)] 47 (0, 0)))
          ⟨(HC4.out.past hB5).past ((Below.refl _ _).alloc (Nat.le_refl _) _), gb_alloc (gb_below GB4.out hB5) _, (Below.heap_alloc _ _ _ (lt_of_heap (blk_below HX4.out hB5))).trans (blk_below HX4.out hB5), (Below.heap_alloc _ _ _ (lt_of_heap (blk_below HR4.out hB5))).trans (blk_below HR4.out hB5), (Below.heap_alloc _ _ _ (lt_of_heap (blk_below H74.out hB5))).trans (blk_below H74.out hB5), heap_new rfl⟩ ?_
        rintro w6 ⟨hc6, hg6, hX6, hR6, h76, h116⟩
        obtain ⟨b11, hb11⟩ : ∃ b11, w5.heap.size = b11 := ⟨_, rfl⟩
        rw [hb11] at h116 ⊢
        have hb11' : b7 < b11 := by rw [← hb11]; exact lt_of_heap (blk_below H74.out hB5)
        clear hb11 hB5 e2 HC4 GB4 HX4 HR4 H74
        have f0 := blk_cell (j := 0) h116
        have f1 := blk_cell (j := 1) h116
        simp at f0 f1
        have hfld := course_cost
        have HC6 : Hid (∀ W', Below w6.heap.size w6 W' → CS w0 gs gp bm W l W') := Lib.hid (fun W' hb => hc6.past hb)
        have HG6 := Lib.hid hg6
        clear hc6 hg6
        go_region_with (first
            | (go_at_call 97; refine (HCP1.out _ (HC6.out _ (by repeat (first | exact Below.refl _ _ | assumption | apply Below.drew | refine below_drewN ?_ _ | apply Below.setCell _ (by first | omega | (simp; done) | (simp; omega)) | apply Below.alloc _ (by first | omega | (simp; done) | (simp; omega)))))).mono ?_; rintro e w7 ⟨rfl, hcs7, hg7⟩; have HC7 := Lib.hid hcs7; have HG7 := Lib.hid hg7; have h117 := blk_gb' hg7 h116 (by omega); have f0' := (show w7.cell? ⟨b11, 0, none⟩ = some (.int .i64 (ea1 : Nat)) from blk_cell (j := 0) h117); have f1' := (show w7.cell? ⟨b11, 1, none⟩ = some (.int .i64 (eb1 : Nat)) from blk_cell (j := 1) h117); clear hcs7 hg7)
            | (go_at_call 153; refine (HPL1.out _).mono ?_; rintro e w8 ⟨rfl, hB8⟩; have HB8 := Lib.hid hB8; have f0'' := (hB8.cell (p := ⟨b11, 0, none⟩) (lt_of_heap h117)).trans f0'; have f1'' := (hB8.cell (p := ⟨b11, 1, none⟩) (lt_of_heap h117)).trans f1'; have k0 := (hB8.frozen (p := ⟨b11, 0, none⟩) (lt_of_heap h117)).trans (blk_free (j := 0) h117); have k1 := (hB8.frozen (p := ⟨b11, 1, none⟩) (lt_of_heap h117)).trans (blk_free (j := 1) h117); clear hB8))
        all_goals
          have hB78 : Below w7.heap.size w7 w8 := by first | exact HB8.out | exact past_drew HB8.out | exact past_drewN HB8.out
          have gb7 : w.grownBy w7 (some bm) := grown_trans (by first | exact HG6.out | exact gb_drew HG6.out | exact gb_drewN HG6.out _) HG7.out
          have HG8 := Lib.hid (gb_below gb7 hB78)
          have HC8 := Lib.hid (HC7.out.past hB78)
          have hX8 := blk_below (blk_gb' HG7.out hX6 (by omega)) hB78
          have hR8 := blk_below (blk_gb' HG7.out hR6 (by omega)) hB78
          have h78 := blk_below (blk_gb' HG7.out h76 (by omega)) hB78
          have h118 := blk_below h117 hB78
          clear f0 f1 f0' f1' f0'' f1'' k0 k1 hfld h117 HB8 HG7 HC7 gb7 hB78 hX6 hR6 h76 h116 HC6 HG6
          refine then_named (fun w9 => CS w0 gs gp bm W l w9 ∧ w.grownBy w9 (some bm) ∧ w9.heap[w.heap.size]? = some (.cells #[.int .i64 (i : Nat), .int .i64 (col : Nat)] 181 (0, 0)) ∧ w9.heap[w.heap.size + 1]? = some (.cells #[.int .i64 0, .int .i64 0, .int .i64 0] 178 (0, 0)) ∧ w9.heap[b7]? = some (.cells #[.int .i64 (pa0 : Nat), .int .i64 (pb0 : Nat), .int .i64 0] 178 (0, 0)) ∧ w9.heap[b11]? = some (.cells #[.int .i64 (pa1 : Nat), .int .i64 (pb1 : Nat)] 47 (0, 0)))
            ⟨HC8.out.set2_ (by omega) (by omega) (by have := HCS.out.bel.size; omega) _ _, gb_set2 HG8.out (by omega) _ _, blk_far2 hX8 (by omega) _ _, blk_far2 hR8 (by omega) _ _, blk_far2 h78 (by omega) _ _, blk_set2 h118⟩ ?_
          rintro w9 ⟨hC9, gb9, hX9, hR9, h79, h119⟩
          have HC9 := Lib.hid hC9; have GB9 := Lib.hid gb9; have HX9 := Lib.hid hX9; have HR9 := Lib.hid hR9; have H79 := Lib.hid h79; have H119 := Lib.hid h119
          clear hC9 gb9 hX9 hR9 h79 h119 hX8 hR8 h78 h118 HC8 HG8
          have m0 := blk_cell (j := 0) H79.out
          have m1 := blk_cell (j := 1) H79.out
          have m2 := blk_cell (j := 2) H79.out
          have m3 := blk_cell (j := 0) H119.out
          have m4 := blk_cell (j := 1) H119.out
          have m5 := blk_free (j := 0) H79.out
          have m6 := blk_free (j := 1) H79.out
          have m7 := blk_free (j := 2) H79.out
          simp at m0 m1 m2 m3 m4

          go_wp2_with (go_at_call 154; refine (HUN.out _).mono ?_; rintro e w10 ⟨rfl, hB10⟩; have n3 := (hB10.cell (p := ⟨b11, 0, none⟩) (lt_of_heap H119.out)).trans m3; have n4 := (hB10.cell (p := ⟨b11, 1, none⟩) (lt_of_heap H119.out)).trans m4; have n0 := (hB10.cell (p := ⟨b7, 0, none⟩) (lt_of_heap H79.out)).trans m0; have n1 := (hB10.cell (p := ⟨b7, 1, none⟩) (lt_of_heap H79.out)).trans m1; have n2 := (hB10.cell (p := ⟨b7, 2, none⟩) (lt_of_heap H79.out)).trans m2; have n5 := (hB10.frozen (p := ⟨b7, 0, none⟩) (lt_of_heap H79.out)).trans m5; have n6 := (hB10.frozen (p := ⟨b7, 1, none⟩) (lt_of_heap H79.out)).trans m6; have n7 := (hB10.frozen (p := ⟨b7, 2, none⟩) (lt_of_heap H79.out)).trans m7)
          go_roundw
          case measure => simp [intOf]
          case rel => exact ⟨(HC9.out.past hB10).set3_ (by omega) (by omega) (by have := HCS.out.bel.size; omega) _ _ _, gb_set3 (gb_below GB9.out hB10) (by omega) _ _ _, blk_far3 (blk_below HX9.out hB10) (by omega) _ _ _, blk_far3 (blk_below HR9.out hB10) (by omega) _ _ _, .inr (.inr ⟨by first | rfl | go_num, blk_set3 (blk_below H79.out hB10)⟩)⟩
      · have H7 := Lib.hid h7c
        clear h7c
        go_wp2_with fail
        obtain ⟨f', hm', hk'⟩ := HC.out.map
        obtain ⟨o, ho⟩ := hm'.store spotLaw Tryz.underlying174 HKL.out (.agg #[.int .i64 (pa1 : Nat), .int .i64 (pb1 : Nat), .int .i64 1])
        unfold spotV at ho
        have HO := Lib.hid ho
        have hk2 := HKN.out f' hk'
        have HK2 := Lib.hid hk2
        have hup : (Instr.mapUpdate 174 (.map (some bm)) (.agg #[.int .i64 (i : Nat), .int .i64 (col : Nat)]) (.agg #[.int .i64 (pa1 : Nat), .int .i64 (pb1 : Nat), .int .i64 1])).run Tryz.prog wr.drew = .ok () (setBlock wr.drew bm o) := (ho wr.drew rfl).1
        have v0 : wr.cell? ⟨gs, 2, none⟩ = some (.map (some bm)) := blk_cell (j := 2) HC.out.blk
        have v1 : wr.cell? ⟨w.heap.size, 0, none⟩ = some (.int .i64 (i : Nat)) := blk_cell (j := 0) HX.out
        have v2 : wr.cell? ⟨w.heap.size, 1, none⟩ = some (.int .i64 (col : Nat)) := blk_cell (j := 1) HX.out
        have v3 : wr.cell? ⟨b7, 0, none⟩ = some (.int .i64 (pa1 : Nat)) := blk_cell (j := 0) H7.out
        have v4 : wr.cell? ⟨b7, 1, none⟩ = some (.int .i64 (pb1 : Nat)) := blk_cell (j := 1) H7.out
        have v5 : wr.cell? ⟨b7, 2, none⟩ = some (.int .i64 1) := blk_cell (j := 2) H7.out
        have far : ∀ (g : Nat) (x : Obj), g ≠ bm → wr.heap[g]? = some x → (setBlock wr.drew bm o).heap[g]? = some x := fun g x hne hg => blk_gb' (HO.out wr.drew rfl).2.2 hg hne
        have FAR := Lib.hid far
        have u0 : (setBlock wr.drew bm o).cell? ⟨gs, 2, none⟩ = some (.map (some bm)) := blk_cell (j := 2) (far gs _ hms HC.out.blk)
        have u1 : (setBlock wr.drew bm o).cell? ⟨w.heap.size, 0, none⟩ = some (.int .i64 (i : Nat)) := blk_cell (j := 0) (far _ _ (by omega) HX.out)
        have u2 : (setBlock wr.drew bm o).cell? ⟨w.heap.size, 1, none⟩ = some (.int .i64 (col : Nat)) := blk_cell (j := 1) (far _ _ (by omega) HX.out)
        have u3 : (setBlock wr.drew bm o).cell? ⟨b7, 0, none⟩ = some (.int .i64 (pa1 : Nat)) := blk_cell (j := 0) (far _ _ (by omega) H7.out)
        have u4 : (setBlock wr.drew bm o).cell? ⟨b7, 1, none⟩ = some (.int .i64 (pb1 : Nat)) := blk_cell (j := 1) (far _ _ (by omega) H7.out)
        have u5' : (setBlock wr.drew bm o).cell? ⟨b7, 2, none⟩ = some (.int .i64 1) := blk_cell (j := 2) (far _ _ (by omega) H7.out)
        clear ho hk2 hk' hm' far
        go_region_held3 (fun w' => w'.cell? ⟨gs, 2, none⟩ = some (.map (some bm)) ∧ w'.cell? ⟨w.heap.size, 0, none⟩ = some (.int .i64 (i : Nat)) ∧ w'.cell? ⟨w.heap.size, 1, none⟩ = some (.int .i64 (col : Nat)) ∧ w'.cell? ⟨b7, 0, none⟩ = some (.int .i64 (pa1 : Nat)) ∧ w'.cell? ⟨b7, 1, none⟩ = some (.int .i64 (pb1 : Nat)) ∧ w'.cell? ⟨b7, 2, none⟩ = some (.int .i64 1))
          (first | exact ⟨v0, v1, v2, v3, v4, v5⟩ | exact ⟨u0, u1, u2, u3, u4, u5'⟩) (fail)
        clear hup u0 u1 u2 u3 u4 u5' v0 v1 v2 v3 v4 v5
        refine then_named (fun wy => CS w0 gs gp bm W l wy ∧ w.grownBy wy (some bm) ∧ wy.heap[w.heap.size + 1]? = some (.cells #[.int .i64 0, .int .i64 0, .int .i64 0] 178 (0, 0)) ∧ wy.heap[b7]? = some (.cells #[.int .i64 (pa1 : Nat), .int .i64 (pb1 : Nat), .int .i64 1] 178 (0, 0))) ⟨HC.out.store HO.out HK2.out 1, grown_trans (gb_drew GB.out) (HO.out wr.drew rfl).2.2, FAR.out _ _ (by omega) HR.out, FAR.out _ _ (by omega) H7.out⟩ ?_
        rintro wy ⟨hCy, gby, hRy, h7y⟩
        have a0 := blk_cell (j := 0) h7y
        have a1 := blk_cell (j := 1) h7y
        have a2 := blk_cell (j := 2) h7y
        have a3 := blk_cell (j := 0) hRy
        have a4 := blk_cell (j := 1) hRy
        have a5 := blk_cell (j := 2) hRy
        have a6 := blk_free (j := 0) hRy
        have a7 := blk_free (j := 1) hRy
        have a8 := blk_free (j := 2) hRy
        simp at a0 a1 a2 a3 a4 a5
        have HCY := Lib.hid hCy; have GBY := Lib.hid gby; have HRY := Lib.hid hRy
        clear hCy gby hRy h7y HX HR H7
        go_wp2
        have b0 := blk_set3 (p := .int .i64 (pa1 : Nat)) (q := .int .i64 (pb1 : Nat)) (r := .int .i64 1) HRY.out
        have b1 := blk_cell (j := 0) b0
        have b2 := blk_cell (j := 1) b0
        have b3 := blk_cell (j := 2) b0
        simp at b1 b2 b3
        simp [bodyPost, results, Tryz.results97, go_sem, b1, b2, b3]
        refine ⟨?_, HCY.out.set3_ (by omega) (by omega) (by have := HCS.out.bel.size; omega) _ _ _, gb_set3 GBY.out (by omega) _ _ _⟩
        rfl
end Go.Proofs.YtddfdmopaeghnacGreatDoor
