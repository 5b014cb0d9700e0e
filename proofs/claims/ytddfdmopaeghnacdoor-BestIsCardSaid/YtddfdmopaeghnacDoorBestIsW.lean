/- Walk of the law BestIs: it returns true (over way.Of's contract). Conditions: the slice of nodes lies below the call's own blocks; errors.errorType reads as the program's text lays it. -/
import Derived.Test.YtddfdmopaeghnacDoorM1
import Derived.Test.YtddfdmopaeghnacDoorBestE
import Derived.Test.YtddfdmopaeghnacDoorInts0
import Derived.Test.YtddfdmopaeghnacDoorRefF
import Derived.Test.YtddfdmopaeghnacDoorErrW
namespace Go.Proofs.YtddfdmopaeghnacDoor
open Go.RowKit Go.Maps Go.ChangeMaps

theorem numsI_nilB (w : World) : NumsI w w.heap.size none [] := numsI_nil w _

set_option maxRecDepth 100000 in
set_option maxHeartbeats 4000000 in
theorem bestIs_any (hof : OfFromSaid) (a : List Nd) (width : Int) (A : Option Addr) (c : Nat) (w : World) (ha : Nds w w.heap.size A a) (ht : ErrT w) (hg : 0 + 1 ≤ w.heap.size) :
    Calls Tryd.prog 3 #[.slice A a.length c, .int .i64 width] w (Ret w (.bool true)) := by
  have HT : Hid (∀ w' : World, Below w.heap.size w w' → ErrT w' ∧ 0 + 1 ≤ w'.heap.size) := Lib.hid (fun w' hb => ⟨ht.past hg hb, Nat.le_trans hg hb.size⟩)
  have HA := Lib.hid ha
  have HB : Hid (Below w.heap.size w w) := Lib.hid (Below.refl _ _)
  have HF := Lib.hid (fun (w' : World) h => docfault_any a A c w' h)
  have HIN := Lib.hid (fun (w' : World) => ints_any [] [] 0 0 rfl rfl none none 0 0 w' (numsI_nilB w') (numsI_nilB w'))
  have hla := ha.2.1
  unfold maxLen at hla
  clear ha ht
  have hcase : (checkF a ≠ 0 ∨ (checkF a = 0 ∧ width < 0) ∨ (checkF a = 0 ∧ 0 ≤ width ∧ 100 < width)) ∨ (checkF a = 0 ∧ 0 ≤ width ∧ width ≤ 100) := by omega
  rcases hcase with hbad | ⟨he, hw0, hw1⟩
  · have hb : ∃ q : Int, q ≠ 0 ∧ (∀ w', Nds w' w'.heap.size A a → Calls Tryd.prog 7 #[.slice A a.length c, .int .i64 width] w' (Ret w' (.tuple #[.string .empty, .slice none 0 0, .agg #[.int .i64 0, .int .i64 0], .iface 23 (.int .i64 q)]))) ∧
        ((checkF a = q ∧ (q == 0) = false) ∨ (q = 1 ∧ checkF a = 0 ∧ (decide (width < 0) = true ∨ (decide (width < 0) = false ∧ decide (100 < width) = true)))) := by
      by_cases he : checkF a = 0
      · refine ⟨1, by decide, fun w' h => best_wide he A _ c rfl (by omega) w' h, .inr ⟨rfl, he, ?_⟩⟩
        by_cases h0 : width < 0
        · exact .inl (decide_eq_true h0)
        · exact .inr ⟨decide_eq_false h0, decide_eq_true (by omega)⟩
      · exact ⟨checkF a, he, fun w' h => best_bad he A _ c rfl width w' h, .inl ⟨rfl, by simpa using he⟩⟩
    obtain ⟨q, hq0, hb, hqc⟩ := hb
    have HBD := Lib.hid hb
    have HES := Lib.hid (fun (w' : World) h1 h2 => error_same q hq0 w' h1 h2)
    clear hb hbad
    have main : (∃ k1 : (q == 0) = false, checkF a = q) ∨ (q = 1 ∧ checkF a = 0 ∧ decide (width < 0) = true) ∨ (q = 1 ∧ checkF a = 0 ∧ decide (width < 0) = false ∧ decide (100 < width) = true) := by
      rcases hqc with ⟨h1, h2⟩ | ⟨h1, h2, h3 | ⟨h3, h4⟩⟩
      · exact .inl ⟨h2, h1⟩
      · exact .inr (.inl ⟨h1, h2, h3⟩)
      · exact .inr (.inr ⟨h1, h2, h3, h4⟩)
    clear hqc hq0
    rcases main with ⟨k1, hck⟩ | ⟨rfl, hck, k2⟩ | ⟨rfl, hck, k2, k3⟩ <;> rw [hck] at HF <;> clear hck
    all_goals
      go_enter Tryd.func3, Tryd.ntmps3
      go_upto_region 14 with (go_at_call 5; refine (HF.out _ (HA.out.past HB.out)).mono ?_; rintro e w1 ⟨rfl, hB⟩; have HB := Lib.hid (HB.out.trans (hB.mono HB.out.size)); clear hB)
      refine wp_namedO (fun wx => Below w.heap.size w wx ∧ wx.heap[w1.heap.size]? = some (.cells #[.int .i64 0, .int .i64 0] 27 (0, 0))) ⟨HB.out.alloc HB.out.size _, heap_new rfl⟩ ?_
      rintro w2 ⟨hB2, hC2⟩
      generalize w1.heap.size = g8 at *
      have HB2 := Lib.hid hB2; have HC2 := Lib.hid hC2
      clear hB2 hC2 HB
      go_upto_region 15 with (go_at_call 7; refine (HBD.out _ (HA.out.past HB2.out)).mono ?_; rintro e w3 ⟨rfl, hB3⟩)
      refine wp_namedO (fun wx => Below w.heap.size w wx ∧ wx.heap[g8]? = some (.cells #[.int .i64 0, .int .i64 0] 27 (0, 0)) ∧ wx.heap[w3.heap.size]? = some (.cells #[.int .i64 0, .int .i64 0] 27 (0, 0))) ⟨(HB2.out.trans (hB3.mono HB2.out.size)).alloc (by have := HB2.out.size; have := hB3.size; omega) _, (Below.heap_alloc _ _ _ (by have := heap_lt HC2.out; have := hB3.size; omega)).trans ((hB3.block _ (heap_lt HC2.out)).trans HC2.out), heap_new rfl⟩ ?_
      rintro w4 ⟨hB4, hC4, hD4⟩
      generalize w3.heap.size = g15 at *
      have HB4 := Lib.hid hB4; have HC4 := Lib.hid hC4; have HD4 := Lib.hid hD4
      clear hB4 hC4 hD4 HB2 HC2 hB3
      go_wp2_with (first
        | (go_at_call 8; refine (HES.out _ (HT.out _ HB4.out).1 (HT.out _ HB4.out).2).mono ?_; rintro e w5 ⟨rfl, hB5⟩)
        | (go_at_call 9; refine (HIN.out _).mono ?_; rintro e w6 ⟨rfl, hB6⟩; have hB46 := hB5.trans (hB6.mono hB5.size); have hC6 := (hB46.block _ (heap_lt HC4.out)).trans HC4.out; have hD6 := (hB46.block _ (heap_lt HD4.out)).trans HD4.out; have z0 := blk_cellR (j := 0) hC6; have z1 := blk_cellR (j := 1) hC6; have y0 := blk_cellR (j := 0) hD6; have y1 := blk_cellR (j := 1) hD6; simp at z0 z1 y0 y1; clear hC6 hD6))
      go_ret
      exact ⟨rfl, HB4.out.trans (hB46.mono HB4.out.size)⟩
  · obtain ⟨x, da⟩ := Doc.of_check he
    obtain ⟨W, rfl⟩ : ∃ W : Nat, width = W := ⟨width.toNat, by omega⟩
    have hW : W ≤ 100 := by omega
    rw [he] at HF
    have HBO := Lib.hid (fun (w' : World) h => bestof_any da A a.length c rfl W w' h)
    have HBE := Lib.hid (fun (w' : World) h => best_good hof da A a.length c rfl W rfl hW w' h)
    have k2 : decide ((W : Int) < 0) = false := decide_eq_false (by omega)
    have k3 : decide (100 < (W : Int)) = false := decide_eq_false (by omega)
    have HII : Hid (∀ (A1 A2 : Option Addr) (c1 c2 : Nat) (w' : World), NumsI w' w'.heap.size A1 (bU W x) → NumsI w' w'.heap.size A2 (bU W x) → Calls Tryd.prog 9 #[.slice A1 (bU W x).length c1, .slice A2 (bU W x).length c2] w' (Ret w' (.bool true))) := Lib.hid (fun A1 A2 c1 c2 w' h1 h2 => by
      have h := ints_any (bU W x) (bU W x) _ _ rfl rfl A1 A2 c1 c2 w' h1 h2
      rwa [decide_eq_true rfl] at h)
    clear da he hof
    go_enter Tryd.func3, Tryd.ntmps3
    go_upto_region 8 with (go_at_call 5; refine (HF.out _ (HA.out.past HB.out)).mono ?_; rintro e w1 ⟨rfl, hB⟩; have HB := Lib.hid (HB.out.trans (hB.mono HB.out.size)); clear hB)
    refine wp_namedO (fun wx => Below w.heap.size w wx ∧ wx.heap[w1.heap.size]? = some (.cells #[.int .i64 0, .int .i64 0] 27 (0, 0))) ⟨HB.out.alloc HB.out.size _, heap_new rfl⟩ ?_
    rintro w2 ⟨hB2, hC2⟩
    have hg8 : w.heap.size ≤ w1.heap.size := HB.out.size
    generalize w1.heap.size = g8 at *
    have HB2 := Lib.hid hB2; have HC2 := Lib.hid hC2
    have hgl := heap_lt hC2
    clear hB2 hC2 HB
    go_upto_region 9 with (go_at_call 6; refine (HBO.out _ (HA.out.past HB2.out)).mono ?_; rintro e w3 ⟨hB3, hres⟩; rcases hres with ⟨A3, c3, rfl, hn3, hs3⟩ | rfl)
    · have hum := hn3.2
      have hsb := hs3.bound
      have hbel3 := HB2.out.trans (hB3.mono HB2.out.size)
      have hg3 := (hB3.block g8 hgl).trans HC2.out
      obtain ⟨p1, hp1⟩ : ∃ p1, (bC W x).1 = p1 := ⟨_, rfl⟩
      obtain ⟨p2, hp2⟩ : ∃ p2, (bC W x).2 = p2 := ⟨_, rfl⟩
      have HBE2 : Hid (∀ w' : World, Nds w' w'.heap.size A a → Calls Tryd.prog 7 #[.slice A a.length c, .int .i64 (W : Nat)] w' (BestIs_ W x p1 p2 w')) := Lib.hid (fun w' h => by
        have := HBE.out w' h
        unfold BestTo at this
        rwa [hp1, hp2] at this)
      rw [hp1, hp2]
      have k3n : g8 < w3.heap.size := by have := hB3.size; omega
      refine wp_namedO (fun wx => Below w.heap.size w wx ∧ wx.heap[g8]? = some (.cells #[.int .i64 0, .int .i64 0] 27 (0, 0)) ∧ wx.heap[w3.heap.size]? = some (.cells #[.int .i64 (p1 : Nat), .int .i64 (p2 : Nat)] 27 (0, 0)) ∧ SlP (fun b => w2.heap.size < b ∧ b < w3.heap.size) wx A3 ((bU W x).map (.int .i64))) ⟨hbel3.alloc hbel3.size _, (Below.heap_alloc _ _ _ k3n).trans hg3, heap_new rfl, hsb.keep (fun b hb => Below.heap_alloc _ _ _ hb.2)⟩ ?_
      rintro w4 ⟨hB4, hC4, hD4, hs4⟩
      have hg84 := heap_lt hC4
      generalize w3.heap.size = g11 at *
      have z0 := blk_cellR (j := 0) hC4; have z1 := blk_cellR (j := 1) hC4; have z2 := blk_freeR (j := 0) hC4; have z3 := blk_freeR (j := 1) hC4; have y0 := blk_cellR (j := 0) hD4; have y1 := blk_cellR (j := 1) hD4
      simp at z0 z1 y0 y1
      have hwb : w2.heap.size ≤ w2.heap.size := Nat.le_refl _
      have hsf := hs4.keep (w' := (w4.setCell ⟨g8, 0, none⟩ (.int .i64 (p1 : Nat))).setCell ⟨g8, 1, none⟩ (.int .i64 (p2 : Nat))) (fun b hb => by rw [Below.heap_setCell _ _ _ _ (by show b ≠ g8; have := hb.1; omega), Below.heap_setCell _ _ _ _ (by show b ≠ g8; have := hb.1; omega)])
      have hnf := hsf.sl
      rw [List.length_map] at hnf
      have hbf := (hB4.setCell (p := ⟨g8, 0, none⟩) hg8 (.int .i64 (p1 : Nat))).setCell (p := ⟨g8, 1, none⟩) hg8 (.int .i64 (p2 : Nat))
      have HSET := Lib.hid (set_twoO (p := .int .i64 (p1 : Nat)) (q := .int .i64 (p2 : Nat)) hC4)
      have HNF : Hid (NumsI _ _ A3 (bU W x)) := Lib.hid ⟨hnf, hum⟩
      have HBF := Lib.hid hbf
      clear hB4 hC4 hD4 hs4 hsf hnf hbf hsb hn3 hs3 hbel3 hg3 hB3 hp1 hp2 HBE HBO
      go_upto_region 14 with fail
      refine wp_namedO (fun wx => Below w.heap.size w wx ∧ wx.heap[g8]? = some (.cells #[.int .i64 (p1 : Nat), .int .i64 (p2 : Nat)] 27 (0, 0)) ∧ NumsI wx wx.heap.size A3 (bU W x)) ⟨HBF.out, HSET.out, HNF.out⟩ ?_
      clear HBF HSET HNF z0 z1 z2 z3 y0 y1
      rintro w5 ⟨hB5, hC5, hn5⟩
      have HB5 := Lib.hid hB5; have HC5 := Lib.hid hC5; have HN5 := Lib.hid hn5
      clear hB5 hC5 hn5
      have hg85 := heap_lt HC5.out
      go_upto_region 15 with (go_at_call 7; refine (HBE2.out _ (HA.out.past HB5.out)).mono ?_; rintro e w6 ⟨A6, c6, rfl, hn6, hc6, hB6⟩)
      refine wp_namedO (fun wx => Below w.heap.size w wx ∧ wx.heap[g8]? = some (.cells #[.int .i64 (p1 : Nat), .int .i64 (p2 : Nat)] 27 (0, 0)) ∧ wx.heap[w6.heap.size]? = some (.cells #[.int .i64 (p1 : Nat), .int .i64 (p2 : Nat)] 27 (0, 0)) ∧ NumsI wx wx.heap.size A3 (bU W x) ∧ NumsI wx wx.heap.size A6 (bU W x)) ⟨(HB5.out.trans (hB6.mono HB5.out.size)).alloc (by have := HB5.out.size; have := hB6.size; omega) _, (Below.heap_alloc _ _ _ (by have := hB6.size; omega)).trans ((hB6.block _ hg85).trans HC5.out), heap_new rfl, (HN5.out.past hB6).past ((Below.refl _ _).alloc (Nat.le_refl _) _), hn6.past ((Below.refl _ _).alloc (Nat.le_refl _) _)⟩ ?_
      rintro w7 ⟨hB7, hC7, hD7, hn7, hm7⟩
      generalize w6.heap.size = g15 at *
      have HB7 := Lib.hid hB7; have HC7 := Lib.hid hC7; have HD7 := Lib.hid hD7; have HN7 := Lib.hid hn7; have HM7 := Lib.hid hm7
      clear hB7 hC7 hD7 hn7 hm7 HB5 HC5 HN5 hn6 hc6 hB6 HB2 HC2
      go_wp2_with (first
        | (go_at_call 8; refine (error_nil _ (HT.out _ HB7.out).1 (HT.out _ HB7.out).2).mono ?_; rintro e w8 ⟨rfl, hB8⟩)
        | (go_at_call 9; refine (HII.out _ _ _ _ _ (HM7.out.past hB8) (HN7.out.past hB8)).mono ?_; rintro e w9 ⟨rfl, hB9⟩; have hB79 := hB8.trans (hB9.mono hB8.size); have hC9 := (hB79.block _ (heap_lt HC7.out)).trans HC7.out; have hD9 := (hB79.block _ (heap_lt HD7.out)).trans HD7.out; have z0 := blk_cellR (j := 0) hC9; have z1 := blk_cellR (j := 1) hC9; have y0 := blk_cellR (j := 0) hD9; have y1 := blk_cellR (j := 1) hD9; simp at z0 z1 y0 y1; clear hC9 hD9))
      go_ret
      exact ⟨rfl, HB7.out.trans (hB79.mono HB7.out.size)⟩
    · go_wp2
      go_ret
      exact ⟨rfl, (HB2.out.trans (hB3.mono HB2.out.size)).alloc (by have := HB2.out.size; have := hB3.size; omega) _⟩
end Go.Proofs.YtddfdmopaeghnacDoor
