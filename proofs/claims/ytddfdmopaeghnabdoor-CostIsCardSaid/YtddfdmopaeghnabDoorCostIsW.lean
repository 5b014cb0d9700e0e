/- Walk of the law CostIs: it returns true. Condition: errors.errorType reads as the program's text lays it. -/
import Derived.Test.YtddfdmopaeghnabDoorCostO
import Derived.Test.YtddfdmopaeghnabDoorCostR
import Derived.Test.YtddfdmopaeghnabDoorErrW
namespace Go.Proofs.YtddfdmopaeghnabDoor
open Go.RowKit

theorem wp_namedI {P : Program} {c : Code} {Q : Exit → Act → World → Prop} {a : Act} {w : World} (S : World → Prop) (hS : S w) (h : ∀ w', S w' → Code.wp P c Q a w') : Code.wp P c Q a w := h w hS
theorem goodC_natI {a1 a2 : Int} (h : goodC (a1, a2) = true) : ∃ n1 n2 : Nat, a1 = n1 ∧ a2 = n2 ∧ n1 ≤ 1000000 ∧ n2 ≤ 1000000 := by
  simp [goodC] at h
  exact ⟨a1.toNat, a2.toNat, by omega, by omega, by omega, by omega⟩

set_option maxHeartbeats 1000000 in
theorem fault_ok (n1 n2 : Nat) (h1 : n1 ≤ 1000000) (h2 : n2 ≤ 1000000) (w : World) :
    Calls Tryd.prog 10 #[.agg #[.int .i64 (n1 : Nat), .int .i64 (n2 : Nat)]] w (Ret w (.int .i64 0)) := by
  go_enter Tryd.func10, Tryd.ntmps10
  go_wp2_with fail
  go_ret
  exact ⟨rfl, (by repeat (first | exact Below.refl _ _ | assumption | apply Below.drew | refine below_drewN ?_ _ | apply Below.setCell _ (by first | omega | (simp; done) | (simp; omega)) | apply Below.alloc _ (by first | omega | (simp; done) | (simp; omega))))⟩
set_option maxHeartbeats 1000000 in
theorem fault_bad (a1 a2 : Int) (h : goodC (a1, a2) = false) (w : World) :
    Calls Tryd.prog 10 #[.agg #[.int .i64 a1, .int .i64 a2]] w (Ret w (.int .i64 1)) := by
  simp only [goodC, decide_eq_false_iff_not] at h
  by_cases h1 : a1 < 0
  · have k1 : decide (a1 < 0) = true := decide_eq_true h1
    clear h h1
    go_enter Tryd.func10, Tryd.ntmps10
    go_wp2_with fail
    go_ret
    exact ⟨rfl, (by repeat (first | exact Below.refl _ _ | assumption | apply Below.drew | refine below_drewN ?_ _ | apply Below.setCell _ (by first | omega | (simp; done) | (simp; omega)) | apply Below.alloc _ (by first | omega | (simp; done) | (simp; omega))))⟩
  · have k1 : decide (a1 < 0) = false := decide_eq_false h1
    by_cases h2 : 1000000 < a1
    · have k2 : decide (1000000 < a1) = true := decide_eq_true h2
      clear h h1 h2
      go_enter Tryd.func10, Tryd.ntmps10
      go_wp2_with fail
      go_ret
      exact ⟨rfl, (by repeat (first | exact Below.refl _ _ | assumption | apply Below.drew | refine below_drewN ?_ _ | apply Below.setCell _ (by first | omega | (simp; done) | (simp; omega)) | apply Below.alloc _ (by first | omega | (simp; done) | (simp; omega))))⟩
    · have k2 : decide (1000000 < a1) = false := decide_eq_false h2
      by_cases h3 : a2 < 0
      · have k3 : decide (a2 < 0) = true := decide_eq_true h3
        clear h h1 h2 h3
        go_enter Tryd.func10, Tryd.ntmps10
        go_wp2_with fail
        go_ret
        exact ⟨rfl, (by repeat (first | exact Below.refl _ _ | assumption | apply Below.drew | refine below_drewN ?_ _ | apply Below.setCell _ (by first | omega | (simp; done) | (simp; omega)) | apply Below.alloc _ (by first | omega | (simp; done) | (simp; omega))))⟩
      · have k3 : decide (a2 < 0) = false := decide_eq_false h3
        have k4 : decide (1000000 < a2) = true := decide_eq_true (by omega)
        clear h h1 h2 h3
        go_enter Tryd.func10, Tryd.ntmps10
        go_wp2_with fail
        go_ret
        exact ⟨rfl, (by repeat (first | exact Below.refl _ _ | assumption | apply Below.drew | refine below_drewN ?_ _ | apply Below.setCell _ (by first | omega | (simp; done) | (simp; omega)) | apply Below.alloc _ (by first | omega | (simp; done) | (simp; omega))))⟩

/-- Two costs in memory, since a call began. -/
def Bx (w0 : World) (a1 a2 b1 b2 : Int) (w : World) : Prop := w.cell? ⟨w0.heap.size, 0, none⟩ = some (.int .i64 a1) ∧ w.cell? ⟨w0.heap.size, 1, none⟩ = some (.int .i64 a2) ∧ w.cell? ⟨w0.heap.size + 1, 0, none⟩ = some (.int .i64 b1) ∧ w.cell? ⟨w0.heap.size + 1, 1, none⟩ = some (.int .i64 b2) ∧ w0.heap.size < w.heap.size ∧ w0.heap.size + 1 < w.heap.size ∧ Below w0.heap.size w0 w
section
variable {w0 w w' : World} {a1 a2 b1 b2 : Int}
theorem Bx.past (h : Bx w0 a1 a2 b1 b2 w) (hb : Below w.heap.size w w') : Bx w0 a1 a2 b1 b2 w' := by
  obtain ⟨h1, h2, h3, h4, h5, h6, h7⟩ := h
  have hz := hb.size
  exact ⟨(hb.cell (p := ⟨w0.heap.size, 0, none⟩) h5).trans h1, (hb.cell (p := ⟨w0.heap.size, 1, none⟩) h5).trans h2, (hb.cell (p := ⟨w0.heap.size + 1, 0, none⟩) h6).trans h3, (hb.cell (p := ⟨w0.heap.size + 1, 1, none⟩) h6).trans h4, by omega, by omega, h7.trans (hb.mono (by omega))⟩
theorem Bx.alloc (h : Bx w0 a1 a2 b1 b2 w) (o : Obj) : Bx w0 a1 a2 b1 b2 (w.alloc o) := h.past ((Below.refl _ _).alloc (Nat.le_refl _) _)
theorem Bx.bel (h : Bx w0 a1 a2 b1 b2 w) : Below w0.heap.size w0 w := h.2.2.2.2.2.2
theorem Bx.set (h : Bx w0 a1 a2 b1 b2 w) {p : Addr} (hp : w0.heap.size + 2 ≤ p.block) (v : Value) : Bx w0 a1 a2 b1 b2 (w.setCell p v) := by
  obtain ⟨h1, h2, h3, h4, h5, h6, h7⟩ := h
  have hs : (w.setCell p v).heap.size = w.heap.size := by simp [World.setCell]
  refine ⟨(World.cell?_setCell_other _ _ _ _ ?_).trans h1, (World.cell?_setCell_other _ _ _ _ ?_).trans h2, (World.cell?_setCell_other _ _ _ _ ?_).trans h3, (World.cell?_setCell_other _ _ _ _ ?_).trans h4, by omega, by omega, h7.setCell (p := p) (by omega) _⟩
  all_goals
    rintro rfl
    simp at hp
    try omega
end

/-- Two more costs in memory. -/
structure Two (w0 : World) (g h : Nat) (w : World) (a1 a2 b1 b2 : Int) : Prop where
  bel : Below w0.heap.size w0 w
  a : w.heap[g]? = some (.cells #[.int .i64 a1, .int .i64 a2] 23 (0, 0))
  b : w.heap[h]? = some (.cells #[.int .i64 b1, .int .i64 b2] 23 (0, 0))
  lg : w0.heap.size ≤ g
  lh : w0.heap.size ≤ h
  ne : g < h
theorem Two.past {w0 w w' : World} {g h : Nat} {a1 a2 b1 b2 : Int} (x : Two w0 g h w a1 a2 b1 b2) (hb : Below w.heap.size w w') : Two w0 g h w' a1 a2 b1 b2 :=
  ⟨x.bel.trans (hb.mono x.bel.size), blk_belowC x.a hb, blk_belowC x.b hb, x.lg, x.lh, x.ne⟩
def TwoA (w0 : World) (g h : Nat) (w : World) : Prop := ∃ a1 a2 b1 b2, Two w0 g h w a1 a2 b1 b2
theorem Two.any_ {w0 w : World} {g h : Nat} {a1 a2 b1 b2 : Int} (x : Two w0 g h w a1 a2 b1 b2) : TwoA w0 g h w := ⟨_, _, _, _, x⟩

theorem set_size (w : World) (p : Addr) (v : Value) : (w.setCell p v).heap.size = w.heap.size := by simp [World.setCell]
theorem Two.setA {w0 w : World} {g h : Nat} {a1 a2 b1 b2 : Int} (x : Two w0 g h w a1 a2 b1 b2) (p q : Int) : Two w0 g h ((w.setCell ⟨g, 0, none⟩ (.int .i64 p)).setCell ⟨g, 1, none⟩ (.int .i64 q)) p q b1 b2 :=
  ⟨(x.bel.setCell (p := ⟨g, 0, none⟩) x.lg _).setCell (p := ⟨g, 1, none⟩) x.lg _, blk_setC x.a, (Below.heap_setCell _ _ _ _ (by show h ≠ g; have := x.ne; omega)).trans ((Below.heap_setCell _ _ _ _ (by show h ≠ g; have := x.ne; omega)).trans x.b), x.lg, x.lh, x.ne⟩
theorem Two.setB {w0 w : World} {g h : Nat} {a1 a2 b1 b2 : Int} (x : Two w0 g h w a1 a2 b1 b2) (p q : Int) : Two w0 g h ((w.setCell ⟨h, 0, none⟩ (.int .i64 p)).setCell ⟨h, 1, none⟩ (.int .i64 q)) a1 a2 p q :=
  ⟨(x.bel.setCell (p := ⟨h, 0, none⟩) x.lh _).setCell (p := ⟨h, 1, none⟩) x.lh _, (Below.heap_setCell _ _ _ _ (by show g ≠ h; have := x.ne; omega)).trans ((Below.heap_setCell _ _ _ _ (by show g ≠ h; have := x.ne; omega)).trans x.a), blk_setC x.b, x.lg, x.lh, x.ne⟩
/-- One more cost. -/
structure OneC (w0 : World) (g : Nat) (w : World) (a1 a2 b1 b2 p q : Int) : Prop where
  bx : Bx w0 a1 a2 b1 b2 w
  a : w.heap[g]? = some (.cells #[.int .i64 p, .int .i64 q] 23 (0, 0))
  lg : w0.heap.size + 2 ≤ g
theorem OneC.past {w0 w w' : World} {g : Nat} {a1 a2 b1 b2 p q : Int} (x : OneC w0 g w a1 a2 b1 b2 p q) (hb : Below w.heap.size w w') : OneC w0 g w' a1 a2 b1 b2 p q :=
  ⟨x.bx.past hb, blk_belowC x.a hb, x.lg⟩
theorem OneC.set {w0 w : World} {g : Nat} {a1 a2 b1 b2 p q : Int} (x : OneC w0 g w a1 a2 b1 b2 p q) (p' q' : Int) : OneC w0 g ((w.setCell ⟨g, 0, none⟩ (.int .i64 p')).setCell ⟨g, 1, none⟩ (.int .i64 q')) a1 a2 b1 b2 p' q' :=
  ⟨(x.bx.set (p := ⟨g, 0, none⟩) x.lg _).set (p := ⟨g, 1, none⟩) x.lg _, blk_setC x.a, x.lg⟩
theorem OneC.two {w0 w : World} {g h : Nat} {a1 a2 b1 b2 p q : Int} (x : OneC w0 g w a1 a2 b1 b2 p q) (hh : w.heap.size = h) (p' q' : Int) : Two w0 g h (w.alloc (.cells #[.int .i64 p', .int .i64 q'] 23)) p q p' q' := by
  have hg := (Array.getElem?_eq_some_iff.1 x.a).1
  have hb := x.bx.bel
  have hl := x.lg
  exact ⟨hb.alloc hb.size _, (Below.heap_alloc _ _ _ hg).trans x.a, heap_new hh, by omega, by omega, by omega⟩

set_option maxRecDepth 100000 in
set_option maxHeartbeats 8000000 in
theorem costIs_any (a1 a2 b1 b2 : Int) (s : ByteArray) (width : Int) (hs : s.size ≤ maxLen) (w : World) (ht : ErrT w) (hg : 0 + 1 ≤ w.heap.size) :
    Calls Tryd.prog 3 #[.agg #[.int .i64 a1, .int .i64 a2], .agg #[.int .i64 b1, .int .i64 b2], .string s, .int .i64 width] w (Ret w (.bool true)) := by
  unfold maxLen at hs
  have HT : Hid (∀ w' : World, Below w.heap.size w w' → ErrT w' ∧ 0 + 1 ≤ w'.heap.size) := Lib.hid (fun w' hb => ⟨ht.past hg hb, Nat.le_trans hg hb.size⟩)
  have hx0 : Bx w a1 a2 b1 b2 ((w.alloc (.cells #[.int .i64 a1, .int .i64 a2] 23)).alloc (.cells #[.int .i64 b1, .int .i64 b2] 23)) := by
    have e0 : ((w.alloc (.cells #[.int .i64 a1, .int .i64 a2] 23)).alloc (.cells #[.int .i64 b1, .int .i64 b2] 23)).heap[w.heap.size]? = some (.cells #[.int .i64 a1, .int .i64 a2] 23 (0, 0)) := (Below.heap_alloc _ _ _ (by simp)).trans (heap_new rfl)
    have e1 : ((w.alloc (.cells #[.int .i64 a1, .int .i64 a2] 23)).alloc (.cells #[.int .i64 b1, .int .i64 b2] 23)).heap[w.heap.size + 1]? = some (.cells #[.int .i64 b1, .int .i64 b2] 23 (0, 0)) := heap_new (by simp)
    exact ⟨blk_cellC e0, blk_cellC e0, blk_cellC e1, blk_cellC e1, by simp; omega, by simp, (by repeat (first | exact Below.refl _ _ | assumption | apply Below.drew | refine below_drewN ?_ _ | apply Below.setCell _ (by first | omega | (simp; done) | (simp; omega)) | apply Below.alloc _ (by first | omega | (simp; done) | (simp; omega))))⟩
  have HX0 := Lib.hid hx0
  clear hx0 ht
  go_enter Tryd.func3, Tryd.ntmps3
  have hgo : (goodC (a1, a2) = true ∧ goodC (b1, b2) = true) ∨ (goodC (a1, a2) = false ∨ (goodC (a1, a2) = true ∧ goodC (b1, b2) = false)) := by
    cases goodC (a1, a2) <;> cases goodC (b1, b2) <;> simp
  rcases hgo with hgo | hgo
  case' inl =>
    obtain ⟨hga, hgb⟩ := hgo
    obtain ⟨m1, m2, rfl, rfl, l1, l2⟩ := goodC_natI hga
    obtain ⟨n1, n2, rfl, rfl, l3, l4⟩ := goodC_natI hgb
    clear hga hgb
    go_wp2_with fail
    refine (fault_ok m1 m2 l1 l2 _).mono ?_
    rintro e w1 ⟨rfl, hB1⟩
    have hx1 := HX0.out.past hB1
    have HX1 := Lib.hid hx1
    obtain ⟨x0, x1, y0, y1, hl0, hl1, _⟩ := hx1
    clear hB1 HX0
    go_wp2_with fail
    refine (fault_ok n1 n2 l3 l4 _).mono ?_
    rintro e w2 ⟨rfl, hB2⟩
    have hx2 := HX1.out.past hB2
    have HX2 := Lib.hid hx2
    obtain ⟨x0, x1, y0, y1, hl0, hl1, _⟩ := hx2
    clear hB2 HX1
    obtain ⟨u, hu⟩ : ∃ u, cLess (m1, m2) (n1, n2) = u := ⟨_, rfl⟩
    have HR := Lib.hid (fun w' => refless_any (m1, m2) (n1, n2) hu w')
    have HL := Lib.hid (fun w' => less_ok (m1, m2) (n1, n2) ⟨l1, l2⟩ ⟨l3, l4⟩ w')
    rw [hu] at HL
    clear hu
    go_upto_region 5 with (go_at_call 11; refine (HR.out _).mono ?_; rintro e w3 ⟨rfl, hB3⟩)
    have hx3 := HX2.out.past hB3
    have HX3 := Lib.hid hx3
    obtain ⟨x0, x1, y0, y1, hl0, hl1, _⟩ := hx3
    clear hB3 HX2
    go_wp2_with fail
    refine (HL.out _).mono ?_
    rintro e w4 ⟨rfl, hB4⟩
    have HX4 := Lib.hid (HX3.out.past hB4)
    clear hB4 HX3
    go_wp2_with fail
    refine (error_nil _ (HT.out _ HX4.out.bel).1 (HT.out _ HX4.out.bel).2).mono ?_
    rintro e w5 ⟨rfl, hB5⟩
    have hx5 := HX4.out.past hB5
    have HX5 := Lib.hid hx5
    clear hB5 HX4
    go_upto_region 9 with fail
    refine wp_namedI (fun wx => Bx w m1 m2 n1 n2 wx) HX5.out ?_
    rintro w6 hx6
    have HX6 := Lib.hid hx6
    have hb6 := hx6.bel.size
    obtain ⟨x0, x1, y0, y1, hl0, hl1, _⟩ := hx6
    clear HX5 HL HR
    have k1 : IntKind.i64.wrap ((m1 : Int) + (n1 : Int)) = (m1 : Int) + (n1 : Int) := IntWalk.i64_in _ (by omega)
    have k2 : IntKind.i64.wrap ((m2 : Int) + (n2 : Int)) = (m2 : Int) + (n2 : Int) := IntWalk.i64_in _ (by omega)
    have HAD := Lib.hid (fun w' => add_ok (m1, m2) (n1, n2) ⟨l1, l2⟩ ⟨l3, l4⟩ w')
    simp only at HAD
    go_upto_region 12 with fail
    obtain ⟨g, hg14⟩ : ∃ g, g = w6.heap.size := ⟨_, rfl⟩
    refine wp_namedI (fun wx => OneC w g wx m1 m2 n1 n2 ((m1 : Int) + (n1 : Int)) ((m2 : Int) + (n2 : Int))) ⟨HX6.out.alloc _, heap_new hg14.symm, by have := HX6.out; obtain ⟨-, -, -, -, -, h2, -⟩ := this; omega⟩ ?_
    rw [← hg14]
    clear hg14 HX6 x0 x1 y0 y1 hl0 hl1
    rintro w7 hx7
    have HX7 := Lib.hid hx7
    have z0 := blk_cellC (j := 0) hx7.a
    have z1 := blk_cellC (j := 1) hx7.a
    simp at z0 z1
    clear hx7
    by_cases hsum : m1 + n1 ≤ 1000000 ∧ m2 + n2 ≤ 1000000
    case' pos =>
      rw [if_pos hsum] at HAD
      have HF : Hid (∀ w' : World, Calls Tryd.prog 10 #[.agg #[.int .i64 ((m1 : Int) + (n1 : Int)), .int .i64 ((m2 : Int) + (n2 : Int))]] w' (Ret w' (.int .i64 0))) := Lib.hid (fun w' => fault_ok (m1 + n1) (m2 + n2) hsum.1 hsum.2 w')
      have HAD2 : Hid (∀ w' : World, Calls Tryd.prog 14 #[.agg #[.int .i64 (m1 : Nat), .int .i64 (m2 : Nat)], .agg #[.int .i64 (n1 : Nat), .int .i64 (n2 : Nat)]] w' (Ret w' (.tuple #[.agg #[.int .i64 ((m1 : Int) + (n1 : Int)), .int .i64 ((m2 : Int) + (n2 : Int))], .nilIface]))) := Lib.hid (fun w' => HAD.out w')
      clear HAD hsum
      go_wp2_with fail
      refine (HF.out _).mono ?_
      rintro e w8 ⟨rfl, hB8⟩
      have hx8 := HX7.out.past hB8
      have HX8 := Lib.hid hx8
      have z0 := blk_cellC (j := 0) hx8.a
      have z1 := blk_cellC (j := 1) hx8.a
      simp at z0 z1
      obtain ⟨x0, x1, y0, y1, hl0, hl1, _⟩ := hx8.bx
      clear hB8 HX7 hx8
      go_wp2_with fail
      refine (HAD2.out _).mono ?_
      rintro e w9 ⟨rfl, hB9⟩
      have HX9 := Lib.hid (HX8.out.past hB9)
      clear hB9 HX8
      go_upto_region 16 with fail
      generalize hh : w9.heap.size = h at *
      refine wp_namedI (fun wx => Two w g h wx ((m1 : Int) + (n1 : Int)) ((m2 : Int) + (n2 : Int)) ((m1 : Int) + (n1 : Int)) ((m2 : Int) + (n2 : Int))) (HX9.out.two hh _ _) ?_
      rintro w10 hx10
      have HX10 := Lib.hid hx10
      clear HX9 hh hx10
      go_wp2_with fail
      refine (error_nil _ (HT.out _ HX10.out.bel).1 (HT.out _ HX10.out.bel).2).mono ?_
      rintro e w11 ⟨rfl, hB11⟩
      have hx11 := HX10.out.past hB11
      have z0 := blk_cellC (j := 0) hx11.a; have z1 := blk_cellC (j := 1) hx11.a; have y0 := blk_cellC (j := 0) hx11.b; have y1 := blk_cellC (j := 1) hx11.b
      simp at z0 z1 y0 y1
      have HX := Lib.hid hx11.any_
      clear hx11 hB11 HX10
      go_upto_region 19 with fail
    case' neg =>
      rw [if_neg hsum] at HAD
      have HF : Hid (∀ w' : World, Calls Tryd.prog 10 #[.agg #[.int .i64 ((m1 : Int) + (n1 : Int)), .int .i64 ((m2 : Int) + (n2 : Int))]] w' (Ret w' (.int .i64 1))) := Lib.hid (fun w' => fault_bad _ _ (by simp only [goodC, decide_eq_false_iff_not]; omega) w')
      have HAD2 : Hid (∀ w' : World, Calls Tryd.prog 14 #[.agg #[.int .i64 (m1 : Nat), .int .i64 (m2 : Nat)], .agg #[.int .i64 (n1 : Nat), .int .i64 (n2 : Nat)]] w' (Ret w' (.tuple #[.agg #[.int .i64 0, .int .i64 0], .iface 24 (.int .i64 1)]))) := Lib.hid (fun w' => HAD.out w')
      clear HAD hsum
      go_wp2_with fail
      refine (HF.out _).mono ?_
      rintro e w8 ⟨rfl, hB8⟩
      have hx8 := HX7.out.past hB8
      have HX8 := Lib.hid hx8
      have z0 := blk_cellC (j := 0) hx8.a; have z1 := blk_cellC (j := 1) hx8.a; have z2 := blk_freeC (j := 0) hx8.a; have z3 := blk_freeC (j := 1) hx8.a
      simp at z0 z1
      clear hB8 HX7 hx8
      go_upto_region 15 with fail
      refine wp_namedI (fun wx => OneC w g wx m1 m2 n1 n2 0 0) (HX8.out.set 0 0) ?_
      rintro w9 hx9
      have HX9 := Lib.hid hx9
      obtain ⟨x0, x1, y0, y1, hl0, hl1, _⟩ := hx9.bx
      clear HX8 z0 z1 z2 z3 hx9
      go_wp2_with fail
      refine (HAD2.out _).mono ?_
      rintro e w10 ⟨rfl, hB10⟩
      have HX10 := Lib.hid (HX9.out.past hB10)
      clear hB10 HX9
      go_upto_region 16 with fail
      generalize hh : w10.heap.size = h at *
      refine wp_namedI (fun wx => Two w g h wx 0 0 0 0) (HX10.out.two hh _ _) ?_
      rintro w11 hx11
      have HX11 := Lib.hid hx11
      clear HX10 hh hx11
      go_wp2_with fail
      refine (error_same 1 (by decide) _ (HT.out _ HX11.out.bel).1 (HT.out _ HX11.out.bel).2).mono ?_
      rintro e w12 ⟨rfl, hB12⟩
      have hx12 := HX11.out.past hB12
      have z0 := blk_cellC (j := 0) hx12.a; have z1 := blk_cellC (j := 1) hx12.a; have y0 := blk_cellC (j := 0) hx12.b; have y1 := blk_cellC (j := 1) hx12.b
      simp at z0 z1 y0 y1
      have HX := Lib.hid hx12.any_
      clear hx12 hB12 HX11
      go_upto_region 19 with fail
  case' inr =>
    have hbad : goodC (a1, a2) = false ∨ goodC (b1, b2) = false := by
      rcases hgo with h | h
      · exact .inl h
      · exact .inr h.2
    have HL := Lib.hid (fun w' => less_bad (a1, a2) (b1, b2) hbad w')
    have HAD := Lib.hid (fun w' => add_bad (a1, a2) (b1, b2) hbad w')
    simp only at HL HAD
    clear hbad
    rcases hgo with hga | ⟨hga, hgb⟩
    case' inl =>
      have HF := Lib.hid (fun w' => fault_bad a1 a2 hga w')
      clear hga
      go_wp2_with fail
      refine (HF.out _).mono ?_
      rintro e w2 ⟨rfl, hB2⟩
      have HX2 := Lib.hid (HX0.out.past hB2)
      clear hB2 HX0
    case' inr =>
      obtain ⟨m1, m2, rfl, rfl, l1, l2⟩ := goodC_natI hga
      have HF := Lib.hid (fun w' => fault_bad b1 b2 hgb w')
      clear hga hgb
      go_wp2_with fail
      refine (fault_ok m1 m2 l1 l2 _).mono ?_
      rintro e w1 ⟨rfl, hB1⟩
      have hx1 := HX0.out.past hB1
      have HX1 := Lib.hid hx1
      obtain ⟨x0, x1, y0, y1, hl0, hl1, _⟩ := hx1
      clear hB1 HX0
      go_wp2_with fail
      refine (HF.out _).mono ?_
      rintro e w2 ⟨rfl, hB2⟩
      have HX2 := Lib.hid (HX1.out.past hB2)
      clear hB2 HX1 x0 x1 y0 y1 hl0 hl1
    all_goals
      obtain ⟨x0, x1, y0, y1, hl0, hl1, _⟩ := HX2.out
      go_upto_region 5 with fail
      go_wp2_with fail
      refine (HL.out _).mono ?_
      rintro e w4 ⟨rfl, hB4⟩
      have HX4 := Lib.hid (HX2.out.past hB4)
      clear hB4 HX2 x0 x1 y0 y1 hl0 hl1
      go_wp2_with fail
      refine (error_same 1 (by decide) _ (HT.out _ HX4.out.bel).1 (HT.out _ HX4.out.bel).2).mono ?_
      rintro e w5 ⟨rfl, hB5⟩
      have HX5 := Lib.hid (HX4.out.past hB5)
      clear hB5 HX4
      go_upto_region 9 with fail
      obtain ⟨g, hg14⟩ : ∃ g, g = w5.heap.size := ⟨_, rfl⟩
      go_upto_region 13 with fail
      refine wp_namedI (fun wx => OneC w g wx _ _ b1 b2 0 0) ⟨HX5.out.alloc _, heap_new hg14.symm, by have := HX5.out; obtain ⟨-, -, -, -, -, h2, -⟩ := this; omega⟩ ?_
      rw [← hg14]
      clear hg14 HX5
      rintro w7 hx7
      have HX8 := Lib.hid hx7
      have z0 := blk_cellC (j := 0) hx7.a; have z1 := blk_cellC (j := 1) hx7.a; have z2 := blk_freeC (j := 0) hx7.a; have z3 := blk_freeC (j := 1) hx7.a
      simp at z0 z1
      clear hx7
      go_upto_region 15 with fail
      refine wp_namedI (fun wx => OneC w g wx _ _ b1 b2 0 0) (HX8.out.set 0 0) ?_
      rintro w9 hx9
      have HX9 := Lib.hid hx9
      obtain ⟨x0, x1, y0, y1, hl0, hl1, _⟩ := hx9.bx
      clear HX8 z0 z1 z2 z3 hx9
      go_wp2_with fail
      refine (HAD.out _).mono ?_
      rintro e w10 ⟨rfl, hB10⟩
      have HX10 := Lib.hid (HX9.out.past hB10)
      clear hB10 HX9
      go_upto_region 16 with fail
      generalize hh : w10.heap.size = h at *
      refine wp_namedI (fun wx => Two w g h wx 0 0 0 0) (HX10.out.two hh _ _) ?_
      rintro w11 hx11
      have HX11 := Lib.hid hx11
      clear HX10 hh hx11
      go_wp2_with fail
      refine (error_same 1 (by decide) _ (HT.out _ HX11.out.bel).1 (HT.out _ HX11.out.bel).2).mono ?_
      rintro e w12 ⟨rfl, hB12⟩
      have hx12 := HX11.out.past hB12
      have z0 := blk_cellC (j := 0) hx12.a; have z1 := blk_cellC (j := 1) hx12.a; have y0 := blk_cellC (j := 0) hx12.b; have y1 := blk_cellC (j := 1) hx12.b
      simp at z0 z1 y0 y1
      have HX := Lib.hid hx12.any_
      clear hx12 hB12 HX11
      go_upto_region 19 with fail
  all_goals
    refine wp_namedI (fun wx => TwoA w g h wx) HX.out ?_
    rintro wy ⟨p1, p2, q1, q2, hy⟩
    have HY := Lib.hid hy
    have z0 := blk_cellC (j := 0) hy.a; have z1 := blk_cellC (j := 1) hy.a; have z2 := blk_freeC (j := 0) hy.a; have z3 := blk_freeC (j := 1) hy.a
    simp at z0 z1
    clear HX hy
    go_upto_region 21 with fail
    refine wp_namedI (fun wx => Two w g h wx 0 0 q1 q2) (HY.out.setA 0 0) ?_
    rintro wz hz
    have HZ := Lib.hid hz
    clear HY z0 z1 z2 z3 hz
    have hcs : 60000 < s.size ∨ (s.size ≤ 60000 ∧ width < 0) ∨ (s.size ≤ 60000 ∧ ¬ width < 0 ∧ 100 < width) ∨ (s.size ≤ 60000 ∧ ∃ W : Nat, width = W ∧ W ≤ 100) := by
      by_cases h1 : 60000 < s.size
      · exact .inl h1
      · by_cases h2 : width < 0
        · exact .inr (.inl ⟨by omega, h2⟩)
        · by_cases h3 : 100 < width
          · exact .inr (.inr (.inl ⟨by omega, h2, h3⟩))
          · exact .inr (.inr (.inr ⟨by omega, width.toNat, by omega, by omega⟩))
    rcases hcs with hsz | ⟨hsz, hw⟩ | ⟨hsz, hw0, hw⟩ | ⟨hsz, W, rfl, hW⟩
    · have HOF := Lib.hid (fun w' => of_full s hsz (by unfold maxLen; omega) width w')
      have k5 : decide (60000 < (s.size : Int)) = true := decide_eq_true (by omega)
      go_upto_region 26 with (fail)
      have HZ2 := Lib.hid HZ.out
      clear HZ
      go_wp2_with fail
      refine (HOF.out _).mono ?_
      rintro e w21 ⟨rfl, hB21⟩
      have hx21 := HZ2.out.past hB21
      have z0 := blk_cellC (j := 0) hx21.b; have z1 := blk_cellC (j := 1) hx21.b; have z2 := blk_freeC (j := 0) hx21.b; have z3 := blk_freeC (j := 1) hx21.b
      simp at z0 z1
      have HX21 := Lib.hid hx21
      clear HZ2 hB21 hx21
      go_upto_region 27 with fail
      refine wp_namedI (fun wx => Two w g h wx (0) (0) (0) (0)) (HX21.out.setB _ _) ?_
      rintro w22 hx22
      have HX22 := Lib.hid hx22
      clear HX21 z0 z1 z2 z3 hx22
      go_wp2_with fail
      refine (error_same 3 (by decide) _ (HT.out _ HX22.out.bel).1 (HT.out _ HX22.out.bel).2).mono ?_
      rintro e w23 ⟨rfl, hB23⟩
      have hx23 := HX22.out.past hB23
      have z0 := blk_cellC (j := 0) hx23.a; have z1 := blk_cellC (j := 1) hx23.a; have y0 := blk_cellC (j := 0) hx23.b; have y1 := blk_cellC (j := 1) hx23.b
      simp at z0 z1 y0 y1
      have hb := hx23.bel
      clear HX22 hB23 hx23
      go_wp2
      go_ret
      exact ⟨rfl, hb⟩
    · have HOF := Lib.hid (fun w' => of_wide s hsz width (.inl hw) w')
      have k5 : decide (60000 < (s.size : Int)) = false := decide_eq_false (by omega)
      have k6 : decide (width < 0) = true := decide_eq_true hw
      go_upto_region 26 with (fail)
      have HZ2 := Lib.hid HZ.out
      clear HZ
      go_wp2_with fail
      refine (HOF.out _).mono ?_
      rintro e w21 ⟨rfl, hB21⟩
      have hx21 := HZ2.out.past hB21
      have z0 := blk_cellC (j := 0) hx21.b; have z1 := blk_cellC (j := 1) hx21.b; have z2 := blk_freeC (j := 0) hx21.b; have z3 := blk_freeC (j := 1) hx21.b
      simp at z0 z1
      have HX21 := Lib.hid hx21
      clear HZ2 hB21 hx21
      go_upto_region 27 with fail
      refine wp_namedI (fun wx => Two w g h wx (0) (0) (0) (0)) (HX21.out.setB _ _) ?_
      rintro w22 hx22
      have HX22 := Lib.hid hx22
      clear HX21 z0 z1 z2 z3 hx22
      go_wp2_with fail
      refine (error_same 1 (by decide) _ (HT.out _ HX22.out.bel).1 (HT.out _ HX22.out.bel).2).mono ?_
      rintro e w23 ⟨rfl, hB23⟩
      have hx23 := HX22.out.past hB23
      have z0 := blk_cellC (j := 0) hx23.a; have z1 := blk_cellC (j := 1) hx23.a; have y0 := blk_cellC (j := 0) hx23.b; have y1 := blk_cellC (j := 1) hx23.b
      simp at z0 z1 y0 y1
      have hb := hx23.bel
      clear HX22 hB23 hx23
      go_wp2
      go_ret
      exact ⟨rfl, hb⟩
    · have HOF := Lib.hid (fun w' => of_wide s hsz width (.inr hw) w')
      have k5 : decide (60000 < (s.size : Int)) = false := decide_eq_false (by omega)
      have k6 : decide (width < 0) = false := decide_eq_false hw0
      have k7 : decide (100 < width) = true := decide_eq_true hw
      go_upto_region 26 with (fail)
      have HZ2 := Lib.hid HZ.out
      clear HZ
      go_wp2_with fail
      refine (HOF.out _).mono ?_
      rintro e w21 ⟨rfl, hB21⟩
      have hx21 := HZ2.out.past hB21
      have z0 := blk_cellC (j := 0) hx21.b; have z1 := blk_cellC (j := 1) hx21.b; have z2 := blk_freeC (j := 0) hx21.b; have z3 := blk_freeC (j := 1) hx21.b
      simp at z0 z1
      have HX21 := Lib.hid hx21
      clear HZ2 hB21 hx21
      go_upto_region 27 with fail
      refine wp_namedI (fun wx => Two w g h wx (0) (0) (0) (0)) (HX21.out.setB _ _) ?_
      rintro w22 hx22
      have HX22 := Lib.hid hx22
      clear HX21 z0 z1 z2 z3 hx22
      go_wp2_with fail
      refine (error_same 1 (by decide) _ (HT.out _ HX22.out.bel).1 (HT.out _ HX22.out.bel).2).mono ?_
      rintro e w23 ⟨rfl, hB23⟩
      have hx23 := HX22.out.past hB23
      have z0 := blk_cellC (j := 0) hx23.a; have z1 := blk_cellC (j := 1) hx23.a; have y0 := blk_cellC (j := 0) hx23.b; have y1 := blk_cellC (j := 1) hx23.b
      simp at z0 z1 y0 y1
      have hb := hx23.bel
      clear HX22 hB23 hx23
      go_wp2
      go_ret
      exact ⟨rfl, hb⟩
    · have HOF := Lib.hid (fun w' => of_good s hsz W hW w')
      have HCO := Lib.hid (fun w' => costof_any s (by omega) W w')
      have k5 : decide (60000 < (s.size : Int)) = false := decide_eq_false (by omega)
      have k6 : decide ((W : Int) < 0) = false := decide_eq_false (by omega)
      have k7 : decide (100 < (W : Int)) = false := decide_eq_false (by omega)
      generalize (cst W 0 s.data.toList).1 = t1 at HOF HCO
      generalize (cst W 0 s.data.toList).2 = t2 at HOF HCO
      go_upto_region 26 with (go_at_call 15; refine (HCO.out _).mono ?_; rintro e w25 ⟨rfl, hB25⟩; have hz3 := HZ.out.past hB25; have zz0 := blk_cellC (j := 0) hz3.a; have zz1 := blk_cellC (j := 1) hz3.a; have zz2 := blk_freeC (j := 0) hz3.a; have zz3 := blk_freeC (j := 1) hz3.a; simp at zz0 zz1; have HZ3 := Lib.hid hz3; clear hz3 hB25 HZ)
      refine wp_namedI (fun wx => Two w g h wx (t1 : Nat) (t2 : Nat) q1 q2) (HZ3.out.setA _ _) ?_
      rintro w24 hx24
      have HZ2 := Lib.hid hx24
      clear HZ3 hx24 zz0 zz1 zz2 zz3
      go_wp2_with fail
      refine (HOF.out _).mono ?_
      rintro e w21 ⟨rfl, hB21⟩
      have hx21 := HZ2.out.past hB21
      have z0 := blk_cellC (j := 0) hx21.b; have z1 := blk_cellC (j := 1) hx21.b; have z2 := blk_freeC (j := 0) hx21.b; have z3 := blk_freeC (j := 1) hx21.b
      simp at z0 z1
      have HX21 := Lib.hid hx21
      clear HZ2 hB21 hx21
      go_upto_region 27 with fail
      refine wp_namedI (fun wx => Two w g h wx ((t1 : Nat)) ((t2 : Nat)) ((t1 : Nat)) ((t2 : Nat))) (HX21.out.setB _ _) ?_
      rintro w22 hx22
      have HX22 := Lib.hid hx22
      clear HX21 z0 z1 z2 z3 hx22
      go_wp2_with fail
      refine (error_nil _ (HT.out _ HX22.out.bel).1 (HT.out _ HX22.out.bel).2).mono ?_
      rintro e w23 ⟨rfl, hB23⟩
      have hx23 := HX22.out.past hB23
      have z0 := blk_cellC (j := 0) hx23.a; have z1 := blk_cellC (j := 1) hx23.a; have y0 := blk_cellC (j := 0) hx23.b; have y1 := blk_cellC (j := 1) hx23.b
      simp at z0 z1 y0 y1
      have hb := hx23.bel
      clear HX22 hB23 hx23
      go_wp2
      go_ret
      exact ⟨rfl, hb⟩
end Go.Proofs.YtddfdmopaeghnabDoor
