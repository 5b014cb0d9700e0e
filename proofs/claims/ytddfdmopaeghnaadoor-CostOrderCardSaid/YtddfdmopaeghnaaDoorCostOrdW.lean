/- Walk of the law CostOrder: it returns true. Condition: the texts are not too long for any machine. -/
import Derived.Test.YtddfdmopaeghnaaDoorCostO
namespace Go.Proofs.YtddfdmopaeghnaaDoor
open Go.RowKit

theorem factO : cst 2 0 (⟨#[97, 98, 99, 10, 100]⟩ : ByteArray).data.toList = (1, 1) := by decide +kernel
theorem wp_namedC {P : Program} {c : Code} {Q : Exit → Act → World → Prop} {a : Act} {w : World} (S : World → Prop) (hS : S w) (h : ∀ w', S w' → Code.wp P c Q a w') : Code.wp P c Q a w := h w hS

/-- Three costs in memory. -/
def Box3 (g : Nat) (a1 a2 b1 b2 c1 c2 : Int) (w : World) : Prop := w.cell? ⟨g, 0, none⟩ = some (.int .i64 a1) ∧ w.cell? ⟨g, 1, none⟩ = some (.int .i64 a2) ∧ w.cell? ⟨g + 1, 0, none⟩ = some (.int .i64 b1) ∧ w.cell? ⟨g + 1, 1, none⟩ = some (.int .i64 b2) ∧ w.cell? ⟨g + 1 + 1, 0, none⟩ = some (.int .i64 c1) ∧ w.cell? ⟨g + 1 + 1, 1, none⟩ = some (.int .i64 c2) ∧ g + 3 ≤ w.heap.size
theorem Box3.past {g : Nat} {a1 a2 b1 b2 c1 c2 : Int} {w w' : World} (h : Box3 g a1 a2 b1 b2 c1 c2 w) (hb : Below w.heap.size w w') : Box3 g a1 a2 b1 b2 c1 c2 w' := by
  obtain ⟨h1, h2, h3, h4, h5, h6, h7⟩ := h
  have hz := hb.size
  exact ⟨(hb.cell (p := ⟨g, 0, none⟩) (by simp only; omega)).trans h1, (hb.cell (p := ⟨g, 1, none⟩) (by simp only; omega)).trans h2, (hb.cell (p := ⟨g + 1, 0, none⟩) (by simp only; omega)).trans h3, (hb.cell (p := ⟨g + 1, 1, none⟩) (by simp only; omega)).trans h4, (hb.cell (p := ⟨g + 1 + 1, 0, none⟩) (by simp only; omega)).trans h5, (hb.cell (p := ⟨g + 1 + 1, 1, none⟩) (by simp only; omega)).trans h6, by omega⟩
theorem Box3.new (w : World) (a1 a2 b1 b2 c1 c2 : Int) (T : TypeId) : Box3 w.heap.size a1 a2 b1 b2 c1 c2 (((w.alloc (.cells #[.int .i64 a1, .int .i64 a2] T)).alloc (.cells #[.int .i64 b1, .int .i64 b2] T)).alloc (.cells #[.int .i64 c1, .int .i64 c2] T)) := by
  have e0 : (((w.alloc (.cells #[.int .i64 a1, .int .i64 a2] T)).alloc (.cells #[.int .i64 b1, .int .i64 b2] T)).alloc (.cells #[.int .i64 c1, .int .i64 c2] T)).heap[w.heap.size]? = some (.cells #[.int .i64 a1, .int .i64 a2] T (0, 0)) :=
    (Below.heap_alloc _ _ _ (by first | (simp; done) | (simp; omega))).trans ((Below.heap_alloc _ _ _ (by first | (simp; done) | (simp; omega))).trans (heap_new rfl))
  have e1 : (((w.alloc (.cells #[.int .i64 a1, .int .i64 a2] T)).alloc (.cells #[.int .i64 b1, .int .i64 b2] T)).alloc (.cells #[.int .i64 c1, .int .i64 c2] T)).heap[w.heap.size + 1]? = some (.cells #[.int .i64 b1, .int .i64 b2] T (0, 0)) :=
    (Below.heap_alloc _ _ _ (by first | (simp; done) | (simp; omega))).trans (heap_new (by simp))
  have e2 : (((w.alloc (.cells #[.int .i64 a1, .int .i64 a2] T)).alloc (.cells #[.int .i64 b1, .int .i64 b2] T)).alloc (.cells #[.int .i64 c1, .int .i64 c2] T)).heap[w.heap.size + 1 + 1]? = some (.cells #[.int .i64 c1, .int .i64 c2] T (0, 0)) := heap_new (by simp)
  exact ⟨blk_cellC e0, blk_cellC e0, blk_cellC e1, blk_cellC e1, blk_cellC e2, blk_cellC e2, by simp⟩

/-- Of, of whatever. -/
def OfSome (w : World) (e : Ending) (w' : World) : Prop := ∃ (p q : Int) (er : Value), (er = .nilIface ∨ ∃ k : Int, er = .iface 33 (.int .i64 k)) ∧ e = .returned (.tuple #[.agg #[.int .i64 p, .int .i64 q], er]) ∧ Below w.heap.size w w'
theorem of_some (s : ByteArray) (hs : s.size ≤ maxLen) (width : Int) (w : World) : Calls Tryd.prog 9 #[.string s, .int .i64 width] w (OfSome w) := by
  by_cases h1 : 60000 < s.size
  · exact (of_full s h1 hs width w).mono fun e w' ⟨a, b⟩ => ⟨_, _, _, .inr ⟨_, rfl⟩, a, b⟩
  · by_cases h2 : width < 0 ∨ 100 < width
    · exact (of_wide s (by omega) width h2 w).mono fun e w' ⟨a, b⟩ => ⟨_, _, _, .inr ⟨_, rfl⟩, a, b⟩
    · obtain ⟨W, rfl⟩ : ∃ W : Nat, width = W := ⟨width.toNat, by omega⟩
      exact (of_good s (by omega) W (by omega) w).mono fun e w' ⟨a, b⟩ => ⟨_, _, _, .inl rfl, a, b⟩
theorem of_none (s : ByteArray) (hs : s.size ≤ maxLen) (width : Int) (h : 60000 < s.size ∨ width < 0 ∨ 100 < width) (w : World) : Calls Tryd.prog 9 #[.string s, .int .i64 width] w fun e w' => ∃ k : Int, e = .returned (.tuple #[.agg #[.int .i64 0, .int .i64 0], .iface 33 (.int .i64 k)]) ∧ Below w.heap.size w w' := by
  by_cases h1 : 60000 < s.size
  · exact (of_full s h1 hs width w).mono fun e w' ⟨a, b⟩ => ⟨_, a, b⟩
  · exact (of_wide s (by omega) width (by omega) w).mono fun e w' ⟨a, b⟩ => ⟨_, a, b⟩

theorem goodC_nat {a1 a2 : Int} (h : goodC (a1, a2) = true) : ∃ n1 n2 : Nat, a1 = n1 ∧ a2 = n2 ∧ n1 ≤ 1000000 ∧ n2 ≤ 1000000 := by
  simp [goodC] at h
  exact ⟨a1.toNat, a2.toNat, by omega, by omega, by omega, by omega⟩

/-- Add, of whatever. -/
theorem add_some (a b : Int × Int) (w : World) : Calls Tryd.prog 11 #[.agg #[.int .i64 a.1, .int .i64 a.2], .agg #[.int .i64 b.1, .int .i64 b.2]] w (OfSome w) := by
  obtain ⟨a1, a2⟩ := a
  obtain ⟨b1, b2⟩ := b
  by_cases h : goodC (a1, a2) = false ∨ goodC (b1, b2) = false
  · exact (add_bad (a1, a2) (b1, b2) h w).mono fun e w' ⟨x, y⟩ => ⟨_, _, _, .inr ⟨_, rfl⟩, x, y⟩
  · have h1 : goodC (a1, a2) = true := by cases hh : goodC (a1, a2) <;> simp_all
    have h2 : goodC (b1, b2) = true := by cases hh : goodC (b1, b2) <;> simp_all
    obtain ⟨m1, m2, rfl, rfl, l1, l2⟩ := goodC_nat h1
    obtain ⟨n1, n2, rfl, rfl, l3, l4⟩ := goodC_nat h2
    refine (add_ok (m1, m2) (n1, n2) ⟨l1, l2⟩ ⟨l3, l4⟩ w).mono fun e w' ⟨x, y⟩ => ?_
    split at x
    · exact ⟨_, _, _, .inl rfl, x, y⟩
    · exact ⟨_, _, _, .inr ⟨_, rfl⟩, x, y⟩
/-- Add refuses. -/
def AddNo (a1 a2 c1 c2 : Int) : Prop := ∀ w : World, Calls Tryd.prog 11 #[.agg #[.int .i64 a1, .int .i64 a2], .agg #[.int .i64 c1, .int .i64 c2]] w (Ret w (.tuple #[.agg #[.int .i64 0, .int .i64 0], .iface 33 (.int .i64 1)]))
/-- Three costs that may be, and their sums. -/
def AllOk (a1 a2 b1 b2 c1 c2 : Int) : Prop := ∃ m1 m2 n1 n2 q1 q2 : Nat, a1 = m1 ∧ a2 = m2 ∧ b1 = n1 ∧ b2 = n2 ∧ c1 = q1 ∧ c2 = q2 ∧ m1 + q1 ≤ 1000000 ∧ m2 + q2 ≤ 1000000 ∧ n1 + q1 ≤ 1000000 ∧ n2 + q2 ≤ 1000000
theorem sums (a1 a2 b1 b2 c1 c2 : Int) : AllOk a1 a2 b1 b2 c1 c2 ∨ AddNo a1 a2 c1 c2 ∨ AddNo b1 b2 c1 c2 := by
  by_cases hc : goodC (c1, c2) = true
  · obtain ⟨q1, q2, rfl, rfl, l5, l6⟩ := goodC_nat hc
    by_cases ha : goodC (a1, a2) = true
    · obtain ⟨m1, m2, rfl, rfl, l1, l2⟩ := goodC_nat ha
      by_cases hb : goodC (b1, b2) = true
      · obtain ⟨n1, n2, rfl, rfl, l3, l4⟩ := goodC_nat hb
        by_cases h1 : m1 + q1 ≤ 1000000 ∧ m2 + q2 ≤ 1000000
        · by_cases h2 : n1 + q1 ≤ 1000000 ∧ n2 + q2 ≤ 1000000
          · exact .inl ⟨m1, m2, n1, n2, q1, q2, rfl, rfl, rfl, rfl, rfl, rfl, h1.1, h1.2, h2.1, h2.2⟩
          · refine .inr (.inr fun w => ?_)
            have := add_ok (n1, n2) (q1, q2) ⟨l3, l4⟩ ⟨l5, l6⟩ w
            rw [if_neg h2] at this
            exact this
        · refine .inr (.inl fun w => ?_)
          have := add_ok (m1, m2) (q1, q2) ⟨l1, l2⟩ ⟨l5, l6⟩ w
          rw [if_neg h1] at this
          exact this
      · exact .inr (.inr fun w => add_bad (b1, b2) (q1, q2) (.inl (by simpa using hb)) w)
    · exact .inr (.inl fun w => add_bad (a1, a2) (q1, q2) (.inl (by simpa using ha)) w)
  · exact .inr (.inl fun w => add_bad (a1, a2) (c1, c2) (.inr (by simpa using hc)) w)

theorem cost_join (W : Nat) (s t : ByteArray) : cst W 0 (s ++ ⟨#[10]⟩ ++ t).data.toList = ((cst W 0 s.data.toList).1 + (cst W 0 t.data.toList).1, (cst W 0 s.data.toList).2 + (cst W 0 t.data.toList).2 + 1) := by
  have e : (s ++ ⟨#[10]⟩ ++ t).data.toList = s.data.toList ++ 10 :: t.data.toList := by simp
  rw [e, cst_app]
  simp only [cst, cAdd, ovr, lns, if_true]
  ext <;> simp <;> omega
theorem cost_bd (W : Nat) (s : ByteArray) : (cst W 0 s.data.toList).1 ≤ s.size ∧ (cst W 0 s.data.toList).2 ≤ s.size := by
  have h1 := ovr_le W s.data.toList 0
  have h2 := lns_le s.data.toList
  have e : s.data.toList.length = s.size := by simp
  simp only [cst]
  omega
set_option maxRecDepth 100000 in
set_option maxHeartbeats 8000000 in
theorem costOrder_any (a1 a2 b1 b2 c1 c2 : Int) (s t : ByteArray) (width : Int) (hs : s.size ≤ 4611686018427387903) (ht : t.size ≤ 4611686018427387903) (w : World) :
    Calls Tryd.prog 3 #[.agg #[.int .i64 a1, .int .i64 a2], .agg #[.int .i64 b1, .int .i64 b2], .agg #[.int .i64 c1, .int .i64 c2], .string s, .string t, .int .i64 width] w (Ret w (.bool true)) := by
  go_enter Tryd.func3, Tryd.ntmps3
  go_wp2_with fail
  refine (of_good ⟨#[97, 98, 99, 10, 100]⟩ (by decide) 2 (by omega) _).mono ?_
  rintro e w1 ⟨rfl, hB1⟩
  rw [factO]
  have hX1 := (Box3.new w a1 a2 b1 b2 c1 c2 23).past hB1
  have hB1' : Below w.heap.size w w1 := Below.trans (by exact (by repeat (first | exact Below.refl _ _ | assumption | apply Below.drew | refine below_drewN ?_ _ | apply Below.setCell _ (by first | omega | (simp; done) | (simp; omega)) | apply Below.alloc _ (by first | omega | (simp; done) | (simp; omega))))) (hB1.mono (by simp; omega))
  clear hB1
  go_upto_region 4 with fail
  refine wp_namedC (fun wx => Below w.heap.size w wx ∧ Box3 w.heap.size a1 a2 b1 b2 c1 c2 wx) ⟨hB1'.alloc hB1'.size _, hX1.past ((Below.refl _ _).alloc (Nat.le_refl _) _)⟩ ?_
  rintro w2 ⟨hB2, hX2⟩
  clear hB1' hX1
  have HB2 := Lib.hid hB2; have HX2 := Lib.hid hX2
  obtain ⟨x0, x1, y0, y1, z0, z1, hlt2⟩ := hX2
  clear hB2
  have hgo : (goodC (a1, a2) = true ∧ goodC (b1, b2) = true) ∨ (goodC (a1, a2) = false ∨ goodC (b1, b2) = false) := by
    cases goodC (a1, a2) <;> cases goodC (b1, b2) <;> simp
  have HS := Lib.hid (sums a1 a2 b1 b2 c1 c2)
  rcases hgo with ⟨hga, hgb⟩ | hbad
  case' inl =>
    obtain ⟨m1, m2, rfl, rfl, l1, l2⟩ := goodC_nat hga
    obtain ⟨n1, n2, rfl, rfl, l3, l4⟩ := goodC_nat hgb
    clear hga hgb
    go_wp2_with fail
    refine (less_ok (m1, m2) (n1, n2) ⟨l1, l2⟩ ⟨l3, l4⟩ _).mono ?_
    rintro e w3 ⟨rfl, hB3⟩
    have hX3 := HX2.out.past hB3
    have hB3' := HB2.out.trans (hB3.mono HB2.out.size)
    have HX3 := Lib.hid hX3
    obtain ⟨x0, x1, y0, y1, z0, z1, hlt3⟩ := hX3
    clear hB3
    go_wp2_with fail
    refine (less_ok (n1, n2) (m1, m2) ⟨l3, l4⟩ ⟨l1, l2⟩ _).mono ?_
    rintro e w4 ⟨rfl, hB4⟩
    have hX4 := HX3.out.past hB4
    have hB4' := hB3'.trans (hB4.mono hB3'.size)
    have HX4 := Lib.hid hX4
    obtain ⟨x0, x1, y0, y1, z0, z1, hlt4⟩ := hX4
    have HB4 := Lib.hid hB4'
    clear hB4 hB3' hB4'
    obtain ⟨u, hu⟩ : ∃ u, cLess (m1, m2) (n1, n2) = u := ⟨_, rfl⟩
    obtain ⟨v, hv⟩ : ∃ v, cLess (n1, n2) (m1, m2) = v := ⟨_, rfl⟩
    rw [hv]
    have HU := Lib.hid hu
    go_upto_region 6 with fail
    have HV := Lib.hid hv
    clear hu hv
    go_cut [78] from 55 to 78 (fun s78 wx => s78 = .bool false ∧ Below w4.heap.size w4 wx)
    case first =>
      by_cases h1 : m1 < n1 ∨ (m1 = n1 ∧ m2 < n2)
      · obtain rfl : u = true := by rw [← HU.out]; exact cLess_iff.2 h1
        obtain rfl : v = false := by rw [← HV.out, cLess_no]; simp only; omega
        clear h1
        go_wp2_with fail
        go_meet
        case rel => exact ⟨rfl, (by repeat (first | exact Below.refl _ _ | assumption | apply Below.drew | refine below_drewN ?_ _ | apply Below.setCell _ (by first | omega | (simp; done) | (simp; omega)) | apply Below.alloc _ (by first | omega | (simp; done) | (simp; omega))))⟩
      · obtain rfl : u = false := by rw [← HU.out, cLess_no]; simp only; omega
        by_cases h2 : n1 < m1
        · obtain rfl : v = true := by rw [← HV.out]; exact cLess_iff.2 (.inl h2)
          clear h1
          go_wp2_with fail
          all_goals first
            | (exfalso; omega)
            | (go_meet; case rel => exact ⟨rfl, (by repeat (first | exact Below.refl _ _ | assumption | apply Below.drew | refine below_drewN ?_ _ | apply Below.setCell _ (by first | omega | (simp; done) | (simp; omega)) | apply Below.alloc _ (by first | omega | (simp; done) | (simp; omega))))⟩)
        · obtain rfl : m1 = n1 := by omega
          by_cases h3 : n2 < m2
          · obtain rfl : v = true := by rw [← HV.out]; exact cLess_iff.2 (.inr ⟨rfl, h3⟩)
            clear h1 h2
            go_wp2_with fail
            all_goals first
              | (exfalso; omega)
              | (go_meet; case rel => exact ⟨rfl, (by repeat (first | exact Below.refl _ _ | assumption | apply Below.drew | refine below_drewN ?_ _ | apply Below.setCell _ (by first | omega | (simp; done) | (simp; omega)) | apply Below.alloc _ (by first | omega | (simp; done) | (simp; omega))))⟩)
          · obtain rfl : m2 = n2 := by omega
            obtain rfl : v = false := by rw [← HV.out]; exact cLess_irr _
            clear h1 h2 h3
            go_wp2_with fail
            go_meet
            case rel => exact ⟨rfl, (by repeat (first | exact Below.refl _ _ | assumption | apply Below.drew | refine below_drewN ?_ _ | apply Below.setCell _ (by first | omega | (simp; done) | (simp; omega)) | apply Below.alloc _ (by first | omega | (simp; done) | (simp; omega))))⟩
    case' rest =>
      obtain ⟨rfl, hBc⟩ := hcut
      have hXc := HX4.out.past hBc
      have hBc' := HB4.out.trans (hBc.mono HB4.out.size)
      go_upto_region 8 with fail
      refine wp_namedC (fun wx => Below w.heap.size w wx ∧ Box3 w.heap.size (m1 : Int) (m2 : Int) (n1 : Int) (n2 : Int) c1 c2 wx) ⟨hBc', hXc⟩ ?_
      clear hBc hXc hBc' HX4 HB4 HV HX3 HX2 HB2
      rintro w5 ⟨hB5, hX5⟩
  case' inr =>
    go_wp2_with fail
    refine (less_bad (a1, a2) (b1, b2) hbad _).mono ?_
    rintro e w3 ⟨rfl, hB3⟩
    have hX3 := HX2.out.past hB3
    have hB3' := HB2.out.trans (hB3.mono HB2.out.size)
    have HX3 := Lib.hid hX3
    obtain ⟨x0, x1, y0, y1, z0, z1, hlt3⟩ := hX3
    clear hB3
    go_wp2_with fail
    refine (less_bad (b1, b2) (a1, a2) hbad.symm _).mono ?_
    rintro e w4 ⟨rfl, hB4⟩
    have hX4 := HX3.out.past hB4
    have hB4' := hB3'.trans (hB4.mono hB3'.size)
    go_upto_region 8 with fail
    refine wp_namedC (fun wx => Below w.heap.size w wx ∧ Box3 w.heap.size a1 a2 b1 b2 c1 c2 wx) ⟨hB4', hX4⟩ ?_
    clear hB4 hX4 hB4' HX3 hB3' HX2 HB2
    rintro w5 ⟨hB5, hX5⟩
  case' inl =>
    have HX5 := Lib.hid hX5; have HB5 := Lib.hid hB5
    obtain ⟨x0, x1, y0, y1, z0, z1, hlt5⟩ := hX5
    clear hB5
    rcases HS.out with hok | hno
    case' inl =>
      obtain ⟨k1, k2, j1, j2, q1, q2, e1, e2, e3, e4, rfl, rfl, g1, g2, g3, g4⟩ := hok
      obtain rfl : m1 = k1 := by omega
      obtain rfl : m2 = k2 := by omega
      obtain rfl : n1 = j1 := by omega
      obtain rfl : n2 = j2 := by omega
      have HA1 := Lib.hid (fun w' => add_ok (m1, m2) (q1, q2) ⟨l1, l2⟩ ⟨by simp only; omega, by simp only; omega⟩ w')
      rw [if_pos ⟨g1, g2⟩] at HA1
      have HA2 := Lib.hid (fun w' => add_ok (n1, n2) (q1, q2) ⟨l3, l4⟩ ⟨by simp only; omega, by simp only; omega⟩ w')
      rw [if_pos ⟨g3, g4⟩] at HA2
      have HLE := Lib.hid (fun w' => less_ok (m1 + q1, m2 + q2) (n1 + q1, n2 + q2) ⟨g1, g2⟩ ⟨g3, g4⟩ w')
      have hadd : cLess (m1 + q1, m2 + q2) (n1 + q1, n2 + q2) = u := by rw [← HU.out]; exact cLess_add_r (q1, q2) (m1, m2) (n1, n2)
      rw [hadd] at HLE
      obtain ⟨s1, hs1⟩ : ∃ s1, m1 + q1 = s1 := ⟨_, rfl⟩
      obtain ⟨s2, hs2⟩ : ∃ s2, m2 + q2 = s2 := ⟨_, rfl⟩
      obtain ⟨s3, hs3⟩ : ∃ s3, n1 + q1 = s3 := ⟨_, rfl⟩
      obtain ⟨s4, hs4⟩ : ∃ s4, n2 + q2 = s4 := ⟨_, rfl⟩
      simp only [hs1, hs2, hs3, hs4] at HA1 HA2 HLE
      clear hadd e1 e2 e3 e4 g1 g2 g3 g4 l1 l2 l3 l4 HS hs1 hs2 hs3 hs4
      go_wp2_with fail
      refine (HA1.out _).mono ?_
      rintro e w6 ⟨rfl, hB6⟩
      have hX6 := HX5.out.past hB6
      have hB6' := HB5.out.trans (hB6.mono HB5.out.size)
      have HX6 := Lib.hid hX6
      obtain ⟨x0, x1, y0, y1, z0, z1, hlt6⟩ := hX6
      clear hB6 HX5 HB5
      go_upto_region 9 with fail
      refine wp_namedC (fun wx => Below w.heap.size w wx ∧ Box3 w.heap.size (m1 : Int) (m2 : Int) (n1 : Int) (n2 : Int) (q1 : Int) (q2 : Int) wx ∧ wx.heap[w6.heap.size]? = some (.cells #[.int .i64 (s1 : Nat), .int .i64 (s2 : Nat)] 23 (0, 0))) ⟨hB6'.alloc hB6'.size _, HX6.out.past ((Below.refl _ _).alloc (Nat.le_refl _) _), heap_new rfl⟩ ?_
      rintro w7 ⟨hB7, hX7, hP7⟩
      have HB7 := Lib.hid hB7; have HP7 := Lib.hid hP7
      generalize w6.heap.size = gp at *
      obtain ⟨x0, x1, y0, y1, z0, z1, hlt7⟩ := hX7
      clear hB6' HX6 hB7 hP7
      go_wp2_with fail
      refine (HA2.out _).mono ?_
      rintro e w8 ⟨rfl, hB8⟩
      have hP8 := blk_belowC HP7.out hB8
      have hB8' := HB7.out.trans (hB8.mono HB7.out.size)
      clear hB8 HB7 HP7
      have hgp : gp < w8.heap.size := (Array.getElem?_eq_some_iff.1 hP8).1
      have p0 := blk_cellC (j := 0) hP8; have p1 := blk_cellC (j := 1) hP8
      simp at p0 p1
      go_upto_region 14 with (go_at_call 10; refine (HLE.out _).mono ?_; rintro e w9 ⟨rfl, hB9⟩; have hBx : Below w.heap.size w w9 := (hB8'.alloc hB8'.size _).trans (hB9.mono (by have := hB8'.size; simp; omega)))
      refine wp_namedC (fun wx => Below w.heap.size w wx) hBx ?_
      clear hBx hB9 p0 p1 hP8 hB8' hgp
      rintro w10 hB10
    case' inr =>
      clear l1 l2 l3 l4 HS HU
      rcases hno with hna | hnb
      case' inl =>
        have HNA := Lib.hid hna
        clear hna
        go_wp2_with fail
        refine (HNA.out _).mono ?_
        rintro e w6 ⟨rfl, hB6⟩
        have hX6 := HX5.out.past hB6
        have hB6' := HB5.out.trans (hB6.mono HB5.out.size)
        have HX6 := Lib.hid hX6
        clear hB6 HX5 HB5
        go_upto_region 9 with fail
        refine wp_namedC (fun wx => Below w.heap.size w wx ∧ Box3 w.heap.size _ _ _ _ _ _ wx) ⟨hB6'.alloc hB6'.size _, HX6.out.past ((Below.refl _ _).alloc (Nat.le_refl _) _)⟩ ?_
        clear hB6' HX6 hX6
        rintro wz ⟨hB6', hX6⟩
        obtain ⟨x0, x1, y0, y1, z0, z1, hlt6⟩ := hX6
        go_wp2_with fail
        refine (add_some (_, _) (_, _) _).mono ?_
        rintro e w7 ⟨p7, q7, er, her, rfl, hB7⟩
        have hB7' : Below w.heap.size w w7 := hB6'.trans (hB7.mono hB6'.size)
        go_upto_region 14 with fail
        refine wp_namedC (fun wx => Below w.heap.size w wx) (hB7'.alloc hB7'.size _) ?_
        clear hB7 hB7' hB6'
        rintro w10 hB10
      case' inr =>
        have HNB := Lib.hid hnb
        clear hnb
        go_wp2_with fail
        refine (add_some (_, _) (_, _) _).mono ?_
        rintro e w6 ⟨p7, q7, er, her, rfl, hB6⟩
        have hX6 := HX5.out.past hB6
        have hB6' := HB5.out.trans (hB6.mono HB5.out.size)
        have HX6 := Lib.hid hX6
        clear hB6 HX5 HB5
        go_upto_region 9 with fail
        refine wp_namedC (fun wx => Below w.heap.size w wx ∧ Box3 w.heap.size _ _ _ _ _ _ wx) ⟨hB6'.alloc hB6'.size _, HX6.out.past ((Below.refl _ _).alloc (Nat.le_refl _) _)⟩ ?_
        clear hB6' HX6 hX6
        rintro wz ⟨hB6', hX6⟩
        obtain ⟨x0, x1, y0, y1, z0, z1, hlt6⟩ := hX6
        go_wp2_with fail
        refine (HNB.out _).mono ?_
        rintro e w7 ⟨rfl, hB7⟩
        have hB7' : Below w.heap.size w w7 := hB6'.trans (hB7.mono hB6'.size)
        rcases her with rfl | ⟨ek, rfl⟩
        all_goals
          go_upto_region 14 with fail
          refine wp_namedC (fun wx => Below w.heap.size w wx) (hB7'.alloc hB7'.size _) ?_
          clear hB7 hB7' hB6'
          rintro w10 hB10
  case' inr =>
    have HX5 := Lib.hid hX5; have HB5 := Lib.hid hB5
    obtain ⟨x0, x1, y0, y1, z0, z1, hlt5⟩ := hX5
    have hno : AddNo a1 a2 c1 c2 ∨ AddNo b1 b2 c1 c2 := by
      rcases HS.out with ⟨k1, k2, j1, j2, q1, q2, rfl, rfl, rfl, rfl, rfl, rfl, g1, g2, g3, g4⟩ | h
      · exfalso
        rcases hbad with h | h <;> simp [goodC] at h <;> omega
      · exact h
    clear hB5 HS hbad
    rcases hno with hna | hnb
    case' inl =>
      have HNA := Lib.hid hna
      clear hna
      go_wp2_with fail
      refine (HNA.out _).mono ?_
      rintro e w6 ⟨rfl, hB6⟩
      have hX6 := HX5.out.past hB6
      have hB6' := HB5.out.trans (hB6.mono HB5.out.size)
      have HX6 := Lib.hid hX6
      clear hB6 HX5 HB5
      go_upto_region 9 with fail
      refine wp_namedC (fun wx => Below w.heap.size w wx ∧ Box3 w.heap.size _ _ _ _ _ _ wx) ⟨hB6'.alloc hB6'.size _, HX6.out.past ((Below.refl _ _).alloc (Nat.le_refl _) _)⟩ ?_
      clear hB6' HX6 hX6
      rintro wz ⟨hB6', hX6⟩
      obtain ⟨x0, x1, y0, y1, z0, z1, hlt6⟩ := hX6
      go_wp2_with fail
      refine (add_some (_, _) (_, _) _).mono ?_
      rintro e w7 ⟨p7, q7, er, her, rfl, hB7⟩
      have hB7' : Below w.heap.size w w7 := hB6'.trans (hB7.mono hB6'.size)
      go_upto_region 14 with fail
      refine wp_namedC (fun wx => Below w.heap.size w wx) (hB7'.alloc hB7'.size _) ?_
      clear hB7 hB7' hB6'
      rintro w10 hB10
    case' inr =>
      have HNB := Lib.hid hnb
      clear hnb
      go_wp2_with fail
      refine (add_some (_, _) (_, _) _).mono ?_
      rintro e w6 ⟨p7, q7, er, her, rfl, hB6⟩
      have hX6 := HX5.out.past hB6
      have hB6' := HB5.out.trans (hB6.mono HB5.out.size)
      have HX6 := Lib.hid hX6
      clear hB6 HX5 HB5
      go_upto_region 9 with fail
      refine wp_namedC (fun wx => Below w.heap.size w wx ∧ Box3 w.heap.size _ _ _ _ _ _ wx) ⟨hB6'.alloc hB6'.size _, HX6.out.past ((Below.refl _ _).alloc (Nat.le_refl _) _)⟩ ?_
      clear hB6' HX6 hX6
      rintro wz ⟨hB6', hX6⟩
      obtain ⟨x0, x1, y0, y1, z0, z1, hlt6⟩ := hX6
      go_wp2_with fail
      refine (HNB.out _).mono ?_
      rintro e w7 ⟨rfl, hB7⟩
      have hB7' : Below w.heap.size w w7 := hB6'.trans (hB7.mono hB6'.size)
      rcases her with rfl | ⟨ek, rfl⟩
      all_goals
        go_upto_region 14 with fail
        refine wp_namedC (fun wx => Below w.heap.size w wx) (hB7'.alloc hB7'.size _) ?_
        clear hB7 hB7' hB6'
        rintro w10 hB10
  all_goals
    by_cases hgood : (0 ≤ width ∧ width ≤ 100) ∧ s.size + 1 + t.size ≤ 60000
    · obtain ⟨W, rfl⟩ : ∃ W : Nat, width = W := ⟨width.toNat, by omega⟩
      have hW : W ≤ 100 := by omega
      have hjs : (s ++ ⟨#[10]⟩ ++ t).size ≤ 60000 := by simp only [ByteArray.size_append]; have : (⟨#[10]⟩ : ByteArray).size = 1 := rfl; omega
      have HC1 := Lib.hid (fun w' => of_good s (by omega) W hW w')
      have HC2 := Lib.hid (fun w' => of_good t (by omega) W hW w')
      have HC3 := Lib.hid (fun w' => of_good (s ++ ⟨#[10]⟩ ++ t) hjs W hW w')
      have hb1 := cost_bd W s
      have hb2 := cost_bd W t
      rw [cost_join] at HC3
      generalize (cst W 0 s.data.toList).1 = i1 at *
      generalize (cst W 0 s.data.toList).2 = i2 at *
      generalize (cst W 0 t.data.toList).1 = o1 at *
      generalize (cst W 0 t.data.toList).2 = o2 at *
      simp only at HC3
      obtain ⟨r1, hr1⟩ : ∃ r1, i1 + o1 = r1 := ⟨_, rfl⟩
      obtain ⟨r2, hr2⟩ : ∃ r2, i2 + o2 + 1 = r2 := ⟨_, rfl⟩
      rw [hr1, hr2] at HC3
      have HR1 := Lib.hid hr1; have HR2 := Lib.hid hr2
      clear hr1 hr2 hjs
      have HB10 := Lib.hid hB10
      clear hB10
      go_wp2_with fail
      refine (HC1.out _).mono ?_
      rintro e w11 ⟨rfl, hB11⟩
      have hB11' := HB10.out.trans (hB11.mono HB10.out.size)
      clear hB11 HB10
      go_upto_region 15 with fail
      refine wp_namedC (fun wx => Below w.heap.size w wx ∧ wx.heap[w11.heap.size]? = some (.cells #[.int .i64 (i1 : Nat), .int .i64 (i2 : Nat)] 23 (0, 0))) ⟨hB11'.alloc hB11'.size _, heap_new rfl⟩ ?_
      rintro w12 ⟨hB12, hI12⟩
      generalize w11.heap.size = gi at *
      have HB12 := Lib.hid hB12; have HI12 := Lib.hid hI12
      clear hB11' hB12 hI12
      go_wp2_with fail
      refine (HC2.out _).mono ?_
      rintro e w13 ⟨rfl, hB13⟩
      have hB13' := HB12.out.trans (hB13.mono HB12.out.size)
      have hI13 := blk_belowC HI12.out hB13
      clear hB13 HB12 HI12
      go_upto_region 16 with fail
      refine wp_namedC (fun wx => Below w.heap.size w wx ∧ wx.heap[gi]? = some (.cells #[.int .i64 (i1 : Nat), .int .i64 (i2 : Nat)] 23 (0, 0)) ∧ wx.heap[w13.heap.size]? = some (.cells #[.int .i64 (o1 : Nat), .int .i64 (o2 : Nat)] 23 (0, 0))) ⟨hB13'.alloc hB13'.size _, (Below.heap_alloc _ _ _ (Array.getElem?_eq_some_iff.1 hI13).1).trans hI13, heap_new rfl⟩ ?_
      rintro w14 ⟨hB14, hI14, hO14⟩
      generalize w13.heap.size = go' at *
      have HB14 := Lib.hid hB14; have HI14 := Lib.hid hI14; have HO14 := Lib.hid hO14
      clear hB13' hI13 hB14 hI14 hO14
      go_wp2_with fail
      refine (HC3.out _).mono ?_
      rintro e w15 ⟨rfl, hB15⟩
      have hB15' := HB14.out.trans (hB15.mono HB14.out.size)
      have hI15 := blk_belowC HI14.out hB15
      have hO15 := blk_belowC HO14.out hB15
      have hgi : gi < w15.heap.size := (Array.getElem?_eq_some_iff.1 hI15).1
      have hgo : go' < w15.heap.size := (Array.getElem?_eq_some_iff.1 hO15).1
      have v0 := blk_cellC (j := 0) hI15; have v1 := blk_cellC (j := 1) hI15; have v2 := blk_cellC (j := 0) hO15; have v3 := blk_cellC (j := 1) hO15
      simp at v0 v1 v2 v3
      have q8 : ((r1 : Int) == (i1 : Int) + (o1 : Int)) = true := by have := HR1.out; rw [beq_iff_eq]; omega
      have q9 : ((r2 : Int) == (i2 : Int) + (o2 : Int) + 1) = true := by have := HR2.out; rw [beq_iff_eq]; omega
      have hs15 := hB15'.size
      clear hB15 HB14 HI14 HO14 hI15 hO15
      go_wp2_with fail
      go_ret
      exact ⟨rfl, (by repeat (first | exact Below.refl _ _ | assumption | apply Below.drew | refine below_drewN ?_ _ | apply Below.setCell _ (by first | omega | (simp; done) | (simp; omega)) | apply Below.alloc _ (by first | omega | (simp; done) | (simp; omega))))⟩
    · have HB10 := Lib.hid hB10
      have HNO := Lib.hid (fun w' => of_none (s ++ ⟨#[10]⟩ ++ t) (by simp only [ByteArray.size_append, maxLen]; have : (⟨#[10]⟩ : ByteArray).size = 1 := rfl; omega) width (by simp only [ByteArray.size_append]; have : (⟨#[10]⟩ : ByteArray).size = 1 := rfl; omega) w')
      clear hB10 hgood
      go_wp2_with fail
      refine (of_some s (by simp only [maxLen]; omega) _ _).mono ?_
      rintro e w11 ⟨p1', q1', er1, her1, rfl, hB11⟩
      have hB11' := HB10.out.trans (hB11.mono HB10.out.size)
      clear hB11 HB10
      go_wp2_with fail
      refine (of_some t (by simp only [maxLen]; omega) _ _).mono ?_
      rintro e w12 ⟨p2', q2', er2, her2, rfl, hB12⟩
      have hB12' : Below w.heap.size w w12 := (hB11'.alloc hB11'.size _).trans (hB12.mono (by have := hB11'.size; simp; omega))
      clear hB12 hB11'
      go_wp2_with fail
      refine (HNO.out _).mono ?_
      rintro e w13 ⟨ek3, rfl, hB13⟩
      have hB13' : Below w.heap.size w w13 := (hB12'.alloc hB12'.size _).trans (hB13.mono (by have := hB12'.size; simp; omega))
      have hs13 := hB13'.size
      clear hB13 hB12'
      rcases her1 with rfl | ⟨ek1, rfl⟩
      · rcases her2 with rfl | ⟨ek2, rfl⟩
        · go_wp2_with fail
          go_ret
          exact ⟨rfl, (by repeat (first | exact Below.refl _ _ | assumption | apply Below.drew | refine below_drewN ?_ _ | apply Below.setCell _ (by first | omega | (simp; done) | (simp; omega)) | apply Below.alloc _ (by first | omega | (simp; done) | (simp; omega))))⟩
        · go_wp2_with fail
          go_ret
          exact ⟨rfl, (by repeat (first | exact Below.refl _ _ | assumption | apply Below.drew | refine below_drewN ?_ _ | apply Below.setCell _ (by first | omega | (simp; done) | (simp; omega)) | apply Below.alloc _ (by first | omega | (simp; done) | (simp; omega))))⟩
      · go_wp2_with fail
        go_ret
        exact ⟨rfl, (by repeat (first | exact Below.refl _ _ | assumption | apply Below.drew | refine below_drewN ?_ _ | apply Below.setCell _ (by first | omega | (simp; done) | (simp; omega)) | apply Below.alloc _ (by first | omega | (simp; done) | (simp; omega))))⟩
end Go.Proofs.YtddfdmopaeghnaaDoor
