/- Walks of package best: put, plus; of cost.Under. Conditions: the search lies in memory; the numbers are small. -/
import Derived.Test.YtddfdmopaeghnacGreatDoorBestM
import Derived.Laws.ResultCell
import Derived.Deep.RegionHeld3
import Derived.IntWalk
namespace Go.Proofs.YtddfdmopaeghnacGreatDoor
open Go.RowKit

theorem cut_no {t : ByteArray} (h : NoNl t.data.toList) (w : World) : Calls Tryz.prog 185 #[.string t, .string ⟨#[10]⟩] w fun e w' => e = .returned (.tuple #[.string t, .bool false]) ∧ w = w' := by
  refine (Tryz.strings_CutPrefix t ⟨#[10]⟩ w).mono fun e w' ⟨he, hw⟩ => ⟨?_, hw.symm⟩
  have hp : Lib.hasPrefix t.data.toList [10] = false := by
    cases hl : t.data.toList with
    | nil => rfl
    | cons c r =>
      have hc : c ≠ 10 := h c (by simp [hl])
      simp [Lib.hasPrefix, List.isPrefixOf]
      exact fun e => hc e.symm
  rw [he]
  have e1 : (⟨#[10]⟩ : ByteArray).data.toList = [10] := rfl
  rw [e1, Lib.trimPrefix, hp]
  simp
theorem cut_yes {r : List UInt8} (w : World) : Calls Tryz.prog 185 #[.string ⟨(10 :: r).toArray⟩, .string ⟨#[10]⟩] w fun e w' => e = .returned (.tuple #[.string ⟨r.toArray⟩, .bool true]) ∧ w = w' := by
  refine (Tryz.strings_CutPrefix ⟨(10 :: r).toArray⟩ ⟨#[10]⟩ w).mono fun e w' ⟨he, hw⟩ => ⟨?_, hw.symm⟩
  have hp : Lib.hasPrefix (10 :: r) [10] = true := by simp [Lib.hasPrefix, List.isPrefixOf]
  rw [he]
  have e1 : (⟨#[10]⟩ : ByteArray).data.toList = [10] := rfl
  have e2 : (⟨(10 :: r).toArray⟩ : ByteArray).data.toList = 10 :: r := by simp
  rw [e1, e2, Lib.trimPrefix, hp]
  simp

theorem agg2 {a b c d : Int} (h1 : a = c) (h2 : b = d) : (.agg #[.int .i64 a, .int .i64 b] : Value) = .agg #[.int .i64 c, .int .i64 d] := by rw [h1, h2]

set_option maxRecDepth 100000 in
set_option maxHeartbeats 1000000 in
theorem plus_any (a b : Nat × Nat) (h1 : a.1 + b.1 ≤ 9000000) (h2 : a.2 + b.2 ≤ 9000000) (w : World) :
    Calls Tryz.prog 153 #[.agg #[.int .i64 (a.1 : Nat), .int .i64 (a.2 : Nat)], .agg #[.int .i64 (b.1 : Nat), .int .i64 (b.2 : Nat)]] w (Ret w (.agg #[.int .i64 ((cAdd a b).1 : Nat), .int .i64 ((cAdd a b).2 : Nat)])) := by
  obtain ⟨a1, a2⟩ := a
  obtain ⟨b1, b2⟩ := b
  simp only [cAdd] at *
  go_enter Tryz.func153, Tryz.ntmps153
  go_wp2
  simp [bodyPost, results, Tryz.results153, go_sem]
  exact ⟨rfl, (by repeat (first | exact Below.refl _ _ | assumption | apply Below.drew | refine below_drewN ?_ _ | apply Below.setCell _ (by first | omega | (simp; done) | (simp; omega)) | apply Below.alloc _ (by first | omega | (simp; done) | (simp; omega))))⟩

set_option maxRecDepth 100000 in
set_option maxHeartbeats 1000000 in
theorem under_any (a b : Nat × Nat) {r : Bool} (h : cLess a b = r) (w : World) :
    Calls Tryz.prog 154 #[.agg #[.int .i64 (a.1 : Nat), .int .i64 (a.2 : Nat)], .agg #[.int .i64 (b.1 : Nat), .int .i64 (b.2 : Nat)]] w (Ret w (.bool r)) := by
  obtain ⟨a1, a2⟩ := a
  obtain ⟨b1, b2⟩ := b
  simp only [cLess] at h ⊢
  subst h
  have he : ((a1 : Int) == (b1 : Int)) = decide (a1 = b1) := by rw [Bool.eq_iff_iff]; simp; omega
  by_cases h1 : a1 < b1
  · have k1 : decide (a1 < b1) = true := decide_eq_true h1
    have k2 : decide (a1 < b1 ∨ a1 = b1 ∧ a2 < b2) = true := decide_eq_true (.inl h1)
    rw [k2]
    clear k2 he
    go_enter Tryz.func154, Tryz.ntmps154
    go_wp2
    go_ret
    exact ⟨rfl, (by repeat (first | exact Below.refl _ _ | assumption | apply Below.drew | refine below_drewN ?_ _ | apply Below.setCell _ (by first | omega | (simp; done) | (simp; omega)) | apply Below.alloc _ (by first | omega | (simp; done) | (simp; omega))))⟩
  · have k1 : decide (a1 < b1) = false := decide_eq_false h1
    by_cases h2 : a1 = b1
    · subst h2
      have k3 : decide (a1 < a1 ∨ a1 = a1 ∧ a2 < b2) = decide (a2 < b2) := by congr 1; simp
      rw [k3]
      clear k3 he h1
      by_cases h3 : a2 < b2
      · have k4 : decide (a2 < b2) = true := decide_eq_true h3
        rw [k4]
        go_enter Tryz.func154, Tryz.ntmps154
        go_wp2
        go_ret
        exact ⟨rfl, (by repeat (first | exact Below.refl _ _ | assumption | apply Below.drew | refine below_drewN ?_ _ | apply Below.setCell _ (by first | omega | (simp; done) | (simp; omega)) | apply Below.alloc _ (by first | omega | (simp; done) | (simp; omega))))⟩
      · have k4 : decide (a2 < b2) = false := decide_eq_false h3
        rw [k4]
        go_enter Tryz.func154, Tryz.ntmps154
        go_wp2
        go_ret
        exact ⟨rfl, (by repeat (first | exact Below.refl _ _ | assumption | apply Below.drew | refine below_drewN ?_ _ | apply Below.setCell _ (by first | omega | (simp; done) | (simp; omega)) | apply Below.alloc _ (by first | omega | (simp; done) | (simp; omega))))⟩
    · have k2 : ((a1 : Int) == (b1 : Int)) = false := by rw [he]; exact decide_eq_false h2
      have k3 : decide (a1 < b1 ∨ a1 = b1 ∧ a2 < b2) = false := decide_eq_false (by omega)
      rw [k3]
      clear k3 he
      go_enter Tryz.func154, Tryz.ntmps154
      go_wp2
      go_ret
      exact ⟨rfl, (by repeat (first | exact Below.refl _ _ | assumption | apply Below.drew | refine below_drewN ?_ _ | apply Below.setCell _ (by first | omega | (simp; done) | (simp; omega)) | apply Below.alloc _ (by first | omega | (simp; done) | (simp; omega))))⟩

set_option maxRecDepth 100000 in
set_option maxHeartbeats 2000000 in
theorem put_no {gs gp bm W col : Nat} {t : ByteArray} (ht : NoNl t.data.toList) (hc : col ≤ 9000000) (hz : t.size ≤ 9000000) (hW : W ≤ 100) (w : World)
    (hb : w.heap[gs]? = some (.cells #[.pointer (some ⟨gp, 0, none⟩), .int .i64 (W : Nat), .map (some bm)] 176 (0, 0))) :
    Calls Tryz.prog 152 #[.pointer (some ⟨gs, 0, none⟩), .string t, .int .i64 (col : Nat)] w (Ret w (.tuple #[.agg #[.int .i64 ((cst W col t.data.toList).1 : Nat), .int .i64 ((cst W col t.data.toList).2 : Nat)], .int .i64 (colOf col t.data.toList : Nat)])) := by
  have hov : (ovr W col t.data.toList : Int) = max 0 ((col : Int) + t.size - W) - max 0 ((col : Int) - W) := by
    rw [ovr_no W _ col ht]
    have : t.data.toList.length = t.size := by simp
    rw [this]
    omega
  have hcl : (colOf col t.data.toList : Int) = col + t.size := by
    rw [colOf_no _ _ ht]; simp
  have hln := lns_no _ ht
  have c1 := blk_cell (j := 1) hb
  simp at c1
  have hlt := lt_of_heap hb
  have HT := Lib.hid ht; have HOV := Lib.hid hov; have HCL := Lib.hid hcl; have HLN := Lib.hid hln
  clear ht hov hcl hln hb
  go_enter Tryz.func152, Tryz.ntmps152
  go_wp2_with (go_at_call 185; refine (cut_no HT.out _).mono ?_; rintro e w1 ⟨rfl, rfl⟩)
  have c2 : ∀ o1 o2, ((w.alloc o1).alloc o2).cell? ⟨gs, 1, none⟩ = some (.int .i64 (W : Nat)) := fun o1 o2 =>
    ((((Below.refl _ _).alloc (Nat.le_refl _) _).alloc (by simp) _ : Below w.heap.size w _).cell (p := ⟨gs, 1, none⟩) hlt).trans c1
  have k1 : IntKind.i64.wrap ((col : Int) + t.size - W) = (col : Int) + t.size - W := IntWalk.i64_in _ (by omega)
  have k2 : IntKind.i64.wrap ((col : Int) - W) = (col : Int) - W := IntWalk.i64_in _ (by omega)
  have k3 : IntKind.i64.wrap (max 0 ((col : Int) + t.size - W) - max 0 ((col : Int) - W)) = (ovr W col t.data.toList : Nat) := by rw [← HOV.out]; exact IntWalk.i64_in _ (by have := ovr_le W t.data.toList col; simp at this; omega)
  go_region_held3 (fun w' => w'.cell? ⟨gs, 1, none⟩ = some (.int .i64 (W : Nat))) (exact c2 _ _) (fail)
  clear k1 k2 k3
  all_goals
    go_wp2
    simp [bodyPost, results, Tryz.results152, go_sem]
    refine ⟨?_, (by repeat (first | exact Below.refl _ _ | assumption | apply Below.drew | refine below_drewN ?_ _ | apply Below.setCell _ (by first | omega | (simp; done) | (simp; omega)) | apply Below.alloc _ (by first | omega | (simp; done) | (simp; omega))))⟩
    rw [HCL.out, cst, HLN.out]
    first | rfl | (rw [HOV.out]; rfl)

set_option maxRecDepth 100000 in
set_option maxHeartbeats 2000000 in
theorem put_nl {gs gp bm W col : Nat} {r : List UInt8} (ht : NoNl r) (hz : r.length ≤ 9000000) (hW : W ≤ 100) (w : World)
    (hb : w.heap[gs]? = some (.cells #[.pointer (some ⟨gp, 0, none⟩), .int .i64 (W : Nat), .map (some bm)] 176 (0, 0))) :
    Calls Tryz.prog 152 #[.pointer (some ⟨gs, 0, none⟩), .string ⟨(10 :: r).toArray⟩, .int .i64 (col : Nat)] w (Ret w (.tuple #[.agg #[.int .i64 ((cst W col (10 :: r)).1 : Nat), .int .i64 ((cst W col (10 :: r)).2 : Nat)], .int .i64 (colOf col (10 :: r) : Nat)])) := by
  obtain ⟨t, htr⟩ : ∃ t : ByteArray, t = ⟨r.toArray⟩ := ⟨_, rfl⟩
  have hts : t.size = r.length := by rw [htr]; simp [ByteArray.size]
  have hcs : cst W col (10 :: r) = (ovr W 0 r, 1) := by simp [cst, ovr, lns, lns_no _ ht]
  have hcl : colOf col (10 :: r) = t.size := by rw [colOf, if_pos rfl, colOf_no _ _ ht, hts]; omega
  have hov : (ovr W 0 r : Int) = max 0 ((t.size : Int) - W) - max 0 ((0 : Int) - W) := by
    rw [ovr_no W _ 0 ht, hts]
    omega
  have hol := ovr_le W r 0
  rw [hcs, hcl]
  have c1 := blk_cell (j := 1) hb
  simp at c1
  have hlt := lt_of_heap hb
  rw [← hts] at hz hol
  have CUT := Lib.hid (fun w => cut_yes (r := r) w)
  rw [← htr] at CUT
  have HOV := Lib.hid hov
  clear ht hov hcl hcs hb hts htr
  generalize ovr W 0 r = OV at *
  go_enter Tryz.func152, Tryz.ntmps152
  go_wp2_with (go_at_call 185; refine (CUT.out _).mono ?_; rintro e w1 ⟨rfl, rfl⟩)
  have c2 : ∀ o1 o2, ((w.alloc o1).alloc o2).cell? ⟨gs, 1, none⟩ = some (.int .i64 (W : Nat)) := fun o1 o2 =>
    ((((Below.refl _ _).alloc (Nat.le_refl _) _).alloc (by simp) _ : Below w.heap.size w _).cell (p := ⟨gs, 1, none⟩) hlt).trans c1
  have k1 : IntKind.i64.wrap ((t.size : Int) - W) = (t.size : Int) - W := IntWalk.i64_in _ (by omega)
  have k2 : IntKind.i64.wrap ((0 : Int) - W) = (0 : Int) - W := IntWalk.i64_in _ (by omega)
  have k3 : IntKind.i64.wrap (max 0 ((t.size : Int) - W) - max 0 ((0 : Int) - W)) = (OV : Nat) := by rw [← HOV.out]; exact IntWalk.i64_in _ (by omega)
  go_region_held3 (fun w' => w'.cell? ⟨gs, 1, none⟩ = some (.int .i64 (W : Nat))) (exact c2 _ _) (fail)
  clear k1 k2 k3
  all_goals
    go_wp2
    simp [bodyPost, results, Tryz.results152, go_sem]
    refine ⟨?_, (by repeat (first | exact Below.refl _ _ | assumption | apply Below.drew | refine below_drewN ?_ _ | apply Below.setCell _ (by first | omega | (simp; done) | (simp; omega)) | apply Below.alloc _ (by first | omega | (simp; done) | (simp; omega))))⟩
    first | rfl | (rw [HOV.out]; simp)

theorem put_any {gs gp bm W col : Nat} {t : ByteArray} (ht : PTxt t) (hc : col ≤ 9000000) (hz : t.size ≤ 9000000) (hW : W ≤ 100) (w : World)
    (hb : w.heap[gs]? = some (.cells #[.pointer (some ⟨gp, 0, none⟩), .int .i64 (W : Nat), .map (some bm)] 176 (0, 0))) :
    Calls Tryz.prog 152 #[.pointer (some ⟨gs, 0, none⟩), .string t, .int .i64 (col : Nat)] w (Ret w (.tuple #[.agg #[.int .i64 ((cst W col t.data.toList).1 : Nat), .int .i64 ((cst W col t.data.toList).2 : Nat)], .int .i64 (colOf col t.data.toList : Nat)])) := by
  rcases ht with h | ⟨r, h, rfl⟩
  · exact put_no h hc hz hW w hb
  · have e : (⟨(10 :: r).toArray⟩ : ByteArray).data.toList = 10 :: r := by simp
    rw [e]
    exact put_nl h (by have : (⟨(10 :: r).toArray⟩ : ByteArray).size = r.length + 1 := by simp [ByteArray.size]
                       omega) hW w hb
end Go.Proofs.YtddfdmopaeghnacGreatDoor
