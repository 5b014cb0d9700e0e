/- Walks of the reference's Less, CostOf. Conditions: the text's size is that of a text; the numbers are small. -/
import Derived.Test.YtddfdmopaeghnacDoorCstP
import Derived.Test.YtddfdmopaeghnacDoorDocW
import Derived.Laws.ResultCell
namespace Go.Proofs.YtddfdmopaeghnacDoor
open Go.RowKit

theorem blk_cellR {w : World} {g j : Nat} {cs : Array Value} {T : TypeId} {fr : Nat × Nat} (h : w.heap[g]? = some (.cells cs T fr)) : w.cell? ⟨g, j, none⟩ = cs[j]? := cell_of_row w g j cs T fr h
theorem blk_freeR {w : World} {g j : Nat} {cs : Array Value} {T : TypeId} (h : w.heap[g]? = some (.cells cs T (0, 0))) : w.frozen? ⟨g, j, none⟩ = false := by simp [World.frozen?, h]
theorem blk_set1R {w : World} {b : Nat} {x y v : Value} {T : TypeId} {fr : Nat × Nat} (h : w.heap[b]? = some (.cells #[x, y] T fr)) : (w.setCell ⟨b, 1, none⟩ v).heap[b]? = some (.cells #[x, v] T fr) := by
  simp [World.setCell, Array.getElem?_modify, h]
theorem blk_set0R {w : World} {b : Nat} {x y v : Value} {T : TypeId} {fr : Nat × Nat} (h : w.heap[b]? = some (.cells #[x, y] T fr)) : (w.setCell ⟨b, 0, none⟩ v).heap[b]? = some (.cells #[v, y] T fr) := by
  simp [World.setCell, Array.getElem?_modify, h]
theorem blk_otherR {w : World} {g : Nat} {o : Obj} {p : Addr} {v : Value} (h : w.heap[g]? = some o) (hne : g ≠ p.block) : (w.setCell p v).heap[g]? = some o := (Below.heap_setCell _ _ _ _ hne).trans h
theorem refless_any (a b : Nat × Nat) {r : Bool} (h : cLess a b = r) (w : World) :
    Calls Tryd.prog 21 #[.agg #[.int .i64 (a.1 : Nat), .int .i64 (a.2 : Nat)], .agg #[.int .i64 (b.1 : Nat), .int .i64 (b.2 : Nat)]] w (Ret w (.bool r)) := by
  obtain ⟨a1, a2⟩ := a
  obtain ⟨b1, b2⟩ := b
  simp only [cLess] at h ⊢
  subst h
  have he : ((a1 : Int) == (b1 : Int)) = decide (a1 = b1) := by rw [Bool.eq_iff_iff]; simp; omega
  by_cases h2 : a1 = b1
  · subst h2
    have k3 : decide (a1 < a1 ∨ a1 = a1 ∧ a2 < b2) = decide (a2 < b2) := by congr 1; simp
    rw [k3]
    have k1 : ((a1 : Int) != (a1 : Int)) = false := by simp
    clear k3 he
    by_cases h3 : a2 < b2
    · have k4 : decide (a2 < b2) = true := decide_eq_true h3
      rw [k4]
      go_enter Tryd.func21, Tryd.ntmps21
      go_wp2
      go_ret
      exact ⟨rfl, (by repeat (first | exact Below.refl _ _ | assumption | apply Below.drew | refine below_drewN ?_ _ | apply Below.setCell _ (by first | omega | (simp; done) | (simp; omega)) | apply Below.alloc _ (by first | omega | (simp; done) | (simp; omega))))⟩
    · have k4 : decide (a2 < b2) = false := decide_eq_false h3
      rw [k4]
      go_enter Tryd.func21, Tryd.ntmps21
      go_wp2
      go_ret
      exact ⟨rfl, (by repeat (first | exact Below.refl _ _ | assumption | apply Below.drew | refine below_drewN ?_ _ | apply Below.setCell _ (by first | omega | (simp; done) | (simp; omega)) | apply Below.alloc _ (by first | omega | (simp; done) | (simp; omega))))⟩
  · have k2 : ((a1 : Int) == (b1 : Int)) = false := by rw [he]; exact decide_eq_false h2
    have k1 : ((a1 : Int) != (b1 : Int)) = true := by simp; omega
    have k3 : decide (a1 < b1 ∨ a1 = b1 ∧ a2 < b2) = decide (a1 < b1) := by congr 1; simp [h2]
    rw [k3]
    clear k3 he
    by_cases h3 : a1 < b1
    · have k4 : decide (a1 < b1) = true := decide_eq_true h3
      rw [k4]
      go_enter Tryd.func21, Tryd.ntmps21
      go_wp2
      go_ret
      exact ⟨rfl, (by repeat (first | exact Below.refl _ _ | assumption | apply Below.drew | refine below_drewN ?_ _ | apply Below.setCell _ (by first | omega | (simp; done) | (simp; omega)) | apply Below.alloc _ (by first | omega | (simp; done) | (simp; omega))))⟩
    · have k4 : decide (a1 < b1) = false := decide_eq_false h3
      rw [k4]
      go_enter Tryd.func21, Tryd.ntmps21
      go_wp2
      go_ret
      exact ⟨rfl, (by repeat (first | exact Below.refl _ _ | assumption | apply Below.drew | refine below_drewN ?_ _ | apply Below.setCell _ (by first | omega | (simp; done) | (simp; omega)) | apply Below.alloc _ (by first | omega | (simp; done) | (simp; omega))))⟩

/-- So much of a text: what it costs, the column. -/
theorem cst_snoc (W col : Nat) (s : List UInt8) (c : UInt8) : cst W col (s ++ [c]) = ((ovr W col s + if c = 10 then 0 else if W < colOf col s + 1 then 1 else 0), lns s + if c = 10 then 1 else 0) := by
  rw [cst_app]
  simp only [cst, cAdd, ovr, lns]
  by_cases h : c = 10 <;> simp [h]
theorem col_snoc (col : Nat) (s : List UInt8) (c : UInt8) : colOf col (s ++ [c]) = if c = 10 then 0 else colOf col s + 1 := by
  rw [colOf_app]
  simp only [colOf]
theorem take_byte {s : ByteArray} {k : Nat} (hk : k < s.size) : s.data.toList.take (k + 1) = s.data.toList.take k ++ [s[k]] := by
  rw [List.take_succ_eq_append_getElem (by simpa using hk)]; rfl

set_option maxRecDepth 100000 in
set_option maxHeartbeats 2000000 in
theorem costof_any (s : ByteArray) (hs : s.size ≤ 100000000) (W : Nat) (w : World) :
    Calls Tryd.prog 20 #[.string s, .int .i64 (W : Nat)] w (Ret w (.agg #[.int .i64 ((cst W 0 s.data.toList).1 : Nat), .int .i64 ((cst W 0 s.data.toList).2 : Nat)])) := by
  go_enter Tryd.func20, Tryd.ntmps20
  go_wp2
  go_loopw [6, 7] (fun s6 s7 wr => ∃ k : Nat, k ≤ s.size ∧ s7 = .int .i64 k ∧ s6 = .int .i64 (colOf 0 (s.data.toList.take k) : Nat) ∧ wr.heap[w.heap.size]? = some (.cells #[.int .i64 0, .int .i64 0] 27 (0, 0)) ∧ wr.heap[w.heap.size + 1]? = some (.cells #[.int .i64 (ovr W 0 (s.data.toList.take k) : Nat), .int .i64 (lns (s.data.toList.take k) : Nat)] 27 (0, 0)) ∧ Below w.heap.size w wr) (fun _ s7 _ => s.size - (intOf s7).toNat)
  case atStart =>
    refine ⟨0, Nat.zero_le _, rfl, rfl, (Below.heap_alloc _ _ _ (by simp)).trans (heap_new rfl), heap_new (by simp), (by repeat (first | exact Below.refl _ _ | assumption | apply Below.drew | refine below_drewN ?_ _ | apply Below.setCell _ (by first | omega | (simp; done) | (simp; omega)) | apply Below.alloc _ (by first | omega | (simp; done) | (simp; omega))))⟩
  case round =>
    obtain ⟨k, hk, rfl, rfl, h4, h5, hB⟩ := hrel
    have c0 := blk_cellR (j := 0) h5
    have c1 := blk_cellR (j := 1) h5
    have f0 := blk_freeR (j := 0) h5
    have f1 := blk_freeR (j := 1) h5
    simp at c0 c1
    have hco := colOf_le (s.data.toList.take k) 0
    have hov := ovr_le W (s.data.toList.take k) 0
    have hln := lns_le (s.data.toList.take k)
    have htl : (s.data.toList.take k).length ≤ k := List.length_take_le _ _
    have HB := Lib.hid hB; have H4 := Lib.hid h4; have H5 := Lib.hid h5
    clear hB h4 h5
    by_cases hlt : k < s.size
    · have hts := take_byte hlt
      have hcs := cst_snoc W 0 (s.data.toList.take k) s[k]
      have hcl := col_snoc 0 (s.data.toList.take k) s[k]
      rw [← hts] at hcs hcl
      simp only [cst, Prod.mk.injEq] at hcs
      obtain ⟨ho, hl⟩ := hcs
      have HO := Lib.hid ho; have HL := Lib.hid hl; have HC := Lib.hid hcl
      clear ho hl hcl hts
      by_cases hc : s[k] = 10
      · have q5 : s[k].toNat = 10 := by rw [hc]; rfl
        have q6 : decide (s[k].toNat = 10) = true := decide_eq_true q5
        have q7 : decide ((s[k].toNat : Int) = 10) = true := decide_eq_true (by omega)
        have e1 : (ovr W 0 (s.data.toList.take (k + 1)) : Int) = (ovr W 0 (s.data.toList.take k) : Int) := by rw [HO.out, if_pos hc]; rfl
        have e2 : (lns (s.data.toList.take (k + 1)) : Int) = (lns (s.data.toList.take k) : Int) + 1 := by rw [HL.out, if_pos hc]; rfl
        have e3 : colOf 0 (s.data.toList.take (k + 1)) = 0 := by rw [HC.out, if_pos hc]
        have E1 := Lib.hid e1; have E2 := Lib.hid e2; have E3 := Lib.hid e3
        clear e1 e2 e3 hc
        go_wp2_with fail
        go_roundw
        case measure => simp [intOf]; omega
        case rel =>
          refine ⟨k + 1, by omega, by go_num, by rw [E3.out]; rfl, blk_otherR H4.out (by simp), ?_, HB.out.setCell (p := ⟨w.heap.size + 1, 1, none⟩) (by simp) _⟩
          rw [E1.out, E2.out]
          exact blk_set1R H5.out
      · have q5 : s[k].toNat ≠ 10 := fun h => hc (UInt8.toNat_inj.1 h)
        have q6 : decide (s[k].toNat = 10) = false := decide_eq_false q5
        have q7 : decide ((s[k].toNat : Int) = 10) = false := decide_eq_false (by omega)
        have e2 : (lns (s.data.toList.take (k + 1)) : Int) = (lns (s.data.toList.take k) : Int) := by rw [HL.out, if_neg hc]; rfl
        have e3 : (colOf 0 (s.data.toList.take (k + 1)) : Int) = (colOf 0 (s.data.toList.take k) : Int) + 1 := by rw [HC.out, if_neg hc]; rfl
        have E2 := Lib.hid e2; have E3 := Lib.hid e3
        by_cases hw : W < colOf 0 (s.data.toList.take k) + 1
        · have e1 : (ovr W 0 (s.data.toList.take (k + 1)) : Int) = (ovr W 0 (s.data.toList.take k) : Int) + 1 := by rw [HO.out, if_neg hc, if_pos hw]; rfl
          have E1 := Lib.hid e1
          have q8 : decide ((W : Int) < (colOf 0 (s.data.toList.take k) : Int) + 1) = true := decide_eq_true (by omega)
          clear e1 e2 e3 hc hw
          go_wp2_with fail
          go_roundw
          case measure => simp [intOf]; omega
          case rel =>
            refine ⟨k + 1, by omega, by go_num, by rw [E3.out], blk_otherR H4.out (by simp), ?_, HB.out.setCell (p := ⟨w.heap.size + 1, 0, none⟩) (by simp) _⟩
            rw [E1.out, E2.out]
            exact blk_set0R H5.out
        · have e1 : (ovr W 0 (s.data.toList.take (k + 1)) : Int) = (ovr W 0 (s.data.toList.take k) : Int) := by rw [HO.out, if_neg hc, if_neg hw]; rfl
          have E1 := Lib.hid e1
          have q8 : decide ((W : Int) < (colOf 0 (s.data.toList.take k) : Int) + 1) = false := decide_eq_false (by omega)
          clear e1 e2 e3 hc hw
          go_wp2_with fail
          go_roundw
          case measure => simp [intOf]; omega
          case rel => exact ⟨k + 1, by omega, by go_num, by rw [E3.out], H4.out, by rw [E1.out, E2.out]; exact H5.out, HB.out⟩
    · have hkk : k = s.size := by omega
      subst hkk
      have hall : s.data.toList.take s.size = s.data.toList := List.take_of_length_le (by simp)
      rw [hall] at c0 c1
      have g0 := blk_cellR (j := 0) H4.out
      have g1 := blk_cellR (j := 1) H4.out
      have g2 := blk_freeR (j := 0) H4.out
      have g3 := blk_freeR (j := 1) H4.out
      simp at g0 g1
      have b0 := blk_set1R (v := .int .i64 (lns s.data.toList : Nat)) (blk_set0R (v := .int .i64 (ovr W 0 s.data.toList : Nat)) H4.out)
      have HB0 := Lib.hid b0
      clear b0 hall
      go_wp2
      have b1 := blk_cellR (j := 0) HB0.out
      have b2 := blk_cellR (j := 1) HB0.out
      simp at b1 b2
      simp [bodyPost, results, Tryd.results20, go_sem, b1, b2]
      exact ⟨rfl, (HB.out.setCell (p := ⟨w.heap.size, 0, none⟩) (Nat.le_refl _) _).setCell (p := ⟨w.heap.size, 1, none⟩) (Nat.le_refl _) _⟩
end Go.Proofs.YtddfdmopaeghnacDoor
