/- Walks of package cost: Under, good, Less, Add. Condition: what comes in lies below the call's own blocks. -/
import Derived.Test.YtddfdmopaeghnabDoorCstP
import Derived.Test.YtddfdmopaeghnabDoorMem
import Derived.Laws.ResultCell
import Derived.Deep.RegionHeld3
import Derived.IntWalk
import Derived.Test.YtddfdmopaeghnabDoorRows
import Derived.WalkKit
import Derived.WalkSpells
import Derived.WalkLawsBesides
namespace Go.Proofs.YtddfdmopaeghnabDoor
open Go.RowKit

set_option maxRecDepth 100000 in
set_option maxHeartbeats 1000000 in
theorem under_c (a b : Nat × Nat) {r : Bool} (h : cLess a b = r) (w : World) :
    Calls Tryd.prog 41 #[.agg #[.int .i64 (a.1 : Nat), .int .i64 (a.2 : Nat)], .agg #[.int .i64 (b.1 : Nat), .int .i64 (b.2 : Nat)]] w (Ret w (.bool r)) := by
  obtain ⟨a1, a2⟩ := a
  obtain ⟨b1, b2⟩ := b
  simp only [cLess] at h ⊢
  subst h
  have he : ((a1 : Int) == (b1 : Int)) = decide (a1 = b1) := by rw [Bool.eq_iff_iff]; simp; omega
  by_cases h1 : a1 < b1
  · have k1 : decide (a1 < b1) = true := decide_eq_true h1
    have k2 : decide (a1 < b1 ∨ a1 = b1 ∧ a2 < b2) = true := decide_eq_true (.inl h1)
    rw [k2]
    clear k2 he
    go_enter Tryd.func41, Tryd.ntmps41
    go_wp2
    go_ret
    exact ⟨rfl, (by repeat (first | exact Below.refl _ _ | assumption | apply Below.drew | refine below_drewN ?_ _ | apply Below.setCell _ (by first | omega | (simp; done) | (simp; omega)) | apply Below.alloc _ (by first | omega | (simp; done) | (simp; omega))))⟩
  · have k1 : decide (a1 < b1) = false := decide_eq_false h1
    by_cases h2 : a1 = b1
    · subst h2
      have k3 : decide (a1 < a1 ∨ a1 = a1 ∧ a2 < b2) = decide (a2 < b2) := by congr 1; simp
      rw [k3]
      clear k3 he h1
      by_cases h3 : a2 < b2
      · have k4 : decide (a2 < b2) = true := decide_eq_true h3
        rw [k4]
        go_enter Tryd.func41, Tryd.ntmps41
        go_wp2
        go_ret
        exact ⟨rfl, (by repeat (first | exact Below.refl _ _ | assumption | apply Below.drew | refine below_drewN ?_ _ | apply Below.setCell _ (by first | omega | (simp; done) | (simp; omega)) | apply Below.alloc _ (by first | omega | (simp; done) | (simp; omega))))⟩
      · have k4 : decide (a2 < b2) = false := decide_eq_false h3
        rw [k4]
        go_enter Tryd.func41, Tryd.ntmps41
        go_wp2
        go_ret
        exact ⟨rfl, (by repeat (first | exact Below.refl _ _ | assumption | apply Below.drew | refine below_drewN ?_ _ | apply Below.setCell _ (by first | omega | (simp; done) | (simp; omega)) | apply Below.alloc _ (by first | omega | (simp; done) | (simp; omega))))⟩
    · have k2 : ((a1 : Int) == (b1 : Int)) = false := by rw [he]; exact decide_eq_false h2
      have k3 : decide (a1 < b1 ∨ a1 = b1 ∧ a2 < b2) = false := decide_eq_false (by omega)
      rw [k3]
      clear k3 he
      go_enter Tryd.func41, Tryd.ntmps41
      go_wp2
      go_ret
      exact ⟨rfl, (by repeat (first | exact Below.refl _ _ | assumption | apply Below.drew | refine below_drewN ?_ _ | apply Below.setCell _ (by first | omega | (simp; done) | (simp; omega)) | apply Below.alloc _ (by first | omega | (simp; done) | (simp; omega))))⟩


/-- May a cost be? -/
def goodC (a : Int × Int) : Bool := decide (0 ≤ a.1 ∧ a.1 ≤ 1000000 ∧ 0 ≤ a.2 ∧ a.2 ≤ 1000000)
def costCells (l : List (Int × Int)) : List Value := l.flatMap fun a => [.int .i64 a.1, .int .i64 a.2]
theorem costs_at : ∀ (l : List (Int × Int)) (k : Nat) (hk : k < l.length), (costCells l)[k * 2]? = some (.int .i64 l[k].1) ∧ (costCells l)[k * 2 + 1]? = some (.int .i64 l[k].2)
  | a :: r, 0, _ => ⟨rfl, rfl⟩
  | a :: r, k + 1, h => by
    have := costs_at r k (by simpa using h)
    have e : (k + 1) * 2 = k * 2 + 1 + 1 := by omega
    rw [e]
    exact this
/-- The cost at a place, in a later world. -/
theorem cost_at {w wr : World} {A : Option Addr} {l : List (Int × Int)} (h : Sl w w.heap.size 2 A l.length (costCells l)) (hB : Below w.heap.size w wr) {k : Nat} (hk : k < l.length) :
    ∃ b off, A = some ⟨b, off, none⟩ ∧ b < w.heap.size ∧ wr.cell? ⟨b, off + k * 2, none⟩ = some (.int .i64 l[k].1) ∧ wr.cell? ⟨b, off + k * 2 + 1, none⟩ = some (.int .i64 l[k].2) := by
  obtain ⟨b, off, h1, h2, h3⟩ := h.2 (by omega)
  obtain ⟨g1, g2⟩ := costs_at l k hk
  refine ⟨b, off, h1, h2, ?_, ?_⟩
  · exact (hB.cell (p := ⟨b, off + k * 2, none⟩) h2).trans (h3 _ _ g1)
  · exact (hB.cell (p := ⟨b, off + k * 2 + 1, none⟩) h2).trans (by rw [Nat.add_assoc]; exact h3 _ _ g2)
theorem all_more {l : List (Int × Int)} {k : Nat} (h : (l.take k).all goodC = true) (hk : k < l.length) {x y : Int} (e : l[k] = (x, y)) (hg : goodC (x, y) = true) : (l.take (k + 1)).all goodC = true := by
  rw [List.take_succ_eq_append_getElem hk, List.all_append, h, e]
  simp [hg]
theorem all_bad_at {l : List (Int × Int)} {k : Nat} (hk : k < l.length) {x y : Int} (e : l[k] = (x, y)) (hg : goodC (x, y) = false) : l.all goodC = false := by
  rw [List.all_eq_false]
  exact ⟨l[k], List.getElem_mem hk, by rw [e, hg]; simp⟩

set_option maxRecDepth 100000 in
set_option maxHeartbeats 2000000 in
theorem good_any (l : List (Int × Int)) (n : Nat) (hn : l.length = n) (hs : n ≤ 1000) (A : Option Addr) (c : Nat) (w : World) (h : Sl w w.heap.size 2 A n (costCells l)) :
    Calls Tryd.prog 40 #[.slice A n c] w (Ret w (.bool (l.all goodC))) := by
  subst hn
  have H := Lib.hid h; clear h
  go_enter Tryd.func40, Tryd.ntmps40
  go_wp2
  go_loopw [7] (fun i wr => ∃ k : Nat, k ≤ l.length ∧ i = .int .i64 k ∧ (l.take k).all goodC = true ∧ Below w.heap.size w wr) (fun i _ => l.length - (intOf i).toNat)
  case atStart => exact ⟨0, by omega, rfl, rfl, Below.refl _ _⟩
  case round =>
    obtain ⟨k, hk, rfl, ht, hB⟩ := hrel
    have HT := Lib.hid ht; have HB := Lib.hid hB
    have hsz := hB.size
    by_cases hlt : k < l.length
    · obtain ⟨b, off, rfl, hb, d1, d2⟩ := cost_at H.out hB hlt
      obtain ⟨x, y, he⟩ : ∃ x y, l[k] = (x, y) := ⟨_, _, rfl⟩
      rw [he] at d1 d2
      simp only at d1 d2
      have HE := Lib.hid he
      clear ht hB he
      by_cases h1 : x < 0
      · have k1 : decide (x < 0) = true := decide_eq_true h1
        have HG := Lib.hid (all_bad_at hlt HE.out (by simp [goodC]; omega))
        clear h1
        go_wp2_with fail
        go_ret
        exact ⟨by rw [HG.out]; rfl, HB.out.trans ((Below.refl _ _).alloc (Nat.le_refl _) _ |>.mono hsz)⟩
      · have k1 : decide (x < 0) = false := decide_eq_false h1
        by_cases h2 : 1000000 < x
        · have k2 : decide (1000000 < x) = true := decide_eq_true h2
          have HG := Lib.hid (all_bad_at hlt HE.out (by simp [goodC]; omega))
          clear h1 h2
          go_wp2_with fail
          go_ret
          exact ⟨by rw [HG.out]; rfl, HB.out.trans ((Below.refl _ _).alloc (Nat.le_refl _) _ |>.mono hsz)⟩
        · have k2 : decide (1000000 < x) = false := decide_eq_false h2
          by_cases h3 : y < 0
          · have k3 : decide (y < 0) = true := decide_eq_true h3
            have HG := Lib.hid (all_bad_at hlt HE.out (by simp [goodC]; omega))
            clear h1 h2 h3
            go_wp2_with fail
            go_ret
            exact ⟨by rw [HG.out]; rfl, HB.out.trans ((Below.refl _ _).alloc (Nat.le_refl _) _ |>.mono hsz)⟩
          · have k3 : decide (y < 0) = false := decide_eq_false h3
            by_cases h4 : 1000000 < y
            · have k4 : decide (1000000 < y) = true := decide_eq_true h4
              have HG := Lib.hid (all_bad_at hlt HE.out (by simp [goodC]; omega))
              clear h1 h2 h3 h4
              go_wp2_with fail
              go_ret
              exact ⟨by rw [HG.out]; rfl, HB.out.trans ((Below.refl _ _).alloc (Nat.le_refl _) _ |>.mono hsz)⟩
            · have k4 : decide (1000000 < y) = false := decide_eq_false h4
              have HG := Lib.hid (all_more HT.out hlt HE.out (by simp [goodC]; omega))
              clear h1 h2 h3 h4
              go_wp2_with fail
              go_roundw
              case rel => exact ⟨k + 1, by omega, by go_num, HG.out, HB.out.trans ((Below.refl _ _).alloc (Nat.le_refl _) _ |>.mono hsz)⟩
              case measure => simp [intOf]; omega
    · have HG : Hid (l.all goodC = true) := Lib.hid (by have := HT.out; rwa [List.take_of_length_le (by omega)] at this)
      go_wp2_with fail
      go_ret
      exact ⟨by rw [HG.out]; rfl, HB.out⟩

/-- A slice of costs just laid. -/
theorem costs_lit2 (w : World) (a1 a2 b1 b2 : Int) (g : Nat) (hg : w.heap.size = g) : Sl (w.alloc (.cells #[.int .i64 a1, .int .i64 a2, .int .i64 b1, .int .i64 b2] 23)) (w.alloc (.cells #[.int .i64 a1, .int .i64 a2, .int .i64 b1, .int .i64 b2] 23)).heap.size 2 (some ⟨g, 0, none⟩) 2 [.int .i64 a1, .int .i64 a2, .int .i64 b1, .int .i64 b2] := by
  subst hg
  exact Sl.lit (sz := 2) w #[.int .i64 a1, .int .i64 a2, .int .i64 b1, .int .i64 b2] 23 2 rfl
theorem costs_lit1 (w : World) (a1 a2 : Int) (g : Nat) (hg : w.heap.size = g) : Sl (w.alloc (.cells #[.int .i64 a1, .int .i64 a2] 23)) (w.alloc (.cells #[.int .i64 a1, .int .i64 a2] 23)).heap.size 2 (some ⟨g, 0, none⟩) 1 [.int .i64 a1, .int .i64 a2] := by
  subst hg
  exact Sl.lit (sz := 2) w #[.int .i64 a1, .int .i64 a2] 23 1 rfl
theorem good_two (a1 a2 b1 b2 : Int) {r : Bool} (hr : [(a1, a2), (b1, b2)].all goodC = r) (A : Option Addr) (c : Nat) (w : World) (h : Sl w w.heap.size 2 A 2 [.int .i64 a1, .int .i64 a2, .int .i64 b1, .int .i64 b2]) :
    Calls Tryd.prog 40 #[.slice A 2 c] w (Ret w (.bool r)) := by
  subst hr
  exact good_any [(a1, a2), (b1, b2)] 2 rfl (by omega) A c w h
theorem good_one (a1 a2 : Int) {r : Bool} (hr : [(a1, a2)].all goodC = r) (A : Option Addr) (c : Nat) (w : World) (h : Sl w w.heap.size 2 A 1 [.int .i64 a1, .int .i64 a2]) :
    Calls Tryd.prog 40 #[.slice A 1 c] w (Ret w (.bool r)) := by
  subst hr
  exact good_any [(a1, a2)] 1 rfl (by omega) A c w h

end Go.Proofs.YtddfdmopaeghnabDoor
