/- Walk of the reference's AllOf. Condition: the slice of nodes lies below the call's own blocks and is a doc that may be. -/
import Derived.Test.YtddfdmopaeghnabDoorTailsV
namespace Go.Proofs.YtddfdmopaeghnabDoor
open Go.RowKit

theorem D.way_lenR {x : D} {u : List Int} (h : u ∈ x.ways) : u.length ≤ x.sz := by
  obtain ⟨s, hs⟩ := D.lay_way (dp := 0) h
  have := D.lay_len hs
  simpa using this
/-- What a call of AllOf leaves. -/
def AllRef (l : List (List Int)) (w : World) (e : Ending) (w' : World) : Prop := Below w.heap.size w w' ∧
  ((l.length ≤ 300 ∧ ∃ A c, e = .returned (.tuple #[.slice A l.length c, .bool true]) ∧ l.length ≤ c ∧ RowsI w' w'.heap.size A l) ∨ (300 < l.length ∧ e = .returned (.tuple #[.slice none 0 0, .bool false])))

set_option maxRecDepth 100000 in
set_option maxHeartbeats 2000000 in
theorem allof_any {l : List Nd} {x : D} (hd : Doc l x) (A : Option Addr) (n c : Nat) (hn : l.length = n) (w : World) (hl : Nds w w.heap.size A l) :
    Calls Tryd.prog 30 #[.slice A n c] w (AllRef x.ways w) := by
  subst hn
  have h400 := hd.len
  have hsz : (docAt l 0).sz = l.length := by rw [hd.root, hd.szx]
  have hq0 : RowsQ (fun b => b = w.heap.size) (w.alloc (.cells #[.slice none 0 0] 38)) (some ⟨w.heap.size, 0, none⟩) [[]] := by
    refine ⟨[.slice none 0 0], rfl, fun _ => ⟨w.heap.size, 0, rfl, rfl, fun j u hu => ?_⟩, fun j v u hv hu => ?_⟩
    · cases j with
      | zero =>
        simp at hu
        subst hu
        rw [Lib.cell_of_heap (heap_alloc_new w _)]
        rfl
      | succ j => simp at hu
    · cases j with
      | zero =>
        simp at hv hu
        subst hv hu
        exact ⟨none, 0, rfl, Nat.le_refl _, fun h => by simp at h⟩
      | succ j => simp at hv
  have hT : tailsF 301 (docAt l 0) [[]] = x.ways.take 301 := by rw [hd.root, tails_all]
  have hTA := tails_any hd A c l.length 0 0 [[]] (fun b => b = w.heap.size) (some ⟨w.heap.size, 0, none⟩) 1 1 0 (w.alloc (.cells #[.slice none 0 0] 38)) rfl hd.pos (by omega) (hl.past ((Below.refl _ _).alloc (Nat.le_refl _) _)) hq0 (by intro b hb; subst hb; simp) rfl (Nat.le_refl _) (by omega) (by intro u hu; simp at hu; simp [hu]) (by omega)
  rw [hT] at hTA
  have HTA := Lib.hid hTA
  have HWL := Lib.hid (fun u hu => D.way_lenR (x := x) (u := u) hu)
  have hsx := hd.szx
  generalize x.ways = W at *
  clear hl hd hT hTA hq0
  go_enter Tryd.func30, Tryd.ntmps30
  go_wp2_with fail
  refine HTA.out.mono ?_
  rintro e w1 ⟨A1, c1, rfl, h1, h2, h3⟩
  have hB : Below w.heap.size w w1 := ((Below.refl _ _).alloc (Nat.le_refl _) _).trans (h3.mono (by simp))
  have H2 := Lib.hid h2
  clear h2 h3
  by_cases hw : W.length ≤ 300
  · have ht : W.take 301 = W := List.take_of_length_le (by omega)
    rw [ht] at h1 H2
    rw [ht]
    have k1 : decide (300 < (W.length : Int)) = false := decide_eq_false (by omega)
    have k2 : decide (300 < W.length) = false := decide_eq_false (by omega)
    go_wp2
    go_ret2
    exact ⟨hB, .inl ⟨hw, A1, c1, rfl, h1, H2.out.rowsI (by simp only [maxLen]; omega) (fun u hu => by have := HWL.out u hu; simp only [maxLen]; omega)⟩⟩
  · have ht : (W.take 301).length = 301 := by rw [List.length_take]; omega
    rw [ht]
    go_wp2
    go_ret2
    exact ⟨hB, .inr ⟨by omega, rfl⟩⟩
end Go.Proofs.YtddfdmopaeghnabDoor
