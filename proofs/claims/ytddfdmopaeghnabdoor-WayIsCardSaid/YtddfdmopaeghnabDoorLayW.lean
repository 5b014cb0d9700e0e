/- Walks of the reference's blanks, choose. Condition: the layer's block is the caller's own, the slices lie below it. -/
import Derived.Test.YtddfdmopaeghnabDoorRefC
import Derived.Test.YtddfdmopaeghnabDoorLayP
import Derived.Test.YtddfdmopaeghnabDoorNums
import Derived.BigQuiet
import Derived.Deep.QuietTactic
import Derived.Deep.RegionWith
namespace Go.Proofs.YtddfdmopaeghnabDoor
open Go.RowKit


set_option maxHeartbeats 1000000 in
theorem blanks_any (n : Nat) (hn : n ≤ 100000) (w : World) : Calls Tryd.prog 86 #[.int .i64 n] w fun e w' => e = .returned (.string (blanksB n)) ∧ w = w' := by
  go_enter Tryd.func86, Tryd.ntmps86
  go_wp2
  go_loop [3, 4] (fun s i => ∃ k : Nat, k ≤ n ∧ i = .int .i64 k ∧ s = .string (blanksB k)) (fun _ i => n - (intOf i).toNat)
  case atStart => exact ⟨0, by omega, rfl, rfl⟩
  case round =>
    obtain ⟨k, hk, rfl, rfl⟩ := hrel
    by_cases hlt : k < n
    · have hz := blanksB_size k
      have hs : blanksB k ++ ⟨#[32]⟩ = blanksB (k + 1) := by
        have := blanksB_succ .empty k
        simpa using this
      have HS := Lib.hid hs; clear hs
      generalize blanksB k = B0 at *
      go_wp2
      go_round
      case rel => exact ⟨k + 1, by omega, by go_num, by rw [← HS.out]⟩
      case measure => simp [intOf]; omega
    · obtain rfl : k = n := by omega
      go_wp2
      go_ret
      exact ⟨rfl, rfl⟩

/-- The layer in block g: the doc, the choices left, the text so far, the fault. -/
structure Lay (g : Nat) (A : Option Addr) (c : Nat) (l : List Nd) (ws : List Int) (acc : ByteArray) (w : World) : Prop where
  blk : ∃ WA WC, w.heap[g]? = some (.cells #[.slice A l.length c, .slice WA ws.length WC, .string acc, .int .i64 0] 120 (0, 0)) ∧ NumsI w g WA ws ∧ ws.length ≤ WC
  nds : Nds w g A l
/-- .. with a fault. -/
structure LayE (g : Nat) (A : Option Addr) (c : Nat) (l : List Nd) (e : Int) (w : World) : Prop where
  blk : ∃ v1 v2, w.heap[g]? = some (.cells #[.slice A l.length c, v1, v2, .int .i64 e] 120 (0, 0))
  nds : Nds w g A l
  ne : e ≠ 0

theorem heap_lt {w : World} {g : Nat} {o : Obj} (h : w.heap[g]? = some o) : g < w.heap.size := (Array.getElem?_eq_some_iff.1 h).1
theorem Nds.under_ {w w' : World} {B C : Nat} {A : Option Addr} {l : List Nd} (h : Nds w B A l) (hb : Below C w w') (hC : B ≤ C) : Nds w' B A l := ⟨h.1.below hb hC, h.2⟩
theorem Nds.upto {w : World} {B C : Nat} {A : Option Addr} {l : List Nd} (h : Nds w B A l) (hC : B ≤ C) : Nds w C A l := ⟨h.1.more hC, h.2⟩
theorem NumsI.under {w w' : World} {B C : Nat} {A : Option Addr} {l : List Int} (h : NumsI w B A l) (hb : Below C w w') (hC : B ≤ C) : NumsI w' B A l := ⟨h.1.below hb hC, h.2⟩
theorem Lay.lt {g : Nat} {A : Option Addr} {c : Nat} {l : List Nd} {ws : List Int} {acc : ByteArray} {w : World} (h : Lay g A c l ws acc w) : g < w.heap.size := by
  obtain ⟨WA, WC, h1, _⟩ := h.blk
  exact heap_lt h1
theorem LayE.lt {g : Nat} {A : Option Addr} {c : Nat} {l : List Nd} {e : Int} {w : World} (h : LayE g A c l e w) : g < w.heap.size := by
  obtain ⟨WA, WC, h1⟩ := h.blk
  exact heap_lt h1
theorem Lay.past {g : Nat} {A : Option Addr} {c : Nat} {l : List Nd} {ws : List Int} {acc : ByteArray} {w w' : World} (h : Lay g A c l ws acc w) (hb : Below w.heap.size w w') : Lay g A c l ws acc w' := by
  have hlt := h.lt
  obtain ⟨WA, WC, h1, h2, h3⟩ := h.blk
  exact ⟨⟨WA, WC, (hb.block g hlt).trans h1, h2.under hb (by omega), h3⟩, h.nds.under_ hb (by omega)⟩
theorem LayE.past {g : Nat} {A : Option Addr} {c : Nat} {l : List Nd} {e : Int} {w w' : World} (h : LayE g A c l e w) (hb : Below w.heap.size w w') : LayE g A c l e w' := by
  have hlt := h.lt
  obtain ⟨v1, v2, h1⟩ := h.blk
  exact ⟨⟨v1, v2, (hb.block g hlt).trans h1⟩, h.nds.under_ hb (by omega), h.ne⟩
theorem set_blk4 {w : World} {g : Nat} {a b c d v : Value} {T : TypeId} {fr : Nat × Nat} (h : w.heap[g]? = some (.cells #[a, b, c, d] T fr)) :
    (w.setCell ⟨g, 1, none⟩ v).heap[g]? = some (.cells #[a, v, c, d] T fr) ∧ (w.setCell ⟨g, 2, none⟩ v).heap[g]? = some (.cells #[a, b, v, d] T fr) ∧ (w.setCell ⟨g, 3, none⟩ v).heap[g]? = some (.cells #[a, b, c, v] T fr) := by
  simp [World.setCell, Array.getElem?_modify, h]
theorem set_belowG (w : World) (g j : Nat) (v : Value) : Below g w (w.setCell ⟨g, j, none⟩ v) := (Below.refl g w).setCell (p := ⟨g, j, none⟩) (Nat.le_refl _) v
theorem Lay.text {g : Nat} {A : Option Addr} {c : Nat} {l : List Nd} {ws : List Int} {acc : ByteArray} {w : World} (h : Lay g A c l ws acc w) (s : ByteArray) : Lay g A c l ws s (w.setCell ⟨g, 2, none⟩ (.string s)) := by
  obtain ⟨WA, WC, h1, h2, h3⟩ := h.blk
  exact ⟨⟨WA, WC, (set_blk4 h1).2.1, h2.under (set_belowG _ _ _ _) (Nat.le_refl _), h3⟩, h.nds.under_ (set_belowG _ _ _ _) (Nat.le_refl _)⟩
theorem Lay.fault {g : Nat} {A : Option Addr} {c : Nat} {l : List Nd} {ws : List Int} {acc : ByteArray} {w : World} (h : Lay g A c l ws acc w) {e : Int} (he : e ≠ 0) : LayE g A c l e (w.setCell ⟨g, 3, none⟩ (.int .i64 e)) := by
  obtain ⟨WA, WC, h1, h2, h3⟩ := h.blk
  exact ⟨⟨_, _, (set_blk4 h1).2.2⟩, h.nds.under_ (set_belowG _ _ _ _) (Nat.le_refl _), he⟩
theorem LayE.text {g : Nat} {A : Option Addr} {c : Nat} {l : List Nd} {e : Int} {w : World} (h : LayE g A c l e w) (v : Value) : LayE g A c l e (w.setCell ⟨g, 2, none⟩ v) := by
  obtain ⟨v1, v2, h1⟩ := h.blk
  exact ⟨⟨_, _, (set_blk4 h1).2.1⟩, h.nds.under_ (set_belowG _ _ _ _) (Nat.le_refl _), h.ne⟩

set_option maxHeartbeats 1000000 in
theorem choose_nil {g : Nat} {A : Option Addr} {c : Nat} {l : List Nd} {acc : ByteArray} {w : World} (h : Lay g A c l [] acc w) :
    Calls Tryd.prog 87 #[.pointer (some ⟨g, 0, none⟩)] w fun e w' => e = .returned (.int .i64 0) ∧ LayE g A c l 2 w' ∧ Below g w w' := by
  have hE := h.fault (e := 2) (by decide)
  obtain ⟨WA, WC, h1, -, -⟩ := h.blk
  have c1 : w.cell? ⟨g, 1, none⟩ = some (.slice WA 0 WC) := by rw [Lib.cell_of_heap h1]; rfl
  have c3 := Lib.frozen_of_heap h1 3
  have c4 : w.cell? ⟨g, 3, none⟩ = some (.int .i64 0) := by rw [Lib.cell_of_heap h1]; rfl
  clear h h1
  have HE := Lib.hid hE; clear hE
  go_enter Tryd.func87, Tryd.ntmps87
  go_wp2
  go_ret
  exact ⟨rfl, HE.out, set_belowG _ _ _ _⟩

set_option maxHeartbeats 1000000 in
theorem choose_cons {g : Nat} {A : Option Addr} {c : Nat} {l : List Nd} {v : Int} {ws : List Int} {acc : ByteArray} {w : World} (h : Lay g A c l (v :: ws) acc w) :
    Calls Tryd.prog 87 #[.pointer (some ⟨g, 0, none⟩)] w fun e w' => e = .returned (.int .i64 v) ∧ Lay g A c l ws acc w' ∧ Below g w w' := by
  obtain ⟨WA, WC, h1, h2, h3⟩ := h.blk
  obtain ⟨b, off, v0, rfl, hb, hv, d1⟩ := h2.one (Below.refl _ _) (k := 0) (by simp)
  simp at hv
  subst hv
  rw [Nat.add_zero] at d1
  have hT := h2.tail h3
  have hm := h2.2
  unfold maxLen at hm
  have hL : ∀ (v' : Value), v' = .slice (if WC = 1 then some ⟨b, off, none⟩ else some ⟨b, off + 1, none⟩) ws.length (WC - 1) → Lay g A c l ws acc (w.setCell ⟨g, 1, none⟩ v') := by
    rintro v' rfl
    refine ⟨⟨_, _, (set_blk4 h1).1, hT.under (set_belowG _ _ _ _) (Nat.le_refl _), ?_⟩, h.nds.under_ (set_belowG _ _ _ _) (Nat.le_refl _)⟩
    simp only [List.length_cons] at h3
    omega
  have c1 : w.cell? ⟨g, 1, none⟩ = some (.slice (some ⟨b, off, none⟩) (ws.length + 1) WC) := by rw [Lib.cell_of_heap h1]; rfl
  have c3 := Lib.frozen_of_heap h1 1
  simp only [List.length_cons] at h3 hm
  clear h h1 h2 hT
  have HL := Lib.hid hL; clear hL
  generalize ws.length = n at *
  go_enter Tryd.func87, Tryd.ntmps87
  go_wp2
  all_goals go_ret
  all_goals exact ⟨rfl, HL.out _ (by simp [*]), set_belowG _ _ _ _⟩
end Go.Proofs.YtddfdmopaeghnabDoor
