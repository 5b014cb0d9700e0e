/- Slices of nodes that a call owns or lays. No condition. -/
import Derived.Test.YtddfdmopaeghnacGreatDoorDocW
namespace Go.Proofs.YtddfdmopaeghnacGreatDoor
open Go.RowKit

def nd6 : Nd := ⟨6, .empty, 0⟩

theorem node_info : (Tryz.prog.info? 157).map (fun i => (i.zero, i.size, i.bytes)) = some (some (.agg #[.int .i64 0, .string .empty, .int .i64 0]), 3, 32) := by kernel_rfl

theorem nd_one (l : List Nd) : ∀ u ∈ l.flatMap ndCells, u.oneCell' = true := by
  intro u hu
  obtain ⟨d, _, hd⟩ := List.mem_flatMap.1 hu
  simp [ndCells] at hd
  rcases hd with rfl | rfl | rfl <;> rfl

theorem Nds.own {w : World} {base n : Nat} {A : Option Addr} {c : Nat} {l : List Nd} (h : w.ownsRow base 157 3 (.slice A n c) n (l.flatMap ndCells)) (hn : n = l.length) (hm : l.length ≤ maxLen) (ht : ∀ d ∈ l, d.text.size ≤ maxLen) : Nds w w.heap.size A l := by
  subst hn
  exact ⟨.of_own h, hm, ht⟩

theorem own_slice {w : World} {base : Nat} {e : TypeId} {size n : Nat} {v : Value} {xs : List Value} (h : w.ownsRow base e size v n xs) : ∃ A c, v = .slice A n c := by
  rcases h.2 with ⟨rfl, rfl⟩ | ⟨g, cap, cur, rfl, _⟩
  · exact ⟨_, _, rfl⟩
  · exact ⟨_, _, rfl⟩

/-- A literal slice of one node. -/
theorem Nds.lit1 (w : World) (d : Nd) (g : Nat) (hg : w.heap.size = g) (hd : d.text.size ≤ maxLen) :
    Nds (w.alloc (.cells #[.int .i64 d.op, .string d.text, .int .i64 d.n] 157)) (w.alloc (.cells #[.int .i64 d.op, .string d.text, .int .i64 d.n] 157)).heap.size (some ⟨g, 0, none⟩) [d] := by
  subst hg
  exact ⟨.lit w _ _ 1 rfl, by simp [maxLen], by simpa using hd⟩
theorem Nds.lit2 (w : World) (d d' : Nd) (g : Nat) (hg : w.heap.size = g) (hd : d.text.size ≤ maxLen) (hd' : d'.text.size ≤ maxLen) :
    Nds (w.alloc (.cells #[.int .i64 d.op, .string d.text, .int .i64 d.n, .int .i64 d'.op, .string d'.text, .int .i64 d'.n] 157)) (w.alloc (.cells #[.int .i64 d.op, .string d.text, .int .i64 d.n, .int .i64 d'.op, .string d'.text, .int .i64 d'.n] 157)).heap.size (some ⟨g, 0, none⟩) [d, d'] := by
  subst hg
  exact ⟨.lit w _ _ 2 rfl, by simp [maxLen], by simpa using ⟨hd, hd'⟩⟩
theorem Nds.alloc {w : World} {A : Option Addr} {l : List Nd} (h : Nds w w.heap.size A l) (o : Obj) : Nds (w.alloc o) (w.alloc o).heap.size A l := ⟨h.1.alloc o, h.2⟩
end Go.Proofs.YtddfdmopaeghnacGreatDoor
