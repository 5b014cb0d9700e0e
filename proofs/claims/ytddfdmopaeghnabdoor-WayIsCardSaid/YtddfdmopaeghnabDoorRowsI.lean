/- A list of ways in memory, as it is read. No condition. -/
import Derived.Test.YtddfdmopaeghnabDoorNums
import Derived.Test.YtddfdmopaeghnabDoorRows
namespace Go.Proofs.YtddfdmopaeghnabDoor
open Go.RowKit

/-- A list of ways in memory, as it is read. -/
structure RowsI (w : World) (B : Nat) (A : Option Addr) (l : List (List Int)) : Prop where
  sl : ∃ vs : List Value, Sl w B 1 A l.length vs ∧ ∀ (j : Nat) v, vs[j]? = some v → ∃ Aj cj u, l[j]? = some u ∧ v = .slice Aj u.length cj ∧ u.length ≤ cj ∧ NumsI w B Aj u
  le : l.length ≤ maxLen
theorem RowsI.past {w w' : World} {A : Option Addr} {l : List (List Int)} (h : RowsI w w.heap.size A l) (hb : Below w.heap.size w w') : RowsI w' w'.heap.size A l := by
  obtain ⟨⟨vs, h1, h2⟩, h3⟩ := h
  exact ⟨⟨vs, h1.past hb, fun j v hv => let ⟨Aj, cj, u, g1, g2, g3, g4⟩ := h2 j v hv; ⟨Aj, cj, u, g1, g2, g3, g4.past hb⟩⟩, h3⟩
theorem RowsI.one {w wr : World} {A : Option Addr} {l : List (List Int)} (h : RowsI w w.heap.size A l) (hB : Below w.heap.size w wr) {k : Nat} (hk : k < l.length) :
    ∃ b off Aj cj u, A = some ⟨b, off, none⟩ ∧ l[k]? = some u ∧ wr.cell? ⟨b, off + k, none⟩ = some (.slice Aj u.length cj) ∧ u.length ≤ cj ∧ NumsI wr wr.heap.size Aj u := by
  obtain ⟨⟨vs, h1, h2⟩, h3⟩ := h
  obtain ⟨b, off, v, e1, e2, e3, e4⟩ := h1.one hk
  obtain ⟨Aj, cj, u, g1, rfl, g3, g4⟩ := h2 k v e3
  exact ⟨b, off, Aj, cj, u, e1, g1, (hB.cell (p := ⟨b, off + k, none⟩) e2).trans e4, g3, g4.past hB⟩
end Go.Proofs.YtddfdmopaeghnabDoor
