/- A slice of numbers as it is read. No condition. -/
import Derived.Test.YtddfdmopaeghnacGreatDoorMem
namespace Go.Proofs.YtddfdmopaeghnacGreatDoor
open Go.RowKit

/-- A slice of numbers. -/
def NumsI (w : World) (B : Nat) (A : Option Addr) (l : List Int) : Prop := Sl w B 1 A l.length (l.map (.int .i64)) ∧ l.length ≤ maxLen
theorem NumsI.one {w wr : World} {B : Nat} {A : Option Addr} {l : List Int} (h : NumsI w B A l) (hB : Below B w wr) {k : Nat} (hk : k < l.length) :
    ∃ b off v, A = some ⟨b, off, none⟩ ∧ b < B ∧ l[k] = v ∧ wr.cell? ⟨b, off + k, none⟩ = some (.int .i64 v) := by
  obtain ⟨b, off, u, h1, h2, h3, h4⟩ := h.1.one hk
  have hu : u = .int .i64 l[k] := by simp [hk] at h3; exact h3.symm
  subst hu
  exact ⟨b, off, l[k], h1, h2, rfl, (hB.cell (p := ⟨b, off + k, none⟩) h2).trans h4⟩
theorem NumsI.past {w w' : World} {A : Option Addr} {l : List Int} (h : NumsI w w.heap.size A l) (hb : Below w.heap.size w w') : NumsI w' w'.heap.size A l := ⟨h.1.past hb, h.2⟩
theorem NumsI.tail {w : World} {b off B c : Nat} {v : Int} {l : List Int} (h : NumsI w B (some ⟨b, off, none⟩) (v :: l)) (hc : (v :: l).length ≤ c) : NumsI w B (if c = 1 then some ⟨b, off, none⟩ else some ⟨b, off + 1, none⟩) l := by
  refine ⟨⟨by simp, fun hn => ?_⟩, by have := h.2; simp only [List.length_cons] at this; omega⟩
  simp only [List.length_cons] at hc
  obtain ⟨b', off', e, hb, hcell⟩ := h.1.2 (by simp)
  cases e
  rw [if_neg (by omega)]
  refine ⟨b, off + 1, rfl, hb, fun j u hu => ?_⟩
  rw [Nat.add_assoc]
  exact hcell (1 + j) u (by rw [List.map_cons, Nat.add_comm, List.getElem?_cons_succ]; exact hu)
theorem numsI_nil (w : World) (B : Nat) : NumsI w B none [] := ⟨⟨by simp, fun h => by simp at h⟩, by simp⟩
theorem NumsI.own {w : World} {base n : Nat} {A : Option Addr} {c : Nat} {l : List Int} (h : w.ownsRow base 3 1 (.slice A n c) n (l.map (.int .i64))) (hn : n = l.length) (hm : l.length ≤ maxLen) : NumsI w w.heap.size A l := by
  subst hn
  exact ⟨.of_own h, hm⟩
theorem own_cap {w : World} {base : Nat} {e : TypeId} {size n : Nat} {A : Option Addr} {c : Nat} {xs : List Value} (h : w.ownsRow base e size (.slice A n c) n xs) : n ≤ c := by
  rcases h.2 with ⟨h1, h2⟩ | ⟨g, cap, cur, h1, _, _, h2, _⟩
  · injection h1 with _ h3 _
    omega
  · injection h1 with _ _ h3
    omega
theorem int_one (l : List Int) : ∀ u ∈ l.map (Value.int .i64), u.oneCell' = true := by
  intro u hu
  obtain ⟨x, _, rfl⟩ := List.mem_map.1 hu
  rfl
end Go.Proofs.YtddfdmopaeghnacGreatDoor
