/- Lists of ways in memory for the walk of the reference's tails: read in chosen blocks; owned. No condition. -/
import Derived.Test.YtddfdmopaeghnabDoorRowsI
import Derived.Test.YtddfdmopaeghnabDoorTailsP
import Derived.Test.YtddfdmopaeghnabDoorOfP
namespace Go.Proofs.YtddfdmopaeghnabDoor
open Go.RowKit

theorem cell_congr {w w' : World} {p : Addr} (h : w'.heap[p.block]? = w.heap[p.block]?) : w'.cell? p = w.cell? p := by simp only [World.cell?, h]
theorem cell_block {w : World} {p : Addr} {v : Value} (h : w.cell? p = some v) : p.block < w.heap.size := by
  rcases Nat.lt_or_ge p.block w.heap.size with h1 | h1
  · exact h1
  · simp [World.cell?, Array.getElem?_eq_none h1] at h

/-- n cells at A in blocks of P; they read xs. -/
def SlP (P : Nat → Prop) (w : World) (A : Option Addr) (xs : List Value) : Prop := 0 < xs.length → ∃ b off, A = some ⟨b, off, none⟩ ∧ P b ∧ ∀ (j : Nat) u, xs[j]? = some u → w.cell? ⟨b, off + j, none⟩ = some u
section
variable {P Q : Nat → Prop} {w w' : World} {A : Option Addr} {xs : List Value}
theorem SlP.keep (h : SlP P w A xs) (hk : ∀ b, P b → w'.heap[b]? = w.heap[b]?) : SlP P w' A xs := fun hn => by
  obtain ⟨b, off, e, hb, hc⟩ := h hn
  exact ⟨b, off, e, hb, fun j u hu => (cell_congr (p := ⟨b, off + j, none⟩) (hk b hb)).trans (hc j u hu)⟩
theorem SlP.mono (h : SlP P w A xs) (hq : ∀ b, P b → Q b) : SlP Q w A xs := fun hn => by
  obtain ⟨b, off, e, hb, hc⟩ := h hn
  exact ⟨b, off, e, hq b hb, hc⟩
theorem SlP.bound (h : SlP P w A xs) : SlP (fun b => P b ∧ b < w.heap.size) w A xs := fun hn => by
  obtain ⟨b, off, e, hb, hc⟩ := h hn
  have := cell_block (hc 0 xs[0] (List.getElem?_eq_getElem hn))
  exact ⟨b, off, e, ⟨hb, this⟩, hc⟩
theorem SlP.sl (h : SlP P w A xs) : Sl w w.heap.size 1 A xs.length xs := ⟨by simp, fun hn => by
  obtain ⟨b, off, e, ⟨_, hb⟩, hc⟩ := h.bound hn
  exact ⟨b, off, e, hb, hc⟩⟩
theorem SlP.of_own {base n : Nat} {e : TypeId} {c : Nat} (h : w.ownsRow base e 1 (.slice A n c) n xs) : SlP (fun b => base ≤ b) w A xs := fun hn => by
  have hl := h.1
  have hs := Sl.of_own h
  obtain ⟨b, off, e1, hb, hc⟩ := hs.2 (by omega)
  obtain ⟨g, cap, hv, hg, _⟩ := h.form (by omega)
  have hA : A = some ⟨g, 0, none⟩ := by injection hv
  rw [hA] at e1
  cases e1
  exact ⟨_, _, hA, hg, hc⟩
theorem SlP.take (h : SlP P w A xs) (m : Nat) : SlP P w A (xs.take m) := fun hn => by
  rw [List.length_take] at hn
  obtain ⟨b, off, e, hb, hc⟩ := h (by omega)
  refine ⟨b, off, e, hb, fun j u hu => hc j u ?_⟩
  rw [List.getElem?_take] at hu
  split at hu
  · exact hu
  · cases hu
end

/-- A row of ways as a value, in blocks of P. -/
def RowP (P : Nat → Prop) (w : World) (v : Value) (u : List Int) : Prop := ∃ A c, v = .slice A u.length c ∧ u.length ≤ c ∧ SlP P w A (u.map (.int .i64))
/-- A list of ways, in blocks of P. -/
def RowsQ (P : Nat → Prop) (w : World) (A : Option Addr) (l : List (List Int)) : Prop := ∃ vs : List Value, vs.length = l.length ∧ SlP P w A vs ∧ ∀ (j : Nat) v u, vs[j]? = some v → l[j]? = some u → RowP P w v u
section
variable {P Q : Nat → Prop} {w w' : World} {A : Option Addr} {l : List (List Int)}
theorem RowP.keep {v : Value} {u : List Int} (h : RowP P w v u) (hk : ∀ b, P b → w'.heap[b]? = w.heap[b]?) : RowP P w' v u := by
  obtain ⟨A, c, h1, h2, h3⟩ := h
  exact ⟨A, c, h1, h2, h3.keep hk⟩
theorem RowP.mono {v : Value} {u : List Int} (h : RowP P w v u) (hq : ∀ b, P b → Q b) : RowP Q w v u := by
  obtain ⟨A, c, h1, h2, h3⟩ := h
  exact ⟨A, c, h1, h2, h3.mono hq⟩
theorem RowsQ.keep (h : RowsQ P w A l) (hk : ∀ b, P b → w'.heap[b]? = w.heap[b]?) : RowsQ P w' A l := by
  obtain ⟨vs, h1, h2, h3⟩ := h
  exact ⟨vs, h1, h2.keep hk, fun j v u hv hu => (h3 j v u hv hu).keep hk⟩
theorem RowsQ.mono (h : RowsQ P w A l) (hq : ∀ b, P b → Q b) : RowsQ Q w A l := by
  obtain ⟨vs, h1, h2, h3⟩ := h
  exact ⟨vs, h1, h2.mono hq, fun j v u hv hu => (h3 j v u hv hu).mono hq⟩
theorem RowsQ.bound (h : RowsQ P w A l) : RowsQ (fun b => P b ∧ b < w.heap.size) w A l := by
  obtain ⟨vs, h1, h2, h3⟩ := h
  refine ⟨vs, h1, h2.bound, fun j v u hv hu => ?_⟩
  obtain ⟨A', c, g1, g2, g3⟩ := h3 j v u hv hu
  exact ⟨A', c, g1, g2, g3.bound⟩
theorem RowsQ.take (h : RowsQ P w A l) (m : Nat) : RowsQ P w A (l.take m) := by
  obtain ⟨vs, h1, h2, h3⟩ := h
  refine ⟨vs.take m, by rw [List.length_take, List.length_take, h1], h2.take m, fun j v u hv hu => ?_⟩
  rw [List.getElem?_take] at hv hu
  split at hv
  · rename_i hj
    rw [if_pos hj] at hu
    exact h3 j v u hv hu
  · cases hv
theorem RowsQ.one (h : RowsQ P w A l) {k : Nat} (hk : k < l.length) : ∃ b off Aj cj, A = some ⟨b, off, none⟩ ∧ w.cell? ⟨b, off + k, none⟩ = some (.slice Aj l[k].length cj) ∧ l[k].length ≤ cj ∧ SlP P w Aj (l[k].map (.int .i64)) := by
  obtain ⟨vs, h1, h2, h3⟩ := h
  obtain ⟨b, off, e, hb, hc⟩ := h2 (by omega)
  have hkv : k < vs.length := by omega
  obtain ⟨Aj, cj, g1, g2, g3⟩ := h3 k vs[k] l[k] (List.getElem?_eq_getElem hkv) (List.getElem?_eq_getElem hk)
  exact ⟨b, off, Aj, cj, e, by rw [← g1]; exact hc k _ (List.getElem?_eq_getElem hkv), g2, g3⟩
theorem RowsQ.rowsI (h : RowsQ P w A l) (hm : l.length ≤ maxLen) (hu : ∀ u ∈ l, u.length ≤ maxLen) : RowsI w w.heap.size A l := by
  obtain ⟨vs, h1, h2, h3⟩ := h
  refine ⟨⟨vs, by rw [← h1]; exact h2.sl, fun j v hv => ?_⟩, hm⟩
  have hj : j < l.length := by have := (List.getElem?_eq_some_iff.1 hv).1; omega
  obtain ⟨A', c, g1, g2, g3⟩ := h3 j v l[j] hv (List.getElem?_eq_getElem hj)
  refine ⟨A', c, l[j], List.getElem?_eq_getElem hj, g1, g2, ?_, hu _ (List.getElem_mem hj)⟩
  have := g3.sl
  rw [List.length_map] at this
  exact this
end

/-- A list of ways of the call's own, from block B on. -/
def OutQ (w : World) (B : Nat) (ov : Value) (done : List (List Int)) : Prop := ∃ vs : List Value, w.ownsRow B 38 1 ov done.length vs ∧ vs.length = done.length ∧ ∀ (j : Nat) v u, vs[j]? = some v → done[j]? = some u → w.ownsRow B 3 1 v u.length (u.map (.int .i64))
theorem OutQ.nil (w : World) (B : Nat) : OutQ w B (.slice none 0 0) [] := ⟨[], World.ownsRow_nil _ _ _ _, rfl, fun j v u h => by cases h⟩
theorem OutQ.past {w w' : World} {B : Nat} {ov : Value} {done : List (List Int)} (h : OutQ w B ov done) (hb : Below w.heap.size w w') : OutQ w' B ov done := by
  obtain ⟨vs, h1, h2, h3⟩ := h
  exact ⟨vs, own_below h1 hb, h2, fun j v u hv hu => own_below (h3 j v u hv hu) hb⟩
theorem own_capQ {w : World} {base : Nat} {e : TypeId} {size n : Nat} {A : Option Addr} {c : Nat} {xs : List Value} (h : w.ownsRow base e size (.slice A n c) n xs) : n ≤ c := own_cap h
theorem own_sliceQ {w : World} {base : Nat} {e : TypeId} {size n : Nat} {v : Value} {xs : List Value} (h : w.ownsRow base e size v n xs) : ∃ A c, v = .slice A n c := by
  rcases h.2 with ⟨rfl, rfl⟩ | ⟨g, cap, cur, rfl, _⟩
  · exact ⟨_, _, rfl⟩
  · exact ⟨_, _, rfl⟩
theorem OutQ.form {w : World} {B : Nat} {ov : Value} {done : List (List Int)} (h : OutQ w B ov done) : ∃ A c, ov = .slice A done.length c ∧ done.length ≤ c ∧ RowsQ (fun b => B ≤ b) w A done := by
  obtain ⟨vs, h1, h2, h3⟩ := h
  obtain ⟨A, c, rfl⟩ := own_sliceQ h1
  refine ⟨A, c, rfl, own_cap h1, vs, h2, SlP.of_own h1, fun j v u hv hu => ?_⟩
  obtain ⟨A', c', rfl⟩ := own_sliceQ (h3 j v u hv hu)
  exact ⟨A', c', rfl, own_cap (h3 j _ u hv hu), SlP.of_own (h3 j _ u hv hu)⟩
/-- One more. -/
theorem OutQ.app {w w' : World} {B : Nat} {ov ov' xv : Value} {done : List (List Int)} {u : List Int} {vs : List Value} (h1 : w.ownsRow B 38 1 ov done.length vs) (h2 : vs.length = done.length)
    (h3 : ∀ (j : Nat) v u, vs[j]? = some v → done[j]? = some u → w.ownsRow B 3 1 v u.length (u.map (.int .i64))) (hx : w.ownsRow B 3 1 xv u.length (u.map (.int .i64)))
    (hr : w'.ownsRow B 38 1 ov' (done.length + 1) (vs ++ [xv])) (hg : w.grownBy w' ov.ownBlock) : OutQ w' B ov' (done ++ [u]) := by
  refine ⟨vs ++ [xv], by rw [List.length_append]; exact hr, by rw [List.length_append, List.length_append, h2]; rfl, fun j v z hv hz => ?_⟩
  by_cases hj : j < vs.length
  · rw [List.getElem?_append_left hj] at hv
    rw [List.getElem?_append_left (by rw [← h2]; exact hj)] at hz
    have k := h3 j v z hv hz
    exact k.kept hg (rows_apart k h1 (by decide))
  · rw [List.getElem?_append_right (by omega)] at hv
    rw [List.getElem?_append_right (by rw [← h2]; omega), ← h2] at hz
    cases hq : j - vs.length with
    | zero =>
      rw [hq] at hv hz
      simp at hv hz
      subst hv hz
      exact hx.kept hg (rows_apart hx h1 (by decide))
    | succ q => rw [hq] at hv; simp at hv

/-- Rows of the tails are no longer than the doc's nodes and those behind. -/
theorem tails_rows (m k : Nat) : ∀ (x : D) (B : List (List Int)), (∀ u ∈ B, u.length ≤ k) → ∀ u ∈ tailsF m x B, u.length ≤ x.sz + k
  | .leaf _, B, h => fun u hu => by have := h u hu; simp only [D.sz]; omega
  | .un d a, B, h => by
    intro u hu
    have ha := tails_rows m k a B h
    simp only [tailsF] at hu
    simp only [D.sz]
    split at hu
    · have := ha u hu; omega
    · have hu := List.mem_of_mem_take hu
      rw [List.mem_append] at hu
      rcases hu with hu | hu
      · split at hu
        · obtain ⟨z, hz, rfl⟩ := List.mem_map.1 hu
          have := h z hz
          simp only [List.length_cons]; omega
        · cases hu
      · obtain ⟨z, hz, rfl⟩ := List.mem_map.1 hu
        have := ha z hz
        simp only [List.length_cons]; omega
  | .bin d a b, B, h => by
    intro u hu
    have hb := tails_rows m k b B h
    simp only [tailsF] at hu
    simp only [D.sz]
    split at hu
    · have := tails_rows m (b.sz + k) a (tailsF m b B) hb u hu; omega
    · have ha := tails_rows m k a B h
      have hu := List.mem_of_mem_take hu
      rw [List.mem_append] at hu
      rcases hu with hu | hu
      · obtain ⟨z, hz, rfl⟩ := List.mem_map.1 hu
        have := ha z hz
        simp only [List.length_cons]; omega
      · obtain ⟨z, hz, rfl⟩ := List.mem_map.1 hu
        have := hb z hz
        simp only [List.length_cons]; omega
end Go.Proofs.YtddfdmopaeghnabDoor
