/- Slices of nodes that a call owns or lays. No condition. Walks: slices.Grow from nil, slices.Concat, at slices of nodes. Conditions: the slices lie below the call's own blocks; there is a node, and not more than 20000. Walks: syn.Bound; lay's word, op, both, group, deep. Conditions: the slices lie below the call's own blocks, no text is over-long, not more than 10000 nodes. -/
import Derived.Test.YtddfdmopaeghnacGreatDoorDocW
import Derived.Lib.AppendZeros
import Derived.BigQuiet
import Derived.Deep.QuietTactic
import Derived.Test.YtddfdmopaeghnacGreatDoorSiMk
namespace Go.Proofs.YtddfdmopaeghnacGreatDoor
open Go.RowKit

theorem nd_one (l : List Nd) : ∀ u ∈ l.flatMap ndCells, u.oneCell' = true := by
  intro u hu
  obtain ⟨d, _, hd⟩ := List.mem_flatMap.1 hu
  simp [ndCells] at hd
  rcases hd with rfl | rfl | rfl <;> rfl

theorem Nds.own {w : World} {base n : Nat} {A : Option Addr} {c : Nat} {l : List Nd} (h : w.ownsRow base 157 3 (.slice A n c) n (l.flatMap ndCells)) (hn : n = l.length) (hm : l.length ≤ maxLen) (ht : ∀ d ∈ l, d.text.size ≤ maxLen) : Nds w w.heap.size A l := by
  subst hn
  exact ⟨.of_own h, hm, ht⟩

theorem own_slice {w : World} {base : Nat} {e : TypeId} {size n : Nat} {v : Value} {xs : List Value} (h : w.ownsRow base e size v n xs) : ∃ A c, v = .slice A n c := by
  rcases h.2 with ⟨rfl, rfl⟩ | ⟨g, cap, cur, rfl, _⟩
  · exact ⟨_, _, rfl⟩
  · exact ⟨_, _, rfl⟩

/-- A literal slice of one node. -/
theorem Nds.lit1 (w : World) (d : Nd) (g : Nat) (hg : w.heap.size = g) (hd : d.text.size ≤ maxLen) :
    Nds (w.alloc (.cells #[.int .i64 d.op, .string d.text, .int .i64 d.n] 157)) (w.alloc (.cells #[.int .i64 d.op, .string d.text, .int .i64 d.n] 157)).heap.size (some ⟨g, 0, none⟩) [d] := by
  subst hg
  exact ⟨.lit w _ _ 1 rfl, by simp [maxLen], by simpa using hd⟩
theorem Nds.alloc {w : World} {A : Option Addr} {l : List Nd} (h : Nds w w.heap.size A l) (o : Obj) : Nds (w.alloc o) (w.alloc o).heap.size A l := ⟨h.1.alloc o, h.2⟩
end Go.Proofs.YtddfdmopaeghnacGreatDoor

namespace Go.Proofs.YtddfdmopaeghnacGreatDoor
open Go.RowKit

/-- A slice of nodes that lies in blocks from one on. -/
def NdF (lo : Nat) (w : World) (A : Option Addr) (l : List Nd) : Prop := Nds w w.heap.size A l ∧ ∀ ad, A = some ad → lo ≤ ad.block
/-- It stays where no block from there on has turned. -/
theorem NdF.grow {lo : Nat} {w w' : World} {A : Option Addr} {l : List Nd} {row : Option Nat} (h : NdF lo w A l) (hg : w.grownBy w' row) (hr : ∀ k, row = some k → k < lo) : NdF lo w' A l := by
  obtain ⟨⟨⟨h1, h2⟩, h3, h4⟩, h5⟩ := h
  refine ⟨⟨⟨h1, fun hn => ?_⟩, h3, h4⟩, h5⟩
  obtain ⟨b, off, rfl, hb, hc⟩ := h2 hn
  refine ⟨b, off, rfl, Nat.lt_of_lt_of_le hb hg.size, fun j u hu => ?_⟩
  have hlo := h5 _ rfl
  exact (World.cell?_of_block (w := w) (a := ⟨b, off + j, none⟩) (hg.block b hb (fun e => by have h7 := hr b e.symm; simp only at hlo; omega))).trans (hc j u hu)
theorem grown_of_below {w w' : World} (hb : Below w.heap.size w w') : w.grownBy w' none := ⟨hb.os, hb.tape, hb.output, hb.size, fun k hk _ => hb.block k hk⟩
theorem NdF.past {lo : Nat} {w w' : World} {A : Option Addr} {l : List Nd} (h : NdF lo w A l) (hb : Below w.heap.size w w') : NdF lo w' A l := h.grow (grown_of_below hb) (fun _ e => by cases e)
theorem NdF.less {lo lo' : Nat} {w : World} {A : Option Addr} {l : List Nd} (h : NdF lo w A l) (hl : lo' ≤ lo) : NdF lo' w A l := ⟨h.1, fun ad e => Nat.le_trans hl (h.2 ad e)⟩
theorem NdF.own {w : World} {base n : Nat} {A : Option Addr} {c : Nat} {l : List Nd} (h : w.ownsRow base 157 3 (.slice A n c) n (l.flatMap ndCells)) (hn : n = l.length) (hm : l.length ≤ maxLen) (ht : ∀ d ∈ l, d.text.size ≤ maxLen) : NdF base w A l :=
  ⟨Nds.own h hn hm ht, fun ad e => by subst e; exact (h.lt ad.block rfl).1⟩
theorem NdF.lit (w : World) (d : Nd) (hd : d.text.size ≤ maxLen) : NdF w.heap.size (w.alloc (.cells #[.int .i64 d.op, .string d.text, .int .i64 d.n] 157)) (some ⟨w.heap.size, 0, none⟩) [d] :=
  ⟨Nds.lit1 w d _ rfl hd, fun ad e => by cases e; exact Nat.le_refl _⟩
/-- Slices of nodes, in memory. -/
structure Sls (w : World) (B : Nat) (A : Option Addr) (ls : List (List Nd)) : Prop where
  sl : ∃ vs : List Value, Sl w B 1 A ls.length vs ∧ ∀ (j : Nat) v, vs[j]? = some v → ∃ Aj cj u, ls[j]? = some u ∧ v = .slice Aj u.length cj ∧ Nds w B Aj u
theorem Sls.one {w wr : World} {A : Option Addr} {ls : List (List Nd)} (h : Sls w w.heap.size A ls) (hB : Below w.heap.size w wr) {k : Nat} (hk : k < ls.length) :
    ∃ b off Aj cj u, A = some ⟨b, off, none⟩ ∧ b < wr.heap.size ∧ ls[k]? = some u ∧ wr.cell? ⟨b, off + k, none⟩ = some (.slice Aj u.length cj) ∧ Nds wr wr.heap.size Aj u := by
  obtain ⟨vs, h1, h2⟩ := h.sl
  obtain ⟨b, off, v, e1, e2, e3, e4⟩ := h1.one hk
  obtain ⟨Aj, cj, u, g1, rfl, g3⟩ := h2 k v e3
  exact ⟨b, off, Aj, cj, u, e1, Nat.lt_of_lt_of_le e2 hB.size, g1, (hB.cell (p := ⟨b, off + k, none⟩) e2).trans e4, g3.past hB⟩
end Go.Proofs.YtddfdmopaeghnacGreatDoor

namespace Go.Proofs.YtddfdmopaeghnacGreatDoor
open Go.RowKit

set_option maxHeartbeats 1000000 in
theorem bound_any (po pn ko kn : Int) (pt kt : ByteArray) (sec : Bool) (w : World) :
    Calls Tryz.prog 179 #[.agg #[.int .i64 po, .string pt, .int .i64 pn], .agg #[.int .i64 ko, .string kt, .int .i64 kn], .bool sec] w (Ret w (.bool (boundF po ko sec))) := by
  by_cases h6 : po = 6
  · subst h6
    by_cases k5 : ko = 5
    · subst k5
      rw [show boundF 6 5 sec = true by cases sec <;> rfl]
      go_enter Tryz.func179, Tryz.ntmps179
      go_wp2
      go_ret
      exact ⟨rfl, (by repeat (first | exact Below.refl _ _ | assumption | apply Below.drew | refine below_drewN ?_ _ | apply Below.setCell _ (by first | omega | (simp; done) | (simp; omega)) | apply Below.alloc _ (by first | omega | (simp; done) | (simp; omega))))⟩
    · have k5b : (ko == 5) = false := by simpa using k5
      by_cases k6 : ko = 6
      · subst k6
        rw [show boundF 6 6 sec = sec by cases sec <;> rfl]
        cases sec
        · go_enter Tryz.func179, Tryz.ntmps179
          go_wp2
          go_ret
          exact ⟨rfl, (by repeat (first | exact Below.refl _ _ | assumption | apply Below.drew | refine below_drewN ?_ _ | apply Below.setCell _ (by first | omega | (simp; done) | (simp; omega)) | apply Below.alloc _ (by first | omega | (simp; done) | (simp; omega))))⟩
        · go_enter Tryz.func179, Tryz.ntmps179
          go_wp2
          go_ret
          exact ⟨rfl, (by repeat (first | exact Below.refl _ _ | assumption | apply Below.drew | refine below_drewN ?_ _ | apply Below.setCell _ (by first | omega | (simp; done) | (simp; omega)) | apply Below.alloc _ (by first | omega | (simp; done) | (simp; omega))))⟩
      · have k6b : (ko == 6) = false := by simpa using k6
        rw [show boundF 6 ko sec = false by simp [boundF, k5, k6]]
        clear k5 k6
        cases sec
        · go_enter Tryz.func179, Tryz.ntmps179
          go_wp2
          go_ret
          exact ⟨rfl, (by repeat (first | exact Below.refl _ _ | assumption | apply Below.drew | refine below_drewN ?_ _ | apply Below.setCell _ (by first | omega | (simp; done) | (simp; omega)) | apply Below.alloc _ (by first | omega | (simp; done) | (simp; omega))))⟩
        · go_enter Tryz.func179, Tryz.ntmps179
          go_wp2
          go_ret
          exact ⟨rfl, (by repeat (first | exact Below.refl _ _ | assumption | apply Below.drew | refine below_drewN ?_ _ | apply Below.setCell _ (by first | omega | (simp; done) | (simp; omega)) | apply Below.alloc _ (by first | omega | (simp; done) | (simp; omega))))⟩
  · by_cases h5 : po = 5
    · subst h5
      by_cases k5 : ko = 5
      · subst k5
        rw [show boundF 5 5 sec = sec by cases sec <;> rfl]
        cases sec
        · go_enter Tryz.func179, Tryz.ntmps179
          go_wp2
          go_ret
          exact ⟨rfl, (by repeat (first | exact Below.refl _ _ | assumption | apply Below.drew | refine below_drewN ?_ _ | apply Below.setCell _ (by first | omega | (simp; done) | (simp; omega)) | apply Below.alloc _ (by first | omega | (simp; done) | (simp; omega))))⟩
        · go_enter Tryz.func179, Tryz.ntmps179
          go_wp2
          go_ret
          exact ⟨rfl, (by repeat (first | exact Below.refl _ _ | assumption | apply Below.drew | refine below_drewN ?_ _ | apply Below.setCell _ (by first | omega | (simp; done) | (simp; omega)) | apply Below.alloc _ (by first | omega | (simp; done) | (simp; omega))))⟩
      · have k5b : (ko == 5) = false := by simpa using k5
        rw [show boundF 5 ko sec = false by simp [boundF, k5]]
        clear k5 h6
        cases sec
        · go_enter Tryz.func179, Tryz.ntmps179
          go_wp2
          go_ret
          exact ⟨rfl, (by repeat (first | exact Below.refl _ _ | assumption | apply Below.drew | refine below_drewN ?_ _ | apply Below.setCell _ (by first | omega | (simp; done) | (simp; omega)) | apply Below.alloc _ (by first | omega | (simp; done) | (simp; omega))))⟩
        · go_enter Tryz.func179, Tryz.ntmps179
          go_wp2
          go_ret
          exact ⟨rfl, (by repeat (first | exact Below.refl _ _ | assumption | apply Below.drew | refine below_drewN ?_ _ | apply Below.setCell _ (by first | omega | (simp; done) | (simp; omega)) | apply Below.alloc _ (by first | omega | (simp; done) | (simp; omega))))⟩
    · have h5b : (po == 5) = false := by simpa using h5
      have h6b : (po == 6) = false := by simpa using h6
      rw [show boundF po ko sec = false by simp [boundF, h5, h6]]
      clear h5 h6
      go_enter Tryz.func179, Tryz.ntmps179
      go_wp2
      go_ret
      exact ⟨rfl, (by repeat (first | exact Below.refl _ _ | assumption | apply Below.drew | refine below_drewN ?_ _ | apply Below.setCell _ (by first | omega | (simp; done) | (simp; omega)) | apply Below.alloc _ (by first | omega | (simp; done) | (simp; omega))))⟩

end Go.Proofs.YtddfdmopaeghnacGreatDoor
