/- Walk: fill.Fill. Conditions: the slice of words lies below the call's own blocks; the words and the width may be. -/
import Derived.Test.YtddfdmopaeghnaaDoorFillY
import Derived.Test.YtddfdmopaeghnaaDoorShelf
import Derived.BigRegion
import Derived.Laws.ResultCell
namespace Go.Proofs.YtddfdmopaeghnaaDoor
open Go.RowKit

theorem int_info : (Tryd.prog.info? 3).map (fun i => (i.zero, i.size, i.bytes)) = some (some (.int .i64 0), 1, 8) := by kernel_rfl
theorem str_info : (Tryd.prog.info? 9).map (fun i => (i.zero, i.size, i.bytes)) = some (some (.string .empty), 1, 16) := by kernel_rfl

theorem own_slice {w : World} {base : Nat} {e : TypeId} {size n : Nat} {v : Value} {xs : List Value} (h : w.ownsRow base e size v n xs) : ∃ A c, v = .slice A n c := by
  rcases h.2 with ⟨rfl, rfl⟩ | ⟨g, cap, cur, rfl, _⟩
  · exact ⟨none, 0, rfl⟩
  · exact ⟨_, cap, rfl⟩
theorem rows_apart {w : World} {e f : TypeId} {u v : Value} {m n : Nat} {xs ys : List Value} {B C : Nat} {sz sz' : Nat} (h1 : w.ownsRow B e sz u m xs) (h2 : w.ownsRow C f sz' v n ys) (hef : e ≠ f) : u.ownBlock = none ∨ u.ownBlock ≠ v.ownBlock := by
  rcases h1.2 with ⟨rfl, _⟩ | ⟨g, cap, cur, rfl, _, hg, _⟩
  · exact .inl rfl
  · refine .inr fun he => ?_
    rcases h2.2 with ⟨rfl, _⟩ | ⟨g', cap', cur', rfl, _, hg', _⟩
    · simp [Value.ownBlock] at he
    · simp only [Value.ownBlock, Option.some.injEq] at he
      subst he
      rw [hg] at hg'
      simp only [Option.some.injEq, Obj.cells.injEq] at hg'
      exact hef hg'.2.1

/-- A row of numbers of the call's own in block g. -/
def IRow (w : World) (B g n : Nat) (xs : List Value) : Prop := w.ownsRow B 3 1 (.slice (some ⟨g, 0, none⟩) n n) n xs
theorem IRow.set {w : World} {B g n : Nat} {xs : List Value} (h : IRow w B g n xs) (j : Nat) (v : Value) : IRow (w.setCell ⟨g, j, none⟩ v) B g n (xs.set j v) := (World.ownsRow.stored h j v).1
theorem IRow.other {w : World} {B g n g' : Nat} {xs : List Value} (h : IRow w B g n xs) (hne : g ≠ g') (j : Nat) (v : Value) : IRow (w.setCell ⟨g', j, none⟩ v) B g n xs :=
  World.ownsRow.kept (row := some g') h ⟨rfl, rfl, rfl, by simp [World.setCell], fun k _ hk => Below.heap_setCell _ _ _ _ (fun e => hk (by simp [e]))⟩ (.inr (by simp [Value.ownBlock]; exact hne))
theorem IRow.drewN {w : World} {B g n : Nat} {xs : List Value} (h : IRow w B g n xs) (m : Nat) : IRow (w.drewN m) B g n xs := h
theorem IRow.cell {w : World} {B g n : Nat} {xs : List Value} (h : IRow w B g n xs) {j : Nat} (hj : j < n) : w.cell? ⟨g, j, none⟩ = xs[j]? := World.ownsRow.cellAt h j (by omega)
theorem IRow.some_ {w : World} {B g n : Nat} {xs : List Value} (h : IRow w B g n xs) {j : Nat} (hj : j < n) : ∃ u, w.cell? ⟨g, j, none⟩ = some u := by
  have hl := h.1
  rw [h.cell hj]
  exact ⟨_, List.getElem?_eq_getElem (by omega)⟩
theorem IRow.free {w : World} {B g n : Nat} {xs : List Value} (h : IRow w B g n xs) (j : Nat) : w.frozen? ⟨g, j, none⟩ = false := World.ownsRow.frozenAt h j
theorem IRow.lt {w : World} {B g n : Nat} {xs : List Value} (h : IRow w B g n xs) : B ≤ g ∧ g < w.heap.size := World.ownsRow.lt h g rfl

/-- From place m on the rows hold the least costs, and how many words. -/
def DoneF (width : Int) (l : List ByteArray) (m : Nat) (xs ys : List Value) : Prop :=
  (∀ j, m ≤ j → j ≤ l.length → xs[j]? = some (.int .i64 (leastAt width l j))) ∧ ∀ j, m ≤ j → j < l.length → ys[j]? = some (.int .i64 (manyAt width l j : Nat))
/-- At place i the scan has come to lines of up to q words. -/
def ScanF (width : Int) (l : List ByteArray) (i q : Nat) (xs ys : List Value) : Prop :=
  xs[i]? = some (.int .i64 (scanAt width l i q).1) ∧ (0 < q → ys[i]? = some (.int .i64 ((scanAt width l i q).2 : Nat)))

theorem DoneF.set {width : Int} {l : List ByteArray} {i : Nat} {xs ys : List Value} (h : DoneF width l (i + 1) xs ys) (v u : Value) : DoneF width l (i + 1) (xs.set i v) (ys.set i u) :=
  ⟨fun j h1 h2 => by rw [List.getElem?_set_ne (by omega)]; exact h.1 j h1 h2, fun j h1 h2 => by rw [List.getElem?_set_ne (by omega)]; exact h.2 j h1 h2⟩
theorem DoneF.set1 {width : Int} {l : List ByteArray} {i : Nat} {xs ys : List Value} (h : DoneF width l (i + 1) xs ys) (v : Value) : DoneF width l (i + 1) (xs.set i v) ys :=
  ⟨fun j h1 h2 => by rw [List.getElem?_set_ne (by omega)]; exact h.1 j h1 h2, h.2⟩
theorem DoneF.more {width : Int} {l : List ByteArray} {i : Nat} {xs ys : List Value} (hf : Few width l) (hi : i < l.length) (h : DoneF width l (i + 1) xs ys) (hs : ScanF width l i (l.length - i) xs ys) : DoneF width l i xs ys := by
  obtain ⟨e1, e2, _⟩ := hf.at_ hi
  refine ⟨fun j h1 h2 => ?_, fun j h1 h2 => ?_⟩
  · rcases Nat.eq_or_lt_of_le h1 with rfl | h3
    · rw [hs.1, e1]
    · exact h.1 j h3 h2
  · rcases Nat.eq_or_lt_of_le h1 with rfl | h3
    · rw [hs.2 (by omega), e2]
    · exact h.2 j h3 h2
theorem scan_yes {width : Int} {l : List ByteArray} {i K : Nat} (hK : i < K) (h : (scanAt width l i (K - i - 1)).1 < 0 ∨ costAt width l i K ≤ (scanAt width l i (K - i - 1)).1) : scanAt width l i (K - i) = (costAt width l i K, K - i) := by
  obtain ⟨q, rfl⟩ : ∃ q, K = i + q + 1 := ⟨K - i - 1, by omega⟩
  rw [show i + q + 1 - i - 1 = q by omega] at h
  rw [show i + q + 1 - i = q + 1 by omega, scanAt, if_pos h]
theorem scan_no {width : Int} {l : List ByteArray} {i K : Nat} (hK : i < K) (h : ¬ ((scanAt width l i (K - i - 1)).1 < 0 ∨ costAt width l i K ≤ (scanAt width l i (K - i - 1)).1)) : scanAt width l i (K - i) = scanAt width l i (K - i - 1) := by
  obtain ⟨q, rfl⟩ : ∃ q, K = i + q + 1 := ⟨K - i - 1, by omega⟩
  rw [show i + q + 1 - i - 1 = q by omega] at h ⊢
  rw [show i + q + 1 - i = q + 1 by omega, scanAt, if_neg h]
theorem Few.scan_bd {width : Int} {l : List ByteArray} (h : Few width l) {i : Nat} : ∀ q, i + q ≤ l.length → -1 ≤ (scanAt width l i q).1 ∧ (scanAt width l i q).1 ≤ 80000000 ∧ (scanAt width l i q).2 ≤ q ∧ ((scanAt width l i q).1 < 0 → q = 0) := by
  intro q hq
  obtain ⟨h0, h1⟩ := h.scan (i := i) (fun k a b => (h.cost a b).2.2.1) q hq
  rcases Nat.eq_zero_or_pos q with hz | hz
  · rw [h0 hz]; exact ⟨by decide, by decide, by simp, fun _ => hz⟩
  · obtain ⟨g1, g2, g3, g4, _⟩ := h1 hz
    rw [← g4]
    have := (h.cost (i := i) (k := i + (scanAt width l i q).2) (by omega) (by omega)).2.2.2
    exact ⟨by rw [g4]; omega, this, g3, fun hh => by rw [g4] at hh; omega⟩

theorem sub_txs {w : World} {B b off : Nat} {l : List ByteArray} (h : Txs w B (some ⟨b, off, none⟩) l) {i k : Nat} (hik : i ≤ k) (hk : k ≤ l.length) : Txs w B (some ⟨b, off + i, none⟩) ((l.drop i).take (k - i)) :=
  (h.cut i).head (by rw [List.length_drop]; omega)
theorem sub_len {l : List ByteArray} {i k : Nat} (_hik : i ≤ k) (hk : k ≤ l.length) : ((l.drop i).take (k - i)).length = k - i := by rw [List.length_take, List.length_drop]; omega

/-- The loops over the costs: from a state to all of them. -/
def CostTo (width : Int) (l : List ByteArray) (B gl gm : Nat) (w : World) : Prop := ∃ xs ys, IRow w B gl (l.length + 1) xs ∧ IRow w B gm l.length ys ∧ DoneF width l 0 xs ys
end Go.Proofs.YtddfdmopaeghnaaDoor
