/- Walk of syn's parser: program. Conditions: as in the texts ahead; the parser stands in the caller's own block. -/
import Derived.Test.YtddfdmopaeghnacGreatDoorPrU
import Derived.Test.YtddfdmopaeghnacGreatDoorPsK
import Derived.Test.YtddfdmopaeghnacGreatDoorTreeC
import Derived.Defers
import Derived.BigQuiet
import Derived.Deep.QuietTactic
import Derived.Deep.RegionLaw
namespace Go.Proofs.YtddfdmopaeghnacGreatDoor
open Go.RowKit

theorem rowT_info : (Tryz.prog.info? 22).map (fun i => (i.zero, i.size, i.bytes)) = some (some (.slice none 0 0), 1, 24) := by kernel_rfl
theorem NdF.keep {lo : Nat} {w w' : World} {A : Option Addr} {l : List Nd} {row : Option Nat} (h : NdF lo w A l) (hg : w.grownBy w' row) (hr : ∀ ad, A = some ad → row ≠ some ad.block) : NdF lo w' A l := by
  obtain ⟨⟨⟨h1, h2⟩, h3, h4⟩, h5⟩ := h
  refine ⟨⟨⟨h1, fun hn => ?_⟩, h3, h4⟩, h5⟩
  obtain ⟨b, off, rfl, hb, hc⟩ := h2 hn
  refine ⟨b, off, rfl, Nat.lt_of_lt_of_le hb hg.size, fun j u hu => ?_⟩
  exact (World.cell?_of_block (w := w) (a := ⟨b, off + j, none⟩) (hg.block b hb (fun e => hr _ rfl e.symm))).trans (hc j u hu)
theorem NdF.block {lo : Nat} {w : World} {A : Option Addr} {l : List Nd} (h : NdF lo w A l) (h0 : 0 < l.length) : ∃ b off, A = some ⟨b, off, none⟩ ∧ lo ≤ b ∧ b < w.heap.size := by
  obtain ⟨⟨⟨h1, h2⟩, h3, h4⟩, h5⟩ := h
  obtain ⟨b, off, rfl, hb, hc⟩ := h2 h0
  exact ⟨b, off, rfl, h5 _ rfl, hb⟩

/-- Rows of nodes, none in the block of the row of them. -/
structure RowP (w : World) (lo : Nat) (row : Option Nat) (vs : List Value) (l : List (List Nd)) : Prop where
  len : vs.length = l.length
  els : ∀ (j : Nat) (v : Value), vs[j]? = some v → ∃ (Aj : Option Addr) (cj : Nat) (u : List Nd), l[j]? = some u ∧ v = .slice Aj u.length cj ∧ NdF lo w Aj u ∧ (∀ ad, Aj = some ad → row ≠ some ad.block) ∧ Short u ∧ 0 < u.length
theorem RowP.grow {w w' : World} {lo : Nat} {row row' : Option Nat} {vs : List Value} {l : List (List Nd)} (h : RowP w lo row vs l) (hg : w.grownBy w' row') (hr : ∀ k, row' = some k → k < lo) : RowP w' lo row vs l :=
  ⟨h.len, fun j v hv => let ⟨Aj, cj, u, h1, h2, h3, h4, h5, h6⟩ := h.els j v hv; ⟨Aj, cj, u, h1, h2, h3.grow hg hr, h4, h5, h6⟩⟩
theorem RowP.app {w w' : World} {lo lo2 c : Nat} {v v' : Value} {A : Option Addr} {u : List Nd} {vs : List Value} {l : List (List Nd)} (h : RowP w lo v.ownBlock vs l) (hg : w.grownBy w' v.ownBlock) (hat : v'.ownBlock = v.ownBlock ∨ v'.ownBlock = some w.heap.size)
    (hA : NdF lo2 w A u) (hlo : lo ≤ lo2) (hk : ∀ k, v.ownBlock = some k → k < lo2) (hs : Short u) (hu : 0 < u.length) : RowP w' lo v'.ownBlock (vs ++ [.slice A u.length c]) (l ++ [u]) := by
  have hnew : ∀ (B : Option Addr) (x : List Nd), NdF lo w B x → 0 < x.length → (∀ ad, B = some ad → v.ownBlock ≠ some ad.block) → ∀ ad, B = some ad → v'.ownBlock ≠ some ad.block := by
    intro B x hB h0 hn ad e
    obtain ⟨b, off, e2, hb1, hb2⟩ := hB.block h0
    rw [e2] at e
    cases e
    rcases hat with hat | hat
    · rw [hat]; exact hn _ e2
    · rw [hat]
      intro e3
      injection e3 with e3
      simp only at e3
      omega
  have hA' : ∀ ad, A = some ad → v.ownBlock ≠ some ad.block := fun ad e e2 => by
    have h1 := hk _ e2
    have h2 := hA.2 ad e
    omega
  refine ⟨by simp [h.len], fun j v2 hv => ?_⟩
  rcases Nat.lt_trichotomy j vs.length with hj | hj | hj
  · rw [List.getElem?_append_left hj] at hv
    obtain ⟨Aj, cj, x, h1, h2, h3, h4, h5, h6⟩ := h.els j v2 hv
    exact ⟨Aj, cj, x, by rw [List.getElem?_append_left (by rw [← h.len]; exact hj)]; exact h1, h2, h3.keep hg h4, hnew Aj x h3 h6 h4, h5, h6⟩
  · subst hj
    rw [List.getElem?_append_right (Nat.le_refl _), Nat.sub_self] at hv
    simp only [List.getElem?_cons_zero, Option.some.injEq] at hv
    subst hv
    exact ⟨A, c, u, by rw [h.len, List.getElem?_append_right (Nat.le_refl _), Nat.sub_self]; rfl, rfl, (hA.less hlo).keep hg hA', hnew A u (hA.less hlo) hu hA', hs, hu⟩
  · rw [List.getElem?_append_right (by omega)] at hv
    rw [List.getElem?_eq_none (by simp; omega)] at hv
    cases hv

/-- What the rounds of a program have done: out, in the cell of the first result's variable. -/
structure PgSt (g : Nat) (W : Option Addr) (cw : Nat) (ws : List ByteArray) (P : Option Addr) (cp : Nat) (ps : List Nat) (w0 : World) (out : List (List Nd)) (k : Nat) (v : Value) (vs : List Value) (w : World) : Prop where
  st : PsSt g W cw ws P cp ps k w
  row : w0.grownBy w (some g)
  big : w0.heap.size + 3 ≤ w.heap.size
  lt : g < w0.heap.size
  h0 : w.heap[w0.heap.size]? = some (.cells #[v] 35 (0, 0))
  h1 : w.heap[w0.heap.size + 1]? = some (.cells #[.int .i64 0] 3 (0, 0))
  h2 : w.heap[w0.heap.size + 2]? = some (.cells #[.nilIface] 28 (0, 0))
  own : w.ownsRow (w0.heap.size + 3) 22 1 v out.length vs
  els : RowP w (w0.heap.size + 3) v.ownBlock vs out
section
variable {g cw cp k k' : Nat} {W P : Option Addr} {ws : List ByteArray} {ps : List Nat} {w0 w w' : World} {out : List (List Nd)} {v : Value} {vs : List Value}
theorem PgSt.past (h : PgSt g W cw ws P cp ps w0 out k v vs w) (hb : Below w.heap.size w w') : PgSt g W cw ws P cp ps w0 out k v vs w' := by
  have hbig := h.big
  exact ⟨h.st.past hb, grown_below h.row hb, Nat.le_trans h.big hb.size, h.lt, (hb.block _ (by omega)).trans h.h0, (hb.block _ (by omega)).trans h.h1, (hb.block _ (by omega)).trans h.h2, own_below h.own hb, h.els.grow (grown_of_below hb) (fun _ e => by cases e)⟩
/-- Behind a call of the parser's. -/
theorem PgSt.call (h : PgSt g W cw ws P cp ps w0 out k v vs w) (hs : PsSt g W cw ws P cp ps k' w') (hg : w.grownBy w' (some g)) : PgSt g W cw ws P cp ps w0 out k' v vs w' := by
  have hbig := h.big
  have hlt := h.lt
  exact ⟨hs, grown_trans h.row hg, Nat.le_trans h.big hg.size, h.lt, (hg.block _ (by omega) (by simp; omega)).trans h.h0, (hg.block _ (by omega) (by simp; omega)).trans h.h1, (hg.block _ (by omega) (by simp; omega)).trans h.h2, own_past h.own hg (by omega), h.els.grow hg (fun k e => by cases e; omega)⟩
theorem PgSt.cell (h : PgSt g W cw ws P cp ps w0 out k v vs w) : w.cell? ⟨w0.heap.size, 0, none⟩ = some v ∧ w.frozen? ⟨w0.heap.size, 0, none⟩ = false := ⟨by rw [Lib.cell_of_heap h.h0]; rfl, Lib.frozen_of_heap h.h0 0⟩
theorem PgSt.cells (h : PgSt g W cw ws P cp ps w0 out k v vs w) : w.cell? ⟨w0.heap.size + 1, 0, none⟩ = some (.int .i64 0) ∧ w.frozen? ⟨w0.heap.size + 1, 0, none⟩ = false ∧ w.cell? ⟨w0.heap.size + 2, 0, none⟩ = some .nilIface ∧ w.frozen? ⟨w0.heap.size + 2, 0, none⟩ = false := ⟨by rw [Lib.cell_of_heap h.h1]; rfl, Lib.frozen_of_heap h.h1 0, by rw [Lib.cell_of_heap h.h2]; rfl, Lib.frozen_of_heap h.h2 0⟩
/-- Behind an append and a store. -/
theorem PgSt.app {lo c : Nat} {A : Option Addr} {u : List Nd} {v' : Value} (h : PgSt g W cw ws P cp ps w0 out k v vs w) (hA : NdF lo w A u) (hlo : w0.heap.size + 3 ≤ lo) (hk : ∀ k, v.ownBlock = some k → k < lo) (hs : Short u) (hu : 0 < u.length)
    (ho : w'.ownsRow (w0.heap.size + 3) 22 1 v' (out.length + 1) (vs ++ [.slice A u.length c])) (hg : w.grownBy w' v.ownBlock) (hat : v'.ownBlock = v.ownBlock ∨ v'.ownBlock = some w.heap.size) :
    w'.cell? ⟨w0.heap.size, 0, none⟩ = some v ∧ w'.frozen? ⟨w0.heap.size, 0, none⟩ = false ∧ PgSt g W cw ws P cp ps w0 (out ++ [u]) k v' (vs ++ [.slice A u.length c]) (w'.setCell ⟨w0.heap.size, 0, none⟩ v') := by
  have hbig := h.big
  have hlt := h.lt
  have hB : Below (w0.heap.size + 3) w w' := below_app (Below.refl _ _) h.own hg (by omega) (Nat.le_refl _)
  have b0 := (hB.block w0.heap.size (by omega)).trans h.h0
  have b1 := (hB.block (w0.heap.size + 1) (by omega)).trans h.h1
  have b2 := (hB.block (w0.heap.size + 2) (by omega)).trans h.h2
  have hS : Below w0.heap.size w' (w'.setCell ⟨w0.heap.size, 0, none⟩ v') := (Below.refl _ _).setCell (p := ⟨w0.heap.size, 0, none⟩) (Nat.le_refl _) _
  have hgS : w'.grownBy (w'.setCell ⟨w0.heap.size, 0, none⟩ v') (some w0.heap.size) := ps_grown _ _ _ _
  refine ⟨by rw [Lib.cell_of_heap b0]; rfl, Lib.frozen_of_heap b0 0, (h.st.under hB (by omega)).under hS (by omega), grown_under (grown_under h.row hB (by omega)) hS (Nat.le_refl _), ?_, h.lt, ?_, ?_, ?_, ?_, ?_⟩
  · exact Nat.le_trans (Nat.le_trans h.big hB.size) hS.size
  · simp [World.setCell, Array.getElem?_modify, b0]
  · exact (Below.heap_setCell _ _ _ _ (by simp only; omega)).trans b1
  · exact (Below.heap_setCell _ _ _ _ (by simp only; omega)).trans b2
  · rw [List.length_append]
    exact own_past ho hgS (by omega)
  · exact (h.els.app hg hat hA hlo hk hs hu).grow hgS (fun k e => by cases e; omega)
theorem PgSt.lows (h : PgSt g W cw ws P cp ps w0 out k v vs w) : ∀ k, v.ownBlock = some k → k < w.heap.size := fun k e => (h.own.lt k e).2
/-- Behind a call that has panicked. -/
structure PgDead (g : Nat) (w0 : World) (v : Value) (w : World) : Prop where
  row : w0.grownBy w (some g)
  big : w0.heap.size + 3 ≤ w.heap.size
  lt : g < w0.heap.size
  h0 : w.heap[w0.heap.size]? = some (.cells #[v] 35 (0, 0))
  h1 : w.heap[w0.heap.size + 1]? = some (.cells #[.int .i64 0] 3 (0, 0))
  h2 : w.heap[w0.heap.size + 2]? = some (.cells #[.nilIface] 28 (0, 0))
theorem PgSt.dead (h : PgSt g W cw ws P cp ps w0 out k v vs w) (hg : w.grownBy w' (some g)) : PgDead g w0 v w' := by
  have hbig := h.big
  have hlt := h.lt
  exact ⟨grown_trans h.row hg, Nat.le_trans h.big hg.size, h.lt, (hg.block _ (by omega) (by simp; omega)).trans h.h0, (hg.block _ (by omega) (by simp; omega)).trans h.h1, (hg.block _ (by omega) (by simp; omega)).trans h.h2⟩
theorem set_block {w : World} {b : Nat} {u v : Value} {e : TypeId} (h : w.heap[b]? = some (.cells #[u] e (0, 0))) : (w.setCell ⟨b, 0, none⟩ v).heap[b]? = some (.cells #[v] e (0, 0)) := by simp [World.setCell, Array.getElem?_modify, h]
/-- At the door. -/
theorem PgSt.done {n : Nat} {w9 : World} (h : PgSt g W cw ws P cp ps w0 out k v vs w) (hB : Below ((((w.drewN n).setCell ⟨w0.heap.size, 0, none⟩ v).setCell ⟨w0.heap.size + 1, 0, none⟩ (.int .i64 0)).setCell ⟨w0.heap.size + 1 + 1, 0, none⟩ .nilIface).heap.size ((((w.drewN n).setCell ⟨w0.heap.size, 0, none⟩ v).setCell ⟨w0.heap.size + 1, 0, none⟩ (.int .i64 0)).setCell ⟨w0.heap.size + 1 + 1, 0, none⟩ .nilIface) w9) :
    w9.cell? ⟨w0.heap.size, 0, none⟩ = some v ∧ w9.cell? ⟨w0.heap.size + 1, 0, none⟩ = some (.int .i64 0) ∧ w9.cell? ⟨w0.heap.size + 1 + 1, 0, none⟩ = some .nilIface ∧ w9.ownsRow (w0.heap.size + 3) 22 1 v out.length vs ∧ RowP w9 (w0.heap.size + 3) v.ownBlock vs out ∧ w0.grownBy w9 (some g) := by
  have hd := h.past (below_drewN (Below.refl _ _) n)
  have hbig := hd.big
  generalize w.drewN n = wd at *
  have k0 : (wd.setCell ⟨w0.heap.size, 0, none⟩ v).heap[w0.heap.size]? = some (.cells #[v] 35 (0, 0)) := set_block hd.h0
  have k1 : ((wd.setCell ⟨w0.heap.size, 0, none⟩ v).setCell ⟨w0.heap.size + 1, 0, none⟩ (.int .i64 0)).heap[w0.heap.size + 1]? = some (.cells #[.int .i64 0] 3 (0, 0)) := set_block ((Below.heap_setCell _ _ _ _ (by simp)).trans hd.h1)
  have k2 : (((wd.setCell ⟨w0.heap.size, 0, none⟩ v).setCell ⟨w0.heap.size + 1, 0, none⟩ (.int .i64 0)).setCell ⟨w0.heap.size + 1 + 1, 0, none⟩ .nilIface).heap[w0.heap.size + 1 + 1]? = some (.cells #[.nilIface] 28 (0, 0)) := set_block ((Below.heap_setCell _ _ _ _ (by simp)).trans ((Below.heap_setCell _ _ _ _ (by simp only; omega)).trans hd.h2))
  have g1 : wd.grownBy (wd.setCell ⟨w0.heap.size, 0, none⟩ v) (some w0.heap.size) := ps_grown _ _ _ _
  have g2 : (wd.setCell ⟨w0.heap.size, 0, none⟩ v).grownBy ((wd.setCell ⟨w0.heap.size, 0, none⟩ v).setCell ⟨w0.heap.size + 1, 0, none⟩ (.int .i64 0)) (some (w0.heap.size + 1)) := ps_grown _ _ _ _
  have g3 : ((wd.setCell ⟨w0.heap.size, 0, none⟩ v).setCell ⟨w0.heap.size + 1, 0, none⟩ (.int .i64 0)).grownBy (((wd.setCell ⟨w0.heap.size, 0, none⟩ v).setCell ⟨w0.heap.size + 1, 0, none⟩ (.int .i64 0)).setCell ⟨w0.heap.size + 1 + 1, 0, none⟩ .nilIface) (some (w0.heap.size + 1 + 1)) := ps_grown _ _ _ _
  have b1 : Below w0.heap.size wd (wd.setCell ⟨w0.heap.size, 0, none⟩ v) := (Below.refl _ _).setCell (p := ⟨w0.heap.size, 0, none⟩) (Nat.le_refl _) _
  have b2 : Below w0.heap.size wd ((wd.setCell ⟨w0.heap.size, 0, none⟩ v).setCell ⟨w0.heap.size + 1, 0, none⟩ (.int .i64 0)) := b1.setCell (p := ⟨w0.heap.size + 1, 0, none⟩) (by simp) _
  have b3 := b2.setCell (p := ⟨w0.heap.size + 1 + 1, 0, none⟩) (by simp only; omega) Value.nilIface
  generalize wd.setCell ⟨w0.heap.size, 0, none⟩ v = wa at *
  generalize wa.setCell ⟨w0.heap.size + 1, 0, none⟩ (.int .i64 0) = wb at *
  generalize wb.setCell ⟨w0.heap.size + 1 + 1, 0, none⟩ .nilIface = wc at *
  have s1 := g1.size
  have s2 := g2.size
  have s3 := g3.size
  have ow := own_below (own_past (own_past (own_past hd.own g1 (by omega)) g2 (by omega)) g3 (by omega)) hB
  have el := (((hd.els.grow g1 (fun k e => by cases e; omega)).grow g2 (fun k e => by cases e; omega)).grow g3 (fun k e => by cases e; omega)).grow (grown_of_below hB) (fun _ e => by cases e)
  have m0 := (hB.block w0.heap.size (by omega)).trans ((g3.block _ (by omega) (by simp; omega)).trans ((g2.block _ (by omega) (by simp)).trans k0))
  have m1 := (hB.block (w0.heap.size + 1) (by omega)).trans ((g3.block _ (by omega) (by simp)).trans k1)
  have m2 := (hB.block (w0.heap.size + 1 + 1) (by omega)).trans k2
  refine ⟨by rw [Lib.cell_of_heap m0]; rfl, by rw [Lib.cell_of_heap m1]; rfl, by rw [Lib.cell_of_heap m2]; rfl, ow, el, grown_below (grown_under hd.row b3 (Nat.le_refl _)) hB⟩
end
end Go.Proofs.YtddfdmopaeghnacGreatDoor
