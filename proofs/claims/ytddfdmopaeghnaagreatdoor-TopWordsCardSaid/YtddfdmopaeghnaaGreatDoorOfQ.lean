/- What way.Of leaves: a plan in memory, read by its callers; small facts for its walk. No condition. -/
import Derived.Test.YtddfdmopaeghnaaGreatDoorOfP
namespace Go.Proofs.YtddfdmopaeghnaaGreatDoor
open Go.RowKit

theorem _root_.Go.World.ownsRow.someAt {w : World} {base : Nat} {e : TypeId} {g n c : Nat} {xs : List Value} (h : w.ownsRow base e 1 (.slice (some ⟨g, 0, none⟩) n c) n xs) {j : Nat} (hj : j < n) : ∃ u, w.cell? ⟨g, j, none⟩ = some u := by
  have hl := h.1
  rw [h.cellAt j (by omega)]
  exact ⟨_, List.getElem?_eq_getElem (by omega)⟩
theorem PS.apart {B : Nat} {w0 w : World} {p : PB} {nx dp fl is : List Value} {fc ic fv iv : Value} (h : PS B w0 p nx dp fc ic fv iv fl is w) : ¬ p.gp = p.gn ∧ ¬ p.gp = p.gd ∧ ¬ p.gn = p.gd :=
  ⟨fun e => row_blk h.next h.blk (by decide) (by simp [Value.ownBlock, e]), fun e => row_blk h.deep h.blk (by decide) (by simp [Value.ownBlock, e]), h.nd⟩
theorem PS.drewN {B : Nat} {w0 w : World} {p : PB} {nx dp fl is : List Value} {fc ic fv iv : Value} (h : PS B w0 p nx dp fc ic fv iv fl is w) (m : Nat) : PS B w0 p nx dp fc ic fv iv fl is (w.drewN m) := h.past (below_drewN (Below.refl _ _) m)
theorem oneF_n {d : Nd} (h : oneF d.op d.text d.n = 0) : 0 ≤ d.n ∧ d.n ≤ 8 := by
  unfold oneF at h
  by_cases c1 : d.op < 1 ∨ 9 < d.op
  · rw [if_pos c1] at h; cases h
  · rw [if_neg c1] at h
    split at h
    · cases h
    · split at h
      · cases h
      · split at h
        · cases h
        · omega
theorem Doc.ops {l : List Nd} {x : D} (hd : Doc l x) {i : Nat} (hi : i < l.length) {op n : Int} {t : ByteArray} (hnd : l[i] = Nd.mk op t n) : op = 1 ∨ op = 2 ∨ op = 3 ∨ op = 4 ∨ op = 5 ∨ op = 6 ∨ op = 7 ∨ op = 8 ∨ op = 9 := by
  have hone := hd.one _ (List.getElem_mem hi)
  rw [hnd] at hone
  have h1 : ¬ (op < 1 ∨ 9 < op) := fun h => by rw [oneF, if_pos h] at hone; cases hone
  omega


/-- A plan of a doc in memory, as its callers read it. -/
structure PlanAt (w : World) (gp gn gd ge gf gi cf ci : Nat) (A : Option Addr) (c : Nat) (l : List Nd) : Prop where
  c0 : w.cell? ⟨gp, 0, none⟩ = some (.slice A l.length c)
  c1 : w.cell? ⟨gp, 1, none⟩ = some (.slice (some ⟨gn, 0, none⟩) l.length l.length)
  c2 : w.cell? ⟨gp, 2, none⟩ = some (.slice (some ⟨gd, 0, none⟩) l.length l.length)
  c3 : w.cell? ⟨gp, 3, none⟩ = some (.slice (some ⟨ge, 0, none⟩) l.length l.length)
  c4 : w.cell? ⟨gp, 4, none⟩ = some (.slice (some ⟨gf, 0, none⟩) l.length cf)
  c5 : w.cell? ⟨gp, 5, none⟩ = some (.slice (some ⟨gi, 0, none⟩) l.length ci)
  nx : ∀ j, j < l.length → w.cell? ⟨gn, j, none⟩ = some (.int .i64 (nextAt l j : Nat))
  dp : ∀ j, j < l.length → w.cell? ⟨gd, j, none⟩ = some (.int .i64 (deepAt l j))
  en : ∀ j, j < l.length → w.cell? ⟨ge, j, none⟩ = some (.int .i64 (endAt l j : Nat))
  fl : ∀ j, j < l.length → w.cell? ⟨gf, j, none⟩ = some (.string (lineAt l j).1)
  ib : ∀ j, j < l.length → w.cell? ⟨gi, j, none⟩ = some (.bool (lineAt l j).2)
  lp : gp < w.heap.size
  ln : gn < w.heap.size
  ld : gd < w.heap.size
  le : ge < w.heap.size
  lf : gf < w.heap.size
  li : gi < w.heap.size

def IsPlan (w : World) (gp : Nat) (A : Option Addr) (c : Nat) (l : List Nd) : Prop := ∃ gn gd ge gf gi cf ci, PlanAt w gp gn gd ge gf gi cf ci A c l

theorem PlanAt.past {w w' : World} {gp gn gd ge gf gi cf ci : Nat} {A : Option Addr} {c : Nat} {l : List Nd} (h : PlanAt w gp gn gd ge gf gi cf ci A c l) (hb : Below w.heap.size w w') : PlanAt w' gp gn gd ge gf gi cf ci A c l :=
  ⟨(hb.cell (p := ⟨gp, 0, none⟩) h.lp).trans h.c0, (hb.cell (p := ⟨gp, 1, none⟩) h.lp).trans h.c1, (hb.cell (p := ⟨gp, 2, none⟩) h.lp).trans h.c2, (hb.cell (p := ⟨gp, 3, none⟩) h.lp).trans h.c3, (hb.cell (p := ⟨gp, 4, none⟩) h.lp).trans h.c4, (hb.cell (p := ⟨gp, 5, none⟩) h.lp).trans h.c5,
    fun j hj => (hb.cell (p := ⟨gn, j, none⟩) h.ln).trans (h.nx j hj), fun j hj => (hb.cell (p := ⟨gd, j, none⟩) h.ld).trans (h.dp j hj), fun j hj => (hb.cell (p := ⟨ge, j, none⟩) h.le).trans (h.en j hj),
    fun j hj => (hb.cell (p := ⟨gf, j, none⟩) h.lf).trans (h.fl j hj), fun j hj => (hb.cell (p := ⟨gi, j, none⟩) h.li).trans (h.ib j hj),
    Nat.lt_of_lt_of_le h.lp hb.size, Nat.lt_of_lt_of_le h.ln hb.size, Nat.lt_of_lt_of_le h.ld hb.size, Nat.lt_of_lt_of_le h.le hb.size, Nat.lt_of_lt_of_le h.lf hb.size, Nat.lt_of_lt_of_le h.li hb.size⟩
theorem IsPlan.past {w w' : World} {gp : Nat} {A : Option Addr} {c : Nat} {l : List Nd} (h : IsPlan w gp A c l) (hb : Below w.heap.size w w') : IsPlan w' gp A c l := by
  obtain ⟨gn, gd, ge, gf, gi, cf, ci, h⟩ := h
  exact ⟨gn, gd, ge, gf, gi, cf, ci, h.past hb⟩

/-- What way.Of leaves. -/
def OfTo (l : List Nd) (A : Option Addr) (c : Nat) (w : World) (e : Ending) (w' : World) : Prop := ∃ gp : Nat, e = .returned (.pointer (some ⟨gp, 0, none⟩)) ∧ w.heap.size ≤ gp ∧ IsPlan w' gp A c l ∧ Below w.heap.size w w'

theorem PS.plan {B : Nat} {w0 w : World} {gp gn gd ge : Nat} {A : Option Addr} {c : Nat} {l : List Nd} {x : D} {nx dp : List Value} {fv iv : Value} (hd : Doc l x) (h : PS B w0 ⟨gp, gn, gd, ge, A, c, l⟩ nx dp fv iv fv iv (txs l l.length) (iss l l.length) w) (hf : Filled l l.length nx dp) : IsPlan w gp A c l := by
  obtain ⟨e0, e1, e2, e3, e4, e5⟩ := h.cells
  have hn := hd.pos
  obtain ⟨k, hk⟩ : ∃ k, l.length = k + 1 := ⟨l.length - 1, by omega⟩
  have hF := h.flat
  have hI := h.isb
  rw [txs_len] at hF
  rw [iss_len] at hI
  obtain ⟨gf, cf, hfv⟩ := hF.form hn
  obtain ⟨hfv, _⟩ := hfv
  obtain ⟨gi, ci, hiv⟩ := hI.form hn
  obtain ⟨hiv, _⟩ := hiv
  subst hfv hiv
  obtain ⟨g1, g2⟩ := hf.all hd
  refine ⟨gn, gd, ge, gf, gi, cf, ci, e0, e1, e2, e3, e4, e5, fun j hj => ?_, fun j hj => ?_, fun j hj => ?_, fun j hj => ?_, fun j hj => ?_, h.gplt, (h.next.lt gn rfl).2, (h.deep.lt gd rfl).2, (h.ends.lt ge rfl).2, (hF.lt gf rfl).2, (hI.lt gi rfl).2⟩
  · rw [h.next.cellAt j (by rw [Nat.mul_one]; exact hj), g1]; simp [hj]
  · rw [h.deep.cellAt j (by rw [Nat.mul_one]; exact hj), g2]; simp [hj]
  · rw [h.ends.cellAt j (by rw [Nat.mul_one]; exact hj)]; simp [endsL, hj]
  · rw [hF.cellAt j (by rw [Nat.mul_one]; exact hj)]; simp [txs, hj]
  · rw [hI.cellAt j (by rw [Nat.mul_one]; exact hj)]; simp [iss, hj]
end Go.Proofs.YtddfdmopaeghnaaGreatDoor
