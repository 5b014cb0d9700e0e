/- The search of courses in memory: the courses known, what a call of cheapest leaves as it was. No condition. -/
import Derived.Test.YtddfdmopaeghnacGreatDoorBestS
import Derived.Test.YtddfdmopaeghnacGreatDoorKnown
import Derived.DeepKeys4
namespace Go.Proofs.YtddfdmopaeghnacGreatDoor
open Go.RowKit Go.Maps

theorem laidOutS : laidOutB Tryz.prog = true := by kernel_rfl
theorem spotRow : (181 : TypeId) < Tryz.prog.types.size := of_decide_eq_true (by kernel_rfl)
theorem spotWide : (match Tryz.prog.underlying 181 with | some (.array _ _) | some (.struct _) => true | _ => false) = true := by kernel_rfl
set_option maxRecDepth 100000 in
theorem spotLaw : Keyed Tryz.prog 181 := Keyed.of_law (deep_law_laid laidOutS (m := 2) (by omega) spotRow (by kernel_rfl) spotWide)
theorem spotZero (w : World) : (zeroValue 178).run Tryz.prog w = .ok (.agg #[.int .i64 0, .int .i64 0, .int .i64 0]) w := by kernel_rfl
theorem spotTypes : Tryz.prog.types.size = 355 := by kernel_rfl
theorem spotKeyType : Tryz.prog.keyType 181 = true := by kernel_rfl
theorem spotCells : Tryz.prog.cellsOf 181 = 2 := by kernel_rfl

theorem int_wf {n : Nat} (h : n ≤ 9000000000000000000) : (Lit.int .i64 (n : Int)).wf = true := by
  exact WalkArith.wf_i64 (by omega)

def spotV (i col : Nat) : Value := .agg #[.int .i64 (i : Nat), .int .i64 (col : Nat)]
def courseV (c : Nat × Nat) (k : Int) : Value := .agg #[.int .i64 (c.1 : Nat), .int .i64 (c.2 : Nat), .int .i64 k]

set_option maxRecDepth 100000 in
set_option maxHeartbeats 1000000 in
theorem spot_key {i col : Nat} (hi : i ≤ 9000000000000000000) (hc : col ≤ 9000000000000000000) : ∃ kl, keyOf Tryz.prog 181 (spotV i col) = some kl := by
  have h1 := int_wf hi
  have h2 := int_wf hc
  obtain ⟨m, hm⟩ : ∃ m, Tryz.prog.types.size = m + 1 := ⟨_, spotTypes⟩
  unfold keyOf spotV
  simp only [Tryz.underlying181]
  rw [if_pos (by simp [spotKeyType, Value.formed, Tryz.underlying181]; exact spotCells.symm), hm]
  unfold Program.keyLits
  simp only [Tryz.underlying181, Value.cells]
  have k0 : Tryz.prog.cellsOf 3 = 1 := by kernel_rfl
  rw [if_pos ⟨spotCells.symm, by simp⟩]
  simp [k0, Program.keyLits, Tryz.underlying3, h1, h2]

theorem spotV_inj {i col i' col' : Nat} (h : spotV i col = spotV i' col') : i = i' ∧ col = col' := by
  simp [spotV] at h
  omega

/-- The first choice of a course at a place. -/
def choiceOf (l : List Nd) (i : Nat) (u : List Int) : Int := if h : i < l.length then (if l[i].op = 8 ∨ l[i].op = 9 then u.headD 0 else 0) else 0

/-- What is known: each course is the first of the cheapest. -/
def KnownC (l : List Nd) (W : Nat) (f : Value → Option Value) : Prop :=
  ∀ key v, f key = some v → ∃ (i col : Nat) (K : List (D × Int)), key = spotV i col ∧ Rep l i K ∧ v = courseV (bestC W K col) (choiceOf l i (bestU W K col))
theorem KnownC.none (l : List Nd) (W : Nat) : KnownC l W (fun _ => Option.none) := fun _ _ h => by cases h
theorem KnownC.put {l : List Nd} {W : Nat} {f : Value → Option Value} (h : KnownC l W f) {i col : Nat} {K : List (D × Int)} (hr : Rep l i K) : KnownC l W (putF f (spotV i col) (courseV (bestC W K col) (choiceOf l i (bestU W K col)))) := by
  intro key v hk
  rcases putF_some hk with ⟨rfl, rfl⟩ | hk
  · exact ⟨i, col, K, rfl, hr, rfl⟩
  · exact h key v hk
theorem KnownC.at_ {l : List Nd} {W : Nat} {f : Value → Option Value} (h : KnownC l W f) {i col : Nat} {K : List (D × Int)} (hr : Rep l i K) {v : Value} (hv : f (spotV i col) = some v) : v = courseV (bestC W K col) (choiceOf l i (bestU W K col)) := by
  obtain ⟨i', col', K', hk, hr', hv'⟩ := h _ _ hv
  obtain ⟨rfl, rfl⟩ := spotV_inj hk
  have := hr.uniq hr'
  subst this
  exact hv'

structure CS (w0 : World) (gs gp bm W : Nat) (l : List Nd) (w : World) : Prop where
  blk : w.heap[gs]? = some (.cells #[.pointer (some ⟨gp, 0, none⟩), .int .i64 (W : Nat), .map (some bm)] 176 (0, 0))
  map : ∃ f, MapF Tryz.prog 181 f bm w ∧ KnownC l W f
  lowS : w0.heap.size ≤ gs
  lowM : w0.heap.size ≤ bm
  bel : Below w0.heap.size w0 w

/-- Only the map's block has turned, and what is new. -/
theorem gb_of_below {w w' : World} (h : Below w.heap.size w w') (b : Nat) : w.grownBy w' (some b) := ⟨h.os, h.tape, h.output, h.size, fun i hi _ => h.block i hi⟩
theorem gb_alloc {a w : World} {b : Nat} (h : a.grownBy w (some b)) (o : Obj) : a.grownBy (w.alloc o) (some b) := grown_below h ((Below.refl _ _).alloc (Nat.le_refl _) _)
theorem gb_drewN {a w : World} {b : Nat} (h : a.grownBy w (some b)) (n : Nat) : a.grownBy (w.drewN n) (some b) := grown_below h (below_drewN (Below.refl _ _) n)
theorem gb_drew {a w : World} {b : Nat} (h : a.grownBy w (some b)) : a.grownBy w.drew (some b) := grown_below h ((Below.refl _ _).drew)
theorem gb_below {a w w' : World} {b : Nat} (h : a.grownBy w (some b)) (hb : Below w.heap.size w w') : a.grownBy w' (some b) := grown_below h hb
theorem gb_set {a w : World} {b : Nat} (h : a.grownBy w (some b)) {p : Addr} (hp : a.heap.size ≤ p.block) (v : Value) : a.grownBy (w.setCell p v) (some b) :=
  ⟨h.os, h.tape, h.output, by simpa [World.setCell] using h.size, fun i hi hne => by
    rw [← h.block i hi hne]
    have : i ≠ p.block := by omega
    simp [World.setCell, Array.getElem?_modify]
    intro e; exact absurd e.symm this⟩
theorem blk_gb {a w : World} {b g : Nat} {o : Obj} (hg : a.heap[g]? = some o) (h : a.grownBy w (some b)) (hne : g ≠ b) : w.heap[g]? = some o :=
  (h.block g (lt_of_heap hg) (by simpa using hne)).trans hg
theorem blk_cell {w : World} {g j : Nat} {cs : Array Value} {T : TypeId} {fr : Nat × Nat} (h : w.heap[g]? = some (.cells cs T fr)) : w.cell? ⟨g, j, none⟩ = cs[j]? := cell_of_row w g j cs T fr h
theorem blk_free {w : World} {g j : Nat} {cs : Array Value} {T : TypeId} (h : w.heap[g]? = some (.cells cs T (0, 0))) : w.frozen? ⟨g, j, none⟩ = false := by simp [World.frozen?, h]

variable {w0 w w' : World} {gs gp bm W : Nat} {l : List Nd}
theorem CS.past (h : CS w0 gs gp bm W l w) (hb : Below w.heap.size w w') : CS w0 gs gp bm W l w' := by
  obtain ⟨f, h1, h2⟩ := h.map
  exact ⟨blk_below h.blk hb, ⟨f, h1.below hb, h2⟩, h.lowS, h.lowM, h.bel.trans (hb.mono h.bel.size)⟩
theorem CS.ms (h : CS w0 gs gp bm W l w) : gs ≠ bm := by
  obtain ⟨f, ⟨es, clock, hb, _⟩, _⟩ := h.map
  rintro rfl
  rw [h.blk] at hb
  cases hb
theorem CS.mlt (h : CS w0 gs gp bm W l w) : bm < w.heap.size := by
  obtain ⟨f, h1, _⟩ := h.map
  exact h1.lt
/-- A store into a block of a call's own. -/
theorem CS.set (h : CS w0 gs gp bm W l w) {p : Addr} (h1 : p.block ≠ gs) (h2 : p.block ≠ bm) (h3 : w0.heap.size ≤ p.block) (v : Value) : CS w0 gs gp bm W l (w.setCell p v) := by
  obtain ⟨f, g1, g2⟩ := h.map
  refine ⟨blk_set h.blk p v (Ne.symm h1), ⟨f, g1.of_block ?_, g2⟩, h.lowS, h.lowM, h.bel.setCell h3 _⟩
  simp [World.setCell, Array.getElem?_modify]
  intro e; exact absurd e h2
theorem CS.new (w : World) (gp W : Nat) (l : List Nd) : CS w (w.heap.size + 1) gp w.heap.size W l ((w.alloc (.map #[] 0)).alloc (.cells #[.pointer (some ⟨gp, 0, none⟩), .int .i64 (W : Nat), .map (some w.heap.size)] 176)) := by
  refine ⟨heap_new (by simp), ⟨_, (MapF.made w).below ((Below.refl _ _).alloc (Nat.le_refl _) _), KnownC.none l W⟩, by omega, Nat.le_refl _, ((Below.refl _ _).alloc (Nat.le_refl _) _).alloc (by simp) _⟩

/-- What a call of cheapest leaves. -/
def CheapTo (w0 : World) (gs gp bm W : Nat) (l : List Nd) (v : Value) (w : World) (e : Ending) (w' : World) : Prop := e = .returned v ∧ CS w0 gs gp bm W l w' ∧ w.grownBy w' (some bm)
def CheapSaid (w0 : World) (gs gp bm W : Nat) (l : List Nd) (z : Nat) : Prop :=
  ∀ (K : List (D × Int)), szK K ≤ z → ∀ (i col : Nat) (w : World), Rep l i K → CS w0 gs gp bm W l w → col + 3300 * szK K ≤ 2000000 →
    Calls Tryz.prog 97 #[.pointer (some ⟨gs, 0, none⟩), spotV i col] w (CheapTo w0 gs gp bm W l (courseV (bestC W K col) (choiceOf l i (bestU W K col))) w)
end Go.Proofs.YtddfdmopaeghnacGreatDoor
