/- What way.find holds in memory: the finder, its list of ways. No condition. -/
import Derived.Test.YtddfdmopaeghnabDoorShowW
import Derived.Test.YtddfdmopaeghnabDoorFindP
namespace Go.Proofs.YtddfdmopaeghnabDoor
open Go.RowKit

def RowI (w : World) (B : Nat) (v : Value) (u : List Int) : Prop := w.ownsRow B 3 1 v u.length (u.map (.int .i64))
def Outs (w : World) (B : Nat) (vs : List Value) (done : List (List Int)) : Prop := vs.length = done.length ∧ ∀ (j : Nat) v u, vs[j]? = some v → done[j]? = some u → RowI w B v u
structure FS (w0 : World) (gf gp : Nat) (fv : Value) (vs : List Value) (done : List (List Int)) (w : World) : Prop where
  blk : w.heap[gf]? = some (.cells #[.pointer (some ⟨gp, 0, none⟩), fv] 125 (0, 0))
  low : w0.heap.size ≤ gf
  row : w.ownsRow w0.heap.size 38 1 fv done.length vs
  outs : Outs w w0.heap.size vs done
  bel : Below w0.heap.size w0 w
/-- Rows of numbers lie as they lay. -/
def KeepI (B : Nat) (w w' : World) : Prop := ∀ v n xs, w.ownsRow B 3 1 v n xs → w'.ownsRow B 3 1 v n xs
theorem KeepI.refl (B : Nat) (w : World) : KeepI B w w := fun _ _ _ h => h
theorem KeepI.trans {B : Nat} {a b c : World} (h : KeepI B a b) (g : KeepI B b c) : KeepI B a c := fun v n xs k => g v n xs (h v n xs k)
theorem KeepI.below {B : Nat} {w w' : World} (h : Below w.heap.size w w') : KeepI B w w' := fun _ _ _ k => own_below k h
theorem Outs.keep {B : Nat} {w w' : World} {vs : List Value} {done : List (List Int)} (h : Outs w B vs done) (g : KeepI B w w') : Outs w' B vs done := ⟨h.1, fun j v u h1 h2 => g _ _ _ (h.2 j v u h1 h2)⟩

section
variable {w0 w w' : World} {gf gp : Nat} {fv : Value} {vs : List Value} {done : List (List Int)}
theorem FS.past (h : FS w0 gf gp fv vs done w) (hb : Below w.heap.size w w') : FS w0 gf gp fv vs done w' :=
  ⟨(hb.block _ (lt_of_heap h.blk)).trans h.blk, h.low, own_below h.row hb, h.outs.keep (.below hb), h.bel.trans (hb.mono h.bel.size)⟩
theorem FS.c0 (h : FS w0 gf gp fv vs done w) : w.cell? ⟨gf, 0, none⟩ = some (.pointer (some ⟨gp, 0, none⟩)) := by rw [Lib.cell_of_heap h.blk]; rfl
theorem FS.c1 (h : FS w0 gf gp fv vs done w) : w.cell? ⟨gf, 1, none⟩ = some fv := by rw [Lib.cell_of_heap h.blk]; rfl
theorem FS.free (h : FS w0 gf gp fv vs done w) (j : Nat) : w.frozen? ⟨gf, j, none⟩ = false := Lib.frozen_of_heap h.blk j

theorem set_grown (w : World) (g : Nat) (j : Nat) (v : Value) : w.grownBy (w.setCell ⟨g, j, none⟩ v) (some g) := ⟨rfl, rfl, rfl, by simp [World.setCell], fun k _ hk => Below.heap_setCell _ _ _ _ (fun e => hk (by simp [e]))⟩

theorem FS.app (h : FS w0 gf gp fv vs done w) {v' wv : Value} {way : List Int} (hr : w'.ownsRow w0.heap.size 38 1 v' (done.length + 1) (vs ++ [wv])) (hg : w.grownBy w' fv.ownBlock) (hw : RowI w w0.heap.size wv way) :
    FS w0 gf gp v' (vs ++ [wv]) (done ++ [way]) (w'.setCell ⟨gf, 1, none⟩ v') ∧ KeepI w0.heap.size w (w'.setCell ⟨gf, 1, none⟩ v') := by
  have hblk : w'.heap[gf]? = some (.cells #[.pointer (some ⟨gp, 0, none⟩), fv] 125 (0, 0)) := (hg.block _ (lt_of_heap h.blk) (fun e => row_blk h.row h.blk (by decide) e.symm)).trans h.blk
  have hs := set_grown w' gf 1 v'
  have hk : KeepI w0.heap.size w (w'.setCell ⟨gf, 1, none⟩ v') := fun v n xs k => by
    have k1 := k.kept hg (rows_apart k h.row (by decide))
    exact k1.kept hs (.inr (row_blk k1 hblk (by decide)))
  have hbel : Below w0.heap.size w0 w' := h.bel.grown hg h.bel.size fun k hk => (h.row.lt k hk).1
  refine ⟨⟨by simp [World.setCell, Array.getElem?_modify, hblk], h.low, ?_, ?_, hbel.setCell (p := ⟨gf, 1, none⟩) h.low _⟩, hk⟩
  · rw [List.length_append]
    exact hr.kept hs (.inr (row_blk hr hblk (by decide)))
  · have ho := h.outs.keep hk
    refine ⟨by rw [List.length_append, List.length_append, ho.1]; rfl, fun j v u h1 h2 => ?_⟩
    by_cases hj : j < vs.length
    · rw [List.getElem?_append_left hj] at h1
      rw [List.getElem?_append_left (by rw [← ho.1]; exact hj)] at h2
      exact ho.2 j v u h1 h2
    · rw [List.getElem?_append_right (by omega)] at h1
      rw [List.getElem?_append_right (by rw [← ho.1]; omega), ← ho.1] at h2
      cases hq : j - vs.length with
      | zero => rw [hq] at h1 h2; simp at h1 h2; subst h1 h2; exact hk _ _ _ hw
      | succ q => rw [hq] at h1; simp at h1
end

def FS1 (w0 : World) (gf gp : Nat) (done : List (List Int)) (w : World) : Prop := ∃ fv vs, FS w0 gf gp fv vs done w
/-- What a call of find leaves. -/
def FindTo (w0 : World) (gf gp : Nat) (N : List (List Int)) (w : World) (e : Ending) (w' : World) : Prop :=
  ∃ r : Bool, e = .returned (.bool r) ∧ KeepI w0.heap.size w w' ∧ w.heap.size ≤ w'.heap.size ∧ ((r = true ∧ N.length ≤ 300 ∧ FS1 w0 gf gp N w') ∨ (r = false ∧ 300 < N.length ∧ Below w0.heap.size w0 w'))

/-- A place without a choice: what Piece says. -/
theorem piece_go {l : List Nd} {x : D} (hd : Doc l x) {gp : Nat} {A : Option Addr} {c i : Nat} {K : List (D × Int)} (hr : Rep l i K) (hi : i < l.length) (ho : l[i].op ≠ 8 ∧ l[i].op ≠ 9) :
    ∃ (txt : ByteArray) (nx : Nat) (K' : List (D × Int)), WalkTo l K nx K' ∧ ∀ w, IsPlan w gp A c l → Nds w w.heap.size A l → Calls Tryd.prog 52 #[.pointer (some ⟨gp, 0, none⟩), .int .i64 i] w (Ret w (.tuple #[.string txt, .int .i64 (nx : Nat), .bool false])) := by
  obtain ⟨op, t, n, hnd⟩ : ∃ op t n, l[i] = Nd.mk op t n := ⟨_, _, _, rfl⟩
  rcases hd.ops hi hnd with rfl | rfl | rfl | rfl | rfl | rfl | rfl | rfl | rfl
  · obtain ⟨K', h⟩ := walk_leaf hd hr hi (by rw [hnd]; rfl)
    exact ⟨_, _, K', h, fun w hp hl => piece_word hd w hp hl hi hnd⟩
  · obtain ⟨K', h⟩ := walk_leaf hd hr hi (by rw [hnd]; rfl)
    exact ⟨_, _, K', h, fun w hp hl => piece_line hd w hp hl hi hnd (.inl rfl)⟩
  · obtain ⟨K', h⟩ := walk_leaf hd hr hi (by rw [hnd]; rfl)
    exact ⟨_, _, K', h, fun w hp hl => piece_line hd w hp hl hi hnd (.inr (.inl rfl))⟩
  · obtain ⟨K', h⟩ := walk_leaf hd hr hi (by rw [hnd]; rfl)
    exact ⟨_, _, K', h, fun w hp hl => piece_line hd w hp hl hi hnd (.inr (.inr rfl))⟩
  · obtain ⟨K', h⟩ := walk_leaf hd hr hi (by rw [hnd]; rfl)
    exact ⟨_, _, K', h, fun w hp hl => piece_zero hd w hp hl hi hnd⟩
  · obtain ⟨K', h⟩ := walk_both hd hr hi (by rw [hnd])
    exact ⟨_, _, K', h, fun w hp hl => piece_part hd w hp hl hi hnd (.inl rfl)⟩
  · obtain ⟨K', h⟩ := walk_deep hd hr hi (by rw [hnd])
    exact ⟨_, _, K', h, fun w hp hl => piece_part hd w hp hl hi hnd (.inr rfl)⟩
  · exact absurd (by rw [hnd]) ho.1
  · exact absurd (by rw [hnd]) ho.2
/-- A choice: what Piece and Choose say. -/
theorem piece_pick {l : List Nd} {x : D} (hd : Doc l x) {gp : Nat} {A : Option Addr} {c i : Nat} {K : List (D × Int)} (hr : Rep l i K) (hi : i < l.length) (ho : l[i].op = 8 ∨ l[i].op = 9) :
    ∃ (t0 t1 : ByteArray) (ok0 : Bool) (i0 i1 : Nat) (K0 K1 : List (D × Int)), PartTo l K ok0 i0 i1 K0 K1 ∧
      (∀ w, IsPlan w gp A c l → Nds w w.heap.size A l → Calls Tryd.prog 52 #[.pointer (some ⟨gp, 0, none⟩), .int .i64 i] w (Ret w (.tuple #[.string .empty, .int .i64 (i : Nat), .bool true]))) ∧
      (∀ w, IsPlan w gp A c l → Nds w w.heap.size A l → Calls Tryd.prog 53 #[.pointer (some ⟨gp, 0, none⟩), .int .i64 i, .int .i64 0] w (Ret w (.tuple #[.string t0, .int .i64 (i0 : Nat), .bool ok0]))) ∧
      (∀ w, IsPlan w gp A c l → Nds w w.heap.size A l → Calls Tryd.prog 53 #[.pointer (some ⟨gp, 0, none⟩), .int .i64 i, .int .i64 1] w (Ret w (.tuple #[.string t1, .int .i64 (i1 : Nat), .bool true]))) := by
  obtain ⟨op, t, n, hnd⟩ : ∃ op t n, l[i] = Nd.mk op t n := ⟨_, _, _, rfl⟩
  rw [hnd] at ho
  rcases ho with h8 | h9
  · simp only at h8
    subst h8
    obtain ⟨K0, K1, h⟩ := part_group hd hr hi (by rw [hnd])
    have he : (lineAt l (i + 1)).2 = (docAt l (i + 1)).flat.isSome := by
      rw [lineAt]
      cases (docAt l (i + 1)).flat <;> rfl
    refine ⟨(lineAt l (i + 1)).1, .empty, (docAt l (i + 1)).flat.isSome, nextAt l i, i + 1, K0, K1, h, fun w hp hl => piece_choice hd w hp hl hi hnd (.inl rfl), fun w hp hl => ?_, fun w hp hl => choose_lines hd w hp hl hi hnd⟩
    rw [← he]
    exact choose_flat hd w hp hl hi hnd
  · simp only at h9
    subst h9
    obtain ⟨K0, K1, h⟩ := part_either hd hr hi (by rw [hnd])
    exact ⟨.empty, .empty, true, i + 1, endAt l (i + 1), K0, K1, h, fun w hp hl => piece_choice hd w hp hl hi hnd (.inr rfl), fun w hp hl => choose_either hd w 0 (.inl rfl) hp hl hi hnd, fun w hp hl => choose_either hd w 1 (.inr rfl) hp hl hi hnd⟩
end Go.Proofs.YtddfdmopaeghnabDoor
