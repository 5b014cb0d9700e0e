/- strings.Builder embedded in doc.writer's block: copyCheck, WriteString, String walked over that block. Conditions: the block is the call's own, from block B on; the text is at most 2^47 bytes. -/
import Derived.Test.YtddfdmopaeghnabDoorBld
namespace Go.Proofs.YtddfdmopaeghnabDoor
open Go.Shelf Go.RowKit

/-- The writer's block: the builder's two fields, the nodes, the place. -/
def WrAt (B b : Nat) (p : Value) (bs : List Value) (x y : Value) (w : World) : Prop :=
  B ≤ b ∧ ∃ v, w.heap[b]? = some (.cells #[p, v, x, y] 116 (0, 0)) ∧ w.ownsRow B 5 1 v bs.length bs ∧ v.ownBlock ≠ some b
def IsWr (B b : Nat) (bs : List Value) (x y : Value) (w : World) : Prop := WrAt B b (.pointer none) bs x y w ∨ WrAt B b (.pointer (some ⟨b, 0, none⟩)) bs x y w

theorem sizeBuilder_ : (Tryd.prog.info? 106).map (·.size) = some 2 := by kernel_rfl
theorem liesIn : liesAt Tryd.prog Tryd.prog.depth 116 (4 / Tryd.prog.cellsOf 116) 0 106 1 = true := by kernel_rfl

set_option maxHeartbeats 1000000 in
set_option maxRecDepth 100000 in
theorem copyCheck_used (b : Nat) (w : World) (h0 : w.cell? ⟨b, 0, none⟩ = some (.pointer (some ⟨b, 0, none⟩))) :
    Calls Tryd.prog 83 #[.pointer (some ⟨b, 0, none⟩)] w fun e w' => e = .returned (.tuple #[]) ∧ w' = w :=
  Any.Builder_copyCheck_used { bldLays166 with } bldExtra.toX72 b w h0

set_option maxHeartbeats 1000000 in
set_option maxRecDepth 100000 in
theorem copyCheck_fresh (b : Nat) (w : World) (h0 : w.cell? ⟨b, 0, none⟩ = some (.pointer none)) (hsh : w.shape? b = some (116, 4)) (hfz : w.frozen? ⟨b, 0, none⟩ = false) :
    Calls Tryd.prog 83 #[.pointer (some ⟨b, 0, none⟩)] w fun e w' => e = .returned (.tuple #[]) ∧ w' = w.setCell ⟨b, 0, none⟩ (.pointer (some ⟨b, 0, none⟩)) := by
  obtain ⟨j, hj, hjs⟩ := Option.map_eq_some_iff.1 sizeBuilder_
  go_enter Tryd.func83, Tryd.ntmps83
  go_wp2
  rw [Lib.run_to_unsafe w ⟨b, 0, none⟩ Tryd.underlying103 Tryd.underlying159 hj (by rw [hjs]; decide) hsh (Nat.zero_lt_succ 3)]
  simp only [Result.andThen]
  rw [Oper.upon_value]
  go_wp2
  rw [run_callFunc_extern Tryd.func113 (by kernel_rfl) (by kernel_rfl) (by kernel_rfl) (e := Extern.AbiNoEscape.same) (by kernel_rfl)]
  rw [Lib.run_noEscape]
  simp only [Result.andThen]
  rw [Oper.upon_value]
  go_wp2
  rw [Lib.run_from_unsafe w ⟨b, 0, none⟩ Tryd.underlying159 Tryd.underlying103 hj hsh liesIn]
  simp only [Result.andThen]
  rw [Oper.upon_value]
  go_wp2
  go_end0
  exact ⟨rfl, rfl⟩

theorem WrAt.used {B b : Nat} {bs : List Value} {p x y : Value} {w : World} (h : WrAt B b p bs x y w) (q : Value) : WrAt B b q bs x y (w.setCell ⟨b, 0, none⟩ q) := by
  obtain ⟨hB, v, hb, hown, hne⟩ := h
  refine ⟨hB, v, ?_, ?_, hne⟩
  · simp [World.setCell, Array.getElem?_modify, hb]
  · exact hown.kept (row := some b) ⟨rfl, rfl, rfl, by simp [World.setCell], fun k _ hk => Below.heap_setCell _ _ _ _ (fun e => hk (by simp [e]))⟩ (Or.inr hne)

/-- What lies beside the writer: all but its block and rows of bytes. -/
def BesideB (b : Nat) (w w' : World) : Prop := ∀ (k : Nat) (o : Obj), w.heap[k]? = some o → k ≠ b → (∀ c fz, o ≠ .cells c 5 fz) → w'.heap[k]? = some o
theorem BesideB.refl (b : Nat) (w : World) : BesideB b w w := fun _ _ h _ _ => h
theorem BesideB.trans {b : Nat} {u v w : World} (h : BesideB b u v) (g : BesideB b v w) : BesideB b u w := fun _ _ hk hne ho => g _ _ (h _ _ hk hne ho) hne ho
theorem BesideB.set {b : Nat} (w : World) (j : Nat) (v : Value) : BesideB b w (w.setCell ⟨b, j, none⟩ v) := fun _ _ hk hne _ => (Below.heap_setCell _ _ _ _ hne).trans hk
theorem BesideB.grown {b : Nat} {w w' : World} {B n : Nat} {v : Value} {xs : List Value} (h : w.ownsRow B 5 1 v n xs) (hg : w.grownBy w' v.ownBlock) : BesideB b w w' := by
  intro k o hk _ ho
  refine (hg.block k (Array.getElem?_eq_some_iff.1 hk).1 (fun e => ?_)).trans hk
  rcases h.2 with ⟨rfl, _⟩ | ⟨g, cap, cur, rfl, _, hgb, _⟩
  · cases e
  · have : k = g := Option.some.inj e
    subst this
    rw [hk] at hgb
    exact ho _ _ (Option.some.inj hgb)

theorem wr_copyCheck (B b : Nat) (bs : List Value) (x y : Value) (w : World) (h : IsWr B b bs x y w) :
    Calls Tryd.prog 83 #[.pointer (some ⟨b, 0, none⟩)] w fun e w' => e = .returned (.tuple #[]) ∧ (WrAt B b (.pointer (some ⟨b, 0, none⟩)) bs x y w' ∧ Below B w w' ∧ BesideB b w w') := by
  rcases h with h | h
  · have h' := h
    obtain ⟨hB, v, hb, hown, hne⟩ := h'
    refine (copyCheck_fresh b w (by simp [World.cell?, hb]) (by simp [World.shape?, hb]) (Lib.frozen_of_heap hb 0)).mono ?_
    rintro e w' ⟨rfl, rfl⟩
    exact ⟨rfl, h.used _, (Below.refl B w).setCell (p := ⟨b, 0, none⟩) hB _, BesideB.set _ _ _⟩
  · have h' := h
    obtain ⟨hB, v, hb, hown, hne⟩ := h'
    refine (copyCheck_used b w (by simp [World.cell?, hb])).mono ?_
    rintro e w' ⟨rfl, rfl⟩
    exact ⟨rfl, h, Below.refl B _, BesideB.refl _ _⟩

theorem byte_info : (Tryd.prog.info? 5).map (fun i => (i.zero, i.size, i.bytes)) = some (some (.int .u8 0), 1, 1) := by kernel_rfl

set_option maxHeartbeats 2000000 in
set_option maxRecDepth 100000 in
theorem wr_write_ (B b : Nat) (bs : List Value) (x y : Value) (s : ByteArray) (w : World) (h : IsWr B b bs x y w) (hlen : bs.length + s.size ≤ 140737488355328) (hBw : B ≤ w.heap.size) :
    Calls Tryd.prog 54 #[.pointer (some ⟨b, 0, none⟩), .string s] w fun e w' => e = .returned (.tuple #[.int .i64 s.size, .nilIface]) ∧ (WrAt B b (.pointer (some ⟨b, 0, none⟩)) (bs ++ Lib.strCells s) x y w' ∧ Below B w w' ∧ BesideB b w w') := by
  obtain ⟨i0, hi, hz0, hz1, hz2⟩ := info_parts byte_info
  go_enter Tryd.func54, Tryd.ntmps54
  go_wp2_with (go_at_call 83; refine (wr_copyCheck B b bs x y _ h).mono ?_)
  rintro e w1 ⟨rfl, h1, hb1, hbz⟩
  obtain ⟨hB, v, hbk, hown, hne⟩ := h1
  have c0 : w1.cell? ⟨b, 0, none⟩ = some (.pointer (some ⟨b, 0, none⟩)) := by rw [Lib.cell_of_heap hbk]; rfl
  have c1 : w1.cell? ⟨b, 1, none⟩ = some v := by rw [Lib.cell_of_heap hbk]; rfl
  go_wp2_with (at_builtin; refine Lib.wpList_append_own_string _ rfl _ _ 104 9 rfl B 5 i0 Tryd.underlying104 Tryd.underlying9 hi hz0 hz1 hz2 _ _ _ rfl hown s rfl ?c3 ?c4 ?c5 ?_)
  case c3 => unfold maxLen; omega
  case c4 => omega
  case c5 => have := hb1.size; omega
  intro v' w2 hown' hgrow _
  have hlt : b < w1.heap.size := by
    rcases Nat.lt_or_ge b w1.heap.size with h' | h'
    · exact h'
    · simp [Array.getElem?_eq_none h'] at hbk
  have hb2 : w2.heap[b]? = some (.cells #[.pointer (some ⟨b, 0, none⟩), v, x, y] 116 (0, 0)) := by
    rw [hgrow.block b hlt (fun e => hne e.symm)]
    exact hbk
  have d0 : w2.cell? ⟨b, 0, none⟩ = some (.pointer (some ⟨b, 0, none⟩)) := by rw [Lib.cell_of_heap hb2]; rfl
  have d1 : w2.cell? ⟨b, 1, none⟩ = some v := by rw [Lib.cell_of_heap hb2]; rfl
  have f1 : w2.frozen? ⟨b, 1, none⟩ = false := Lib.frozen_of_heap hb2 1
  obtain ⟨ao, n', cap, rfl⟩ : ∃ ao n' cap, v' = .slice ao n' cap := by
    rcases hown'.2 with ⟨hv, _⟩ | ⟨g, cap, cur, hv, _⟩
    · exact ⟨_, _, _, hv⟩
    · exact ⟨_, _, _, hv⟩
  go_wp2
  go_ret2
  refine ⟨rfl, ?_, ?_, hbz.trans ((BesideB.grown hown hgrow).trans (BesideB.set _ _ _))⟩
  · have hown'' : w2.ownsRow B 5 1 (.slice ao n' cap) (bs ++ Lib.strCells s).length (bs ++ Lib.strCells s) := by simpa [Lib.strCells_length] using hown'
    have hne' : (Value.slice ao n' cap).ownBlock ≠ some b := Lib.ownBlock_ne hown'' hb2 (by decide)
    refine ⟨hB, _, ?_, ?_, hne'⟩
    · simp [World.setCell, Array.getElem?_modify, hb2]
    · exact hown''.kept (row := some b) ⟨rfl, rfl, rfl, by simp [World.setCell], fun k _ hk => Below.heap_setCell _ _ _ _ (fun e => hk (by simp [e]))⟩ (Or.inr hne')
  · exact (hb1.grown hgrow (by have := hb1.size; omega) (fun k hk => (hown.lt k hk).1)).setCell (p := ⟨b, 1, none⟩) hB _

/-- The writer in block b, of the call's own from B on: the text so far, the nodes, the place. -/
def Wr (B b : Nat) (dv : Value) (i : Nat) (s : ByteArray) (w : World) : Prop := IsWr B b (Lib.strCells s) dv (.int .i64 i) w ∧ B ≤ w.heap.size
theorem WrAt.past {B b : Nat} {p x y : Value} {bs : List Value} {w w' : World} (h : WrAt B b p bs x y w) (hb : Below w.heap.size w w') : WrAt B b p bs x y w' := by
  obtain ⟨h1, v, h2, h3, h4⟩ := h
  exact ⟨h1, v, (hb.block b (Array.getElem?_eq_some_iff.1 h2).1).trans h2, own_below h3 hb, h4⟩
theorem Wr.past {B b i : Nat} {dv : Value} {s : ByteArray} {w w' : World} (h : Wr B b dv i s w) (hb : Below w.heap.size w w') : Wr B b dv i s w' :=
  ⟨h.1.imp (·.past hb) (·.past hb), Nat.le_trans h.2 hb.size⟩
theorem Wr.blk {B b i : Nat} {dv : Value} {s : ByteArray} {w : World} (h : Wr B b dv i s w) : B ≤ b ∧ b < w.heap.size ∧ ∃ p v, w.heap[b]? = some (.cells #[p, v, dv, .int .i64 i] 116 (0, 0)) := by
  rcases h.1 with ⟨h1, v, h2, _⟩ | ⟨h1, v, h2, _⟩
  · exact ⟨h1, (Array.getElem?_eq_some_iff.1 h2).1, _, _, h2⟩
  · exact ⟨h1, (Array.getElem?_eq_some_iff.1 h2).1, _, _, h2⟩
theorem Wr.c2 {B b i : Nat} {dv : Value} {s : ByteArray} {w : World} (h : Wr B b dv i s w) : w.cell? ⟨b, 2, none⟩ = some dv := by
  obtain ⟨_, _, p, v, h⟩ := h.blk
  rw [Lib.cell_of_heap h]; rfl
theorem Wr.c3 {B b i : Nat} {dv : Value} {s : ByteArray} {w : World} (h : Wr B b dv i s w) : w.cell? ⟨b, 3, none⟩ = some (.int .i64 i) := by
  obtain ⟨_, _, p, v, h⟩ := h.blk
  rw [Lib.cell_of_heap h]; rfl
theorem Wr.free {B b i : Nat} {dv : Value} {s : ByteArray} {w : World} (h : Wr B b dv i s w) (j : Nat) : w.frozen? ⟨b, j, none⟩ = false := by
  obtain ⟨_, _, p, v, h⟩ := h.blk
  exact Lib.frozen_of_heap h j
theorem Wr.set {B b i : Nat} {dv : Value} {s : ByteArray} {w : World} (h : Wr B b dv i s w) (j : Nat) : Wr B b dv j s (w.setCell ⟨b, 3, none⟩ (.int .i64 j)) := by
  refine ⟨?_, by simpa [World.setCell] using h.2⟩
  have one : ∀ {p : Value}, WrAt B b p (Lib.strCells s) dv (.int .i64 i) w → WrAt B b p (Lib.strCells s) dv (.int .i64 j) (w.setCell ⟨b, 3, none⟩ (.int .i64 j)) := by
    intro p hh
    obtain ⟨h1, v, h2, h3, h4⟩ := hh
    refine ⟨h1, v, by simp [World.setCell, Array.getElem?_modify, h2], ?_, h4⟩
    exact h3.kept (row := some b) ⟨rfl, rfl, rfl, by simp [World.setCell], fun k _ hk => Below.heap_setCell _ _ _ _ (fun e => hk (by simp [e]))⟩ (Or.inr h4)
  exact h.1.imp one one
theorem Wr.new (w : World) (dv : Value) : Wr w.heap.size w.heap.size dv 0 .empty (w.alloc (.cells #[.pointer none, .slice none 0 0, dv, .int .i64 0] 116)) :=
  ⟨.inl ⟨Nat.le_refl _, _, heap_new rfl, World.ownsRow_nil _ _ _ _, by simp [Value.ownBlock]⟩, by simp⟩
/-- Behind a write. -/
def WrTo (B b n : Nat) (dv : Value) (i : Nat) (s : ByteArray) (w : World) (e : Ending) (w' : World) : Prop := e = .returned (.tuple #[.int .i64 n, .nilIface]) ∧ Wr B b dv i s w' ∧ Below B w w' ∧ BesideB b w w' ∧ w.heap.size ≤ w'.heap.size
theorem wr_write (B b : Nat) (dv : Value) (i : Nat) (s t : ByteArray) (w : World) (h : Wr B b dv i s w) (hlen : s.size + t.size ≤ 140737488355328) :
    Calls Tryd.prog 54 #[.pointer (some ⟨b, 0, none⟩), .string t] w (WrTo B b t.size dv i (s ++ t) w) :=
  (wr_write_ B b (Lib.strCells s) dv (.int .i64 i) t w h.1 (by rw [Lib.strCells_length]; exact hlen) h.2).mono fun e w' ⟨he, hb, hB, hO⟩ =>
    ⟨he, ⟨by rw [← strCells_app]; exact .inr hb, Nat.le_trans h.2 hB.size⟩, hB, hO, hB.size⟩

set_option maxHeartbeats 2000000 in
set_option maxRecDepth 100000 in
/-- String of a writer that has text. -/
theorem wr_string (B b : Nat) (dv : Value) (i : Nat) (s : ByteArray) (w : World) (h : Wr B b dv i s w) (h0 : s.data.toList ≠ []) :
    Calls Tryd.prog 55 #[.pointer (some ⟨b, 0, none⟩)] w fun e w' => e = .returned (.string s) ∧ Below B w w' := by
  obtain ⟨p, hB, v, hbk, hown, hne⟩ : ∃ p, WrAt B b p (Lib.byteCells s.data.toList) dv (.int .i64 i) w := by
    rcases h.1 with h | h
    · exact ⟨_, h⟩
    · exact ⟨_, h⟩
  have hes : s = ⟨s.data.toList.toArray⟩ := rfl
  generalize s.data.toList = l at *
  subst hes
  have hl0 : l.length ≠ 0 := by simpa using h0
  rw [Lib.byteCells_length] at hown
  obtain ⟨g, cap, cur, rfl, hbg, hg, hnc, hcm, hcs, htake⟩ : ∃ g cap cur, v = .slice (some ⟨g, 0, none⟩) l.length cap ∧ B ≤ g ∧ w.heap[g]? = some (.cells cur 5 (0, 0)) ∧ l.length ≤ cap ∧ cap ≤ maxLen ∧ cur.size = cap * 1 ∧ cur.toList.take (l.length * 1) = Lib.byteCells l := by
    rcases hown.2 with ⟨_, hz⟩ | ⟨g, cap, cur, hv, r⟩
    · exact absurd hz hl0
    · exact ⟨g, cap, cur, hv, r⟩
  have c1 : w.drew.cell? ⟨b, 1, none⟩ = some (.slice (some ⟨g, 0, none⟩) l.length cap) := by
    have : w.drew.heap[b]? = some (.cells #[p, .slice (some ⟨g, 0, none⟩) l.length cap, dv, .int .i64 i] 116 (0, 0)) := hbk
    rw [Lib.cell_of_heap this]; rfl
  have hSD : (Builtin.unsafeSliceData_ #[104] 149 #[.slice (some ⟨g, 0, none⟩) l.length cap]).run Tryd.prog w.drew = .ok (.pointer (some ⟨g, 0, none⟩)) w.drew :=
    Lib.run_unsafeSliceData_row _ _ _ _ _ _ (by omega)
  have hUS : (Builtin.unsafeString_ #[149, 3] 9 #[.pointer (some ⟨g, 0, none⟩), .int .i64 l.length]).run Tryd.prog w.drew = .ok (.string ⟨l.toArray⟩) (w.drew.freeze ⟨g, 0, none⟩ l.length) := by
    refine Lib.run_unsafeString_row w.drew 149 3 9 5 Tryd.underlying149 (by kernel_rfl) g cur.size (by have hg' : w.drew.heap[g]? = some (.cells cur 5 (0, 0)) := hg; simp [World.shape?, hg']) l h0 (by omega) (by unfold maxLen at hcm; omega) ?_
    intro j x hx
    have := hown.cells (g := g) rfl j (.int .u8 x.toNat) (by simp [Lib.byteCells, hx])
    exact this
  have mixed := bldLays169.mixed
  go_enter Tryd.func55, Tryd.ntmps55
  go_wp2
  go_region_o
  all_goals (go_wp2; go_ret; exact ⟨rfl, Lib.below_freeze (Below.drew (Below.refl B w)) (p := ⟨g, 0, none⟩) hbg _⟩)
end Go.Proofs.YtddfdmopaeghnabDoor
