/- The library's contracts on strings.Builder, laid at this program: WriteString, String. Conditions: the builder is the call's own, from block B on; the text is at most 2^47 bytes. -/
import Derived.Shelf.Strings.Builder1
import Derived.Test.YtddfdmopaeghnacGreatDoorMem
import Derived.Test.YtddfdmopaeghnacGreatDoorRows
namespace Go.Proofs.YtddfdmopaeghnacGreatDoor
open Go.Shelf Go.RowKit
def bldRen : Go.Shelf.Ren := ⟨fun | 166 => 47 | 169 => 49 | 240 => 92 | 276 => 141 | n => n, fun | 0 => 0 | 3 => 3 | 4 => 4 | 9 => 9 | 20 => 20 | 37 => 102 | 70 => 101 | 72 => 104 | 75 => 28 | 80 => 72 | 127 => 165 | 164 => 219 | 5 => 5 | n => n, fun | n => n⟩
theorem bldLays166 : Go.Proofs.Lays.n166 Tryz.prog bldRen := {
  mixed := by kernel_rfl
  f166 := Tryz.func47.trans (congrArg some (by kernel_rfl))
  f240 := Tryz.func92.trans (congrArg some (by kernel_rfl))
  f276 := Tryz.func141.trans (congrArg some (by kernel_rfl))
  t0 := Tryz.underlying0
  a0 := Tryz.isAgg0
  z0 := Tryz.sizeOf0
  v0 := Tryz.zeroValue0
  t3 := Tryz.underlying3
  a3 := Tryz.isAgg3
  z3 := Tryz.sizeOf3
  v3 := Tryz.zeroValue3
  t4 := Tryz.underlying4
  a4 := Tryz.isAgg4
  z4 := Tryz.sizeOf4
  v4 := Tryz.zeroValue4
  t9 := Tryz.underlying9
  a9 := Tryz.isAgg9
  z9 := Tryz.sizeOf9
  v9 := Tryz.zeroValue9
  t20 := Tryz.underlying20
  a20 := Tryz.isAgg20
  z20 := Tryz.sizeOf20
  v20 := Tryz.zeroValue20
  t37 := Tryz.underlying102
  a37 := Tryz.isAgg102
  z37 := Tryz.sizeOf102
  v37 := Tryz.zeroValue102
  t70 := Tryz.underlying101
  a70 := Tryz.isAgg101
  z70 := Tryz.sizeOf101
  v70 := Tryz.zeroValue101
  t72 := Tryz.underlying104
  a72 := Tryz.isAgg104
  z72 := Tryz.sizeOf104
  v72 := Tryz.zeroValue104
  t75 := Tryz.underlying28
  a75 := Tryz.isAgg28
  z75 := Tryz.sizeOf28
  v75 := Tryz.zeroValue28
  t164 := Tryz.underlying219
  a164 := Tryz.isAgg219
  z164 := Tryz.sizeOf219
  v164 := Tryz.zeroValue219
}
theorem bldLays169 : Go.Proofs.Lays.n169 Tryz.prog bldRen := {
  mixed := by kernel_rfl
  f169 := Tryz.func49.trans (congrArg some (by kernel_rfl))
  t0 := Tryz.underlying0
  a0 := Tryz.isAgg0
  z0 := Tryz.sizeOf0
  v0 := Tryz.zeroValue0
  t3 := Tryz.underlying3
  a3 := Tryz.isAgg3
  z3 := Tryz.sizeOf3
  v3 := Tryz.zeroValue3
  t9 := Tryz.underlying9
  a9 := Tryz.isAgg9
  z9 := Tryz.sizeOf9
  v9 := Tryz.zeroValue9
  t37 := Tryz.underlying102
  a37 := Tryz.isAgg102
  z37 := Tryz.sizeOf102
  v37 := Tryz.zeroValue102
  t70 := Tryz.underlying101
  a70 := Tryz.isAgg101
  z70 := Tryz.sizeOf101
  v70 := Tryz.zeroValue101
  t72 := Tryz.underlying104
  a72 := Tryz.isAgg104
  z72 := Tryz.sizeOf104
  v72 := Tryz.zeroValue104
  t127 := Tryz.underlying165
  a127 := Tryz.isAgg165
  z127 := Tryz.sizeOf165
  v127 := Tryz.zeroValue165
}
theorem bldExtra : Builder.Extra Tryz.prog bldRen := {
  sizeBuilder := by kernel_rfl
  liesBuilder := by kernel_rfl
  t5 := Tryz.underlying5
  a5 := Tryz.isAgg5
  z5 := Tryz.sizeOf5
  v5 := Tryz.zeroValue5
  infoByte := by kernel_rfl
  cellsByte := by kernel_rfl
  sizeByte := by kernel_rfl
  neB5 := by decide
}

/-- A builder in block b, of the call's own from B on, that holds the text s. -/
def Bld (B b : Nat) (s : ByteArray) (w : World) : Prop := Lib.IsBuilder 104 5 B b (Lib.strCells s) w ∧ B ≤ w.heap.size

theorem strCells_app (s t : ByteArray) : Lib.strCells s ++ Lib.strCells t = Lib.strCells (s ++ t) := by
  simp [Lib.strCells, ByteArray.data_append]

theorem Bld.new (w : World) : Bld w.heap.size w.heap.size .empty (w.alloc (.cells #[.pointer none, .slice none 0 0] 104)) :=
  ⟨Lib.fresh_isBuilder _ _ w, by simp⟩

theorem Bld.past {B b : Nat} {s : ByteArray} {w w' : World} (h : Bld B b s w) (hb : Below w.heap.size w w') : Bld B b s w' := by
  refine ⟨?_, Nat.le_trans h.2 hb.size⟩
  have one : ∀ {p : Value}, Lib.BuilderAt 104 5 B b p (Lib.strCells s) w → Lib.BuilderAt 104 5 B b p (Lib.strCells s) w' := by
    intro p hh
    have hlt := Lib.BuilderAt.lt hh
    obtain ⟨h1, v, h2, h3, h4⟩ := hh
    exact ⟨h1, v, (hb.block b hlt).trans h2, own_below h3 hb, h4⟩
  rcases h.1 with hh | hh
  · exact .inl (one hh)
  · exact .inr (one hh)

theorem Bld.drew {B b : Nat} {s : ByteArray} {w : World} (h : Bld B b s w) : Bld B b s w.drew := h

theorem Bld.blk {B b : Nat} {s : ByteArray} {w : World} (h : Bld B b s w) : B ≤ b ∧ b < w.heap.size := by
  rcases h.1 with hh | hh
  · exact ⟨hh.1, Lib.BuilderAt.lt hh⟩
  · exact ⟨hh.1, Lib.BuilderAt.lt hh⟩

/-- Behind a write. -/
def BldTo (B b : Nat) (n : Nat) (s : ByteArray) (w : World) (e : Ending) (w' : World) : Prop := e = .returned (.tuple #[.int .i64 n, .nilIface]) ∧ Bld B b s w' ∧ Below B w w'

theorem bld_write (B b : Nat) (s t : ByteArray) (w : World) (h : Bld B b s w) (hlen : s.size + t.size ≤ 140737488355328) :
    Calls Tryz.prog 47 #[.pointer (some ⟨b, 0, none⟩), .string t] w (BldTo B b t.size (s ++ t) w) :=
  (Any.Builder_WriteString bldLays166 bldExtra B b (Lib.strCells s) t w h.1 (by rw [Lib.strCells_length]; exact hlen) h.2).mono fun e w' ⟨he, hb, hB⟩ =>
    ⟨he, ⟨by rw [← strCells_app]; exact .inr hb, Nat.le_trans h.2 hB.size⟩, hB⟩

theorem bld_string (B b : Nat) (s : ByteArray) (w : World) (h : Bld B b s w) :
    Calls Tryz.prog 49 #[.pointer (some ⟨b, 0, none⟩)] w fun e w' => e = .returned (.string s) ∧ Below B w w' :=
  Any.Builder_String_any bldLays169 bldExtra B b s.data.toList w h.1 h.2
end Go.Proofs.YtddfdmopaeghnacGreatDoor
