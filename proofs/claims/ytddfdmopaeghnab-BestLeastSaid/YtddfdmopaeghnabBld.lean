/- The library's contracts on strings.Builder, laid at this program: WriteString, String. Conditions: the builder is the call's own, from block B on; the text is at most 2^47 bytes. -/
import Derived.Shelf.Strings.Builder1
import Derived.Test.YtddfdmopaeghnabMem
import Derived.Test.YtddfdmopaeghnabRows
namespace Go.Proofs.Ytddfdmopaeghnab
open Go.Shelf Go.RowKit
def bldRen : Go.Shelf.Ren := ⟨fun | 166 => 21 | 169 => 22 | 240 => 33 | 276 => 41 | n => n, fun | 0 => 0 | 3 => 3 | 4 => 4 | 9 => 9 | 20 => 20 | 37 => 58 | 70 => 57 | 72 => 60 | 75 => 27 | 80 => 66 | 127 => 85 | 164 => 95 | 5 => 5 | n => n, fun | n => n⟩
theorem bldLays166 : Go.Proofs.Lays.n166 Try.prog bldRen := {
  mixed := by kernel_rfl
  f166 := Try.func21.trans (congrArg some (by kernel_rfl))
  f240 := Try.func33.trans (congrArg some (by kernel_rfl))
  f276 := Try.func41.trans (congrArg some (by kernel_rfl))
  t0 := Try.underlying0
  a0 := Try.isAgg0
  z0 := Try.sizeOf0
  v0 := Try.zeroValue0
  t3 := Try.underlying3
  a3 := Try.isAgg3
  z3 := Try.sizeOf3
  v3 := Try.zeroValue3
  t4 := Try.underlying4
  a4 := Try.isAgg4
  z4 := Try.sizeOf4
  v4 := Try.zeroValue4
  t9 := Try.underlying9
  a9 := Try.isAgg9
  z9 := Try.sizeOf9
  v9 := Try.zeroValue9
  t20 := Try.underlying20
  a20 := Try.isAgg20
  z20 := Try.sizeOf20
  v20 := Try.zeroValue20
  t37 := Try.underlying58
  a37 := Try.isAgg58
  z37 := Try.sizeOf58
  v37 := Try.zeroValue58
  t70 := Try.underlying57
  a70 := Try.isAgg57
  z70 := Try.sizeOf57
  v70 := Try.zeroValue57
  t72 := Try.underlying60
  a72 := Try.isAgg60
  z72 := Try.sizeOf60
  v72 := Try.zeroValue60
  t75 := Try.underlying27
  a75 := Try.isAgg27
  z75 := Try.sizeOf27
  v75 := Try.zeroValue27
  t164 := Try.underlying95
  a164 := Try.isAgg95
  z164 := Try.sizeOf95
  v164 := Try.zeroValue95
}
theorem bldLays169 : Go.Proofs.Lays.n169 Try.prog bldRen := {
  mixed := by kernel_rfl
  f169 := Try.func22.trans (congrArg some (by kernel_rfl))
  t0 := Try.underlying0
  a0 := Try.isAgg0
  z0 := Try.sizeOf0
  v0 := Try.zeroValue0
  t3 := Try.underlying3
  a3 := Try.isAgg3
  z3 := Try.sizeOf3
  v3 := Try.zeroValue3
  t9 := Try.underlying9
  a9 := Try.isAgg9
  z9 := Try.sizeOf9
  v9 := Try.zeroValue9
  t37 := Try.underlying58
  a37 := Try.isAgg58
  z37 := Try.sizeOf58
  v37 := Try.zeroValue58
  t70 := Try.underlying57
  a70 := Try.isAgg57
  z70 := Try.sizeOf57
  v70 := Try.zeroValue57
  t72 := Try.underlying60
  a72 := Try.isAgg60
  z72 := Try.sizeOf60
  v72 := Try.zeroValue60
  t127 := Try.underlying85
  a127 := Try.isAgg85
  z127 := Try.sizeOf85
  v127 := Try.zeroValue85
}
theorem bldExtra : Builder.Extra Try.prog bldRen := {
  sizeBuilder := by kernel_rfl
  liesBuilder := by kernel_rfl
  t5 := Try.underlying5
  a5 := Try.isAgg5
  z5 := Try.sizeOf5
  v5 := Try.zeroValue5
  infoByte := by kernel_rfl
  cellsByte := by kernel_rfl
  sizeByte := by kernel_rfl
  neB5 := by decide
}

/-- A builder in block b, of the call's own from B on, that holds the text s. -/
def Bld (B b : Nat) (s : ByteArray) (w : World) : Prop := Lib.IsBuilder 60 5 B b (Lib.strCells s) w ∧ B ≤ w.heap.size

theorem strCells_app (s t : ByteArray) : Lib.strCells s ++ Lib.strCells t = Lib.strCells (s ++ t) := by
  simp [Lib.strCells, ByteArray.data_append]

theorem Bld.new (w : World) : Bld w.heap.size w.heap.size .empty (w.alloc (.cells #[.pointer none, .slice none 0 0] 60)) :=
  ⟨Lib.fresh_isBuilder _ _ w, by simp⟩

theorem Bld.past {B b : Nat} {s : ByteArray} {w w' : World} (h : Bld B b s w) (hb : Below w.heap.size w w') : Bld B b s w' := by
  refine ⟨?_, Nat.le_trans h.2 hb.size⟩
  have one : ∀ {p : Value}, Lib.BuilderAt 60 5 B b p (Lib.strCells s) w → Lib.BuilderAt 60 5 B b p (Lib.strCells s) w' := by
    intro p hh
    have hlt := Lib.BuilderAt.lt hh
    obtain ⟨h1, v, h2, h3, h4⟩ := hh
    exact ⟨h1, v, (hb.block b hlt).trans h2, own_below h3 hb, h4⟩
  rcases h.1 with hh | hh
  · exact .inl (one hh)
  · exact .inr (one hh)

theorem Bld.drew {B b : Nat} {s : ByteArray} {w : World} (h : Bld B b s w) : Bld B b s w.drew := h

theorem Bld.blk {B b : Nat} {s : ByteArray} {w : World} (h : Bld B b s w) : B ≤ b ∧ b < w.heap.size := by
  rcases h.1 with hh | hh
  · exact ⟨hh.1, Lib.BuilderAt.lt hh⟩
  · exact ⟨hh.1, Lib.BuilderAt.lt hh⟩

/-- Behind a write. -/
def BldTo (B b : Nat) (n : Nat) (s : ByteArray) (w : World) (e : Ending) (w' : World) : Prop := e = .returned (.tuple #[.int .i64 n, .nilIface]) ∧ Bld B b s w' ∧ Below B w w'

theorem bld_write (B b : Nat) (s t : ByteArray) (w : World) (h : Bld B b s w) (hlen : s.size + t.size ≤ 140737488355328) :
    Calls Try.prog 21 #[.pointer (some ⟨b, 0, none⟩), .string t] w (BldTo B b t.size (s ++ t) w) :=
  (Any.Builder_WriteString bldLays166 bldExtra B b (Lib.strCells s) t w h.1 (by rw [Lib.strCells_length]; exact hlen) h.2).mono fun e w' ⟨he, hb, hB⟩ =>
    ⟨he, ⟨by rw [← strCells_app]; exact .inr hb, Nat.le_trans h.2 hB.size⟩, hB⟩

theorem bld_string (B b : Nat) (s : ByteArray) (w : World) (h : Bld B b s w) :
    Calls Try.prog 22 #[.pointer (some ⟨b, 0, none⟩)] w fun e w' => e = .returned (.string s) ∧ Below B w w' :=
  Any.Builder_String_any bldLays169 bldExtra B b s.data.toList w h.1 h.2
end Go.Proofs.Ytddfdmopaeghnab
