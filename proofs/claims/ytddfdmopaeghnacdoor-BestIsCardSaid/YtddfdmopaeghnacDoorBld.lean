/- The library's contracts on strings.Builder, laid at this program: WriteString, String. Conditions: the builder is the call's own, from block B on; the text is at most 2^47 bytes. -/
import Derived.Shelf.Strings.Builder1
import Derived.Test.YtddfdmopaeghnacDoorMem
import Derived.Test.YtddfdmopaeghnacDoorRows
namespace Go.Proofs.YtddfdmopaeghnacDoor
open Go.Shelf Go.RowKit
def bldRen : Go.Shelf.Ren := ⟨fun | 166 => 52 | 169 => 53 | 240 => 77 | 276 => 96 | n => n, fun | 0 => 0 | 3 => 3 | 4 => 4 | 9 => 9 | 20 => 20 | 37 => 114 | 70 => 113 | 72 => 116 | 75 => 31 | 80 => 119 | 127 => 137 | 164 => 138 | 5 => 5 | n => n, fun | n => n⟩
theorem bldLays166 : Go.Proofs.Lays.n166 Tryd.prog bldRen := {
  mixed := by kernel_rfl
  f166 := Tryd.func52.trans (congrArg some (by kernel_rfl))
  f240 := Tryd.func77.trans (congrArg some (by kernel_rfl))
  f276 := Tryd.func96.trans (congrArg some (by kernel_rfl))
  t0 := Tryd.underlying0
  a0 := Tryd.isAgg0
  z0 := Tryd.sizeOf0
  v0 := Tryd.zeroValue0
  t3 := Tryd.underlying3
  a3 := Tryd.isAgg3
  z3 := Tryd.sizeOf3
  v3 := Tryd.zeroValue3
  t4 := Tryd.underlying4
  a4 := Tryd.isAgg4
  z4 := Tryd.sizeOf4
  v4 := Tryd.zeroValue4
  t9 := Tryd.underlying9
  a9 := Tryd.isAgg9
  z9 := Tryd.sizeOf9
  v9 := Tryd.zeroValue9
  t20 := Tryd.underlying20
  a20 := Tryd.isAgg20
  z20 := Tryd.sizeOf20
  v20 := Tryd.zeroValue20
  t37 := Tryd.underlying114
  a37 := Tryd.isAgg114
  z37 := Tryd.sizeOf114
  v37 := Tryd.zeroValue114
  t70 := Tryd.underlying113
  a70 := Tryd.isAgg113
  z70 := Tryd.sizeOf113
  v70 := Tryd.zeroValue113
  t72 := Tryd.underlying116
  a72 := Tryd.isAgg116
  z72 := Tryd.sizeOf116
  v72 := Tryd.zeroValue116
  t75 := Tryd.underlying31
  a75 := Tryd.isAgg31
  z75 := Tryd.sizeOf31
  v75 := Tryd.zeroValue31
  t164 := Tryd.underlying138
  a164 := Tryd.isAgg138
  z164 := Tryd.sizeOf138
  v164 := Tryd.zeroValue138
}
theorem bldLays169 : Go.Proofs.Lays.n169 Tryd.prog bldRen := {
  mixed := by kernel_rfl
  f169 := Tryd.func53.trans (congrArg some (by kernel_rfl))
  t0 := Tryd.underlying0
  a0 := Tryd.isAgg0
  z0 := Tryd.sizeOf0
  v0 := Tryd.zeroValue0
  t3 := Tryd.underlying3
  a3 := Tryd.isAgg3
  z3 := Tryd.sizeOf3
  v3 := Tryd.zeroValue3
  t9 := Tryd.underlying9
  a9 := Tryd.isAgg9
  z9 := Tryd.sizeOf9
  v9 := Tryd.zeroValue9
  t37 := Tryd.underlying114
  a37 := Tryd.isAgg114
  z37 := Tryd.sizeOf114
  v37 := Tryd.zeroValue114
  t70 := Tryd.underlying113
  a70 := Tryd.isAgg113
  z70 := Tryd.sizeOf113
  v70 := Tryd.zeroValue113
  t72 := Tryd.underlying116
  a72 := Tryd.isAgg116
  z72 := Tryd.sizeOf116
  v72 := Tryd.zeroValue116
  t127 := Tryd.underlying137
  a127 := Tryd.isAgg137
  z127 := Tryd.sizeOf137
  v127 := Tryd.zeroValue137
}
theorem bldExtra : Builder.Extra Tryd.prog bldRen := {
  sizeBuilder := by kernel_rfl
  liesBuilder := by kernel_rfl
  t5 := Tryd.underlying5
  a5 := Tryd.isAgg5
  z5 := Tryd.sizeOf5
  v5 := Tryd.zeroValue5
  infoByte := by kernel_rfl
  cellsByte := by kernel_rfl
  sizeByte := by kernel_rfl
  neB5 := by decide
}

/-- A builder in block b, of the call's own from B on, that holds the text s. -/
def Bld (B b : Nat) (s : ByteArray) (w : World) : Prop := Lib.IsBuilder 116 5 B b (Lib.strCells s) w ∧ B ≤ w.heap.size

theorem strCells_app (s t : ByteArray) : Lib.strCells s ++ Lib.strCells t = Lib.strCells (s ++ t) := by
  simp [Lib.strCells, ByteArray.data_append]

theorem Bld.new (w : World) : Bld w.heap.size w.heap.size .empty (w.alloc (.cells #[.pointer none, .slice none 0 0] 116)) :=
  ⟨Lib.fresh_isBuilder _ _ w, by simp⟩

theorem Bld.past {B b : Nat} {s : ByteArray} {w w' : World} (h : Bld B b s w) (hb : Below w.heap.size w w') : Bld B b s w' := by
  refine ⟨?_, Nat.le_trans h.2 hb.size⟩
  have one : ∀ {p : Value}, Lib.BuilderAt 116 5 B b p (Lib.strCells s) w → Lib.BuilderAt 116 5 B b p (Lib.strCells s) w' := by
    intro p hh
    have hlt := Lib.BuilderAt.lt hh
    obtain ⟨h1, v, h2, h3, h4⟩ := hh
    exact ⟨h1, v, (hb.block b hlt).trans h2, own_below h3 hb, h4⟩
  rcases h.1 with hh | hh
  · exact .inl (one hh)
  · exact .inr (one hh)

theorem Bld.drew {B b : Nat} {s : ByteArray} {w : World} (h : Bld B b s w) : Bld B b s w.drew := h

theorem Bld.blk {B b : Nat} {s : ByteArray} {w : World} (h : Bld B b s w) : B ≤ b ∧ b < w.heap.size := by
  rcases h.1 with hh | hh
  · exact ⟨hh.1, Lib.BuilderAt.lt hh⟩
  · exact ⟨hh.1, Lib.BuilderAt.lt hh⟩

/-- Behind a write. -/
def BldTo (B b : Nat) (n : Nat) (s : ByteArray) (w : World) (e : Ending) (w' : World) : Prop := e = .returned (.tuple #[.int .i64 n, .nilIface]) ∧ Bld B b s w' ∧ Below B w w'

theorem bld_write (B b : Nat) (s t : ByteArray) (w : World) (h : Bld B b s w) (hlen : s.size + t.size ≤ 140737488355328) :
    Calls Tryd.prog 52 #[.pointer (some ⟨b, 0, none⟩), .string t] w (BldTo B b t.size (s ++ t) w) :=
  (Any.Builder_WriteString bldLays166 bldExtra B b (Lib.strCells s) t w h.1 (by rw [Lib.strCells_length]; exact hlen) h.2).mono fun e w' ⟨he, hb, hB⟩ =>
    ⟨he, ⟨by rw [← strCells_app]; exact .inr hb, Nat.le_trans h.2 hB.size⟩, hB⟩

theorem bld_string (B b : Nat) (s : ByteArray) (w : World) (h : Bld B b s w) :
    Calls Tryd.prog 53 #[.pointer (some ⟨b, 0, none⟩)] w fun e w' => e = .returned (.string s) ∧ Below B w w' :=
  Any.Builder_String_any bldLays169 bldExtra B b s.data.toList w h.1 h.2
end Go.Proofs.YtddfdmopaeghnacDoor
