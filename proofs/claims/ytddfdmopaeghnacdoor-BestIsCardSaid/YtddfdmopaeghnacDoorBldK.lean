/- The library's contracts on strings.Builder that say what stays beside the builder: every block that is neither the builder's nor a row of bytes. Conditions: the builder is the call's own, from block B on; the text is at most 2^47 bytes. -/
import Derived.Shelf.Strings.BuilderK
import Derived.Test.YtddfdmopaeghnacDoorBld
import Derived.Test.YtddfdmopaeghnacDoorNums
namespace Go.Proofs.YtddfdmopaeghnacDoor
open Go.RowKit

/-- A builder in block b that holds the text s (its bytes' head frozen or not). -/
def BldK (B b : Nat) (s : ByteArray) (w : World) : Prop := Lib.IsBuilderF 116 5 B b (Lib.strCells s) w ∧ B ≤ w.heap.size
theorem BldK.new (w : World) : BldK w.heap.size w.heap.size .empty (w.alloc (.cells #[.pointer none, .slice none 0 0] 116)) :=
  ⟨Lib.IsBuilderF.of (Lib.fresh_isBuilder _ _ w), by simp⟩
theorem BldK.blk {B b : Nat} {s : ByteArray} {w : World} (h : BldK B b s w) : B ≤ b ∧ b < w.heap.size ∧ ∃ cs, w.heap[b]? = some (.cells cs 116 (0, 0)) := by
  rcases h.1 with hh | hh
  · obtain ⟨h1, v, h2, _⟩ := hh; exact ⟨h1, Lib.BuilderAtF.lt ⟨h1, v, h2, by assumption⟩, _, h2⟩
  · obtain ⟨h1, v, h2, _⟩ := hh; exact ⟨h1, Lib.BuilderAtF.lt ⟨h1, v, h2, by assumption⟩, _, h2⟩
/-- It stays where its block and the rows of bytes do. -/
theorem BldK.keep {B b : Nat} {s : ByteArray} {w w' : World} (h : BldK B b s w) (hz : w.heap.size ≤ w'.heap.size) (hk : ∀ (k : Nat) (o : Obj), w.heap[k]? = some o → (k = b ∨ ∃ c fz, o = .cells c 5 fz) → w'.heap[k]? = some o) : BldK B b s w' := by
  refine ⟨?_, Nat.le_trans h.2 hz⟩
  have one : ∀ {p : Value}, Lib.BuilderAtF 116 5 B b p (Lib.strCells s) w → Lib.BuilderAtF 116 5 B b p (Lib.strCells s) w' := by
    intro p hh
    obtain ⟨h1, v, h2, h3, h4⟩ := hh
    refine ⟨h1, v, hk b _ h2 (.inl rfl), ⟨h3.1, ?_⟩, h4⟩
    rcases h3.2 with hn | ⟨g, cap, cur, fz, hv, hbg, hg, rest⟩
    · exact .inl hn
    · exact .inr ⟨g, cap, cur, fz, hv, hbg, hk g _ hg (.inr ⟨_, _, rfl⟩), rest⟩
  rcases h.1 with hh | hh
  · exact .inl (one hh)
  · exact .inr (one hh)
theorem BldK.past {B b : Nat} {s : ByteArray} {w w' : World} (h : BldK B b s w) (hb : Below w.heap.size w w') : BldK B b s w' :=
  h.keep hb.size (fun k _ hk _ => (hb.block k (Array.getElem?_eq_some_iff.1 hk).1).trans hk)
/-- Where one block of another kind has turned. -/
theorem BldK.grown {B b : Nat} {s : ByteArray} {w w' : World} {row : Option Nat} (h : BldK B b s w) (hg : w.grownBy w' row) (hne : ∀ g, row = some g → g ≠ b ∧ ∀ c fz, w.heap[g]? ≠ some (.cells c 5 fz)) : BldK B b s w' :=
  h.keep hg.size (fun k o hk ho => (hg.block k (Array.getElem?_eq_some_iff.1 hk).1 (fun e => by
    obtain ⟨h1, h2⟩ := hne k e.symm
    rcases ho with rfl | ⟨c, fz, rfl⟩
    · exact h1 rfl
    · exact h2 c fz hk)).trans hk)

/-- What lies beside the builder. -/
def Beside (b : Nat) (w w' : World) : Prop := ∀ (k : Nat) (o : Obj), w.heap[k]? = some o → k ≠ b → (∀ c fz, o ≠ .cells c 5 fz) → w'.heap[k]? = some o
theorem Beside.blk {b g : Nat} {w w' : World} (h : Beside b w w') {cs : Array Value} {T : TypeId} {fr : Nat × Nat} (hg : w.heap[g]? = some (.cells cs T fr)) (hne : g ≠ b) (hT : T ≠ 5) : w'.heap[g]? = some (.cells cs T fr) :=
  h g _ hg hne (fun c fz e => by cases e; exact hT rfl)
theorem Beside.own {b : Nat} {w w' : World} (h : Beside b w w') {base : Nat} {e : TypeId} {size n : Nat} {v : Value} {xs : List Value} (hr : w.ownsRow base e size v n xs) (hne : v.ownBlock ≠ some b) (hT : e ≠ 5) : w'.ownsRow base e size v n xs := by
  refine ⟨hr.1, ?_⟩
  rcases hr.2 with hn | ⟨g, cap, cur, hv, hbg, hg, rest⟩
  · exact .inl hn
  · exact .inr ⟨g, cap, cur, hv, hbg, h.blk hg (fun e => hne (by rw [hv, e]; rfl)) hT, rest⟩

def BldKTo (B b n : Nat) (s : ByteArray) (w : World) (e : Ending) (w' : World) : Prop := e = .returned (.tuple #[.int .i64 n, .nilIface]) ∧ BldK B b s w' ∧ Below B w w' ∧ Beside b w w' ∧ w.heap.size ≤ w'.heap.size
theorem bldk_write (B b : Nat) (s t : ByteArray) (w : World) (h : BldK B b s w) (hlen : s.size + t.size ≤ 140737488355328) :
    Calls Tryd.prog 52 #[.pointer (some ⟨b, 0, none⟩), .string t] w (BldKTo B b t.size (s ++ t) w) :=
  (Any.Builder_WriteString_k bldLays166 bldExtra B b (Lib.strCells s) t w h.1 (by rw [Lib.strCells_length]; exact hlen) h.2).mono fun e w' ⟨he, hb, hB, hO⟩ =>
    ⟨he, ⟨by rw [← strCells_app]; exact .inr hb, Nat.le_trans h.2 hB.size⟩, hB, fun k o hk hne ho => hO k o hk (fun e => hne (Option.some.inj e)) ho, hB.size⟩
theorem bldk_string (B b : Nat) (s : ByteArray) (w : World) (h : BldK B b s w) :
    Calls Tryd.prog 53 #[.pointer (some ⟨b, 0, none⟩)] w fun e w' => e = .returned (.string s) ∧ Below B w w' ∧ Beside b w w' :=
  (Any.Builder_String_any_k bldLays169 bldExtra B b s.data.toList w h.1 h.2).mono fun _ _ ⟨he, _, hB, hO⟩ => ⟨he, hB, fun k o hk hne ho => hO k o hk (fun e => hne (Option.some.inj e)) ho⟩
end Go.Proofs.YtddfdmopaeghnacDoor
