/- A slice of nodes as an argument, opened. No condition. -/
import Derived.Test.YtddfdmopaeghnacDoorLaw
import Derived.Test.YtddfdmopaeghnacDoorDocW
namespace Go.Proofs.YtddfdmopaeghnacDoor
open Go.ChangeShapes Go.WideShapes Go.ChangeAt Go.RowKit Go.Deep

theorem cellsNode : Tryd.prog.cellsOf 51 = 3 := by kernel_rfl

/-- The bounds of a node's numbers. -/
def NdWf (d : Nd) : Prop := (Lit.int .i64 d.op).wf = true ∧ (Lit.int .i64 d.n).wf = true

set_option maxRecDepth 100000 in
theorem open_nodes {H : Type} {enc : TypeId × Value → H} {W : World} {base : Nat} {v : Value} {d : DataW H} {p : List MemPlace}
    (hv : Value.okWide Tryd.prog W .any base 22 v) (h : DataW.Trod enc Tryd.prog W 0 (fun _ => true) true 22 v d p) (hlt : ∀ x ∈ p, x.block < W.heap.size) :
    ∃ (A : Option Addr) (c : Nat) (l : List Nd), v = .slice A l.length c ∧ Nds W W.heap.size A l ∧ l.length ≤ c ∧ (d = .nil ∨ ∃ elems spare : List (DataW H), d = .slice elems spare ∧ elems.length = l.length) ∧ ∀ x ∈ l, NdWf x := by
  obtain ⟨A, n, c, css, rfl, rfl, hs, hc, hm, hd, hcs⟩ := open_sl Tryd.underlying22 cellsNode (by omega) hv h hlt
  obtain ⟨l, hl, hw⟩ := list_of (f := ndCells) (q := fun x => x.text.size ≤ maxLen ∧ NdWf x) hcs (fun cs ⟨h1, k, y, hy, _⟩ => by
    obtain ⟨xs, n, _, _, _, hlen, hf⟩ := DataW.trod_struct Tryd.underlying51 hy
    match cs, h1 with
    | [c0, c1, c2], _ =>
      match xs, hlen with
      | [y0, y1, y2], _ =>
        have e0 := hf 0 _ rfl
        have e1 := hf 1 _ rfl
        have e2 := hf 2 _ rfl
        have k0 : Tryd.prog.cellsOf 3 = 1 := by kernel_rfl
        have k1 : Tryd.prog.cellsOf 9 = 1 := by kernel_rfl
        simp [k0, k1] at e0 e1 e2
        obtain ⟨a, ha, _, wa⟩ := DataW.trod_int Tryd.underlying3 e0
        obtain ⟨t, htx, _, wt⟩ := DataW.trod_string Tryd.underlying9 e1
        obtain ⟨b, hb, _, wb⟩ := DataW.trod_int Tryd.underlying3 e2
        simp at ha htx hb
        subst ha htx hb
        exact ⟨⟨a, t, b⟩, rfl, wt, wa, wb⟩)
  rw [flatten_map hl] at hs
  have hlen : css.length = l.length := by rw [hl, List.length_map]
  rw [hlen] at hs hc hm hd ⊢
  exact ⟨A, c, l, rfl, ⟨hs, hm, fun x hx => (hw x hx).1⟩, hc, hd, fun x hx => (hw x hx).2⟩
end Go.Proofs.YtddfdmopaeghnacDoor
