/- What every law's row wants: arguments read as before behind a call that leaves old memory as it was; slices of nodes, of texts, of numbers opened. With what it rests on. Conditions: as each theorem states them. -/
import Derived.Test.YtddfdmopaeghnabGreatDoorRows
import Derived.Test.YtddfdmopaeghnabGreatDoorMem
import Derived.ProofKit
import Derived.Deep.Slices
import Derived.SizedLaws
import Derived.Lib.LaidTab
import Derived.LaidLaws
import Derived.RowKit
import Derived.Lib.TrailingZeros
import Derived.Lib.ItoaNum
import Derived.Test.YtddfdmopaeghnabGreatDoorTpTr
import Derived.Deep.DeepHandedRow
import Derived.Shelf.Vars
import Derived.Test.YtddfdmopaeghnabGreatDoorTpPs
import Derived.Test.YtddfdmopaeghnabGreatDoorTpBe
namespace Go.Proofs.YtddfdmopaeghnabGreatDoor
open Go.ChangeShapes Go.WideShapes Go.ChangeAt Go.RowKit Go.Deep
theorem own : ownKnob Tryz.prog.godebug = none := by kernel_rfl
theorem laidOut : laidOutB Tryz.prog = true := by kernel_rfl
section
variable {H : Type} {enc : TypeId × Value → H} {P : Program}
theorem trodAll_stay (hl : laidOutB P = true) {W W' : World} (hb : Below W.heap.size W W') {sp : Nat → Bool} :
  ∀ {ts : List TypeId} {vs : List Value} {ds : List (DataW H)} {p : List MemPlace}, (∀ t ∈ ts, P.readableRec t = true ∧ t < P.types.size) →
   DataW.TrodAll enc P W 0 (fun _ => true) true ts vs ds p → (∀ x ∈ p, x.block < W.heap.size) → (∀ x ∈ p, sp x.block = true) → DataW.TrodAll enc P W' 0 sp true ts vs ds p
 | [], _, _, _, _, h, _, _ => by
  obtain ⟨rfl, rfl, rfl⟩ := trodAll_nil h
  exact h
 | t :: ts, _, _, _, hr, h, hlt, hsp => by
  obtain ⟨v, vs1, d, ds1, a, b, rfl, rfl, rfl, h1, h2⟩ := trodAll_cons h
  obtain ⟨r1, r2⟩ := hr t (by simp)
  exact ⟨a, b, WideElems.Trod_stays hl r1 r2 h1 (fun x hx => hb.same (hlt x (List.mem_append_left _ hx))) (fun x hx => hsp x (List.mem_append_left _ hx)),
   trodAll_stay hl hb (fun t ht => hr t (by simp [ht])) h2 (fun x hx => hlt x (List.mem_append_right _ hx)) (fun x hx => hsp x (List.mem_append_right _ hx)), rfl⟩
theorem law_post {f : Func} {s : ChangeSpec} {W W' : World} {args : Array Value} {ds gs : List (DataW H)} {before : List MemPlace} {t : TypeId}
  (hW : DataW.Whole enc P f.params.toList s.vars false W args.toList ds gs before) (hv : s.vars = [])
  (hfn : s.fn H (ds ++ []) = { results := [.lit (.bool true)], args := ds }) (hres : f.resultTypes = #[t]) (ht : P.underlying t = some .bool)
  (hl : laidOutB P = true) (hr : (f.params.toList.all fun t => P.readableRec t && decide (t < P.types.size)) = true) (hb : Below W.heap.size W W') :
  s.post enc P f false true false false W args (.bool true) W' := by
 have hW0 := hW
 have hlt : ∀ x ∈ before, x.block < W.heap.size := fun x hx => hW.lt x hx
 obtain ⟨p, q, hA, hV, rfl, hfz, hnd⟩ := hW
 rw [hv] at hV
 obtain ⟨rfl, rfl⟩ := trodVars_none hV
 have hr' : ∀ t ∈ f.params.toList, P.readableRec t = true ∧ t < P.types.size := fun t ht => by
  have := List.all_eq_true.1 hr t ht
  simpa using this
 refine ⟨ds, [], p ++ [], [], p, [], hW0, ?_, ?_, ?_, hb.frame _, fun h => by cases h⟩
 ·rw [hfn, hres]
  exact trodAll_mk1 (shut_bool ht true)
 ·rw [hfn]
  refine trodAll_stay hl hb hr' hA (fun x hx => hlt x (by simpa using hx)) (fun x hx => by simpa using hlt x (by simpa using hx))
 ·rw [hfn, hv]
  exact rfl
theorem open_sl {W : World} {t e : TypeId} {sz base : Nat} {v : Value} {d : DataW H} {p : List MemPlace} (ht : P.underlying t = some (.slice e)) (hC : P.cellsOf e = sz) (hz : 0 < sz)
  (hv : Value.okWide P W .any base t v) (h : DataW.Trod enc P W 0 (fun _ => true) true t v d p) (hlt : ∀ x ∈ p, x.block < W.heap.size) :
  ∃ (A : Option Addr) (n c : Nat) (css : List (List Value)), v = .slice A n c ∧ css.length = n ∧ Sl W W.heap.size sz A n css.flatten ∧ n ≤ c ∧ n ≤ maxLen ∧
   (d = .nil ∨ ∃ elems spare : List (DataW H), d = .slice elems spare ∧ elems.length = n) ∧
   ∀ cs ∈ css, cs.length = sz ∧ ∃ (k : Nat) (y : DataW H × List MemPlace), DataW.trod enc P W 0 (fun _ => true) true k e cs = some y ∧ (∀ x ∈ y.2, x ∈ p) ∧ ∃ elems spare : List (DataW H), d = .slice elems spare ∧ y.1 ∈ elems := by
 obtain ⟨A, n, c, rfl⟩ := okWide_slice ht hv
 obtain ⟨fuel, hf⟩ := h
 rcases open_slice ht hf with ⟨hcs, hx⟩ | ⟨a, len, cap, m, k, D, Pl, hcs, _, hl, hm, hmm, hx, hi⟩
 ·simp [Value.cells] at hcs
  obtain ⟨rfl, rfl, rfl⟩ := hcs
  exact ⟨none, 0, 0, [], rfl, rfl, .nil_, Nat.le_refl _, by simp [maxLen], .inl (by cases hx; rfl), by simp⟩
 ·simp [Value.cells] at hcs
  obtain ⟨rfl, rfl, rfl⟩ := hcs
  simp only [if_true] at hmm
  subst hmm
  rw [hC] at hi hx
  obtain ⟨F, hF⟩ := choose_lt (α := List Value) (p := fun i cs => W.cells? 0 (a.add (i * sz)) sz = some cs ∧ DataW.trod enc P W 0 (fun _ => true) true k e cs = some (D i, Pl i)) (fun i hi' => hi i hi')
  have hlenF : ∀ i, i < m → (F i).length = sz := fun i hi' => (World.cells?_some (hF i hi').1).2.1
  have hflat : ∀ (q : Nat), q ≤ m → ((List.range q).map F).flatten.length = q * sz ∧ ∀ i j, i < q → j < sz → ((List.range q).map F).flatten[i * sz + j]? = (F i)[j]? := by
   intro q
   induction q with
   | zero => intro _; exact ⟨by simp, fun i j hi' => absurd hi' (by omega)⟩
   | succ q ih =>
    intro hq
    obtain ⟨h1, h2⟩ := ih (by omega)
    have e1 : ((List.range (q + 1)).map F).flatten = ((List.range q).map F).flatten ++ F q := by simp [List.range_succ]
    rw [e1]
    refine ⟨by rw [List.length_append, h1, hlenF q (by omega), Nat.add_mul, Nat.one_mul], fun i j hi' hj => ?_⟩
    rcases Nat.lt_or_ge i q with hlt' | hge
    ·have : i * sz + j < q * sz := by
      have : (i + 1) * sz ≤ q * sz := Nat.mul_le_mul_right _ hlt'
      rw [Nat.add_mul] at this; omega
     rw [List.getElem?_append_left (by omega)]
     exact h2 i j hlt' hj
    ·obtain rfl : i = q := by omega
     rw [List.getElem?_append_right (by omega), h1]
     congr 1; omega
  have hp : p = MemPlace.row a (m * sz) ++ (List.range m).flatMap Pl := by cases hx; rfl
  refine ⟨some a, n, m, (List.range n).map F, rfl, by simp, ⟨(hflat n hl).1, fun hn => ?_⟩, hl, Nat.le_trans hl hm, .inr ⟨_, _, (by cases hx; rfl), by simp⟩, ?_⟩
  ·have hmpos : 0 < m * sz := Nat.mul_pos (by omega) hz
   have hblk : a.block < W.heap.size := hlt (.cell a.block (a.off + 0)) (by rw [hp]; exact List.mem_append_left _ (MemPlace.mem_row.2 ⟨0, hmpos, rfl⟩))
   have hc0 : ∀ i j, i < m → j < sz → W.cell? ((a.add (i * sz)).add j) = (F i)[j]? := fun i j h1 h2 => (World.cells?_some (hF i h1).1).2.2 j h2
   have hspot : a.spot = none := by
    have h0 := hc0 0 0 (by omega) hz
    rw [Nat.zero_mul, List.getElem?_eq_getElem (by rw [hlenF 0 (by omega)]; exact hz)] at h0
    simp only [Addr.add, if_true, World.cell?] at h0
    split at h0
    ·split at h0
     ·cases h0
     ·rename_i hs
      cases hsp : a.spot with
      | none => rfl
      | some _ => simp [hsp] at hs
    ·cases h0
   have ha : a = ⟨a.block, a.off, none⟩ := by
    cases a
    simp only at hspot
    subst hspot
    rfl
   refine ⟨a.block, a.off, congrArg some ha, hblk, fun j u hu => ?_⟩
   have hjl : j < n * sz := by
    rw [← (hflat n hl).1]
    exact (List.getElem?_eq_some_iff.1 hu).1
   have hdiv : j / sz < n := (Nat.div_lt_iff_lt_mul hz).2 hjl
   have hmod := Nat.mod_lt j hz
   have hj : j = j / sz * sz + j % sz := by rw [Nat.mul_comm]; exact (Nat.div_add_mod j sz).symm
   have h1 := (hflat n hl).2 (j / sz) (j % sz) hdiv hmod
   rw [← hj, hu] at h1
   have h2 := hc0 (j / sz) (j % sz) (by omega) hmod
   rw [Go.Deep.add_add, ← hj, ← h1] at h2
   rw [← h2]
   unfold Addr.add
   split
   ·rename_i h0; rw [h0, Nat.add_zero, ← ha]
   ·rfl
  ·intro cs hcs
   obtain ⟨i, hi', rfl⟩ := List.mem_map.1 hcs
   have hi2 : i < m := by have := List.mem_range.1 hi'; omega
   refine ⟨hlenF i hi2, k, _, (hF i hi2).2, fun x hx' => ?_, ?_⟩
   ·rw [hp]
    exact List.mem_append_right _ (List.mem_flatMap.2 ⟨i, List.mem_range.2 hi2, hx'⟩)
   ·refine ⟨_, _, congrArg Prod.fst hx, ?_⟩
    exact List.mem_map_of_mem (List.mem_range.2 (List.mem_range.1 hi'))
theorem flatten_one {α : Type} (f : α → Value) (l : List α) : (l.map fun x => [f x]).flatten = l.map f := by
 induction l with
 | nil => rfl
 | cons a r ih => rw [List.map_cons, List.flatten_cons, ih]; rfl
theorem flatten_map {α : Type} {css : List (List Value)} {f : α → List Value} {l : List α} (h : css = l.map f) : css.flatten = l.flatMap f := by
 rw [h, List.flatMap_def]
theorem list_of {α : Type} {p : List Value → Prop} {q : α → Prop} {f : α → List Value} {css : List (List Value)} (h : ∀ cs ∈ css, p cs) (hp : ∀ cs, p cs → ∃ a, cs = f a ∧ q a) : ∃ l : List α, css = l.map f ∧ ∀ a ∈ l, q a := by
 induction css with
 | nil => exact ⟨[], rfl, by simp⟩
 | cons cs r ih =>
  obtain ⟨a, ha, hq⟩ := hp cs (h cs (by simp))
  obtain ⟨l, hl, hql⟩ := ih (fun c hc => h c (by simp [hc]))
  refine ⟨a :: l, by rw [hl, ha]; rfl, fun x hx => ?_⟩
  rcases List.mem_cons.1 hx with rfl | hx
  ·exact hq
  ·exact hql x hx
theorem open_nums {W : World} {t e : TypeId} {base : Nat} {v : Value} {d : DataW H} {p : List MemPlace} {kd : IntKind} (ht : P.underlying t = some (.slice e)) (he : P.underlying e = some (.int kd)) (hC : P.cellsOf e = 1)
  (hv : Value.okWide P W .any base t v) (h : DataW.Trod enc P W 0 (fun _ => true) true t v d p) (hlt : ∀ x ∈ p, x.block < W.heap.size) :
  ∃ (A : Option Addr) (c : Nat) (l : List Int), v = .slice A l.length c ∧ Sl W W.heap.size 1 A l.length (l.map (.int kd)) ∧ l.length ≤ c ∧ l.length ≤ maxLen ∧ (d = .nil ∨ ∃ elems spare : List (DataW H), d = .slice elems spare ∧ elems.length = l.length) ∧ ∀ x ∈ l, (Lit.int kd x).wf = true := by
 obtain ⟨A, n, c, css, rfl, rfl, hs, hc, hm, hd, hcs⟩ := open_sl ht hC (by omega) hv h hlt
 obtain ⟨l, hl, hw⟩ := list_of (f := fun x : Int => [Value.int kd x]) (q := fun x => (Lit.int kd x).wf = true) hcs (fun cs ⟨h1, k, y, hy, _⟩ => by
  obtain ⟨x, h2, _, h3⟩ := DataW.trod_int he hy
  exact ⟨x, h2, h3⟩)
 have hfl : css.flatten = l.map (.int kd) := by rw [hl, flatten_one]
 rw [hfl] at hs
 have hlen : css.length = l.length := by rw [hl, List.length_map]
 rw [hlen] at hs hc hm hd ⊢
 exact ⟨A, c, l, rfl, hs, hc, hm, hd, hw⟩
end
end Go.Proofs.YtddfdmopaeghnabGreatDoor
namespace Go.Proofs.YtddfdmopaeghnabGreatDoor
open Go.RowKit
noncomputable def tabWorld7 (os : Os) : World :=
 let w0 := World.holding Tryz.prog os ⟨#[], #[], []⟩
 let n := w0.heap.size
 { w0 with heap := ((((((((w0.heap.modify 4 fun
   | .cells _ t frozen => .cells (Lib.deBruijn32tab.map fun n : Nat => Value.int .u8 n).toArray t frozen
   | o => o).modify 5 fun
   | .cells _ t frozen => .cells (Lib.deBruijn64tab.map fun n : Nat => Value.int .u8 n).toArray t frozen
   | o => o).modify 3 fun
   | .cells _ t frozen => .cells (Lib.pow10Tab.map fun n : Int => Value.int .u64 n).toArray t frozen
   | o => o).modify 0 fun
   | .cells _ t frozen => .cells (Go.Pinned.utf8FirstZ.map fun n : Nat => Value.int .u8 n).toArray t frozen
   | o => o).modify 1 fun
   | .cells _ t frozen => .cells (([128, 191, 160, 191, 128, 159, 144, 191, 128, 143] ++ List.replicate 22 0).map fun n : Nat => Value.int .u8 n).toArray t frozen
   | o => o).modify 7 fun
   | .cells _ t frozen => .cells #[.iface 238 (.pointer (some ⟨n, 0, none⟩))] t frozen
   | o => o).modify 6 fun
   | .cells _ t frozen => .cells #[.iface 238 (.pointer (some ⟨n + 1, 0, none⟩))] t frozen
   | o => o).push (.cells #[.string ⟨#[118, 97, 108, 117, 101, 32, 111, 117, 116, 32, 111, 102, 32, 114, 97, 110, 103, 101]⟩] 240 (0, 0))).push (.cells #[.string ⟨#[105, 110, 118, 97, 108, 105, 100, 32, 115, 121, 110, 116, 97, 120]⟩] 240 (0, 0)) }
end Go.Proofs.YtddfdmopaeghnabGreatDoor
namespace Go.Proofs.YtddfdmopaeghnabGreatDoor
open Go.ChangeShapes Go.WideShapes Go.ChangeAt Go.RowKit Go.Deep
theorem cellsTree : Tryz.prog.cellsOf 59 = 3 := by kernel_rfl
theorem bulk_part {H : Type} {d : DataW H} {l : List (DataW H)} (h : d ∈ l) : Rows.uptoBulk d ≤ Rows.uptoBulkAll l := by
 induction l with
 | nil => cases h
 | cons x r ih =>
  simp only [Rows.uptoBulkAll]
  cases List.mem_cons.1 h with
  | inl e => subst e; omega
  | inr e => have := ih e; omega
theorem bulk_string {H : Type} (bytes : List UInt8) : Rows.uptoBulk (DataW.lit (H := H) (.string bytes)) = bytes.length + 1 := by simp [Rows.uptoBulk]
theorem bulk_elem {H : Type} {d : DataW H} {elems spare : List (DataW H)} (h : d ∈ elems) : Rows.uptoBulk d ≤ Rows.uptoBulk (DataW.slice elems spare) := by
 have := bulk_part h
 simp only [Rows.uptoBulk]; omega
theorem bulk_field {H : Type} {d : DataW H} {parts : List (DataW H)} (h : d ∈ parts) : Rows.uptoBulk d ≤ Rows.uptoBulk (DataW.agg parts) := by
 have := bulk_part h
 simp only [Rows.uptoBulk]; omega
set_option maxRecDepth 100000 in
theorem open_trees {H : Type} {enc : TypeId × Value → H} {W : World} {base : Nat} {v : Value} {d : DataW H} {p : List MemPlace}
  (hv : Value.okWide Tryz.prog W .any base 22 v) (h : DataW.Trod enc Tryz.prog W 0 (fun _ => true) true 22 v d p) (hlt : ∀ x ∈ p, x.block < W.heap.size) :
  ∃ (A : Option Addr) (c : Nat) (l : List Nd), v = .slice A l.length c ∧ Nds W W.heap.size A l ∧ l.length ≤ c ∧ ∀ x ∈ l, x.text.size + 1 ≤ Rows.uptoBulk d := by
 obtain ⟨A, n, c, css, rfl, rfl, hs, hc, hm, hd, hcs⟩ := open_sl Tryz.underlying22 cellsTree (by omega) hv h hlt
 obtain ⟨l, hl, hw⟩ := list_of (f := ndCells) (q := fun x => x.text.size ≤ maxLen ∧ x.text.size + 1 ≤ Rows.uptoBulk d) hcs (fun cs ⟨h1, k, y, hy, _, hin⟩ => by
  obtain ⟨xs, n, _, hyx, _, hlen, hf⟩ := DataW.trod_struct Tryz.underlying59 hy
  match cs, h1 with
  | [c0, c1, c2], _ =>
   match xs, hlen with
   | [y0, y1, y2], _ =>
    have e0 := hf 0 _ rfl
    have e1 := hf 1 _ rfl
    have e2 := hf 2 _ rfl
    have k0 : Tryz.prog.cellsOf 3 = 1 := by kernel_rfl
    have k1 : Tryz.prog.cellsOf 9 = 1 := by kernel_rfl
    simp [k0, k1] at e0 e1 e2
    obtain ⟨a, ha, _, wa⟩ := DataW.trod_int Tryz.underlying3 e0
    obtain ⟨t, htx, hy1, wt⟩ := DataW.trod_string Tryz.underlying9 e1
    obtain ⟨b, hb, _, wb⟩ := DataW.trod_int Tryz.underlying3 e2
    simp at ha htx hb
    subst ha htx hb
    refine ⟨⟨a, t, b⟩, rfl, wt, ?_⟩
    obtain ⟨elems, spare, he, hmem⟩ := hin
    rw [hyx] at hmem
    have h2 : Rows.uptoBulk (DataW.lit (H := H) (.string t.data.toList)) ≤ Rows.uptoBulk (DataW.agg ([y0, y1, y2].map (·.1))) := bulk_field (by rw [hy1]; simp)
    have h3 := bulk_elem (spare := spare) hmem
    rw [bulk_string] at h2
    rw [he]
    have h4 : t.data.toList.length = t.size := by simp
    show t.size + 1 ≤ _
    simp only at h3
    omega)
 rw [flatten_map hl] at hs
 have hlen : css.length = l.length := by rw [hl, List.length_map]
 rw [hlen] at hs hc hm ⊢
 exact ⟨A, c, l, rfl, ⟨hs, hm, fun x hx => (hw x hx).1⟩, hc, fun x hx => (hw x hx).2⟩
theorem maxL_of {W : World} (h : W.ShapedOpen Tryz.prog) : MaxL W := by
 obtain ⟨m, hm⟩ := cell_of_shapedOpen_int (P := Tryz.prog) (g := 2) (t := 3) (zero := #[.int .i64 0]) (k := .i64) h (of_decide_eq_true (by kernel_rfl)) (by kernel_rfl) rfl (by kernel_rfl) (by kernel_rfl) Tryz.underlying3
 refine ⟨?_, m, hm⟩
 rcases Nat.lt_or_ge 2 W.heap.size with h1 | h1
 ·exact h1
 ·unfold World.cell? at hm
  simp [Array.getElem?_eq_none h1] at hm
end Go.Proofs.YtddfdmopaeghnabGreatDoor
namespace Go.Proofs.YtddfdmopaeghnabGreatDoor
open Go.RowKit
def formE (W : Int) : List (List Nd) → Int
 | [] => 0
 | u :: r => if oneQ u W ≠ 0 then oneQ u W else formE W r
def formT (W : Int) : List (List Nd) → ByteArray
 | [] => .empty
 | u :: r => oneX u W ++ formT W r
theorem formT_step (W : Int) {p : List (List Nd)} {k : Nat} {u : List Nd} (hu : p[k]? = some u) : formT W (p.take (k + 1)) = formT W (p.take k) ++ oneX u W := by
 have happ : ∀ a b : List (List Nd), formT W (a ++ b) = formT W a ++ formT W b := fun a b => by
  induction a with
  | nil => simp [formT]
  | cons x r ih => simp [formT, ih, ByteArray.append_assoc]
 rw [List.take_add_one, hu, happ]
 simp [formT]
theorem formE_step (W : Int) {p : List (List Nd)} {k : Nat} {u : List Nd} (hu : p[k]? = some u) (h : formE W (p.drop k) = formE W p) : (oneQ u W ≠ 0 → formE W p = oneQ u W) ∧ (oneQ u W = 0 → formE W (p.drop (k + 1)) = formE W p) := by
 obtain ⟨hk, rfl⟩ := List.getElem?_eq_some_iff.1 hu
 rw [List.drop_eq_getElem_cons hk, formE] at h
 constructor
 ·intro hq; rw [if_pos hq] at h; exact h.symm
 ·intro hq; rw [if_neg (by simpa using hq)] at h; exact h
def fmtF (s : ByteArray) (W : Int) : Int × Nat × ByteArray :=
 if wideF W = false then (1, 0, .empty)
 else if (parseF s).1 ≠ 0 then ((parseF s).1, (parseF s).2.1, .empty)
 else if formE W (parseF s).2.2 ≠ 0 then (formE W (parseF s).2.2, 0, .empty)
 else (0, 0, formT W (parseF s).2.2)
def FmtTo (T : ByteArray) (k : Nat) (v : Value) (w : World) (e : Ending) (w' : World) : Prop := e = .returned (.tuple #[.string T, .int .i64 (k : Nat), v]) ∧ Below w.heap.size w w'
set_option maxRecDepth 100000 in
set_option maxHeartbeats 4000000 in
theorem fmt_bad (s : ByteArray) (W : Int) (w : World) (hs : s.size ≤ maxLen) (hm : MaxL w) (h : wideF W = false ∨ (parseF s).1 ≠ 0) :
  Calls Tryz.prog 12 #[.string s, .int .i64 W] w (FmtTo .empty (fmtF s W).2.1 (.iface 56 (.int .i64 (fmtF s W).1)) w) := by
 have HW := Lib.hid (fun w' => wide_any W w')
 by_cases hw : wideF W = false
 ·have hr : fmtF s W = (1, 0, .empty) := by rw [fmtF, if_pos hw]
  rw [hr]
  rw [hw] at HW
  clear hs hm h hw hr
  go_enter Tryz.func12, Tryz.ntmps12
  go_wp2_with (go_at_call 18; refine (HW.out _).mono ?_; rintro e w1 ⟨rfl, rfl⟩)
  go_ret3
  exact ⟨rfl, Below.refl _ _⟩
 ·have hw1 : wideF W = true := by simpa using hw
  have hf : (parseF s).1 ≠ 0 := by
   rcases h with h | h
   ·exact absurd h hw
   ·exact h
  have hr : fmtF s W = ((parseF s).1, (parseF s).2.1, .empty) := by rw [fmtF, if_neg hw, if_pos hf]
  rw [hr]
  rw [hw1] at HW
  have HP := Lib.hid (parse_bad hf w hs hm)
  generalize parseF s = r at *
  clear hs hm h hw hw1 hr hf
  go_enter Tryz.func12, Tryz.ntmps12
  go_wp2_with (first
   | (go_at_call 18; refine (HW.out _).mono ?_; rintro e w1 ⟨rfl, rfl⟩)
   | (go_at_call 16; refine HP.out.mono ?_; rintro e w2 ⟨A2, c2, rfl, hF, hB⟩; have HB := Lib.hid hB; clear hF hB))
  go_ret3
  exact ⟨rfl, HB.out⟩
set_option maxRecDepth 100000 in
set_option maxHeartbeats 4000000 in
theorem fmt_any (s : ByteArray) (W : Int) (w : World) (hs : s.size ≤ maxLen) (hm : MaxL w) (hp : PowT w) :
  Calls Tryz.prog 12 #[.string s, .int .i64 W] w (FmtTo (fmtF s W).2.2 (fmtF s W).2.1 (errV (fmtF s W).1) w) := by
 by_cases hbad : wideF W = false ∨ (parseF s).1 ≠ 0
 ·have h1 := fmt_bad s W w hs hm hbad
  have h2 : (fmtF s W).2.2 = .empty ∧ (fmtF s W).1 ≠ 0 := by
   unfold fmtF
   split
   ·exact ⟨rfl, by decide⟩
   ·split
    ·rename_i hf; exact ⟨rfl, hf⟩
    ·rename_i hw hf
     rcases hbad with h | h
     ·exact absurd h hw
     ·exact absurd h hf
  rw [h2.1, ← errV_pos h2.2]
  exact h1
 ·have hw : wideF W = true := by
   cases h : wideF W with
   | true => rfl
   | false => exact absurd (.inl h) hbad
  have hf : (parseF s).1 = 0 := by
   by_cases h : (parseF s).1 = 0
   ·exact h
   ·exact absurd (.inr h) hbad
  have HW := Lib.hid (fun w' => wide_any W w')
  rw [hw] at HW
  have hR : fmtF s W = if formE W (parseF s).2.2 ≠ 0 then (formE W (parseF s).2.2, 0, .empty) else (0, 0, formT W (parseF s).2.2) := by
   rw [fmtF, if_neg (by simp [hw]), if_neg (by simp [hf])]
  have hP := parse_ok hf w hs hm
  have htr := progF_facts (parsed_words hf).1
  have h20 := htr.1
  have HT := Lib.hid htr.2.1
  rw [hR]
  generalize (parseF s).2.2 = p at *
  generalize (parseF s).2.1 = k0 at *
  have HE0 : Hid (formE W p = 0 → (if formE W p ≠ 0 then (formE W p, 0, ByteArray.empty) else ((0 : Int), (0 : Nat), formT W p)) = (0, 0, formT W p)) := Lib.hid (fun h => by rw [if_neg (by simpa using h)])
  have HE1 : Hid (formE W p ≠ 0 → (if formE W p ≠ 0 then (formE W p, 0, ByteArray.empty) else ((0 : Int), (0 : Nat), formT W p)) = (formE W p, 0, .empty)) := Lib.hid (fun h => by rw [if_pos h])
  have HP := Lib.hid hP
  have HM := Lib.hid hm; have HPW := Lib.hid hp
  have HSZ : Hid (∀ k, k ≤ p.length → (∀ j u, p[j]? = some u → j < k → oneQ u W = 0) → (formT W (p.take k)).size ≤ 1500000 * k) := Lib.hid (fun k => by
   induction k with
   | zero => intro _ _; simp [formT]
   | succ k ih =>
    intro hk h
    have hlt : k < p.length := by omega
    have hu : p[k]? = some p[k] := List.getElem?_eq_getElem hlt
    rw [formT_step W hu, ByteArray.size_append]
    have h1 := ih (by omega) (fun j u hj hjk => h j u hj (by omega))
    have hq := h k p[k] hu (by omega)
    have ht := (oneQ_zero hq).2.1
    have h2 := (oneX_is hq (fun h9 => docL_doc ht h9 (by have := (oneQ_zero hq).2.2 h9; omega))).small
    omega)
  have hend : formE W (p.drop p.length) = formE W p → formE W p = 0 := fun h => by rw [← h, List.drop_length]; rfl
  have HEND := Lib.hid hend
  have HALL : Hid (∀ k, p.length ≤ k → formT W (p.take k) = formT W p) := Lib.hid (fun k hk => by rw [List.take_of_length_le hk])
  clear hs hP hm hp hR htr hend hbad hw hf
  generalize hZ : (if formE W p ≠ 0 then (formE W p, 0, ByteArray.empty) else ((0 : Int), (0 : Nat), formT W p)) = Z at *
  clear hZ
  go_enter Tryz.func12, Tryz.ntmps12
  go_wp2_with (first
   | (go_at_call 18; refine (HW.out _).mono ?_; rintro e w0 ⟨rfl, rfl⟩)
   | (go_at_call 16; refine HP.out.mono ?_; rintro e w1 ⟨P1, c1, rfl, hF, hB1⟩; have HPR := Lib.hid hF.prg; have HB1 := Lib.hid hB1; clear hF hB1))
  have hb1 : Below w1.heap.size w1 (w1.alloc (.cells #[.pointer none, .slice none 0 0] 84)) := (Below.refl _ _).alloc (Nat.le_refl _) _
  have HBD : Hid (Bld w1.heap.size w1.heap.size .empty (w1.alloc (.cells #[.pointer none, .slice none 0 0] 84))) := Lib.hid (Bld.new w1)
  have hz1 := HB1.out.size
  have HB0 := Lib.hid hb1
  clear hb1
  go_loopw [10, 11, 12, 29] (fun _ _ _ i wr => ∃ k : Nat, k ≤ p.length ∧ i = .int .i64 k ∧ Hid (formE W (p.drop k) = formE W p ∧ ∀ j u, p[j]? = some u → j < k → oneQ u W = 0) ∧ Hid (Bld w1.heap.size w1.heap.size (formT W (p.take k)) wr) ∧ Hid (Below w1.heap.size w1 wr)) (fun _ _ _ i _ => p.length - (intOf i).toNat)
  case atStart => exact ⟨0, by omega, rfl, Lib.hid ⟨rfl, fun j u hj hjk => by omega⟩, HBD, HB0⟩
  case round =>
   clear HBD HB0
   obtain ⟨k, hk, rfl, HA, HBD, HB0⟩ := hrel
   by_cases hlt : k < p.length
   ·obtain ⟨b, off, Ak, ck, u, rfl, hb, hu, hc, hN, hS⟩ := HPR.out.one HB0.out hlt
    have hmem : u ∈ p := List.mem_of_getElem? hu
    have hut := HT.out u hmem
    have HB01 := Lib.hid (HB1.out.trans (HB0.out.mono hz1))
    obtain ⟨e1, e2⟩ := formE_step W hu HA.out.1
    by_cases hq : oneQ u W = 0
    ·have hdc : opAt u 0 ≠ 9 → ∃ x, Doc (docL u) x := fun h9 => docL_doc hut h9 (by have := (oneQ_zero hq).2.2 h9; omega)
     have HONE := Lib.hid (pone_ok (fun l x A c w hl hd => of_from l x A c w hl hd) u W Ak ck wr hN hS (HM.out.past HB01.out) (HPW.out.past HB01.out) hdc hq)
     have hsm := (oneX_is hq hdc).small
     have HST := Lib.hid (formT_step W hu)
     have HA2 : Hid (formE W (p.drop (k + 1)) = formE W p ∧ ∀ j v, p[j]? = some v → j < k + 1 → oneQ v W = 0) := Lib.hid ⟨e2 hq, fun j v hj hjk => by
      by_cases hjk2 : j = k
      ·subst hjk2; rw [hu] at hj; cases hj; exact hq
      ·exact HA.out.2 j v hj (by omega)⟩
     have hks := HSZ.out k hk HA.out.2
     generalize formT W (p.take k) = Q at *
     generalize oneX u W = T at *
     have hz0 := HB0.out.size
     clear hN hS hu hmem hut e1 e2 hq hdc HA
     go_wp2_with (first
      | (go_at_call 6; refine HONE.out.mono ?_; rintro e w3 ⟨rfl, hB3⟩; have HB3 := Lib.hid (HBD.out.past hB3); have HB4 := Lib.hid (HB0.out.trans (hB3.mono hz0)); clear hB3)
      | (go_at_call 29; refine (bld_write _ _ Q _ _ HB3.out (by omega)).mono ?_; rintro e w4 ⟨rfl, hb5, hB5⟩; have HB5 := Lib.hid hb5; have HB6 := Lib.hid (HB4.out.trans hB5); clear hb5 hB5))
     go_roundw
     case measure => simp [intOf]; omega
     case rel => exact ⟨k + 1, by omega, by go_num, HA2, Lib.hid (by rw [HST.out]; exact HB5.out), HB6⟩
    ·have HONE := Lib.hid (pone_bad u W Ak ck wr hN hS (HM.out.past HB01.out) (HPW.out.past HB01.out) hq)
     have hfe := e1 hq
     have hzz := HE1.out (by rw [hfe]; exact hq)
     subst hzz
     have HV := Lib.hid (errV_pos hq)
     rw [hfe]
     generalize oneQ u W = q at *
     clear hN hS hu hmem hut e1 e2 HA
     go_wp2_with (go_at_call 6; refine HONE.out.mono ?_; rintro e w3 ⟨rfl, hB3⟩; have HB4 := Lib.hid (HB01.out.trans (hB3.mono HB01.out.size)); clear hB3)
     go_ret3
     exact ⟨by rw [← HV.out]; rfl, HB4.out⟩
   ·have hkp : k = p.length := by omega
    have h0 := HEND.out (by have := HA.out.1; rwa [hkp] at this)
    have hzz := HE0.out h0
    subst hzz
    have HBZ : Hid (Bld w1.heap.size w1.heap.size (formT W p) wr) := Lib.hid (by rw [← HALL.out k (by omega)]; exact HBD.out)
    generalize formT W p = TT at *
    clear HBD
    go_wp2_with (go_at_call 30; refine (bld_string _ _ _ _ HBZ.out).mono ?_; rintro e w5 ⟨rfl, hB5⟩; have HB7 := Lib.hid (HB1.out.trans ((HB0.out.trans hB5).mono hz1)); clear hB5)
    go_ret3
    exact ⟨rfl, HB7.out⟩
end Go.Proofs.YtddfdmopaeghnabGreatDoor
namespace Go.Proofs.YtddfdmopaeghnabGreatDoor
def Bz (h K : Nat) (ns : List Nd) : Prop :=
 ∃ x : D, x.ok ∧ x.enc = ns ∧ (∀ (dp : Int) (w r : List Int) (s : ByteArray), 0 ≤ dp → dp.toNat + 2 * h ≤ 80 → x.lay dp w = .ok (s, r) → s.size ≤ K) ∧ ∀ s, x.flat = some s → s.size ≤ K
theorem Bz.word {h K : Nat} {s : ByteArray} (hs : s.size ≤ K) : Bz h K (wordN s) := by
 refine ⟨.leaf ⟨1, s, 0⟩, rfl, rfl, fun dp w r t _ _ ht => ?_, fun t ht => ?_⟩
 ·simp only [D.lay, if_true] at ht
  cases ht; exact hs
 ·simp only [D.flat, if_true] at ht
  cases ht; exact hs
theorem line_size (n : Nat) : (⟨#[10]⟩ ++ blanksB n : ByteArray).size = n + 1 := by
 rw [ByteArray.size_append, show (blanksB n).size = n by simp [blanksB, ByteArray.size]]
 show 1 + n = n + 1
 omega
theorem Bz.blank {h : Nat} : Bz h 81 (opN 2) := by
 refine ⟨.leaf ⟨2, .empty, 0⟩, rfl, rfl, fun dp w r t h0 hh ht => ?_, fun t ht => ?_⟩
 ·simp only [D.lay, show ¬ (2 : Int) = 1 by decide, show ¬ (2 : Int) = 5 by decide, if_false] at ht
  cases ht
  rw [line_size]; omega
 ·simp only [D.flat, show ¬ (2 : Int) = 1 by decide, if_false, if_true] at ht
  cases ht; decide
theorem Bz.soft {h : Nat} : Bz h 81 (opN 3) := by
 refine ⟨.leaf ⟨3, .empty, 0⟩, rfl, rfl, fun dp w r t h0 hh ht => ?_, fun t ht => ?_⟩
 ·simp only [D.lay, show ¬ (3 : Int) = 1 by decide, show ¬ (3 : Int) = 5 by decide, if_false] at ht
  cases ht
  rw [line_size]; omega
 ·simp only [D.flat, show ¬ (3 : Int) = 1 by decide, show ¬ (3 : Int) = 2 by decide, if_false] at ht
  cases ht; decide
theorem Bz.both {h K1 K2 : Nat} {m n : List Nd} (h1 : Bz h K1 m) (h2 : Bz h K2 n) : Bz h (K1 + K2) (bothN m n) := by
 obtain ⟨x, x1, x2, x3, x4⟩ := h1
 obtain ⟨y, y1, y2, y3, y4⟩ := h2
 refine ⟨.bin ⟨6, .empty, 0⟩ x y, ⟨by decide, x1, y1⟩, by simp [D.enc, bothN, x2, y2], fun dp w r t h0 hh ht => ?_, fun t ht => ?_⟩
 ·obtain ⟨s1, w1, s2, g1, g2, rfl⟩ := both_layX ht
  rw [Int.add_zero] at g1 g2
  have := x3 _ _ _ _ h0 hh g1
  have := y3 _ _ _ _ h0 hh g2
  rw [ByteArray.size_append]; omega
 ·obtain ⟨s1, s2, g1, g2, rfl⟩ := both_flatX ht
  have := x4 _ g1
  have := y4 _ g2
  rw [ByteArray.size_append]; omega
theorem Bz.group {h K : Nat} {n : List Nd} (hn : Bz h K n) : Bz h K (groupN n) := by
 obtain ⟨x, x1, x2, x3, x4⟩ := hn
 refine ⟨.un ⟨8, .empty, 0⟩ x, ⟨by decide, x1⟩, by simp [D.enc, groupN, x2], fun dp w r s h0 hh hs => ?_, fun s hs => x4 s hs⟩
 simp only [D.lay, show ¬ (8 : Int) = 7 by decide, if_false] at hs
 cases w with
 | nil => cases hs
 | cons c w =>
  simp only at hs
  split at hs
  ·cases hf : x.flat with
   | none => rw [hf] at hs; cases hs
   | some u => rw [hf] at hs; cases hs; exact x4 _ hf
  ·rw [Int.add_zero] at hs
   exact x3 _ _ _ _ h0 hh hs
theorem Bz.deep {h K : Nat} {n : List Nd} (hn : Bz h K n) : Bz (h + 1) K (deepN n) := by
 obtain ⟨x, x1, x2, x3, x4⟩ := hn
 refine ⟨.un ⟨7, .empty, 2⟩ x, ⟨by decide, x1⟩, by simp [D.enc, deepN, x2], fun dp w r s h0 hh hs => ?_, fun s hs => x4 s hs⟩
 simp only [D.lay, if_true] at hs
 exact x3 _ _ _ _ (by omega) (by omega) hs
theorem Bz.more {h h' K K' : Nat} {n : List Nd} (hn : Bz h K n) (hh : h ≤ h') (hk : K ≤ K') : Bz h' K' n := by
 obtain ⟨x, x1, x2, x3, x4⟩ := hn
 exact ⟨x, x1, x2, fun dp w r s h0 h1 hs => Nat.le_trans (x3 dp w r s h0 (by omega) hs) hk, fun s hs => Nat.le_trans (x4 s hs) hk⟩
theorem Bz.kid {h K : Nat} {po ko : Int} {b : Bool} {n : List Nd} {t : List (List UInt8)} (hn : Bz h (90 * t.length) n) (hk : 90 * (kidK po ko b t).length ≤ K) : Bz h K (kidD po ko b n) := by
 unfold kidK at hk
 unfold kidD
 split
 ·rename_i hb
  rw [if_pos hb] at hk
  simp only [List.length_cons, List.length_append, List.length_nil] at hk
  exact ((Bz.word (K := 1) (by decide)).both (hn.both (Bz.word (K := 1) (by decide)))).more (Nat.le_refl _) (by omega)
 ·rename_i hb
  rw [if_neg hb] at hk
  exact hn.more (Nat.le_refl _) hk
theorem Bz.kids {l : List Nd} {h : Nat} {g : Nat → List Nd} {t : Nat → List (List UInt8)} : ∀ (m a z : Nat), KidsP l a m z → 0 < m → (∀ b, a ≤ b → b < l.length → Bz h (90 * (t b).length) (g b)) → Bz h (90 * (kidsK t (tEnd l) a m).length) (kidsD g (tEnd l) a m) := by
 intro m
 induction m with
 | zero => intro a z h h0; omega
 | succ m ih =>
  intro a z hz _ hg
  obtain ⟨h1, h2, h3⟩ := hz
  have h4 := hg a (Nat.le_refl _) h1
  rw [kidsD, kidsK]
  split
  ·exact h4
  ·have h5 := ih _ _ h3 (by omega) (fun b hb hb2 => hg b (by omega) hb2)
   refine ((h4.both (Bz.word (K := 1) (by decide))).both (Bz.blank.both h5)).more (Nat.le_refl _) ?_
   simp only [List.length_append, List.length_cons]
   omega
theorem Bz.listed {h Ko K T : Nat} {o c : ByteArray} {m : Nat} {k : List Nd} (ho : o.size ≤ Ko) (hc : c.size = 1) (hk : 0 < m → Bz h K k) (h0 : m = 0 → Ko + 1 ≤ T) (hT : 0 < m → Ko + (81 + K + (81 + 1)) ≤ T) : Bz (h + 1) T (listD o c m k) := by
 unfold listD
 split
 ·rename_i e
  exact Bz.word (by rw [ByteArray.size_append]; have := h0 e; omega)
 ·rename_i e
  have hm : 0 < m := by omega
  exact (((Bz.word ho).both ((Bz.deep (Bz.soft.both (hk hm))).both (Bz.soft.both (Bz.word (K := 1) (by omega))))).group).more (Nat.le_refl _) (hT hm)
theorem docT_bz {l : List Nd} (hT : Tr l) : ∀ f i : Nat, l.length ≤ i + f → (hi : i < l.length) → l[i].op ≠ 9 → Bz (l.length - i) (90 * (tokT l f i).length) (docT l f i) := by
 intro f
 induction f with
 | zero => intro i h1 h2; omega
 | succ f ih =>
  intro i h1 h2 h9
  have hk := hT.kidsP h2
  have hm : (manyL l).getD i 0 = (manyF l[i].op l[i].n).toNat := manyL_at h2 rfl
  have hone := hT.one _ (List.getElem_mem h2)
  have hop : 1 ≤ l[i].op ∧ l[i].op ≤ 9 := by
   by_cases hc : l[i].op < 1 ∨ 9 < l[i].op
   ·rw [treeOne, if_pos (by rcases hc with h | h; exact .inl h; exact .inr (.inl h))] at hone; cases hone
   ·omega
  rw [hm] at hk
  have ihk : ∀ b, i + 1 ≤ b → b < l.length → Bz (l.length - (i + 1)) (90 * (tokT l f b).length) (docT l f b) := fun b hb hl => (ih b (by omega) hl (by have := hT.low hl (by omega); omega)).more (by omega) (Nat.le_refl _)
  have hsucc : l.length - i = l.length - (i + 1) + 1 := by omega
  rw [docT, tokT, getD_at h2]
  generalize l[i].op = op at *
  generalize l[i].n = n at *
  generalize l[i].text = t at *
  have hcs : op = 1 ∨ op = 2 ∨ op = 3 ∨ op = 4 ∨ op = 5 ∨ op = 6 ∨ op = 7 ∨ op = 8 := by omega
  rcases hcs with rfl | rfl | rfl | rfl | rfl | rfl | rfl | rfl
  ·obtain ⟨n0, n1⟩ := tone_num hone
   simp only [if_true]
   have hl := itoa_len6 n0 n1
   exact Bz.word (by simp only [ByteArray.size, List.size_toArray, List.length_cons, List.length_nil]; omega)
  ·have hnm := tone_word hone rfl (by decide)
   have := (name_facts hnm).2.1
   simp only [show ¬ (2 : Int) = 1 by decide, if_false, if_true]
   exact Bz.word (by simp only [List.length_cons, List.length_nil]; omega)
  ·have hnm := tone_word hone rfl (by decide)
   have h8 := (name_facts hnm).2.1
   rw [show manyF 3 n = n from rfl] at hk
   simp only [show ¬ (3 : Int) = 1 by decide, show ¬ (3 : Int) = 2 by decide, if_false, if_true]
   rw [hsucc]
   refine Bz.listed (Ko := 9) ?_ rfl (fun h0 => Bz.kids _ _ _ hk h0 ihk) ?_ ?_
   ·rw [ByteArray.size_append]; show t.size + 1 ≤ 9; omega
   ·intro _; simp only [List.length_cons, List.length_append, List.length_nil]; omega
   ·intro _; simp only [List.length_cons, List.length_append, List.length_nil]; omega
  ·rw [show manyF 4 n = n from rfl] at hk
   simp only [show ¬ (4 : Int) = 1 by decide, show ¬ (4 : Int) = 2 by decide, show ¬ (4 : Int) = 3 by decide, if_false, if_true]
   rw [hsucc]
   refine Bz.listed (Ko := 1) (by decide) rfl (fun h0 => Bz.kids _ _ _ hk h0 ihk) ?_ ?_
   ·intro _; simp only [List.length_cons, List.length_append, List.length_nil]; omega
   ·intro _; simp only [List.length_cons, List.length_append, List.length_nil]; omega
  ·obtain ⟨a1, a2, b1, b2, b3⟩ : i + 1 < l.length ∧ i + 1 < tEnd l (i + 1) ∧ tEnd l (i + 1) < l.length ∧ tEnd l (i + 1) < tEnd l (tEnd l (i + 1)) ∧ tEnd l (tEnd l (i + 1)) = tEnd l i := ⟨hk.1, hk.2.1, hk.2.2.1, hk.2.2.2.1, hk.2.2.2.2⟩
   have q1 := ihk _ (Nat.le_refl _) a1
   have q2 := ihk _ (by omega) b1
   simp only [show ¬ (5 : Int) = 1 by decide, show ¬ (5 : Int) = 2 by decide, show ¬ (5 : Int) = 3 by decide, show ¬ (5 : Int) = 4 by decide, if_false, if_true]
   rw [hsucc]
   refine (((q1.kid (po := 5) (ko := opAt l (i + 1)) (b := false) (Nat.le_refl _)).more (Nat.le_succ _) (Nat.le_refl _)).both (Bz.deep (Bz.blank.both ((Bz.word (K := 2) (by decide)).both (q2.kid (po := 5) (ko := opAt l (tEnd l (i + 1))) (b := true) (Nat.le_refl _)))))).group.more (Nat.le_refl _) ?_
   simp only [List.length_append, List.length_cons]
   omega
  ·obtain ⟨a1, a2, b1, b2, b3⟩ : i + 1 < l.length ∧ i + 1 < tEnd l (i + 1) ∧ tEnd l (i + 1) < l.length ∧ tEnd l (i + 1) < tEnd l (tEnd l (i + 1)) ∧ tEnd l (tEnd l (i + 1)) = tEnd l i := ⟨hk.1, hk.2.1, hk.2.2.1, hk.2.2.2.1, hk.2.2.2.2⟩
   have q1 := ihk _ (Nat.le_refl _) a1
   have q2 := ihk _ (by omega) b1
   simp only [show ¬ (6 : Int) = 1 by decide, show ¬ (6 : Int) = 2 by decide, show ¬ (6 : Int) = 3 by decide, show ¬ (6 : Int) = 4 by decide, show ¬ (6 : Int) = 5 by decide, if_false, if_true]
   rw [hsucc]
   refine (((q1.kid (po := 6) (ko := opAt l (i + 1)) (b := false) (Nat.le_refl _)).more (Nat.le_succ _) (Nat.le_refl _)).both (Bz.deep (Bz.blank.both ((Bz.word (K := 2) (by decide)).both (q2.kid (po := 6) (ko := opAt l (tEnd l (i + 1))) (b := true) (Nat.le_refl _)))))).group.more (Nat.le_refl _) ?_
   simp only [List.length_append, List.length_cons]
   omega
  ·have hnm := tone_word hone rfl (by decide)
   have h8 := (name_facts hnm).2.1
   obtain ⟨a1, a2, b3⟩ : i + 1 < l.length ∧ i + 1 < tEnd l (i + 1) ∧ tEnd l (i + 1) = tEnd l i := ⟨hk.1, hk.2.1, hk.2.2⟩
   have q1 := ihk _ (Nat.le_refl _) a1
   simp only [show ¬ (7 : Int) = 1 by decide, show ¬ (7 : Int) = 2 by decide, show ¬ (7 : Int) = 3 by decide, show ¬ (7 : Int) = 4 by decide, show ¬ (7 : Int) = 5 by decide, show ¬ (7 : Int) = 6 by decide, if_false, if_true]
   rw [hsucc]
   have hw : (⟨#[108, 101, 116, 32]⟩ ++ t ++ ⟨#[32, 61]⟩ : ByteArray).size ≤ 14 := by
    rw [ByteArray.size_append, ByteArray.size_append]; show 4 + t.size + 2 ≤ 14; omega
   refine ((Bz.word hw).both (Bz.deep (Bz.blank.both (q1.both (Bz.word (K := 1) (by decide)))))).group.more (Nat.le_refl _) ?_
   simp only [List.length_append, List.length_cons, List.length_nil]
   omega
  ·obtain ⟨a1, a2, b3⟩ : i + 1 < l.length ∧ i + 1 < tEnd l (i + 1) ∧ tEnd l (i + 1) = tEnd l i := ⟨hk.1, hk.2.1, hk.2.2⟩
   have q1 := ihk _ (Nat.le_refl _) a1
   simp only [show ¬ (8 : Int) = 1 by decide, show ¬ (8 : Int) = 2 by decide, show ¬ (8 : Int) = 3 by decide, show ¬ (8 : Int) = 4 by decide, show ¬ (8 : Int) = 5 by decide, show ¬ (8 : Int) = 6 by decide, show ¬ (8 : Int) = 7 by decide, if_false]
   rw [hsucc]
   refine ((q1.more (Nat.le_succ _) (Nat.le_refl _)).both (Bz.word (K := 1) (by decide))).more (Nat.le_refl _) ?_
   simp only [List.length_append, List.length_cons, List.length_nil]
   omega
theorem Few.groups {width : Int} {l : List ByteArray} (h : Few width l) : ∀ (f i : Nat), l.length ≤ i + f → ∃ gs : List (List ByteArray), linesG width l f i = gs.map fillJ ∧ gs.flatten = l.drop i ∧ ∀ g ∈ gs, g ≠ [] := by
 intro f
 induction f with
 | zero => intro i hi; exact ⟨[], rfl, by rw [List.drop_eq_nil_of_le (by omega)]; rfl, by simp⟩
 | succ f ih =>
  intro i hi
  rw [linesG]
  split
  ·rename_i hl
   exact ⟨[], rfl, by rw [List.drop_eq_nil_of_le hl]; rfl, by simp⟩
  ·rename_i hl
   obtain ⟨_, _, h1, h2, _⟩ := h.at_ (i := i) (by omega)
   obtain ⟨gs, g1, g2, g3⟩ := ih (i + manyAt width l i) (by omega)
   refine ⟨(l.drop i).take (manyAt width l i) :: gs, by rw [g1]; rfl, ?_, fun g hg => ?_⟩
   ·rw [List.flatten_cons, g2, ← List.drop_drop, List.take_append_drop]
   ·rcases List.mem_cons.1 hg with rfl | hg
    ·intro e
     have := congrArg List.length e
     rw [List.length_take, List.length_drop] at this
     simp at this
     omega
    ·exact g3 g hg
theorem noteB_lx : ∀ {gs : List (List ByteArray)}, (∀ g ∈ gs, g ≠ []) → (∀ g ∈ gs, ∀ w ∈ g, wordF w = true) → Lx false (gs.map lineK) (noteB (gs.map fillJ)).data.toList
 | [], _, _ => Lx.nil
 | g :: gs, h0, h => by
  have hg := h g (by simp)
  have hj : Lib.join (g.map (·.data.toList)) [32] = (fillJ g).data.toList := by simp [fillJ]
  rw [List.map_cons, List.map_cons, noteB_toList]
  have hlk : lineK g = 35 :: 32 :: (fillJ g).data.toList := by rw [lineK, hj]
  have hb := line_bytes hg
  rw [hlk] at hb ⊢
  have h1 : Lx false [35 :: 32 :: (fillJ g).data.toList] (35 :: (32 :: (fillJ g).data.toList) ++ [10]) := Lx.note (w := 32 :: (fillJ g).data.toList) (fun c hc => by
   have := hb c (by simp only [List.mem_cons] at hc ⊢; exact .inr hc)
   simp only [prB, Bool.and_eq_true, decide_eq_true_eq]; exact this) (trim_line hg (h0 g (by simp)) hj)
  have h2 := h1.app (noteB_lx (gs := gs) (fun x hx => h0 x (by simp [hx])) (fun x hx => h x (by simp [hx]))) (fun e => by cases e)
  have e : 35 :: (32 :: (fillJ g).data.toList) ++ [10] ++ (noteB (gs.map fillJ)).data.toList = 35 :: 32 :: ((fillJ g).data.toList ++ 10 :: (noteB (gs.map fillJ)).data.toList) := by simp
  rw [e] at h2
  exact h2
theorem noteB_len : ∀ {gs : List (List ByteArray)}, (∀ g ∈ gs, g ≠ []) → (∀ g ∈ gs, ∀ w ∈ g, w.size ≤ 20) → (noteB (gs.map fillJ)).size ≤ 23 * gs.flatten.length
 | [], _, _ => by simp [noteB]
 | g :: gs, h0, h => by
  have ih := noteB_len (gs := gs) (fun x hx => h0 x (by simp [hx])) (fun x hx => h x (by simp [hx]))
  have hl := List.length_pos_iff.2 (h0 g (by simp))
  have h1 := fillJ_size g hl
  have h2 := sum_le g (h g (by simp))
  simp only [List.map_cons, noteB, ByteArray.size_append, List.flatten_cons, List.length_append]
  show 2 + (fillJ g).size + 1 + (noteB (gs.map fillJ)).size ≤ _
  unfold longW at h1
  omega
theorem noteT_lx {x : ByteArray} (h1 : treeOne 9 x 0 = 0) {W : Int} (hw : wideF W = true) : (∃ tk, NoteK x tk ∧ Lx false tk (noteT x W).data.toList) ∧ (noteT x W).size ≤ 1500 := by
 by_cases h0 : noteL x = []
 ·rw [noteT, if_pos h0]
  exact ⟨⟨[[35]], .inl ⟨h0, rfl⟩, Lx.note (w := []) (by simp) (by decide)⟩, by decide⟩
 ·rw [noteT, if_neg h0]
  obtain ⟨hfew, _⟩ := note_few h1 hw
  have hwf : wordsF (noteL x) = 0 := by
   unfold treeOne at h1
   split at h1
   ·cases h1
   ·split at h1
    ·cases h1
    ·simpa using h1
  obtain ⟨hlen, hws⟩ := wordsF_facts hwf
  obtain ⟨gs, g1, g2, g3⟩ := hfew.groups (noteL x).length 0 (by omega)
  rw [List.drop_zero] at g2
  have hfill : fillW (W - 2) (noteL x) = gs.map fillJ := by rw [fillW, linesAt, Nat.sub_zero]; exact g1
  have hmem : ∀ g ∈ gs, ∀ w ∈ g, w ∈ noteL x := fun g hg w hw => by rw [← g2]; exact List.mem_flatten.2 ⟨g, hg, hw⟩
  rw [hfill]
  refine ⟨⟨gs.map lineK, .inr ⟨gs, fun e => ?_, g3, g2, rfl⟩, noteB_lx g3 fun g hg w hw => hws w (hmem g hg w hw)⟩, ?_⟩
  ·rw [e] at g2; exact h0 g2.symm
  ·have := noteB_len g3 (fun g hg w hw => (wordF_facts (hws w (hmem g hg w hw))).2.1)
   rw [g2] at this
   omega
theorem oneX_lx {l : List Nd} {W : Int} (h : oneQ l W = 0) : (∃ tk, PcK l tk ∧ Lx false tk (oneX l W).data.toList) ∧ (oneX l W).size ≤ 90 * nTok l + 1500 := by
 obtain ⟨hw, ht, h4⟩ := oneQ_zero h
 by_cases h9 : opAt l 0 = 9
 ·obtain ⟨x, rfl, h1⟩ := tree_note ht h9
  have hx : oneX [⟨9, x, 0⟩] W = noteT x W := by rw [oneX, if_pos h9]; rfl
  rw [hx]
  obtain ⟨⟨tk, t1, t2⟩, hz⟩ := noteT_lx h1 hw
  exact ⟨⟨tk, .inr ⟨x, rfl, t1⟩, t2⟩, by omega⟩
 ·obtain ⟨x, hx⟩ := docL_doc ht h9 (by have := h4 h9; omega)
  have hr : oneX l W = bT W.toNat x ++ ⟨#[10]⟩ := by rw [oneX, if_neg h9, hx.root]
  have hlay := (hx.best_shown W.toNat).lay
  have hT := Tr.of_check ht
  have h0 := hT.pos0
  have hoe : opAt l 0 = (l[0]'h0).op := by rw [opAt, getD_at h0]
  rw [hr]
  refine ⟨⟨tokT l l.length 0, .inl ⟨h9, rfl⟩, lx_stmt ht h9 fun y y1 y2 => .inr ⟨0, bU W.toNat x, [], ?_⟩⟩, ?_⟩
  ·obtain rfl := hx.same y1 y2
   exact hlay
  ·obtain ⟨y, y1, y2, y3, _⟩ := docT_bz hT l.length 0 (by omega) h0 (by rw [← hoe]; exact h9)
   obtain rfl := hx.same y1 y2
   have := y3 _ _ _ _ (by omega) (by have := hT.len; show 0 + 2 * (l.length - 0) ≤ 80; omega) hlay
   rw [nTok, if_neg h9, ByteArray.size_append]
   show _ + 1 ≤ _
   omega
theorem formE_all {W : Int} : ∀ {p : List (List Nd)}, formE W p = 0 → ∀ u ∈ p, oneQ u W = 0
 | [], _, u, hu => by cases hu
 | v :: r, h, u, hu => by
  rw [formE] at h
  split at h
  ·rename_i hq; exact absurd h hq
  ·rename_i hq
   rcases List.mem_cons.1 hu with rfl | hu
   ·simpa using hq
   ·exact formE_all h u hu
theorem formT_bytes (W : Int) : ∀ p : List (List Nd), (formT W p).data.toList = p.flatMap fun u => (oneX u W).data.toList
 | [] => rfl
 | u :: r => by rw [formT, ByteArray.data_append, Array.toList_append, formT_bytes W r, List.flatMap_cons]
theorem formT_size {W : Int} : ∀ {p : List (List Nd)}, (∀ u ∈ p, oneQ u W = 0) → (formT W p).size ≤ 90 * (p.map nTok).sum + 1500 * p.length
 | [], _ => by simp [formT]
 | u :: r, h => by
  have h1 := (oneX_lx (h u (by simp))).2
  have h2 := formT_size (p := r) (fun v hv => h v (by simp [hv]))
  rw [formT, ByteArray.size_append, List.map_cons, List.sum_cons, List.length_cons]
  omega
theorem parse_form {p : List (List Nd)} {W : Int} (h0 : (progF p).2 = 0) (hn : (p.map nTok).sum ≤ 300) (h : formE W p = 0) : parseF (formT W p) = (0, 0, p) ∧ (formT W p).size ≤ 60000 := by
 have hf := progF_facts h0
 have hq := formE_all h
 obtain ⟨q, q1, q2, q3⟩ := print_lx (fun u => oneX u W) hf.2.1 (fun u hu => (oneX_lx (hq u hu)).1)
 rw [← formT_bytes] at q3
 have hz : (formT W p).size ≤ 60000 := by
  have := formT_size hq
  have := hf.1
  omega
 have h1 := parse_text hz q2 (by rw [q1]; exact h0) q3
 rw [q1, if_neg (by omega)] at h1
 exact ⟨h1, hz⟩
end Go.Proofs.YtddfdmopaeghnabGreatDoor
namespace Go.Proofs.YtddfdmopaeghnabGreatDoor
open Go.RowKit
theorem fmt_ok_is {s : ByteArray} {W : Int} {k : Nat} {T : ByteArray} (h : fmtF s W = (0, k, T)) (w : World) (hs : s.size ≤ maxLen) (hm : MaxL w) (hp : PowT w) : Calls Tryz.prog 12 #[.string s, .int .i64 W] w (Ret w (.tuple #[.string T, .int .i64 (k : Nat), .nilIface])) := by
 have := fmt_any s W w hs hm hp
 rw [h] at this
 exact this
theorem fmt_bad_is {s : ByteArray} {W f : Int} {k : Nat} {T : ByteArray} (h : fmtF s W = (f, k, T)) (hf : f ≠ 0) (w : World) (hs : s.size ≤ maxLen) (hm : MaxL w) (hp : PowT w) : Calls Tryz.prog 12 #[.string s, .int .i64 W] w (Ret w (.tuple #[.string T, .int .i64 (k : Nat), .iface 56 (.int .i64 f)])) := by
 have := fmt_any s W w hs hm hp
 rw [h, ← errV_pos hf] at this
 exact this
theorem parse_okB {s : ByteArray} {k n : Nat} {l : List (List Nd)} (h : parseF s = (0, k, l)) (hn : l.length = n) (w : World) (hs : s.size ≤ maxLen) (hm : MaxL w) : Calls Tryz.prog 16 #[.string s] w fun e w' => ∃ A c, e = .returned (.tuple #[.slice A n c, .int .i64 (k : Nat), .nilIface]) ∧ PrgF w.heap.size w' A l ∧ Below w.heap.size w w' := by
 have := parse_ok (s := s) (by rw [h]) w hs hm
 rw [h] at this
 subst hn
 exact this
theorem fmt_parts {s : ByteArray} {W : Int} (h : (fmtF s W).1 = 0) : wideF W = true ∧ (parseF s).1 = 0 ∧ formE W (parseF s).2.2 = 0 ∧ fmtF s W = (0, 0, formT W (parseF s).2.2) := by
 unfold fmtF at h ⊢
 split at h
 ·cases h
 ·rename_i hw
  split at h
  ·rename_i hf; exact absurd h hf
  ·rename_i hf
   split at h
   ·rename_i he; exact absurd h he
   ·rename_i he
    rw [if_neg hw, if_neg hf, if_neg he]
    exact ⟨by simpa using hw, by simpa using hf, by simpa using he, rfl⟩
theorem fmt_of {s : ByteArray} {k : Nat} {p : List (List Nd)} (h : parseF s = (0, k, p)) (W : Int) : fmtF s W = if wideF W = false then (1, 0, .empty) else if formE W p ≠ 0 then (formE W p, 0, .empty) else (0, 0, formT W p) := by
 rw [fmtF, h]
 simp
end Go.Proofs.YtddfdmopaeghnabGreatDoor
namespace Go.Proofs.YtddfdmopaeghnabGreatDoor
open Go.RowKit
set_option maxHeartbeats 1000000 in
theorem differs_same (T : ByteArray) (w : World) : Calls Tryz.prog 35 #[.string T, .string T] w (Ret w (.int .i64 (-1))) := by
 have hb1 : (T.toList == T.toList) = true := by simp
 go_enter Tryz.func35, Tryz.ntmps35
 go_wp2
 go_ret
 exact ⟨rfl, Below.refl _ _⟩
set_option maxHeartbeats 2000000 in
theorem check_same {T : ByteArray} {W : Int} {k : Nat} (h : fmtF T W = (0, k, T)) (w : World) (hs : T.size ≤ maxLen) (hm : MaxL w) (hp : PowT w) :
  Calls Tryz.prog 14 #[.string T, .int .i64 W] w (Ret w (.tuple #[.int .i64 (-1), .int .i64 0, .nilIface])) := by
 have HF := Lib.hid (fmt_ok_is h w hs hm hp)
 clear h hs hm hp
 go_enter Tryz.func14, Tryz.ntmps14
 go_wp2_with (first
  | (go_at_call 12; refine HF.out.mono ?_; rintro e w1 ⟨rfl, hB1⟩; have HB1 := Lib.hid hB1; clear hB1)
  | (go_at_call 35; refine (differs_same T _).mono ?_; rintro e w2 ⟨rfl, hB2⟩; have HB2 := Lib.hid (HB1.out.trans (hB2.mono HB1.out.size)); clear hB2))
 go_ret3
 exact ⟨rfl, HB2.out⟩
end Go.Proofs.YtddfdmopaeghnabGreatDoor
namespace Go.Proofs.YtddfdmopaeghnabGreatDoor
open Go.RowKit
def factOI : ByteArray := ⟨#[102, 40, 32, 49, 32, 41, 59]⟩
def factOO : ByteArray := ⟨#[102, 40, 49, 41, 59, 10]⟩
def factOP : List Nd := [⟨8, .empty, 0⟩, ⟨3, ⟨#[102]⟩, 1⟩, ⟨1, .empty, 1⟩]
theorem factO_parse : parseF factOI = (0, 0, [factOP]) ∧ parseF factOO = (0, 0, [factOP]) := ⟨by kernel_rfl, by kernel_rfl⟩
theorem factO_one : oneQ factOP 20 = 0 ∧ oneX factOP 20 = factOO := ⟨by kernel_rfl, by kernel_rfl⟩
theorem factO_err : formE 20 [factOP] = 0 := by
 rw [formE, if_neg (by rw [factO_one.1]; simp)]; rfl
theorem factO_text : formT 20 [factOP] = factOO := by
 rw [formT, factO_one.2, formT]; simp
theorem factO_is : fmtF factOI 20 = (0, 0, factOO) := by
 rw [fmt_of factO_parse.1, if_neg (by decide), if_neg (by rw [factO_err]; simp), factO_text]
theorem factO_again : fmtF factOO 20 = (0, 0, factOO) := by
 rw [fmt_of factO_parse.2, if_neg (by decide), if_neg (by rw [factO_err]; simp), factO_text]
set_option maxHeartbeats 2000000 in
theorem topOne_any (w : World) (hm : MaxL w) (hp : PowT w) : Calls Tryz.prog 5 #[] w (Ret w (.bool true)) := by
 have HF := Lib.hid (fmt_ok_is factO_is w (by decide) hm hp)
 have HC := Lib.hid (fun (w' : World) (hB : Below w.heap.size w w') => check_same factO_again w' (by decide) (hm.past hB) (hp.past hB))
 unfold factOI factOO at HF
 unfold factOO at HC
 clear hm hp
 go_enter Tryz.func5, Tryz.ntmps5
 go_wp2_with (first
  | (go_at_call 12; refine HF.out.mono ?_; rintro e w1 ⟨rfl, hB1⟩; have HB1 := Lib.hid hB1; clear hB1)
  | (go_at_call 14; refine (HC.out _ HB1.out).mono ?_; rintro e w2 ⟨rfl, hB2⟩; have HB2 := Lib.hid (HB1.out.trans (hB2.mono HB1.out.size)); clear hB2))
 go_ret
 exact ⟨by first | rfl | (simp; done), HB2.out⟩
theorem parse_lex {s : ByteArray} {k : Nat} {p : List (List Nd)} (h : parseF s = (0, k, p)) : (lexE s).1 = 0 := by
 by_cases he : (lexE s).1 = 0
 ·exact he
 ·have := parseF_lex he
  rw [h] at this
  injection this with h1
  exact absurd h1.symm he
theorem parse_words {s x : ByteArray} {k : Nat} {p : List (List Nd)} (h : parseF s = (0, k, p)) (hx : (lexE x).1 = 0) (hw : wordBs (lexWs x) = wordBs (lexWs s)) : parseF x = (0, 0, p) := by
 have he := parse_lex h
 have hwb : wordsB x = wordsB s := hw
 unfold parseF at h ⊢
 rw [if_neg (by simp [he])] at h
 rw [if_neg (by simp [hx]), hwb]
 cases hp : progP (wordsB s) (wordsB s).length [] 0 with
 | error y => rw [hp] at h; simp at h
 | ok l =>
  rw [hp] at h
  simp only at h ⊢
  split at h
  ·rename_i hne
   injection h with h1
   exact absurd h1 hne
  ·rename_i hne
   rw [if_neg hne]
   injection h with _ h2
   injection h2 with _ h3
   rw [h3]
theorem lsame_ok {s t : ByteArray} {k j : Nat} {p : List (List Nd)} (h1 : parseF s = (0, k, p)) (h2 : parseF t = (0, j, p)) (w : World) (hs : s.size ≤ maxLen) (ht : t.size ≤ maxLen) (hm : MaxL w) :
  Calls Tryz.prog 13 #[.string s, .string t] w (Ret w (.tuple #[.bool true, .nilIface])) :=
 (same_any s t w hs ht hm).mono fun e w' h => by
  unfold SameTo at h
  rw [show sameB s t = true by rw [sameB, if_neg (by rw [h1]; simp), if_neg (by rw [h2]; simp), h1, h2]; exact sameP_iff.2 rfl, show sameF s t = 0 by rw [sameF, if_neg (by rw [h1]; simp), h2]] at h
  exact h
theorem lex_ok_t {s : ByteArray} (h : (lexE s).1 = 0) (w : World) (hs : s.size ≤ maxLen) : Calls Tryz.prog 15 #[.string s] w (LexOk s w) :=
 (lex_any s w hs).mono fun _ _ hh => by
  rcases hh with ⟨h1, _⟩ | ⟨_, h2⟩
  ·exact absurd h h1
  ·exact h2
end Go.Proofs.YtddfdmopaeghnabGreatDoor
