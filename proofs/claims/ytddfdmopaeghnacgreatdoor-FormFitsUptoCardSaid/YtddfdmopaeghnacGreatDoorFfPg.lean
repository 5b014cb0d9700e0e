/- What every law's row wants: arguments read as before behind a call that leaves old memory as it was; slices of nodes, of texts, of numbers opened. No condition. A slice of statement nodes as an argument, opened, with what a bound on the bulk gives; the library's variable MaxLen. No condition. A world that holds the listed tables math/bits.deBruijn32tab, deBruijn64tab, internal/strconv.uint64pow10, unicode/utf8.first, acceptRanges; what they give a walk. No condition. Walks: page.Wide, page.note, page.One. Conditions: the slice of nodes lies below the call's own blocks; the texts are shorter than 4294967281 bytes; internal/bytealg.MaxLen holds some number; the table of the powers of ten reads as the program's text lays it; what way.Of hands back is given. Plain: a note in lines: no blank ahead of a new line; what fits stands in one line. No program, no condition. Walk: page.One. Conditions: the slice of nodes lies below the call's own blocks; the texts are shorter than 4294967281 bytes; internal/bytealg.MaxLen holds some number; the table of the powers of ten reads as the program's text lays it; what way.Of hands back is given. Plain: what page.One's text is like; what a program of one statement prints. No program, no condition but that the statement's doc is one. Walk of the reference's DocOf, joined. Conditions: the slice of nodes lies below the call's own blocks and is a statement that may be. Walks: the reference's Wide, the law's laid. Conditions: the slices lie below the call's own blocks; the statements may be. Walks of the reference's Less, CostOf. Conditions: the text's size is that of a text; the numbers are small. Walk: way.Show. Condition: both slices lie below the call's own blocks. way.Show by its law's own words: what is shown, what is not (over way.Of's contract); small facts for the laws' walks. Conditions: the slices lie below the call's own blocks. way.Of: the walk's heavy part 1. Nothing else. Walk: way.Of, its parts joined. Condition: the slice lies below the call's own blocks. Walk of pargetrylaw2.FormFits. Conditions: the slices lie below the call's own blocks; the texts are shorter than 4294967281 bytes; internal/bytealg.MaxLen holds some number; the table of the powers of ten reads as the program's text lays it. -/
import Derived.Test.YtddfdmopaeghnacGreatDoorRows
import Derived.Test.YtddfdmopaeghnacGreatDoorMem
import Derived.ProofKit
import Derived.Deep.Slices
import Derived.SizedLaws
import Derived.Test.YtddfdmopaeghnacGreatDoorTreeC
import Derived.Deep.DeepHandedRow
import Derived.Lib.LaidTab
import Derived.Shelf.Vars
import Derived.Test.YtddfdmopaeghnacGreatDoorFfSy
import Derived.LaidHandle
import Derived.LaidLaws
import Derived.RowKit
import Derived.Lib.TrailingZeros
import Derived.Lib.ItoaNum
import Derived.Test.YtddfdmopaeghnacGreatDoorFfFi
import Derived.Test.YtddfdmopaeghnacGreatDoorFfBe
import Derived.Test.YtddfdmopaeghnacGreatDoorFfTk
import Derived.Test.YtddfdmopaeghnacGreatDoorRmU
import Derived.Test.YtddfdmopaeghnacGreatDoorCstP
import Derived.Test.YtddfdmopaeghnacGreatDoorDocW
import Derived.Laws.ResultCell
import Derived.Test.YtddfdmopaeghnacGreatDoorWayW
import Derived.Test.YtddfdmopaeghnacGreatDoorShowP
import Derived.Test.YtddfdmopaeghnacGreatDoorAllP
import Derived.Test.YtddfdmopaeghnacGreatDoorOfS
import Derived.Test.YtddfdmopaeghnacGreatDoorNdS
import Derived.Test.YtddfdmopaeghnacGreatDoorOfE0
import Derived.Test.YtddfdmopaeghnacGreatDoorOfE2
import Derived.Test.YtddfdmopaeghnacGreatDoorOfE3
import Derived.Test.YtddfdmopaeghnacGreatDoorTRefF
namespace Go.Proofs.YtddfdmopaeghnacGreatDoor
open Go.ChangeShapes Go.WideShapes Go.ChangeAt Go.RowKit Go.Deep

theorem own : ownKnob Tryz.prog.godebug = none := by kernel_rfl
theorem laidOut : laidOutB Tryz.prog = true := by kernel_rfl

section
variable {H : Type} {enc : TypeId × Value → H} {P : Program}

theorem trodAll_stay (hl : laidOutB P = true) {W W' : World} (hb : Below W.heap.size W W') {sp : Nat → Bool} :
    ∀ {ts : List TypeId} {vs : List Value} {ds : List (DataW H)} {p : List MemPlace}, (∀ t ∈ ts, P.readableRec t = true ∧ t < P.types.size) →
      DataW.TrodAll enc P W 0 (fun _ => true) true ts vs ds p → (∀ x ∈ p, x.block < W.heap.size) → (∀ x ∈ p, sp x.block = true) → DataW.TrodAll enc P W' 0 sp true ts vs ds p
  | [], _, _, _, _, h, _, _ => by
    obtain ⟨rfl, rfl, rfl⟩ := trodAll_nil h
    exact h
  | t :: ts, _, _, _, hr, h, hlt, hsp => by
    obtain ⟨v, vs1, d, ds1, a, b, rfl, rfl, rfl, h1, h2⟩ := trodAll_cons h
    obtain ⟨r1, r2⟩ := hr t (by simp)
    exact ⟨a, b, WideElems.Trod_stays hl r1 r2 h1 (fun x hx => hb.same (hlt x (List.mem_append_left _ hx))) (fun x hx => hsp x (List.mem_append_left _ hx)),
      trodAll_stay hl hb (fun t ht => hr t (by simp [ht])) h2 (fun x hx => hlt x (List.mem_append_right _ hx)) (fun x hx => hsp x (List.mem_append_right _ hx)), rfl⟩

/-- A law's end: true, old memory as it was. -/
theorem law_post {f : Func} {s : ChangeSpec} {W W' : World} {args : Array Value} {ds gs : List (DataW H)} {before : List MemPlace} {t : TypeId}
    (hW : DataW.Whole enc P f.params.toList s.vars false W args.toList ds gs before) (hv : s.vars = [])
    (hfn : s.fn H (ds ++ []) = { results := [.lit (.bool true)], args := ds }) (hres : f.resultTypes = #[t]) (ht : P.underlying t = some .bool)
    (hl : laidOutB P = true) (hr : (f.params.toList.all fun t => P.readableRec t && decide (t < P.types.size)) = true) (hb : Below W.heap.size W W') :
    s.post enc P f false true false false W args (.bool true) W' := by
  have hW0 := hW
  have hlt : ∀ x ∈ before, x.block < W.heap.size := fun x hx => hW.lt x hx
  obtain ⟨p, q, hA, hV, rfl, hfz, hnd⟩ := hW
  rw [hv] at hV
  obtain ⟨rfl, rfl⟩ := trodVars_none hV
  have hr' : ∀ t ∈ f.params.toList, P.readableRec t = true ∧ t < P.types.size := fun t ht => by
    have := List.all_eq_true.1 hr t ht
    simpa using this
  refine ⟨ds, [], p ++ [], [], p, [], hW0, ?_, ?_, ?_, hb.frame _, fun h => by cases h⟩
  · rw [hfn, hres]
    exact trodAll_mk1 (shut_bool ht true)
  · rw [hfn]
    refine trodAll_stay hl hb hr' hA (fun x hx => hlt x (by simpa using hx)) (fun x hx => by simpa using hlt x (by simpa using hx))
  · rw [hfn, hv]
    exact rfl

/-- A slice of whatever elements, opened to their cells. -/
theorem open_sl {W : World} {t e : TypeId} {sz base : Nat} {v : Value} {d : DataW H} {p : List MemPlace} (ht : P.underlying t = some (.slice e)) (hC : P.cellsOf e = sz) (hz : 0 < sz)
    (hv : Value.okWide P W .any base t v) (h : DataW.Trod enc P W 0 (fun _ => true) true t v d p) (hlt : ∀ x ∈ p, x.block < W.heap.size) :
    ∃ (A : Option Addr) (n c : Nat) (css : List (List Value)), v = .slice A n c ∧ css.length = n ∧ Sl W W.heap.size sz A n css.flatten ∧ n ≤ c ∧ n ≤ maxLen ∧
      (d = .nil ∨ ∃ elems spare : List (DataW H), d = .slice elems spare ∧ elems.length = n) ∧
      ∀ cs ∈ css, cs.length = sz ∧ ∃ (k : Nat) (y : DataW H × List MemPlace), DataW.trod enc P W 0 (fun _ => true) true k e cs = some y ∧ (∀ x ∈ y.2, x ∈ p) ∧ ∃ elems spare : List (DataW H), d = .slice elems spare ∧ y.1 ∈ elems := by
  obtain ⟨A, n, c, rfl⟩ := okWide_slice ht hv
  obtain ⟨fuel, hf⟩ := h
  rcases open_slice ht hf with ⟨hcs, hx⟩ | ⟨a, len, cap, m, k, D, Pl, hcs, _, hl, hm, hmm, hx, hi⟩
  · simp [Value.cells] at hcs
    obtain ⟨rfl, rfl, rfl⟩ := hcs
    exact ⟨none, 0, 0, [], rfl, rfl, .nil_, Nat.le_refl _, by simp [maxLen], .inl (by cases hx; rfl), by simp⟩
  · simp [Value.cells] at hcs
    obtain ⟨rfl, rfl, rfl⟩ := hcs
    simp only [if_true] at hmm
    subst hmm
    rw [hC] at hi hx
    obtain ⟨F, hF⟩ := choose_lt (α := List Value) (p := fun i cs => W.cells? 0 (a.add (i * sz)) sz = some cs ∧ DataW.trod enc P W 0 (fun _ => true) true k e cs = some (D i, Pl i)) (fun i hi' => hi i hi')
    have hlenF : ∀ i, i < m → (F i).length = sz := fun i hi' => (World.cells?_some (hF i hi').1).2.1
    have hflat : ∀ (q : Nat), q ≤ m → ((List.range q).map F).flatten.length = q * sz ∧ ∀ i j, i < q → j < sz → ((List.range q).map F).flatten[i * sz + j]? = (F i)[j]? := by
      intro q
      induction q with
      | zero => intro _; exact ⟨by simp, fun i j hi' => absurd hi' (by omega)⟩
      | succ q ih =>
        intro hq
        obtain ⟨h1, h2⟩ := ih (by omega)
        have e1 : ((List.range (q + 1)).map F).flatten = ((List.range q).map F).flatten ++ F q := by simp [List.range_succ]
        rw [e1]
        refine ⟨by rw [List.length_append, h1, hlenF q (by omega), Nat.add_mul, Nat.one_mul], fun i j hi' hj => ?_⟩
        rcases Nat.lt_or_ge i q with hlt' | hge
        · have : i * sz + j < q * sz := by
            have : (i + 1) * sz ≤ q * sz := Nat.mul_le_mul_right _ hlt'
            rw [Nat.add_mul] at this; omega
          rw [List.getElem?_append_left (by omega)]
          exact h2 i j hlt' hj
        · obtain rfl : i = q := by omega
          rw [List.getElem?_append_right (by omega), h1]
          congr 1; omega
    have hp : p = MemPlace.row a (m * sz) ++ (List.range m).flatMap Pl := by cases hx; rfl
    refine ⟨some a, n, m, (List.range n).map F, rfl, by simp, ⟨(hflat n hl).1, fun hn => ?_⟩, hl, Nat.le_trans hl hm, .inr ⟨_, _, (by cases hx; rfl), by simp⟩, ?_⟩
    · have hmpos : 0 < m * sz := Nat.mul_pos (by omega) hz
      have hblk : a.block < W.heap.size := hlt (.cell a.block (a.off + 0)) (by rw [hp]; exact List.mem_append_left _ (MemPlace.mem_row.2 ⟨0, hmpos, rfl⟩))
      have hc0 : ∀ i j, i < m → j < sz → W.cell? ((a.add (i * sz)).add j) = (F i)[j]? := fun i j h1 h2 => (World.cells?_some (hF i h1).1).2.2 j h2
      have hspot : a.spot = none := by
        have h0 := hc0 0 0 (by omega) hz
        rw [Nat.zero_mul, List.getElem?_eq_getElem (by rw [hlenF 0 (by omega)]; exact hz)] at h0
        simp only [Addr.add, if_true, World.cell?] at h0
        split at h0
        · split at h0
          · cases h0
          · rename_i hs
            cases hsp : a.spot with
            | none => rfl
            | some _ => simp [hsp] at hs
        · cases h0
      have ha : a = ⟨a.block, a.off, none⟩ := by
        cases a
        simp only at hspot
        subst hspot
        rfl
      refine ⟨a.block, a.off, congrArg some ha, hblk, fun j u hu => ?_⟩
      have hjl : j < n * sz := by
        rw [← (hflat n hl).1]
        exact (List.getElem?_eq_some_iff.1 hu).1
      have hdiv : j / sz < n := (Nat.div_lt_iff_lt_mul hz).2 hjl
      have hmod := Nat.mod_lt j hz
      have hj : j = j / sz * sz + j % sz := by rw [Nat.mul_comm]; exact (Nat.div_add_mod j sz).symm
      have h1 := (hflat n hl).2 (j / sz) (j % sz) hdiv hmod
      rw [← hj, hu] at h1
      have h2 := hc0 (j / sz) (j % sz) (by omega) hmod
      rw [Go.Deep.add_add, ← hj, ← h1] at h2
      rw [← h2]
      unfold Addr.add
      split
      · rename_i h0; rw [h0, Nat.add_zero, ← ha]
      · rfl
    · intro cs hcs
      obtain ⟨i, hi', rfl⟩ := List.mem_map.1 hcs
      have hi2 : i < m := by have := List.mem_range.1 hi'; omega
      refine ⟨hlenF i hi2, k, _, (hF i hi2).2, fun x hx' => ?_, ?_⟩
      · rw [hp]
        exact List.mem_append_right _ (List.mem_flatMap.2 ⟨i, List.mem_range.2 hi2, hx'⟩)
      · refine ⟨_, _, congrArg Prod.fst hx, ?_⟩
        exact List.mem_map_of_mem (List.mem_range.2 (List.mem_range.1 hi'))

theorem flatten_one {α : Type} (f : α → Value) (l : List α) : (l.map fun x => [f x]).flatten = l.map f := by
  induction l with
  | nil => rfl
  | cons a r ih => rw [List.map_cons, List.flatten_cons, ih]; rfl

theorem flatten_map {α : Type} {css : List (List Value)} {f : α → List Value} {l : List α} (h : css = l.map f) : css.flatten = l.flatMap f := by
  rw [h, List.flatMap_def]

/-- From each to all. -/
theorem list_of {α : Type} {p : List Value → Prop} {q : α → Prop} {f : α → List Value} {css : List (List Value)} (h : ∀ cs ∈ css, p cs) (hp : ∀ cs, p cs → ∃ a, cs = f a ∧ q a) : ∃ l : List α, css = l.map f ∧ ∀ a ∈ l, q a := by
  induction css with
  | nil => exact ⟨[], rfl, by simp⟩
  | cons cs r ih =>
    obtain ⟨a, ha, hq⟩ := hp cs (h cs (by simp))
    obtain ⟨l, hl, hql⟩ := ih (fun c hc => h c (by simp [hc]))
    refine ⟨a :: l, by rw [hl, ha]; rfl, fun x hx => ?_⟩
    rcases List.mem_cons.1 hx with rfl | hx
    · exact hq
    · exact hql x hx

/-- A slice of numbers. -/
theorem open_nums {W : World} {t e : TypeId} {base : Nat} {v : Value} {d : DataW H} {p : List MemPlace} {kd : IntKind} (ht : P.underlying t = some (.slice e)) (he : P.underlying e = some (.int kd)) (hC : P.cellsOf e = 1)
    (hv : Value.okWide P W .any base t v) (h : DataW.Trod enc P W 0 (fun _ => true) true t v d p) (hlt : ∀ x ∈ p, x.block < W.heap.size) :
    ∃ (A : Option Addr) (c : Nat) (l : List Int), v = .slice A l.length c ∧ Sl W W.heap.size 1 A l.length (l.map (.int kd)) ∧ l.length ≤ c ∧ l.length ≤ maxLen ∧ (d = .nil ∨ ∃ elems spare : List (DataW H), d = .slice elems spare ∧ elems.length = l.length) ∧ ∀ x ∈ l, (Lit.int kd x).wf = true := by
  obtain ⟨A, n, c, css, rfl, rfl, hs, hc, hm, hd, hcs⟩ := open_sl ht hC (by omega) hv h hlt
  obtain ⟨l, hl, hw⟩ := list_of (f := fun x : Int => [Value.int kd x]) (q := fun x => (Lit.int kd x).wf = true) hcs (fun cs ⟨h1, k, y, hy, _⟩ => by
    obtain ⟨x, h2, _, h3⟩ := DataW.trod_int he hy
    exact ⟨x, h2, h3⟩)
  have hfl : css.flatten = l.map (.int kd) := by rw [hl, flatten_one]
  rw [hfl] at hs
  have hlen : css.length = l.length := by rw [hl, List.length_map]
  rw [hlen] at hs hc hm hd ⊢
  exact ⟨A, c, l, rfl, hs, hc, hm, hd, hw⟩

end
end Go.Proofs.YtddfdmopaeghnacGreatDoor

namespace Go.Proofs.YtddfdmopaeghnacGreatDoor
open Go.ChangeShapes Go.WideShapes Go.ChangeAt Go.RowKit Go.Deep

theorem cellsTree : Tryz.prog.cellsOf 25 = 3 := by kernel_rfl

theorem bulk_part {H : Type} {d : DataW H} {l : List (DataW H)} (h : d ∈ l) : Rows.uptoBulk d ≤ Rows.uptoBulkAll l := by
  induction l with
  | nil => cases h
  | cons x r ih =>
    simp only [Rows.uptoBulkAll]
    cases List.mem_cons.1 h with
    | inl e => subst e; omega
    | inr e => have := ih e; omega
theorem bulk_string {H : Type} (bytes : List UInt8) : Rows.uptoBulk (DataW.lit (H := H) (.string bytes)) = bytes.length + 1 := by simp [Rows.uptoBulk]
theorem bulk_elem {H : Type} {d : DataW H} {elems spare : List (DataW H)} (h : d ∈ elems) : Rows.uptoBulk d ≤ Rows.uptoBulk (DataW.slice elems spare) := by
  have := bulk_part h
  simp only [Rows.uptoBulk]; omega
theorem bulk_field {H : Type} {d : DataW H} {parts : List (DataW H)} (h : d ∈ parts) : Rows.uptoBulk d ≤ Rows.uptoBulk (DataW.agg parts) := by
  have := bulk_part h
  simp only [Rows.uptoBulk]; omega

set_option maxRecDepth 100000 in
theorem open_trees {H : Type} {enc : TypeId × Value → H} {W : World} {base : Nat} {v : Value} {d : DataW H} {p : List MemPlace}
    (hv : Value.okWide Tryz.prog W .any base 22 v) (h : DataW.Trod enc Tryz.prog W 0 (fun _ => true) true 22 v d p) (hlt : ∀ x ∈ p, x.block < W.heap.size) :
    ∃ (A : Option Addr) (c : Nat) (l : List Nd), v = .slice A l.length c ∧ Nds W W.heap.size A l ∧ l.length ≤ c ∧ ∀ x ∈ l, x.text.size + 1 ≤ Rows.uptoBulk d := by
  obtain ⟨A, n, c, css, rfl, rfl, hs, hc, hm, hd, hcs⟩ := open_sl Tryz.underlying22 cellsTree (by omega) hv h hlt
  obtain ⟨l, hl, hw⟩ := list_of (f := ndCells) (q := fun x => x.text.size ≤ maxLen ∧ x.text.size + 1 ≤ Rows.uptoBulk d) hcs (fun cs ⟨h1, k, y, hy, _, hin⟩ => by
    obtain ⟨xs, n, _, hyx, _, hlen, hf⟩ := DataW.trod_struct Tryz.underlying25 hy
    match cs, h1 with
    | [c0, c1, c2], _ =>
      match xs, hlen with
      | [y0, y1, y2], _ =>
        have e0 := hf 0 _ rfl
        have e1 := hf 1 _ rfl
        have e2 := hf 2 _ rfl
        have k0 : Tryz.prog.cellsOf 3 = 1 := by kernel_rfl
        have k1 : Tryz.prog.cellsOf 9 = 1 := by kernel_rfl
        simp [k0, k1] at e0 e1 e2
        obtain ⟨a, ha, _, wa⟩ := DataW.trod_int Tryz.underlying3 e0
        obtain ⟨t, htx, hy1, wt⟩ := DataW.trod_string Tryz.underlying9 e1
        obtain ⟨b, hb, _, wb⟩ := DataW.trod_int Tryz.underlying3 e2
        simp at ha htx hb
        subst ha htx hb
        refine ⟨⟨a, t, b⟩, rfl, wt, ?_⟩
        obtain ⟨elems, spare, he, hmem⟩ := hin
        rw [hyx] at hmem
        have h2 : Rows.uptoBulk (DataW.lit (H := H) (.string t.data.toList)) ≤ Rows.uptoBulk (DataW.agg ([y0, y1, y2].map (·.1))) := bulk_field (by rw [hy1]; simp)
        have h3 := bulk_elem (spare := spare) hmem
        rw [bulk_string] at h2
        rw [he]
        have h4 : t.data.toList.length = t.size := by simp
        show t.size + 1 ≤ _
        simp only at h3
        omega)
  rw [flatten_map hl] at hs
  have hlen : css.length = l.length := by rw [hl, List.length_map]
  rw [hlen] at hs hc hm ⊢
  exact ⟨A, c, l, rfl, ⟨hs, hm, fun x hx => (hw x hx).1⟩, hc, fun x hx => (hw x hx).2⟩

theorem maxL_of {W : World} (h : W.ShapedOpen Tryz.prog) : MaxL W := by
  obtain ⟨m, hm⟩ := cell_of_shapedOpen_int (P := Tryz.prog) (g := 1) (t := 3) (zero := #[.int .i64 0]) (k := .i64) h (of_decide_eq_true (by kernel_rfl)) (by kernel_rfl) rfl (by kernel_rfl) (by kernel_rfl) Tryz.underlying3
  refine ⟨?_, m, hm⟩
  rcases Nat.lt_or_ge 1 W.heap.size with h1 | h1
  · exact h1
  · unfold World.cell? at hm
    simp [Array.getElem?_eq_none h1] at hm

end Go.Proofs.YtddfdmopaeghnacGreatDoor

namespace Go.Proofs.YtddfdmopaeghnacGreatDoor
open Go.RowKit

/-- The table of the powers of ten stands third on the list. -/
theorem powT_of_third {a b : String × DataW Unit} {rest : List (String × DataW Unit)} {W : World} (h : laidMet Tryz.prog (a :: b :: ("internal/strconv.uint64pow10", Lib.tabData .u64 Lib.pow10Tab) :: rest) W) : PowT W := by
  obtain ⟨ps, ⟨_, _, _, _, _, q1, _, _, _, _, ⟨_, _, _, _, _, q2, _, _, _, _, ⟨g', t', cs, fuel, p, q, hg', ht', hvar, hd, _, _⟩, _⟩, _⟩, _⟩ := h
  have hg : Tryz.prog.globalNamed "internal/strconv.uint64pow10" = some 2 := by kernel_rfl
  obtain rfl := Option.some.inj (hg.symm.trans hg')
  have hty : (Tryz.prog.globals[2]?).map (·.type) = some 302 := by kernel_rfl
  obtain rfl := Option.some.inj (hty.symm.trans ht')
  unfold PowT Lib.TabIs
  rw [hvar, ← Lib.cells_of_tab Tryz.underlying302 Tryz.underlying268 (by kernel_rfl) (by kernel_rfl) hd]

/-- A world that holds them. -/
noncomputable def tabWorld5 (os : Os) : World :=
  let w0 := World.holding Tryz.prog os ⟨#[], #[], []⟩
  { w0 with heap := ((((w0.heap.modify 5 fun
      | .cells _ t frozen => .cells (Lib.deBruijn32tab.map fun n : Nat => Value.int .u8 n).toArray t frozen
      | o => o).modify 6 fun
      | .cells _ t frozen => .cells (Lib.deBruijn64tab.map fun n : Nat => Value.int .u8 n).toArray t frozen
      | o => o).modify 2 fun
      | .cells _ t frozen => .cells (Lib.pow10Tab.map fun n : Int => Value.int .u64 n).toArray t frozen
      | o => o).modify 3 fun
      | .cells _ t frozen => .cells (Go.Pinned.utf8FirstZ.map fun n : Nat => Value.int .u8 n).toArray t frozen
      | o => o).modify 4 fun
      | .cells _ t frozen => .cells (([128, 191, 160, 191, 128, 159, 144, 191, 128, 143] ++ List.replicate 22 0).map fun n : Nat => Value.int .u8 n).toArray t frozen
      | o => o }
end Go.Proofs.YtddfdmopaeghnacGreatDoor

namespace Go.Proofs.YtddfdmopaeghnacGreatDoor
open Go.RowKit

/-- May a width be? -/
def wideF (W : Int) : Bool := decide (10 ≤ W) && decide (W ≤ 100)
theorem wide_any (W : Int) (w : World) : Calls Tryz.prog 55 #[.int .i64 W] w fun e w' => e = .returned (.bool (wideF W)) ∧ w = w' := by
  by_cases h1 : 10 ≤ W
  · by_cases h2 : W ≤ 100
    · have hr : wideF W = true := by simp [wideF, h1, h2]
      rw [hr]
      go_enter Tryz.func55, Tryz.ntmps55
      go_wp2
      go_ret
      exact ⟨by first | rfl | (simp; done) | (simp; omega), rfl⟩
    · have hr : wideF W = false := by simp [wideF, h2]
      rw [hr]
      go_enter Tryz.func55, Tryz.ntmps55
      go_wp2
      go_ret
      exact ⟨by first | rfl | (simp; done) | (simp; omega), rfl⟩
  · have hr : wideF W = false := by simp [wideF, h1]
    rw [hr]
    have h3 : decide (W ≥ 10) = false := decide_eq_false h1
    go_enter Tryz.func55, Tryz.ntmps55
    go_wp2
    go_ret
    exact ⟨by first | rfl | (simp; done) | (simp; omega), rfl⟩
theorem wideF_iff {W : Int} : wideF W = true ↔ 10 ≤ W ∧ W ≤ 100 := by simp [wideF]
/-- A note in lines. -/
def noteT (x : ByteArray) (W : Int) : ByteArray := if noteL x = [] then ⟨#[35, 10]⟩ else noteB (fillW (W - 2) (noteL x))
theorem note_few {x : ByteArray} (h1 : treeOne 9 x 0 = 0) {W : Int} (hw : wideF W = true) : Few (W - 2) (noteL x) ∧ checkedF (noteL x) (W - 2) = 0 := by
  have hwf : wordsF (noteL x) = 0 := by
    unfold treeOne at h1
    split at h1
    · cases h1
    · split at h1
      · cases h1
      · simpa using h1
  obtain ⟨h2, h3⟩ := wordsF_facts hwf
  obtain ⟨w1, w2⟩ := wideF_iff.1 hw
  refine ⟨⟨h2, fun t ht => (wordF_facts (h3 t ht)).2.1, by omega, by omega⟩, ?_⟩
  unfold checkedF
  simp only [hwf]
  split
  · rename_i h; exact absurd rfl h
  · split
    · omega
    · rfl

set_option maxRecDepth 100000 in
set_option maxHeartbeats 4000000 in
theorem pnoteT_any {x : ByteArray} {n : Nat} (hn : n = 1) {W : Int} (h1 : treeF [⟨9, x, 0⟩] = 0) (hw : wideF W = true) (A : Option Addr) (c : Nat) (w : World) (hl : Nds w w.heap.size A [⟨9, x, 0⟩]) (hsh : Short [⟨9, x, 0⟩]) (hm : MaxL w) :
    Calls Tryz.prog 56 #[.slice A n c, .int .i64 W] w fun e w' => e = .returned (.tuple #[.string (noteT x W), .nilIface]) ∧ Below w.heap.size w w' := by
  subst hn
  have hone : treeOne 9 x 0 = 0 := (Tr.of_check h1).one ⟨9, x, 0⟩ (by simp)
  obtain ⟨hfew, hck⟩ := note_few hone hw
  obtain ⟨w1, w2⟩ := wideF_iff.1 hw
  have HN := Lib.hid (lnote_cap [⟨9, x, 0⟩] A c w hl hsh hm h1 (n := 0) (t := x) rfl)
  have k1 : IntKind.i64.wrap (W - 2) = W - 2 := IntWalk.i64_in _ (by omega)
  unfold LnToC at HN
  clear hl hsh hm h1 hone hw
  by_cases h0 : noteL x = []
  · have hr : noteT x W = ⟨#[35, 10]⟩ := by rw [noteT, if_pos h0]
    rw [hr]
    rw [h0] at HN
    clear hr hfew hck h0
    go_enter Tryz.func56, Tryz.ntmps56
    go_wp2_with (go_at_call 95; refine HN.out.mono ?_; rintro e w1 ⟨A1, c1, rfl, -, hB1, -⟩; have HB := Lib.hid hB1; clear hB1)
    go_ret2
    exact ⟨rfl, HB.out⟩
  · have hr : noteT x W = noteB (fillW (W - 2) (noteL x)) := by rw [noteT, if_neg h0]
    rw [hr]
    have hfl := hfew.fill_small
    have HF := Lib.hid (fun A1 c1 w' hcap hl' => fill_ok (noteL x) A1 _ c1 rfl hcap (W - 2) w' hl' hfew hck)
    have hlen : ((noteL x).length : Int) ≠ 0 := by
      intro e
      exact h0 (List.eq_nil_of_length_eq_zero (by omega))
    have hlen2 : (((noteL x).length : Int) == 0) = false := by simpa using hlen
    generalize fillW (W - 2) (noteL x) = L at *
    unfold FillTo at HF
    obtain ⟨hl60, hls⟩ := hfl
    have HSTEP := Lib.hid (fun k (hk : k < L.length) => noteB_step hk)
    have HSZ : Hid (∀ k, (noteB (L.take k)).size ≤ 80000) := Lib.hid (fun k => by
      have h := noteB_size (l := L.take k) (fun u hu => hls u (List.mem_of_mem_take hu))
      have h2 := List.length_take_le k L
      have h3 : (L.take k).length ≤ 60 := by rw [List.length_take]; omega
      omega)
    have HE : Hid (∀ k, L.length ≤ k → noteB (L.take k) = noteB L) := Lib.hid (fun k hk => by rw [List.take_of_length_le hk])
    have HLS := Lib.hid hls
    generalize noteB L = Z at *
    clear hr hfew hck h0 hlen hls
    go_enter Tryz.func56, Tryz.ntmps56
    go_wp2_with (first
      | (go_at_call 95; refine HN.out.mono ?_; rintro e w1 ⟨A1, c1, rfl, hT1, hB1, hcap1⟩; have HT := Lib.hid hT1; have HB := Lib.hid hB1; have HCAP := Lib.hid hcap1; have hz1 := hB1.size; clear hB1 hT1 hcap1)
      | (go_at_call 96; refine (HF.out A1 c1 _ HCAP.out HT.out).mono ?_; rintro e w2 ⟨A2, c2, rfl, hT2, hB2⟩; have HT2 := Lib.hid hT2; have HB := Lib.hid (HB.out.trans (hB2.mono hz1)); have hz2 := HB.out.size; clear hB2 hT2))
    have hb1 : Below w2.heap.size w2 (w2.alloc (.cells #[.pointer none, .slice none 0 0] 104)) := (Below.refl _ _).alloc (Nat.le_refl _) _
    have HBD : Hid (Bld w2.heap.size w2.heap.size .empty (w2.alloc (.cells #[.pointer none, .slice none 0 0] 104))) := Lib.hid (Bld.new w2)
    have HB0 := Lib.hid (HB.out.trans (hb1.mono hz2))
    have HT2' := Lib.hid (HT2.out)
    clear hb1
    go_loopw [34] (fun i wr => ∃ k : Nat, k ≤ L.length ∧ i = .int .i64 k ∧ Hid (Bld w2.heap.size w2.heap.size (noteB (L.take k)) wr) ∧ Hid (Below w2.heap.size w2 wr)) (fun i _ => L.length - (intOf i).toNat)
    case atStart => exact ⟨0, by omega, rfl, HBD, Lib.hid ((Below.refl _ _).alloc (Nat.le_refl _) _)⟩
    case round =>
      clear HBD
      obtain ⟨k, hk, rfl, HBD, HBW⟩ := hrel
      by_cases hlt : k < L.length
      · obtain ⟨b, off, u, rfl, hb, hu, hc⟩ := HT2.out.1.one (k := k) hlt
        have hlk : (L.map Value.string)[k]? = some (.string L[k]) := by rw [List.getElem?_map, List.getElem?_eq_getElem hlt]; rfl
        rw [hlk] at hu
        cases hu
        have hc2 : wr.cell? ⟨b, off + k, none⟩ = some (.string L[k]) := (HBW.out.cell (p := ⟨b, off + k, none⟩) hb).trans hc
        have hsz := HLS.out _ (List.getElem_mem hlt)
        have HST := Lib.hid (HSTEP.out k hlt)
        have hks := HSZ.out k
        have hz3 := HBW.out.size
        generalize L[k] = S at *
        have hcat0 : ∀ w', (Op.stringOp .add ⟨#[35, 32]⟩ S).run Tryz.prog w' = .ok (.string (⟨#[35, 32]⟩ ++ S)) w' := fun w' => run_string_add_sum w' _ S (by show 2 + S.size ≤ _; omega)
        have hcat1 : ∀ w', (Op.stringOp .add (⟨#[35, 32]⟩ ++ S) ⟨#[10]⟩).run Tryz.prog w' = .ok (.string (⟨#[35, 32]⟩ ++ S ++ ⟨#[10]⟩)) w' := fun w' => run_string_add_sum w' _ _ (by rw [ByteArray.size_append]; show 2 + S.size + 1 ≤ _; omega)
        have hzc : (⟨#[35, 32]⟩ ++ S ++ ⟨#[10]⟩ : ByteArray).size = 2 + S.size + 1 := by rw [ByteArray.size_append, ByteArray.size_append]; rfl
        generalize noteB (L.take k) = Q at *
        generalize hCAT : (⟨#[35, 32]⟩ ++ S ++ ⟨#[10]⟩ : ByteArray) = C at *
        clear hc hlk hCAT
        go_wp2_with (go_at_call 47; refine (bld_write _ _ Q C _ HBD.out (by omega)).mono ?_; rintro e w4 ⟨rfl, hb5, hB5⟩; have HB5 := Lib.hid hb5; have HB6 := Lib.hid (HBW.out.trans hB5); clear hb5 hB5)
        go_roundw
        case measure => simp [intOf]; omega
        case rel => exact ⟨k + 1, by omega, by go_num, Lib.hid (by rw [HST.out]; exact HB5.out), HB6⟩
      · have HBZ : Hid (Bld w2.heap.size w2.heap.size Z wr) := Lib.hid (by rw [← HE.out k (by omega)]; exact HBD.out)
        clear HBD
        go_wp2_with (go_at_call 49; refine (bld_string _ _ _ _ HBZ.out).mono ?_; rintro e w5 ⟨rfl, hB5⟩; have HB7 := Lib.hid (HB.out.trans ((HBW.out.trans hB5).mono hz2)); clear hB5)
        go_ret2
        exact ⟨rfl, HB7.out⟩
end Go.Proofs.YtddfdmopaeghnacGreatDoor

namespace Go.Proofs.YtddfdmopaeghnacGreatDoor

/-- A line of words: no new line in it, no blank at its end. -/
def LineOk (s : ByteArray) : Prop := (∀ c ∈ s.data.toList, c ≠ 10) ∧ ∃ c, s.data.toList.getLast? = some c ∧ c ≠ 32
theorem noteB_toList (s : ByteArray) (r : List ByteArray) : (noteB (s :: r)).data.toList = 35 :: 32 :: (s.data.toList ++ 10 :: (noteB r).data.toList) := by
  simp only [noteB, ByteArray.data_append, Array.toList_append]
  show [35, 32] ++ s.data.toList ++ [10] ++ _ = _
  simp
theorem rn_note : ∀ {l : List ByteArray}, (∀ s ∈ l, LineOk s) → rn false (noteB l).data.toList = some false
  | [], _ => rfl
  | s :: r, h => by
    obtain ⟨h1, c, h2, h3⟩ := h s (by simp)
    rw [noteB_toList, rn, if_neg (by decide), rn, if_neg (by decide), rn_app, rn_word _ _ h1, h2]
    have e : (c == 32) = false := by simpa using h3
    simp only [e]
    rw [rn, if_pos rfl, if_neg (by decide)]
    exact rn_note (fun s hs => h s (by simp [hs]))
theorem joinE_last : ∀ {ws : List (List UInt8)}, ws ≠ [] → (∀ w ∈ ws, w ≠ [] ∧ ∀ c ∈ w, c ≠ 10 ∧ c ≠ 32) → (∀ c ∈ Lib.join ws [32], c ≠ 10) ∧ ∃ c, (Lib.join ws [32]).getLast? = some c ∧ c ≠ 32
  | [], h, _ => absurd rfl h
  | [w], _, h => by
    obtain ⟨h1, h2⟩ := h w (by simp)
    have e : Lib.join [w] [32] = w := by simp [Lib.join_cons, Lib.joinTail]
    rw [e]
    exact ⟨fun c hc => (h2 c hc).1, _, List.getLast?_eq_some_getLast h1, (h2 _ (List.getLast_mem h1)).2⟩
  | w :: v :: r, _, h => by
    obtain ⟨h1, h2⟩ := h w (by simp)
    obtain ⟨g1, c, g2, g3⟩ := joinE_last (ws := v :: r) (by simp) (fun x hx => h x (by simp at hx ⊢; exact .inr hx))
    have e : Lib.join (w :: v :: r) [32] = w ++ 32 :: Lib.join (v :: r) [32] := by simp [Lib.join_cons, Lib.joinTail]
    rw [e]
    have hne : Lib.join (v :: r) [32] ≠ [] := by intro e2; rw [e2] at g2; cases g2
    refine ⟨fun d hd => ?_, c, ?_, g3⟩
    · rcases List.mem_append.1 hd with hd | hd
      · exact (h2 d hd).1
      · rcases List.mem_cons.1 hd with rfl | hd
        · decide
        · exact g1 d hd
    · rw [last_app (by simp), List.getLast?_cons, g2]; rfl
theorem wordE_ok {w : ByteArray} (h : wordF w = true) : w.data.toList ≠ [] ∧ ∀ c ∈ w.data.toList, c ≠ 10 ∧ c ≠ 32 := by
  obtain ⟨h1, h2, h3⟩ := wordF_facts h
  refine ⟨h1, fun c hc => ?_⟩
  have := h3 c hc
  constructor <;> (rintro rfl; simp at this)
theorem fillJ_ok {l : List ByteArray} (h0 : l ≠ []) (h : ∀ w ∈ l, wordF w = true) : LineOk (fillJ l) := by
  have h1 := joinE_last (ws := l.map (·.data.toList)) (by simpa using h0) (fun w hw => by
    obtain ⟨v, hv, rfl⟩ := List.mem_map.1 hw
    exact wordE_ok (h v hv))
  simpa [LineOk, fillJ] using h1
theorem Few.lines_ok {width : Int} {l : List ByteArray} (h : Few width l) (hw : ∀ w ∈ l, wordF w = true) : ∀ (f i : Nat), ∀ s ∈ linesG width l f i, LineOk s := by
  intro f
  induction f with
  | zero => intro i s hs; cases hs
  | succ f ih =>
    intro i s hs
    rw [linesG] at hs
    split at hs
    · cases hs
    · rename_i hi
      obtain ⟨_, _, h1, h2, _⟩ := h.at_ (i := i) (by omega)
      rcases List.mem_cons.1 hs with rfl | hs
      · refine fillJ_ok ?_ (fun w hm => hw w (List.mem_of_mem_drop (List.mem_of_mem_take hm)))
        intro e
        have := congrArg List.length e
        rw [List.length_take, List.length_drop] at this
        simp at this
        omega
      · exact ih _ s hs
/-- What fits is one line. -/
theorem Few.one_line {width : Int} {l : List ByteArray} (h : Few width l) (h0 : 0 < l.length) (hf : longW l ≤ width) : fillW width l = [fillJ l] := by
  obtain ⟨e1, e2, h1, h2, h3, h4⟩ := h.at_ h0
  have hz : costAt width l 0 (0 + l.length) = 0 := by
    rw [costAt, Nat.zero_add, Nat.sub_zero, List.drop_zero, List.take_length, least_end, badW, if_neg (by omega), if_pos (by simp)]; rfl
  have hl := (h.least (i := 0) (by omega)).1
  have hle : leastAt width l 0 ≤ 0 := by
    obtain ⟨_, hs⟩ := h.scan (i := 0) (fun k q1 q2 => (h.cost q1 q2).2.2.1) (l.length - 0) (by omega)
    obtain ⟨_, _, _, _, g5, _⟩ := hs (by omega)
    have := g5 l.length (by omega) (by omega)
    rw [hz] at this
    rw [e1]; exact this
  have hm : manyAt width l 0 = l.length := by
    by_cases hc : manyAt width l 0 = l.length
    · exact hc
    · exact absurd (hz.trans (by omega)) (h4 l.length (by omega) (by omega))
  rw [fillW, h.lines_step h0, hm, List.drop_zero, List.take_length, lines_end (by omega)]
theorem noteB_end : ∀ {l : List ByteArray}, l ≠ [] → (noteB l).data.toList.getLast? = some 10 ∧ 2 ≤ (noteB l).data.toList.length
  | [], h => absurd rfl h
  | [s], _ => by
    rw [noteB_toList]
    refine ⟨?_, by simp⟩
    show (35 :: 32 :: (s.data.toList ++ [10])).getLast? = _
    rw [List.getLast?_cons_cons, List.getLast?_cons, List.getLast?_append]; rfl
  | s :: t :: r, _ => by
    have h := (noteB_end (l := t :: r) (by simp)).1
    rw [noteB_toList]
    refine ⟨?_, by simp⟩
    rw [show 35 :: 32 :: (s.data.toList ++ 10 :: (noteB (t :: r)).data.toList) = (35 :: 32 :: (s.data.toList ++ [10])) ++ (noteB (t :: r)).data.toList by simp, List.getLast?_append, h]; rfl
theorem bytes_eq {a b : ByteArray} (h : a.data.toList = b.data.toList) : a = b := ByteArray.ext (Array.toList_inj.1 h)
theorem noteT_facts {x : ByteArray} (h1 : treeOne 9 x 0 = 0) {W : Int} (hw : wideF W = true) :
    rn false (noteT x W).data.toList = some false ∧ 2 ≤ (noteT x W).data.toList.length ∧ (noteT x W).data.toList.getLast? = some 10 ∧ (((lineL [⟨9, x, 0⟩]).size : Int) ≤ W → noteT x W = lineL [⟨9, x, 0⟩] ++ ⟨#[10]⟩) := by
  have hL : lineL [⟨9, x, 0⟩] = if x.data.toList = [] then ⟨#[35]⟩ else ⟨#[35, 32]⟩ ++ x := rfl
  by_cases h0 : noteL x = []
  · have e : noteT x W = ⟨#[35, 10]⟩ := by rw [noteT, if_pos h0]
    have hx : x.data.toList = [] := by
      have := noteL_data (t := x)
      rw [h0] at this
      split at this
      · assumption
      · obtain ⟨a, b, e2⟩ := spl_ne x.data.toList
        rw [e2] at this
        cases this
    rw [e]
    refine ⟨rfl, by decide, rfl, fun _ => ?_⟩
    rw [hL, if_pos hx]; rfl
  · have e : noteT x W = noteB (fillW (W - 2) (noteL x)) := by rw [noteT, if_neg h0]
    obtain ⟨hfew, _⟩ := note_few h1 hw
    have hwf : wordsF (noteL x) = 0 := by
      unfold treeOne at h1
      split at h1
      · cases h1
      · split at h1
        · cases h1
        · simpa using h1
    have hws := (wordsF_facts hwf).2
    have hpos : 0 < (noteL x).length := List.length_pos_iff.2 h0
    have hne : fillW (W - 2) (noteL x) ≠ [] := by rw [fillW, hfew.lines_step hpos]; simp
    have hx : x.data.toList ≠ [] := by
      intro hx
      rw [noteL, if_pos (by rw [ByteArray.toList_eq]; exact hx)] at h0
      exact h0 rfl
    have hj : fillJ (noteL x) = x := joinW_noteL x
    rw [e]
    refine ⟨rn_note (fun s hs => hfew.lines_ok hws _ _ s hs), (noteB_end hne).2, (noteB_end hne).1, fun hfit => ?_⟩
    rw [hL, if_neg hx] at hfit ⊢
    have hs := fillJ_size _ hpos
    rw [hj] at hs
    have hz : (⟨#[35, 32]⟩ ++ x : ByteArray).size = 2 + x.size := by rw [ByteArray.size_append]; rfl
    rw [hfew.one_line hpos (by omega), hj]
    apply bytes_eq
    rw [noteB_toList]
    simp only [ByteArray.data_append, Array.toList_append]
    show 35 :: 32 :: (x.data.toList ++ [10]) = [35, 32] ++ x.data.toList ++ [10]
    simp
end Go.Proofs.YtddfdmopaeghnacGreatDoor

namespace Go.Proofs.YtddfdmopaeghnacGreatDoor
open Go.RowKit

/-- A note's text. -/
def noteTx : List Nd → ByteArray
  | d :: _ => d.text
  | [] => .empty
/-- One statement at a width: the fault; the text. -/
def oneQ (l : List Nd) (W : Int) : Int := if wideF W = false then 1 else if treeF l ≠ 0 then treeF l else if opAt l 0 = 9 then 0 else if 400 < (docL l).length then 3 else 0
def oneX (l : List Nd) (W : Int) : ByteArray := if opAt l 0 = 9 then noteT (noteTx l) W else bT W.toNat (docAt (docL l) 0) ++ ⟨#[10]⟩

set_option maxRecDepth 100000 in
set_option maxHeartbeats 2000000 in
theorem pone_bad (l : List Nd) (W : Int) (A : Option Addr) (c : Nat) (w : World) (hl : Nds w w.heap.size A l) (hsh : Short l) (hm : MaxL w) (hp : PowT w) (h : oneQ l W ≠ 0) :
    Calls Tryz.prog 19 #[.slice A l.length c, .int .i64 W] w (Ret w (.tuple #[.string .empty, .iface 43 (.int .i64 (oneQ l W))])) := by
  have HW := Lib.hid (fun w' => wide_any W w')
  by_cases hw : wideF W = false
  · have hq : oneQ l W = 1 := by rw [oneQ, if_pos hw]
    rw [hq]
    rw [hw] at HW
    clear hl hsh hm hp h hq hw
    go_enter Tryz.func19, Tryz.ntmps19
    go_wp2_with (go_at_call 55; refine (HW.out _).mono ?_; rintro e w1 ⟨rfl, rfl⟩)
    go_ret2
    exact ⟨rfl, Below.refl _ _⟩
  · have hw1 : wideF W = true := by simpa using hw
    rw [hw1] at HW
    by_cases ht : treeF l = 0
    · by_cases h9 : opAt l 0 = 9
      · exact absurd (by rw [oneQ, if_neg hw, if_neg (by simpa using ht), if_pos h9]) h
      · by_cases h4 : 400 < (docL l).length
        · have hq : oneQ l W = 3 := by rw [oneQ, if_neg hw, if_neg (by simpa using ht), if_neg h9, if_pos h4]
          rw [hq]
          have HK := Lib.hid (lcheck_ok l A c w hl hsh hm ht)
          have HD := Lib.hid (fun (w' : World) (hb : Below w.heap.size w w') => (ldoc_good l A c w' (hl.past hb) hsh (hm.past hb) (hp.past hb) ht h9).2 h4)
          have h0 := (Tr.of_check ht).pos0
          obtain ⟨b, off, op, t, n, rfl, hb, ho, hnd, hts, d1, d2⟩ := hl.head0 h0
          have ho9 : (op == 9) = false := by rw [← ho]; simpa using h9
          have hlen := hl.2.1
          unfold maxLen at hlen
          clear hl hsh hm hp h hq hw ho hnd h9 h4
          go_enter Tryz.func19, Tryz.ntmps19
          go_wp2_with (first
            | (go_at_call 55; refine (HW.out _).mono ?_; rintro e w1 ⟨rfl, rfl⟩)
            | (go_at_call 41; refine HK.out.mono ?_; rintro e w2 ⟨rfl, hB2⟩; have e1 := (hB2.cell (p := ⟨b, off, none⟩) hb).trans d1; have HB := Lib.hid hB2; clear hB2)
            | (go_at_call 13; refine (HD.out _ HB.out).mono ?_; rintro e w3 ⟨rfl, hB3⟩; have HB3 := Lib.hid (HB.out.trans (hB3.mono HB.out.size)); clear hB3))
          go_ret2
          exact ⟨rfl, HB3.out⟩
        · exact absurd (by rw [oneQ, if_neg hw, if_neg (by simpa using ht), if_neg h9, if_neg h4]) h
    · have hq : oneQ l W = treeF l := by rw [oneQ, if_neg hw, if_pos ht]
      rw [hq]
      have HK := Lib.hid (lcheck_bad l A c w hl hsh hm ht)
      clear hl hsh hm hp h hq hw
      go_enter Tryz.func19, Tryz.ntmps19
      go_wp2_with (first
        | (go_at_call 55; refine (HW.out _).mono ?_; rintro e w1 ⟨rfl, rfl⟩)
        | (go_at_call 41; refine HK.out.mono ?_; rintro e w2 ⟨rfl, hB2⟩))
      go_ret2
      exact ⟨rfl, hB2⟩

theorem oneQ_zero {l : List Nd} {W : Int} (h : oneQ l W = 0) : wideF W = true ∧ treeF l = 0 ∧ (opAt l 0 ≠ 9 → ¬ 400 < (docL l).length) := by
  unfold oneQ at h
  split at h
  · cases h
  · rename_i hw
    split at h
    · rename_i ht; exact absurd h ht
    · rename_i ht
      split at h
      · rename_i h9; exact ⟨by simpa using hw, by simpa using ht, fun h => absurd h9 h⟩
      · split at h
        · cases h
        · rename_i h4; exact ⟨by simpa using hw, by simpa using ht, fun _ => h4⟩

set_option maxRecDepth 100000 in
set_option maxHeartbeats 2000000 in
theorem pone_ok (hof : OfFromSaid) (l : List Nd) (W : Int) (A : Option Addr) (c : Nat) (w : World) (hl : Nds w w.heap.size A l) (hsh : Short l) (hm : MaxL w) (hp : PowT w) (hd : opAt l 0 ≠ 9 → ∃ x, Doc (docL l) x) (h : oneQ l W = 0) :
    Calls Tryz.prog 19 #[.slice A l.length c, .int .i64 W] w (Ret w (.tuple #[.string (oneX l W), .nilIface])) := by
  obtain ⟨hw, ht, h4⟩ := oneQ_zero h
  have HW := Lib.hid (fun w' => wide_any W w')
  rw [hw] at HW
  have HK := Lib.hid (lcheck_ok l A c w hl hsh hm ht)
  by_cases h9 : opAt l 0 = 9
  · obtain ⟨x, rfl, h1⟩ := tree_note ht h9
    have hx : oneX [⟨9, x, 0⟩] W = noteT x W := by rw [oneX, if_pos h9]; rfl
    rw [hx]
    have HN := Lib.hid (fun (w' : World) (hb : Below w.heap.size w w') => pnoteT_any (n := 1) rfl ht hw A c w' (hl.past hb) hsh (hm.past hb))
    obtain ⟨b, off, op, t, n, rfl, hb, ho, hnd, hts, d1, d2⟩ := hl.head0 (by simp)
    have ho9 : op = 9 := by rw [← ho]; exact h9
    subst ho9
    generalize noteT x W = T at *
    clear hl hsh hm hp h hd ho hnd h9 h4 hx h1 ht d2
    go_enter Tryz.func19, Tryz.ntmps19
    go_wp2_with (first
      | (go_at_call 55; refine (HW.out _).mono ?_; rintro e w1 ⟨rfl, rfl⟩)
      | (go_at_call 41; refine HK.out.mono ?_; rintro e w2 ⟨rfl, hB2⟩; have e1 := (hB2.cell (p := ⟨b, off, none⟩) hb).trans d1; have HB := Lib.hid hB2; clear hB2)
      | (go_at_call 56; refine (HN.out _ HB.out).mono ?_; rintro e w3 ⟨rfl, hB3⟩; have HB3 := Lib.hid (HB.out.trans (hB3.mono HB.out.size)); clear hB3))
    go_ret2
    exact ⟨rfl, HB3.out⟩
  · obtain ⟨x, hx⟩ := hd h9
    obtain ⟨w10, w100⟩ := wideF_iff.1 hw
    have hs := (hx.best_shown W.toNat).size
    have hr : oneX l W = bT W.toNat x ++ ⟨#[10]⟩ := by rw [oneX, if_neg h9, hx.root]
    rw [hr]
    have HD := Lib.hid (fun (w' : World) (hb : Below w.heap.size w w') => (ldoc_good l A c w' (hl.past hb) hsh (hm.past hb) (hp.past hb) ht h9).1 (h4 h9))
    have HB0 := Lib.hid (fun A c w' hw' => best_good hof hx A _ c rfl W.toNat (width := W) (by omega) (by omega) w' hw')
    have h0 := (Tr.of_check ht).pos0
    obtain ⟨b, off, op, t, n, rfl, hb, ho, hnd, hts, d1, d2⟩ := hl.head0 h0
    have ho9 : (op == 9) = false := by rw [← ho]; simpa using h9
    have hlen := hl.2.1
    unfold maxLen at hlen
    unfold BestTo BestIs_ at HB0
    generalize bT W.toNat x = T at *
    have hcat : ∀ w', (Op.stringOp .add T ⟨#[10]⟩).run Tryz.prog w' = .ok (.string (T ++ ⟨#[10]⟩)) w' := fun w' => run_string_add_sum w' _ _ (by show T.size + 1 ≤ _; omega)
    clear hl hsh hm hp h hd ho hnd h9 h4 hx hr ht d2
    go_enter Tryz.func19, Tryz.ntmps19
    go_wp2_with (first
      | (go_at_call 55; refine (HW.out _).mono ?_; rintro e w1 ⟨rfl, rfl⟩)
      | (go_at_call 41; refine HK.out.mono ?_; rintro e w2 ⟨rfl, hB2⟩; have e1 := (hB2.cell (p := ⟨b, off, none⟩) hb).trans d1; have HB := Lib.hid hB2; clear hB2)
      | (go_at_call 13; refine (HD.out _ HB.out).mono ?_; rintro e w3 ⟨A3, c3, rfl, hn, hB3⟩; have HN := Lib.hid hn.1; have HB := Lib.hid (HB.out.trans (hB3.mono HB.out.size)); clear hB3 hn)
      | (go_at_call 57; refine (HB0.out _ _ _ HN.out).mono ?_; rintro e w4 ⟨A4, c4, rfl, -, -, hB4⟩; have HB := Lib.hid (HB.out.trans (hB4.mono HB.out.size)); clear hB4))
    go_ret2
    exact ⟨rfl, HB.out.alloc HB.out.size _⟩
end Go.Proofs.YtddfdmopaeghnacGreatDoor

namespace Go.Proofs.YtddfdmopaeghnacGreatDoor

theorem textL_neF {l : List Nd} (h : treeF l = 0) (_h9 : opAt l 0 ≠ 9) : textL l ≠ .empty := by
  have hT := Tr.of_check h
  have h0 := hT.pos0
  have hoe : opAt l 0 = (l[0]'h0).op := by rw [opAt, getD_at h0]
  have ht := hT.tops h0
  rw [decide_eq_true rfl] at ht
  have h7 : 7 ≤ (l[0]'h0).op := of_decide_eq_true ht
  have hne : (textL l).size ≠ 0 := by
    rw [textL]
    obtain ⟨m, hm⟩ : ∃ m, l.length = m + 1 := ⟨l.length - 1, by omega⟩
    rw [hm, textX, getD_at h0]
    rw [if_neg (by omega), if_neg (by omega), if_neg (by omega), if_neg (by omega), if_neg (by omega), if_neg (by omega)]
    split
    · simp only [ByteArray.size_append]
      show _ + 1 ≠ 0
      omega
    · simp only [ByteArray.size_append]
      show _ + 1 ≠ 0
      omega
  intro e
  rw [e] at hne
  exact hne rfl
/-- A statement's text at a width. -/
structure OneIs (l : List Nd) (W : Int) (S : ByteArray) : Prop where
  two : 2 ≤ S.size
  small : S.size ≤ 1500000
  last : S.data.toList.getLast? = some 10
  rn : rn false S.data.toList = some false
  fits : (lineL l).size ≤ W → S = lineL l ++ ⟨#[10]⟩
theorem noteT_size {x : ByteArray} (h1 : treeOne 9 x 0 = 0) {W : Int} (hw : wideF W = true) : (noteT x W).size ≤ 80000 := by
  by_cases h0 : noteL x = []
  · rw [noteT, if_pos h0]; decide
  · rw [noteT, if_neg h0]
    obtain ⟨hfew, _⟩ := note_few h1 hw
    obtain ⟨f1, f2⟩ := hfew.fill_small
    have := noteB_size f2
    omega
theorem oneX_is {l : List Nd} {W : Int} (h : oneQ l W = 0) (hd : opAt l 0 ≠ 9 → ∃ x, Doc (docL l) x) : OneIs l W (oneX l W) := by
  obtain ⟨hw, ht, h4⟩ := oneQ_zero h
  by_cases h9 : opAt l 0 = 9
  · obtain ⟨x, rfl, h1⟩ := tree_note ht h9
    have hx : oneX [⟨9, x, 0⟩] W = noteT x W := by rw [oneX, if_pos h9]; rfl
    rw [hx]
    obtain ⟨a1, a2, a3, a4⟩ := noteT_facts h1 hw
    have hz := noteT_size h1 hw
    exact ⟨by simpa using a2, by omega, a3, a1, a4⟩
  · obtain ⟨x, hx⟩ := hd h9
    have hr : oneX l W = bT W.toNat x ++ ⟨#[10]⟩ := by rw [oneX, if_neg h9, hx.root]
    obtain ⟨w10, w100⟩ := wideF_iff.1 hw
    obtain ⟨a1, a2, a3⟩ := fit_all ht h9 hx W.toNat
    have hL : lineL l = textL l := by rw [lineL, if_neg h9]; rfl
    have hs := (hx.best_shown W.toNat).size
    have hne : (bT W.toNat x).size ≠ 0 := by
      intro e
      have he : (bT W.toNat x).data.toList = [] := by
        apply List.eq_nil_of_length_eq_zero
        simpa using e
      obtain ⟨z, z1, z2, z3, z4, z5⟩ := docL_flat ht h9
      obtain rfl := hx.same z1 z2
      have := lay_line (by rw [z2]; exact z5) z3 (hx.best_shown W.toNat).lay z1 (by rw [he]; rfl)
      exact textL_neF ht h9 (by rw [← this]; exact bytes_eq (by rw [he]; rfl))
    rw [hr]
    have hz : (bT W.toNat x ++ ⟨#[10]⟩ : ByteArray).size = (bT W.toNat x).size + 1 := by rw [ByteArray.size_append]; rfl
    refine ⟨by omega, by omega, ?_, ?_, fun hf => ?_⟩
    · rw [ByteArray.data_append, Array.toList_append, List.getLast?_append]; rfl
    · rw [ByteArray.data_append, Array.toList_append, rn_app, a1]; rfl
    · rw [a2 (by rw [hL] at hf; omega), hL]
theorem ovr_end (W : Nat) (s : ByteArray) : ovr W 0 (s ++ ⟨#[10]⟩ : ByteArray).data.toList = ovr W 0 s.data.toList := by
  rw [ByteArray.data_append, Array.toList_append, ovr_app]; rfl
/-- If one can be laid so that no line is too long none is. -/
theorem oneX_over {l : List Nd} {W : Int} (h : oneQ l W = 0) (h9 : opAt l 0 ≠ 9) {x : D} (hx : Doc (docL l) x) {u : List Int} {s : ByteArray} (hu : Shown (docL l) x u s) (hz : ovr W.toNat 0 s.data.toList = 0) : ovr W.toNat 0 (oneX l W).data.toList = 0 := by
  obtain ⟨hw, ht, h4⟩ := oneQ_zero h
  have hr : oneX l W = bT W.toNat x ++ ⟨#[10]⟩ := by rw [oneX, if_neg h9, hx.root]
  rw [hr, ovr_end]
  exact (fit_all ht h9 hx W.toNat).2.2 u s hu hz
/-- No blank ahead of a new line, as the bytes are read. -/
theorem rn_bytes {s : ByteArray} {q : Bool} (h : rn false s.data.toList = some q) {i : Nat} (hi : i + 1 < s.size) (h1 : s[i + 1] = 10) : s[i] ≠ 32 := by
  have hl : i + 1 < s.data.toList.length := by simpa using hi
  have := rn_no _ _ _ h i hl (by rw [List.getElem?_eq_getElem hl]; exact congrArg some h1)
  intro e
  exact this (by rw [List.getElem?_eq_getElem (by omega)]; exact congrArg some e)
theorem last_byte {s : ByteArray} (h : s.data.toList.getLast? = some 10) (h0 : 0 < s.size) : s[s.size - 1]'(by omega) = 10 := by
  have hl : s.data.toList.length = s.size := by simp
  rw [List.getLast?_eq_getElem?, hl, List.getElem?_eq_getElem (by omega)] at h
  exact Option.some.inj h
theorem docL_doc {l : List Nd} (h : treeF l = 0) (h9 : opAt l 0 ≠ 9) (h4 : (docL l).length ≤ 400) : ∃ x, Doc (docL l) x := by
  obtain ⟨x, hx, _⟩ := (docL_flat h h9).doc h4
  exact ⟨x, hx⟩
theorem laid_no {l : List Nd} {W : Int} (h : oneQ l W ≠ 0) (ht : treeF l = 0) : (([l].all fun u => decide (opAt u 0 = 9) || decide ((docL u).length ≤ 400)) && wideF W) = false := by
  unfold oneQ at h
  by_cases hw : wideF W = false
  · rw [hw]; simp
  · rw [if_neg hw, if_neg (by simpa using ht)] at h
    by_cases h9 : opAt l 0 = 9
    · rw [if_pos h9] at h; exact absurd rfl h
    · rw [if_neg h9] at h
      by_cases h4 : 400 < (docL l).length
      · simp [h9, show ¬ (docL l).length ≤ 400 by omega]
      · rw [if_neg h4] at h; exact absurd rfl h
/-- The closed fact's statement. -/
def pFact : List Nd := [⟨8, .empty, 0⟩, ⟨1, .empty, 7⟩]
theorem pFact_ok : treeF pFact = 0 := by decide +kernel
theorem pFact_text : lineL pFact = ⟨#[55, 59]⟩ := by
  have h7 : Lib.itoa 7 = [55] := by
    show Lib.decDigits 7 = [55]
    rw [Lib.decDigits_one (by omega)]; rfl
  rw [lineL, if_neg (by decide)]
  simp only [pFact, textX, List.length_cons, List.length_nil, List.getD_cons_zero, List.getD_cons_succ, show ¬ (8 : Int) = 1 by decide, show ¬ (8 : Int) = 2 by decide, show ¬ (8 : Int) = 3 by decide, show ¬ (8 : Int) = 4 by decide, show ¬ (8 : Int) = 5 by decide, show ¬ (8 : Int) = 6 by decide, show ¬ (8 : Int) = 7 by decide, if_false, if_true, h7]
  decide +kernel
theorem pFact_one : oneQ pFact 10 = 0 ∧ oneX pFact 10 = ⟨#[55, 59, 10]⟩ := by
  have h9 : opAt pFact 0 ≠ 9 := by decide
  have hlen := docL_len pFact_ok h9
  rw [show pFact.length = 2 from rfl] at hlen
  have hq : oneQ pFact 10 = 0 := by
    rw [oneQ, if_neg (by decide), if_neg (by rw [pFact_ok]; simp), if_neg h9, if_neg (by omega)]
  refine ⟨hq, ?_⟩
  have h := (oneX_is hq (fun h => docL_doc pFact_ok h (by omega))).fits (by rw [pFact_text]; decide)
  rw [h, pFact_text]; rfl
end Go.Proofs.YtddfdmopaeghnacGreatDoor

namespace Go.Proofs.YtddfdmopaeghnacGreatDoor
open Go.RowKit

set_option maxRecDepth 100000 in
theorem rdoc_any {A : Option Addr} {c : Nat} {l : List Nd} (hT : Tr l) : ∀ f, DocSaid A c l f := by
  intro f
  induction f with
  | zero => intro i v w hv hN hi hf; omega
  | succ f ih =>
  intro i v w hv hN hi hf h9
  subst hv
  have hk := hT.kidsP hi
  have hone := hT.one _ (List.getElem_mem hi)
  have hmm : (manyL l).getD i 0 = (manyF l[i].op l[i].n).toNat := manyL_at hi rfl
  rw [hmm] at hk
  clear hmm
  have hoe : opAt l i = l[i].op := by rw [opAt, getD_at hi]
  rw [hoe] at h9
  obtain ⟨op, t, n, hnd⟩ : ∃ op t n, l[i] = Nd.mk op t n := ⟨_, _, _, rfl⟩
  rw [hnd] at hone hk h9 hoe
  simp only at hone hk h9 hoe
  have hop : 1 ≤ op ∧ op ≤ 8 := by
    by_cases hc : op < 1 ∨ 9 < op
    · rw [treeOne, if_pos (by rcases hc with h | h; exact .inl h; exact .inr (.inl h))] at hone; cases hone
    · omega
  have hnm : namedF op = true → t.size ≤ 8 := fun h => (name_facts (tone_word hone h h9)).2.1
  have hn6 := manyF_bd hone
  have hm40 := hT.len
  have hcs : op = 1 ∨ op = 2 ∨ op = 3 ∨ op = 4 ∨ op = 5 ∨ op = 6 ∨ op = 7 ∨ op = 8 := by omega
  rcases hcs with rfl | rfl | rfl | rfl | rfl | rfl | rfl | rfl
  · obtain ⟨n0, n1⟩ := tone_num hone
    rw [show docT l (f + 1) i = wordN ⟨(Lib.itoa n).toArray⟩ by
      rw [docT, getD_at hi, hnd]
      simp only [if_true]]
    exact rdoc_1 hN hi hnd hm40 n0 n1
  · rw [show docT l (f + 1) i = wordN t by
      rw [docT, getD_at hi, hnd]
      simp only [show ¬ (2 : Int) = 1 by decide, if_false, if_true]]
    exact rdoc_2 hN hi hnd hm40
  · rw [show manyF 3 n = n from rfl] at hk hn6
    rw [show docT l (f + 1) i = listD (t ++ ⟨#[40]⟩) ⟨#[41]⟩ n.toNat (kidsD (docT l f) (tEnd l) (i + 1) n.toNat) by
      rw [docT, getD_at hi, hnd]
      simp only [show ¬ (3 : Int) = 1 by decide, show ¬ (3 : Int) = 2 by decide, if_false, if_true]]
    by_cases h0 : n = 0
    · rw [show listD (t ++ ⟨#[40]⟩) ⟨#[41]⟩ n.toNat (kidsD (docT l f) (tEnd l) (i + 1) n.toNat) = wordN (t ++ ⟨#[40]⟩ ++ ⟨#[41]⟩) by rw [h0]; rfl]
      exact rdoc_30 hN hi hnd hm40 (hnm rfl) h0
    · obtain ⟨m, rfl⟩ : ∃ m : Nat, n = (m : Int) + 1 := ⟨n.toNat - 1, by omega⟩
      rw [show ((m : Int) + 1).toNat = m + 1 by omega] at hk ⊢
      have hzl := (rkidsP_le hk (by omega)).2
      rw [show listD (t ++ ⟨#[40]⟩) ⟨#[41]⟩ (m + 1) (kidsD (docT l f) (tEnd l) (i + 1) (m + 1)) = groupN (bothN (wordN (t ++ ⟨#[40]⟩)) (bothN (deepN (bothN (opN 3) (kidsD (docT l f) (tEnd l) (i + 1) (m + 1)))) (bothN (opN 3) (wordN ⟨#[41]⟩)))) by simp [listD]]
      exact rdoc_31 hN hi hnd hm40 (hnm rfl) (by omega) (by omega) (rkids_small hT hk (by omega) (by omega) hzl) (Lib.hid (fun w' hw' => rkids_any hT ih m (i + 1) _ _ _ w' hk (by omega) (by omega) hw' (by omega) rfl (by omega)))
  · rw [show manyF 4 n = n from rfl] at hk hn6
    rw [show docT l (f + 1) i = listD ⟨#[91]⟩ ⟨#[93]⟩ n.toNat (kidsD (docT l f) (tEnd l) (i + 1) n.toNat) by
      rw [docT, getD_at hi, hnd]
      simp only [show ¬ (4 : Int) = 1 by decide, show ¬ (4 : Int) = 2 by decide, show ¬ (4 : Int) = 3 by decide, if_false, if_true]]
    by_cases h0 : n = 0
    · rw [show listD ⟨#[91]⟩ ⟨#[93]⟩ n.toNat (kidsD (docT l f) (tEnd l) (i + 1) n.toNat) = wordN (⟨#[91]⟩ ++ ⟨#[93]⟩) by rw [h0]; rfl]
      exact rdoc_40 hN hi hnd hm40 h0
    · obtain ⟨m, rfl⟩ : ∃ m : Nat, n = (m : Int) + 1 := ⟨n.toNat - 1, by omega⟩
      rw [show ((m : Int) + 1).toNat = m + 1 by omega] at hk ⊢
      have hzl := (rkidsP_le hk (by omega)).2
      rw [show listD ⟨#[91]⟩ ⟨#[93]⟩ (m + 1) (kidsD (docT l f) (tEnd l) (i + 1) (m + 1)) = groupN (bothN (wordN ⟨#[91]⟩) (bothN (deepN (bothN (opN 3) (kidsD (docT l f) (tEnd l) (i + 1) (m + 1)))) (bothN (opN 3) (wordN ⟨#[93]⟩)))) by simp [listD]]
      exact rdoc_41 hN hi hnd hm40 (by omega) (by omega) (rkids_small hT hk (by omega) (by omega) hzl) (Lib.hid (fun w' hw' => rkids_any hT ih m (i + 1) _ _ _ w' hk (by omega) (by omega) hw' (by omega) rfl (by omega)))
  · rw [show (manyF 5 n).toNat = 2 from rfl] at hk
    obtain ⟨q1, q2, r1, r2, r3⟩ : i + 1 < l.length ∧ i + 1 < tEnd l (i + 1) ∧ tEnd l (i + 1) < l.length ∧ tEnd l (i + 1) < tEnd l (tEnd l (i + 1)) ∧ tEnd l (tEnd l (i + 1)) = tEnd l i := ⟨hk.1, hk.2.1, hk.2.2.1, hk.2.2.2.1, hk.2.2.2.2⟩
    rw [show docT l (f + 1) i = twoD ⟨#[43, 32]⟩ (kidD 5 (opAt l (i + 1)) false (docT l f (i + 1))) (kidD 5 (opAt l (tEnd l (i + 1))) true (docT l f (tEnd l (i + 1)))) by
      rw [docT, getD_at hi, hnd]
      simp only [show ¬ (5 : Int) = 1 by decide, show ¬ (5 : Int) = 2 by decide, show ¬ (5 : Int) = 3 by decide, show ¬ (5 : Int) = 4 by decide, if_false, if_true]]
    have hx1 := kidD_len 5 (opAt l (i + 1)) false (docT l f (i + 1))
    have hx2 := rdoc_small hT (f := f) (by omega) q1 (rlow_at hT q1 (by omega))
    have hy1 := kidD_len 5 (opAt l (tEnd l (i + 1))) true (docT l f (tEnd l (i + 1)))
    have hy2 := rdoc_small hT (f := f) (by omega) r1 (rlow_at hT r1 (by omega))
    have c1 := fun w' hw' => rkid_any (A := A) (c := c) hT ih i (i + 1) i ((i : Int) + 1) false w' rfl (by omega) hw' hi q1 (by omega) (by omega)
    have c2 := fun w' hw' => rkid_any (A := A) (c := c) hT ih i (tEnd l (i + 1)) i (tEnd l (i + 1) : Nat) true w' rfl rfl hw' hi r1 (by omega) (by omega)
    rw [hoe] at c1 c2
    exact rdoc_5 hN hi hnd hm40 (by omega) (by omega) (Lib.hid c1) (Lib.hid c2) (Lib.hid (fun w' hw' => rend_any hT A c q1 (by omega) w' hw'))
  · rw [show (manyF 6 n).toNat = 2 from rfl] at hk
    obtain ⟨q1, q2, r1, r2, r3⟩ : i + 1 < l.length ∧ i + 1 < tEnd l (i + 1) ∧ tEnd l (i + 1) < l.length ∧ tEnd l (i + 1) < tEnd l (tEnd l (i + 1)) ∧ tEnd l (tEnd l (i + 1)) = tEnd l i := ⟨hk.1, hk.2.1, hk.2.2.1, hk.2.2.2.1, hk.2.2.2.2⟩
    rw [show docT l (f + 1) i = twoD ⟨#[42, 32]⟩ (kidD 6 (opAt l (i + 1)) false (docT l f (i + 1))) (kidD 6 (opAt l (tEnd l (i + 1))) true (docT l f (tEnd l (i + 1)))) by
      rw [docT, getD_at hi, hnd]
      simp only [show ¬ (6 : Int) = 1 by decide, show ¬ (6 : Int) = 2 by decide, show ¬ (6 : Int) = 3 by decide, show ¬ (6 : Int) = 4 by decide, show ¬ (6 : Int) = 5 by decide, if_false, if_true]]
    have hx1 := kidD_len 6 (opAt l (i + 1)) false (docT l f (i + 1))
    have hx2 := rdoc_small hT (f := f) (by omega) q1 (rlow_at hT q1 (by omega))
    have hy1 := kidD_len 6 (opAt l (tEnd l (i + 1))) true (docT l f (tEnd l (i + 1)))
    have hy2 := rdoc_small hT (f := f) (by omega) r1 (rlow_at hT r1 (by omega))
    have c1 := fun w' hw' => rkid_any (A := A) (c := c) hT ih i (i + 1) i ((i : Int) + 1) false w' rfl (by omega) hw' hi q1 (by omega) (by omega)
    have c2 := fun w' hw' => rkid_any (A := A) (c := c) hT ih i (tEnd l (i + 1)) i (tEnd l (i + 1) : Nat) true w' rfl rfl hw' hi r1 (by omega) (by omega)
    rw [hoe] at c1 c2
    exact rdoc_6 hN hi hnd hm40 (by omega) (by omega) (Lib.hid c1) (Lib.hid c2) (Lib.hid (fun w' hw' => rend_any hT A c q1 (by omega) w' hw'))
  · rw [show (manyF 7 n).toNat = 1 from rfl] at hk
    have q1 : i + 1 < l.length := hk.1
    have h99 := rlow_at hT q1 (by omega)
    rw [show docT l (f + 1) i = groupN (bothN (wordN (⟨#[108, 101, 116, 32]⟩ ++ t ++ ⟨#[32, 61]⟩)) (deepN (bothN (opN 2) (bothN (docT l f (i + 1)) (wordN ⟨#[59]⟩))))) by
      rw [docT, getD_at hi, hnd]
      simp only [show ¬ (7 : Int) = 1 by decide, show ¬ (7 : Int) = 2 by decide, show ¬ (7 : Int) = 3 by decide, show ¬ (7 : Int) = 4 by decide, show ¬ (7 : Int) = 5 by decide, show ¬ (7 : Int) = 6 by decide, if_false, if_true]]
    exact rdoc_7 hN hi hnd hm40 (hnm rfl) (rdoc_small hT (f := f) (by omega) q1 h99) (Lib.hid (fun w' hw' => ih (i + 1) ((i : Int) + 1) w' (by omega) hw' q1 (by omega) h99))
  · rw [show (manyF 8 n).toNat = 1 from rfl] at hk
    have q1 : i + 1 < l.length := hk.1
    have h99 := rlow_at hT q1 (by omega)
    rw [show docT l (f + 1) i = bothN (docT l f (i + 1)) (wordN ⟨#[59]⟩) by
      rw [docT, getD_at hi, hnd]
      simp only [show ¬ (8 : Int) = 1 by decide, show ¬ (8 : Int) = 2 by decide, show ¬ (8 : Int) = 3 by decide, show ¬ (8 : Int) = 4 by decide, show ¬ (8 : Int) = 5 by decide, show ¬ (8 : Int) = 6 by decide, show ¬ (8 : Int) = 7 by decide, if_false]]
    exact rdoc_8 hN hi hnd hm40 (rdoc_small hT (f := f) (by omega) q1 h99) (Lib.hid (fun w' hw' => ih (i + 1) ((i : Int) + 1) w' (by omega) hw' q1 (by omega) h99))
end Go.Proofs.YtddfdmopaeghnacGreatDoor

namespace Go.Proofs.YtddfdmopaeghnacGreatDoor
open Go.RowKit

theorem rwide_any (W : Int) (w : World) : Calls Tryz.prog 36 #[.int .i64 W] w fun e w' => e = .returned (.bool (wideF W)) ∧ w = w' := by
  by_cases h1 : 10 ≤ W
  · by_cases h2 : W ≤ 100
    · have hr : wideF W = true := by simp [wideF, h1, h2]
      rw [hr]
      go_enter Tryz.func36, Tryz.ntmps36
      go_wp2
      go_ret
      exact ⟨by first | rfl | (simp; done) | (simp; omega), rfl⟩
    · have hr : wideF W = false := by simp [wideF, h2]
      rw [hr]
      go_enter Tryz.func36, Tryz.ntmps36
      go_wp2
      go_ret
      exact ⟨by first | rfl | (simp; done) | (simp; omega), rfl⟩
  · have hr : wideF W = false := by simp [wideF, h1]
    rw [hr]
    have h3 : decide (W ≥ 10) = false := decide_eq_false h1
    go_enter Tryz.func36, Tryz.ntmps36
    go_wp2
    go_ret
    exact ⟨by first | rfl | (simp; done) | (simp; omega), rfl⟩

/-- May a statement be laid? -/
def canF (u : List Nd) : Bool := decide (opAt u 0 = 9) || decide ((docL u).length ≤ 400)
def laidF (p : List (List Nd)) (W : Int) : Bool := p.all canF && wideF W
set_option maxRecDepth 100000 in
set_option maxHeartbeats 4000000 in
theorem laid_any (p : List (List Nd)) (P : Option Addr) (cp : Nat) (W : Int) (w : World) (hp : Prg w w.heap.size P p) (hT : ∀ u ∈ p, treeF u = 0) :
    Calls Tryz.prog 21 #[.slice P p.length cp, .int .i64 W] w (Ret w (.bool (laidF p W))) := by
  have HW := Lib.hid (fun w' => rwide_any W w')
  have HP := Lib.hid hp; have HT := Lib.hid hT
  have hpl := hp.2
  unfold maxLen at hpl
  have HB0 : Hid (Below w.heap.size w w) := Lib.hid (Below.refl _ _)
  have HEND : Hid (∀ k, p.length ≤ k → (p.take k).all canF = true → laidF p W = wideF W) := Lib.hid (fun k hk h => by rw [List.take_of_length_le hk] at h; rw [laidF, h]; rfl)
  have HBAD : Hid (∀ u ∈ p, canF u = false → laidF p W = false) := Lib.hid (fun u hu h => by
    rw [laidF]
    have : p.all canF = false := by
      rw [List.all_eq_false]
      exact ⟨u, hu, by simp [h]⟩
    rw [this]; rfl)
  generalize hZ : laidF p W = Z at *
  clear hp hT hZ
  go_enter Tryz.func21, Tryz.ntmps21
  go_wp2_with (go_at_call 36; refine (HW.out _).mono ?_; rintro e w1 ⟨rfl, rfl⟩)
  go_loopw [6] (fun i wr => ∃ k : Nat, k ≤ p.length ∧ i = .int .i64 k ∧ Hid ((p.take k).all canF = true) ∧ Hid (Below w.heap.size w wr)) (fun i _ => p.length - (intOf i).toNat)
  case atStart => exact ⟨0, by omega, rfl, Lib.hid rfl, HB0⟩
  case round =>
    clear HB0
    obtain ⟨k, hk, rfl, HA, HB0⟩ := hrel
    by_cases hlt : k < p.length
    · obtain ⟨b, off, Ak, ck, u, rfl, hb, hu, hc, hN, hS⟩ := HP.out.one HB0.out hlt
      have hmem : u ∈ p := List.mem_of_getElem? hu
      have hut := HT.out u hmem
      have HBD := Lib.hid (HBAD.out u hmem)
      have HNX : Hid (canF u = true → (p.take (k + 1)).all canF = true) := Lib.hid (fun h => by
        rw [List.take_add_one, hu, List.all_append, HA.out]; simp [h])
      have h0 := (Tr.of_check hut).pos0
      have hzu := (Tr.of_check hut).len
      obtain ⟨b2, off2, op, t, n, rfl, hb2, ho, hnd, hts, d1, d2⟩ := hN.head0 h0
      by_cases h9 : op = 9
      · subst h9
        have hcn : canF u = true := by simp [canF, ho]
        have HNX2 := Lib.hid (HNX.out hcn)
        clear hN hS hu hmem hut ho hnd hts d2 HBD
        go_wp2
        go_roundw
        case measure => simp [intOf]; omega
        case rel => exact ⟨k + 1, by omega, by go_num, HNX2, HB0⟩
      · have h9b : (op == 9) = false := by simpa using h9
        have hoe : opAt u 0 ≠ 9 := by rw [ho]; exact h9
        have HD := Lib.hid (rdoc_any (A := some ⟨b2, off2, none⟩) (c := ck) (Tr.of_check hut) u.length 0 0 wr rfl hN h0 (by omega) hoe)
        rw [show docT u u.length 0 = docL u from rfl] at HD
        have HC : Hid ((docL u).length ≤ 400 → canF u = true) := Lib.hid (fun h => by simp [canF, h])
        have HC2 : Hid (¬ (docL u).length ≤ 400 → canF u = false) := Lib.hid (fun h => by simp only [canF, Bool.or_eq_false_iff, decide_eq_false_iff_not]; exact ⟨hoe, h⟩)
        generalize docL u = d at *
        clear hN hS hu hmem hut ho hnd hts d2 hoe
        by_cases h4 : d.length ≤ 400
        · have HNX2 := Lib.hid (HNX.out (HC.out h4))
          have k4 : decide (400 < (d.length : Int)) = false := decide_eq_false (by omega)
          go_wp2_with (go_at_call 62; refine HD.out.mono ?_; rintro e w3 ⟨A3, c3, rfl, -, hB3⟩; have HB3 := Lib.hid (HB0.out.trans (hB3.mono HB0.out.size)); clear hB3)
          go_roundw
          case measure => simp [intOf]; omega
          case rel => exact ⟨k + 1, by omega, by go_num, HNX2, HB3⟩
        · have hz := HBD.out (HC2.out h4)
          subst hz
          have k4 : decide (400 < (d.length : Int)) = true := decide_eq_true (by omega)
          go_wp2_with (go_at_call 62; refine HD.out.mono ?_; rintro e w3 ⟨A3, c3, rfl, -, hB3⟩; have HB3 := Lib.hid (HB0.out.trans (hB3.mono HB0.out.size)); clear hB3)
          go_ret
          exact ⟨rfl, HB3.out⟩
    · have hz := HEND.out k (by omega) HA.out
      subst hz
      go_wp2
      go_ret
      exact ⟨rfl, HB0.out⟩
end Go.Proofs.YtddfdmopaeghnacGreatDoor

namespace Go.Proofs.YtddfdmopaeghnacGreatDoor
open Go.RowKit

theorem blk_cellR {w : World} {g j : Nat} {cs : Array Value} {T : TypeId} {fr : Nat × Nat} (h : w.heap[g]? = some (.cells cs T fr)) : w.cell? ⟨g, j, none⟩ = cs[j]? := cell_of_row w g j cs T fr h
theorem blk_freeR {w : World} {g j : Nat} {cs : Array Value} {T : TypeId} (h : w.heap[g]? = some (.cells cs T (0, 0))) : w.frozen? ⟨g, j, none⟩ = false := by simp [World.frozen?, h]
theorem blk_set1R {w : World} {b : Nat} {x y v : Value} {T : TypeId} {fr : Nat × Nat} (h : w.heap[b]? = some (.cells #[x, y] T fr)) : (w.setCell ⟨b, 1, none⟩ v).heap[b]? = some (.cells #[x, v] T fr) := by
  simp [World.setCell, Array.getElem?_modify, h]
theorem blk_set0R {w : World} {b : Nat} {x y v : Value} {T : TypeId} {fr : Nat × Nat} (h : w.heap[b]? = some (.cells #[x, y] T fr)) : (w.setCell ⟨b, 0, none⟩ v).heap[b]? = some (.cells #[v, y] T fr) := by
  simp [World.setCell, Array.getElem?_modify, h]
theorem blk_otherR {w : World} {g : Nat} {o : Obj} {p : Addr} {v : Value} (h : w.heap[g]? = some o) (hne : g ≠ p.block) : (w.setCell p v).heap[g]? = some o := (Below.heap_setCell _ _ _ _ hne).trans h
/-- So much of a text: what it costs, the column. -/
theorem cst_snoc (W col : Nat) (s : List UInt8) (c : UInt8) : cst W col (s ++ [c]) = ((ovr W col s + if c = 10 then 0 else if W < colOf col s + 1 then 1 else 0), lns s + if c = 10 then 1 else 0) := by
  rw [cst_app]
  simp only [cst, cAdd, ovr, lns]
  by_cases h : c = 10 <;> simp [h]
theorem col_snoc (col : Nat) (s : List UInt8) (c : UInt8) : colOf col (s ++ [c]) = if c = 10 then 0 else colOf col s + 1 := by
  rw [colOf_app]
  simp only [colOf]
theorem take_byte {s : ByteArray} {k : Nat} (hk : k < s.size) : s.data.toList.take (k + 1) = s.data.toList.take k ++ [s[k]] := by
  rw [List.take_succ_eq_append_getElem (by simpa using hk)]; rfl

set_option maxRecDepth 100000 in
set_option maxHeartbeats 2000000 in
theorem costof_any (s : ByteArray) (hs : s.size ≤ 100000000) (W : Nat) (w : World) :
    Calls Tryz.prog 22 #[.string s, .int .i64 (W : Nat)] w (Ret w (.agg #[.int .i64 ((cst W 0 s.data.toList).1 : Nat), .int .i64 ((cst W 0 s.data.toList).2 : Nat)])) := by
  go_enter Tryz.func22, Tryz.ntmps22
  go_wp2
  go_loopw [6, 7] (fun s6 s7 wr => ∃ k : Nat, k ≤ s.size ∧ s7 = .int .i64 k ∧ s6 = .int .i64 (colOf 0 (s.data.toList.take k) : Nat) ∧ wr.heap[w.heap.size]? = some (.cells #[.int .i64 0, .int .i64 0] 47 (0, 0)) ∧ wr.heap[w.heap.size + 1]? = some (.cells #[.int .i64 (ovr W 0 (s.data.toList.take k) : Nat), .int .i64 (lns (s.data.toList.take k) : Nat)] 47 (0, 0)) ∧ Below w.heap.size w wr) (fun _ s7 _ => s.size - (intOf s7).toNat)
  case atStart =>
    refine ⟨0, Nat.zero_le _, rfl, rfl, (Below.heap_alloc _ _ _ (by simp)).trans (heap_new rfl), heap_new (by simp), (by repeat (first | exact Below.refl _ _ | assumption | apply Below.drew | refine below_drewN ?_ _ | apply Below.setCell _ (by first | omega | (simp; done) | (simp; omega)) | apply Below.alloc _ (by first | omega | (simp; done) | (simp; omega))))⟩
  case round =>
    obtain ⟨k, hk, rfl, rfl, h4, h5, hB⟩ := hrel
    have c0 := blk_cellR (j := 0) h5
    have c1 := blk_cellR (j := 1) h5
    have f0 := blk_freeR (j := 0) h5
    have f1 := blk_freeR (j := 1) h5
    simp at c0 c1
    have hco := colOf_le (s.data.toList.take k) 0
    have hov := ovr_le W (s.data.toList.take k) 0
    have hln := lns_le (s.data.toList.take k)
    have htl : (s.data.toList.take k).length ≤ k := List.length_take_le _ _
    have HB := Lib.hid hB; have H4 := Lib.hid h4; have H5 := Lib.hid h5
    clear hB h4 h5
    by_cases hlt : k < s.size
    · have hts := take_byte hlt
      have hcs := cst_snoc W 0 (s.data.toList.take k) s[k]
      have hcl := col_snoc 0 (s.data.toList.take k) s[k]
      rw [← hts] at hcs hcl
      simp only [cst, Prod.mk.injEq] at hcs
      obtain ⟨ho, hl⟩ := hcs
      have HO := Lib.hid ho; have HL := Lib.hid hl; have HC := Lib.hid hcl
      clear ho hl hcl hts
      by_cases hc : s[k] = 10
      · have q5 : s[k].toNat = 10 := by rw [hc]; rfl
        have q6 : decide (s[k].toNat = 10) = true := decide_eq_true q5
        have q7 : decide ((s[k].toNat : Int) = 10) = true := decide_eq_true (by omega)
        have e1 : (ovr W 0 (s.data.toList.take (k + 1)) : Int) = (ovr W 0 (s.data.toList.take k) : Int) := by rw [HO.out, if_pos hc]; rfl
        have e2 : (lns (s.data.toList.take (k + 1)) : Int) = (lns (s.data.toList.take k) : Int) + 1 := by rw [HL.out, if_pos hc]; rfl
        have e3 : colOf 0 (s.data.toList.take (k + 1)) = 0 := by rw [HC.out, if_pos hc]
        have E1 := Lib.hid e1; have E2 := Lib.hid e2; have E3 := Lib.hid e3
        clear e1 e2 e3 hc
        go_wp2_with fail
        go_roundw
        case measure => simp [intOf]; omega
        case rel =>
          refine ⟨k + 1, by omega, by go_num, by rw [E3.out]; rfl, blk_otherR H4.out (by simp), ?_, HB.out.setCell (p := ⟨w.heap.size + 1, 1, none⟩) (by simp) _⟩
          rw [E1.out, E2.out]
          exact blk_set1R H5.out
      · have q5 : s[k].toNat ≠ 10 := fun h => hc (UInt8.toNat_inj.1 h)
        have q6 : decide (s[k].toNat = 10) = false := decide_eq_false q5
        have q7 : decide ((s[k].toNat : Int) = 10) = false := decide_eq_false (by omega)
        have e2 : (lns (s.data.toList.take (k + 1)) : Int) = (lns (s.data.toList.take k) : Int) := by rw [HL.out, if_neg hc]; rfl
        have e3 : (colOf 0 (s.data.toList.take (k + 1)) : Int) = (colOf 0 (s.data.toList.take k) : Int) + 1 := by rw [HC.out, if_neg hc]; rfl
        have E2 := Lib.hid e2; have E3 := Lib.hid e3
        by_cases hw : W < colOf 0 (s.data.toList.take k) + 1
        · have e1 : (ovr W 0 (s.data.toList.take (k + 1)) : Int) = (ovr W 0 (s.data.toList.take k) : Int) + 1 := by rw [HO.out, if_neg hc, if_pos hw]; rfl
          have E1 := Lib.hid e1
          have q8 : decide ((W : Int) < (colOf 0 (s.data.toList.take k) : Int) + 1) = true := decide_eq_true (by omega)
          clear e1 e2 e3 hc hw
          go_wp2_with fail
          go_roundw
          case measure => simp [intOf]; omega
          case rel =>
            refine ⟨k + 1, by omega, by go_num, by rw [E3.out], blk_otherR H4.out (by simp), ?_, HB.out.setCell (p := ⟨w.heap.size + 1, 0, none⟩) (by simp) _⟩
            rw [E1.out, E2.out]
            exact blk_set0R H5.out
        · have e1 : (ovr W 0 (s.data.toList.take (k + 1)) : Int) = (ovr W 0 (s.data.toList.take k) : Int) := by rw [HO.out, if_neg hc, if_neg hw]; rfl
          have E1 := Lib.hid e1
          have q8 : decide ((W : Int) < (colOf 0 (s.data.toList.take k) : Int) + 1) = false := decide_eq_false (by omega)
          clear e1 e2 e3 hc hw
          go_wp2_with fail
          go_roundw
          case measure => simp [intOf]; omega
          case rel => exact ⟨k + 1, by omega, by go_num, by rw [E3.out], H4.out, by rw [E1.out, E2.out]; exact H5.out, HB.out⟩
    · have hkk : k = s.size := by omega
      subst hkk
      have hall : s.data.toList.take s.size = s.data.toList := List.take_of_length_le (by simp)
      rw [hall] at c0 c1
      have g0 := blk_cellR (j := 0) H4.out
      have g1 := blk_cellR (j := 1) H4.out
      have g2 := blk_freeR (j := 0) H4.out
      have g3 := blk_freeR (j := 1) H4.out
      simp at g0 g1
      have b0 := blk_set1R (v := .int .i64 (lns s.data.toList : Nat)) (blk_set0R (v := .int .i64 (ovr W 0 s.data.toList : Nat)) H4.out)
      have HB0 := Lib.hid b0
      clear b0 hall
      go_wp2
      have b1 := blk_cellR (j := 0) HB0.out
      have b2 := blk_cellR (j := 1) HB0.out
      simp at b1 b2
      simp [bodyPost, results, Tryz.results22, go_sem, b1, b2]
      exact ⟨rfl, (HB.out.setCell (p := ⟨w.heap.size, 0, none⟩) (Nat.le_refl _) _).setCell (p := ⟨w.heap.size, 1, none⟩) (Nat.le_refl _) _⟩
end Go.Proofs.YtddfdmopaeghnacGreatDoor

namespace Go.Proofs.YtddfdmopaeghnacGreatDoor
open Go.RowKit

theorem badBit_more {ws : List Int} {k : Nat} (ha : badBit (ws.take k) = false) (hk : k < ws.length) {v : Int} (hv : ws[k] = v) (h : v = 0 ∨ v = 1) : badBit (ws.take (k + 1)) = false := by
  unfold badBit at ha ⊢
  rw [List.take_succ_eq_append_getElem hk, List.any_append, ha, hv]
  rcases h with rfl | rfl <;> rfl
def ShowTo (r : Except Int ByteArray) (w : World) (e : Ending) (w' : World) : Prop := e = .returned (match r with | .ok s => .tuple #[.string s, .nilIface] | .error q => .tuple #[.string .empty, .iface 43 (.int .i64 q)]) ∧ Below w.heap.size w w'

set_option maxRecDepth 100000 in
set_option maxHeartbeats 2000000 in
theorem show_bad (l : List Nd) (A : Option Addr) (n c : Nat) (hn : l.length = n) (M : Option Addr) (m cm : Nat) (w : World) (hl : Nds w w.heap.size A l) (he : checkF l ≠ 0) :
    Calls Tryz.prog 16 #[.slice A n c, .slice M m cm] w (ShowTo (.error (checkF l)) w) := by
  subst hn
  have HC := Lib.hid (check_any l A c w hl)
  rw [← errV_pos he] at HC
  generalize checkF l = q at *
  clear he hl
  go_enter Tryz.func16, Tryz.ntmps16
  go_wp2_with (go_at_call 43; refine HC.out.mono ?_; rintro e w1 ⟨rfl, hB1⟩)
  go_ret2
  exact ⟨rfl, (by repeat (first | exact Below.refl _ _ | assumption | apply Below.drew | refine below_drewN ?_ _ | apply Below.setCell _ (by first | omega | (simp; done) | (simp; omega)) | apply Below.alloc _ (by first | omega | (simp; done) | (simp; omega))))⟩

set_option maxRecDepth 100000 in
set_option maxHeartbeats 2000000 in
theorem show_bit (l : List Nd) (A : Option Addr) (n c : Nat) (hn : l.length = n) (ws : List Int) (M : Option Addr) (m cm : Nat) (hm : ws.length = m) (w : World) (hl : Nds w w.heap.size A l) (hM : NumsI w w.heap.size M ws) (he : checkF l = 0) (hb : badBit ws = true) :
    Calls Tryz.prog 16 #[.slice A n c, .slice M m cm] w (ShowTo (.error 1) w) := by
  subst hn hm
  have HC := Lib.hid (check_any l A c w hl)
  rw [he, ← errV_zero rfl] at HC
  have hm63 := hM.2
  unfold maxLen at hm63
  have HM := Lib.hid hM; have HBB := Lib.hid hb
  clear he hl hM hb
  go_enter Tryz.func16, Tryz.ntmps16
  go_wp2_with (go_at_call 43; refine HC.out.mono ?_; rintro e w1 ⟨rfl, hB1⟩)
  have HM1 := Lib.hid (HM.out.past hB1)
  go_loop [25] (fun i => ∃ k : Nat, k ≤ ws.length ∧ i = .int .i64 k ∧ badBit (ws.take k) = false) (fun i => ws.length - (intOf i).toNat)
  case atStart => exact ⟨0, by omega, rfl, rfl⟩
  case round =>
    obtain ⟨k, hk, rfl, ha⟩ := hrel
    have HA := Lib.hid ha; clear ha
    by_cases hlt : k < ws.length
    · obtain ⟨b, off, v, rfl, hb, hv, hcell⟩ := HM1.out.one (Below.refl _ _) hlt
      have HV := Lib.hid hv; clear hv
      by_cases h0 : v = 0
      · subst h0
        have HG := Lib.hid (badBit_more HA.out hlt HV.out (.inl rfl))
        go_wp2
        go_round
        case rel => exact ⟨k + 1, by omega, by go_num, HG.out⟩
        case measure => simp [intOf]; omega
      · by_cases h1 : v = 1
        · subst h1
          have HG := Lib.hid (badBit_more HA.out hlt HV.out (.inr rfl))
          go_wp2
          go_round
          case rel => exact ⟨k + 1, by omega, by go_num, HG.out⟩
          case measure => simp [intOf]; omega
        · have k1 : (v != 0) = true := by simpa using h0
          have k2 : (v != 1) = true := by simpa using h1
          clear h0 h1
          go_wp2
          go_ret2
          exact ⟨rfl, (by repeat (first | exact Below.refl _ _ | assumption | apply Below.drew | refine below_drewN ?_ _ | apply Below.setCell _ (by first | omega | (simp; done) | (simp; omega)) | apply Below.alloc _ (by first | omega | (simp; done) | (simp; omega))))⟩
    · exfalso
      have := HA.out
      rw [List.take_of_length_le (by omega), HBB.out] at this
      cases this

theorem bits_tail {v : Int} {r : List Int} (h : Bits (v :: r)) : (v = 0 ∨ v = 1) ∧ Bits r := ⟨h v (by simp), fun c hc => h c (by simp [hc])⟩
theorem bits_of {ws : List Int} (h : badBit ws = false) : Bits ws := by
  intro c hc
  unfold badBit at h
  rw [List.any_eq_false] at h
  have := h c hc
  simp at this
  by_cases h0 : c = 0
  · exact .inl h0
  · exact .inr (this h0)

set_option maxRecDepth 100000 in
set_option maxHeartbeats 8000000 in
theorem show_good (hof : OfSaid) {l : List Nd} {x : D} (hd : Doc l x) (A : Option Addr) (n c : Nat) (hn : l.length = n) (ws : List Int) (M : Option Addr) (m cm : Nat) (hm : ws.length = m) (hcm : m ≤ cm) (w : World) (hl : Nds w w.heap.size A l) (hM : NumsI w w.heap.size M ws) (hb : badBit ws = false) :
    Calls Tryz.prog 16 #[.slice A n c, .slice M m cm] w (ShowTo (showD x ws) w) := by
  subst hn hm
  have HC := Lib.hid (check_any l A c w hl)
  rw [hd.check, ← errV_zero rfl] at HC
  have hm63 := hM.2
  unfold maxLen at hm63
  have h400 := hd.len
  have HOF := Lib.hid hof
  have HM := Lib.hid hM; have HN := Lib.hid hl; have HD := Lib.hid hd
  have HBT := Lib.hid (bits_of hb)
  clear hl hM hb hd hof
  go_enter Tryz.func16, Tryz.ntmps16
  go_wp2_with (go_at_call 43; refine HC.out.mono ?_; rintro e w1 ⟨rfl, hB1⟩)
  have HM1 := Lib.hid (HM.out.past hB1)
  have HN1 := Lib.hid (HN.out.past hB1)
  clear HM HN HC
  go_loop [25] (fun i => ∃ k : Nat, k ≤ ws.length ∧ i = .int .i64 k) (fun i => ws.length - (intOf i).toNat)
  case atStart => exact ⟨0, by omega, rfl⟩
  case round =>
    obtain ⟨k, hk, rfl⟩ := hrel
    by_cases hlt : k < ws.length
    · obtain ⟨b, off, v, rfl, hb, hv, hcell⟩ := HM1.out.one (Below.refl _ _) hlt
      have h01 : v = 0 ∨ v = 1 := by rw [← hv]; exact HBT.out _ (List.getElem_mem hlt)
      clear hv
      rcases h01 with rfl | rfl
      all_goals
        go_wp2
        go_round
        case rel => exact ⟨k + 1, by omega, by go_num⟩
        case measure => simp [intOf]; omega
    · go_wp2_with (go_at_call 50; refine (HOF.out l x A c _ HN1.out HD.out).mono ?_; rintro e w2 ⟨gp, rfl, hgp, hpl, hB2⟩; have HPL0 := Lib.hid hpl; clear hpl)
      have HB12 := Lib.hid (hB1.trans (hB2.mono hB1.size))
      have HM2 := Lib.hid (HM1.out.past hB2)
      have HN2 := Lib.hid (HN1.out.past hB2)
      have HPL := HPL0
      have hbn := Bld.new w2
      have hb0 : Below w2.heap.size w2 (w2.alloc (.cells #[.pointer none, .slice none 0 0] 104)) := (Below.refl _ _).alloc (Nat.le_refl _) _
      have HBN := Lib.hid hbn; have HB0 := Lib.hid hb0
      have h0 : endK (layK [(x, 0)] ws .empty) = showD x ws := (showD_K x ws).symm
      have hsx : l.length = x.sz := by rw [HD.out.enc, D.len_enc]
      have HS0 := Lib.hid h0; have HSX := Lib.hid hsx
      clear hbn hb0 h0 hsx HM1 HN1 HPL0 hB1 hB2 hgp
      generalize showD x ws = RES at *
      generalize w2.alloc (.cells #[.pointer none, .slice none 0 0] 104) = w3 at *
      go_loopw [1, 11] (fun way i wr => ∃ (q : Nat) (A' : Option Addr) (c' : Nat) (ws' : List Int) (acc : ByteArray) (K : List (D × Int)), i = .int .i64 q ∧ way = .slice A' ws'.length c' ∧ ws'.length ≤ c' ∧ NumsI w2 w2.heap.size A' ws' ∧ Bits ws' ∧ Rep l q K ∧ endK (layK K ws' acc) = RES ∧ acc.size + 3300 * szK K ≤ 1400000 ∧ Bld w2.heap.size w2.heap.size acc wr ∧ Below w2.heap.size w2 wr) (fun _ i _ => leftOf l (intOf i).toNat)
      case atStart => exact ⟨0, M, cm, ws, .empty, [(x, 0)], rfl, rfl, hcm, HM2.out, HBT.out, HD.out.rep0, HS0.out, by simp only [szK, ByteArray.size_empty]; have := HSX.out; omega, HBN.out, HB0.out⟩
      case round =>
        obtain ⟨q, A', c', ws', acc, K, rfl, rfl, hlc, hnw, hbi, hrp, hen, hac, hbd, hbe⟩ := hrel
        have HNW := Lib.hid hnw; have HBI := Lib.hid hbi; have HR := Lib.hid hrp; have HE := Lib.hid hen; have HBd := Lib.hid hbd; have HBel := Lib.hid hbe
        have hszr := hbe.size
        have hnw63 := hnw.2
        unfold maxLen at hnw63
        clear hnw hbi hrp hen hbd hbe HBN HB0 HS0
        by_cases hlt : q < l.length
        · obtain ⟨op, t, nn, hND, hops⟩ : ∃ op t nn, l[q] = Nd.mk op t nn ∧ (op = 1 ∨ op = 2 ∨ op = 3 ∨ op = 4 ∨ op = 5 ∨ op = 6 ∨ op = 7 ∨ op = 8 ∨ op = 9) := ⟨l[q].op, l[q].text, l[q].n, rfl, HD.out.ops hlt rfl⟩
          rcases hops with rfl | rfl | rfl | rfl | rfl | rfl | rfl | rfl | rfl
          · -- op 1
            obtain ⟨K', hr', hsz', hac', hly'⟩ := step_word HD.out HR.out hlt hND
            have hr2 := HE.out
            rw [hly'] at hr2
            have HR' := Lib.hid hr'; have HE' := Lib.hid hr2
            have HM1 : Hid (leftOf l (nextAt l q) < leftOf l q) := Lib.hid (by rw [leftOf_eq HR.out, leftOf_eq hr']; exact hsz')
            clear hr' hly' hr2 hsz'
            have HPC := Lib.hid (fun w' (hp : IsPlan w' gp A c l) (hl : Nds w' w'.heap.size A l) => piece_word HD.out w' hp hl hlt hND)
            generalize nextAt l q = NX at *
            clear hND
            go_wp2_with (first
              | (go_at_call 51; refine (HPC.out _ (HPL.out.past HBel.out) (HN2.out.past HBel.out)).mono ?_; rintro e w3 ⟨rfl, hB3⟩; have HB3 := Lib.hid (HBel.out.trans (hB3.mono HBel.out.size)); have HBD3 := Lib.hid (HBd.out.past hB3); clear hB3)
              | (go_at_call 47; refine (bld_write _ _ _ _ _ HBD3.out (by omega)).mono ?_; rintro e w5 ⟨rfl, hb5, hB5⟩; have HB5 := Lib.hid hb5; have HB6 := Lib.hid (HB3.out.trans hB5); clear hb5 hB5))
            go_roundw
            case measure => simpa [intOf] using HM1.out
            case rel => exact ⟨NX, A', c', ws', _, K', by go_num, rfl, hlc, HNW.out, HBI.out, HR'.out, HE'.out, by rw [ByteArray.size_append]; omega, HB5.out, HB6.out⟩
          · -- op 2
            obtain ⟨K', hr', hsz', hac', hly'⟩ := step_line HD.out HR.out hlt hND (.inl rfl)
            have hr2 := HE.out
            rw [hly'] at hr2
            have HR' := Lib.hid hr'; have HE' := Lib.hid hr2
            have HM1 : Hid (leftOf l (nextAt l q) < leftOf l q) := Lib.hid (by rw [leftOf_eq HR.out, leftOf_eq hr']; exact hsz')
            clear hr' hly' hr2 hsz'
            have HPC := Lib.hid (fun w' (hp : IsPlan w' gp A c l) (hl : Nds w' w'.heap.size A l) => piece_line HD.out w' hp hl hlt hND (.inl rfl))
            generalize nextAt l q = NX at *
            generalize (⟨#[10]⟩ ++ blanksB (deepAt l q).toNat : ByteArray) = BL at *
            clear hND
            go_wp2_with (first
              | (go_at_call 51; refine (HPC.out _ (HPL.out.past HBel.out) (HN2.out.past HBel.out)).mono ?_; rintro e w3 ⟨rfl, hB3⟩; have HB3 := Lib.hid (HBel.out.trans (hB3.mono HBel.out.size)); have HBD3 := Lib.hid (HBd.out.past hB3); clear hB3)
              | (go_at_call 47; refine (bld_write _ _ _ _ _ HBD3.out (by omega)).mono ?_; rintro e w5 ⟨rfl, hb5, hB5⟩; have HB5 := Lib.hid hb5; have HB6 := Lib.hid (HB3.out.trans hB5); clear hb5 hB5))
            go_roundw
            case measure => simpa [intOf] using HM1.out
            case rel => exact ⟨NX, A', c', ws', _, K', by go_num, rfl, hlc, HNW.out, HBI.out, HR'.out, HE'.out, by rw [ByteArray.size_append]; omega, HB5.out, HB6.out⟩
          · -- op 3
            obtain ⟨K', hr', hsz', hac', hly'⟩ := step_line HD.out HR.out hlt hND (.inr (.inl rfl))
            have hr2 := HE.out
            rw [hly'] at hr2
            have HR' := Lib.hid hr'; have HE' := Lib.hid hr2
            have HM1 : Hid (leftOf l (nextAt l q) < leftOf l q) := Lib.hid (by rw [leftOf_eq HR.out, leftOf_eq hr']; exact hsz')
            clear hr' hly' hr2 hsz'
            have HPC := Lib.hid (fun w' (hp : IsPlan w' gp A c l) (hl : Nds w' w'.heap.size A l) => piece_line HD.out w' hp hl hlt hND (.inr (.inl rfl)))
            generalize nextAt l q = NX at *
            generalize (⟨#[10]⟩ ++ blanksB (deepAt l q).toNat : ByteArray) = BL at *
            clear hND
            go_wp2_with (first
              | (go_at_call 51; refine (HPC.out _ (HPL.out.past HBel.out) (HN2.out.past HBel.out)).mono ?_; rintro e w3 ⟨rfl, hB3⟩; have HB3 := Lib.hid (HBel.out.trans (hB3.mono HBel.out.size)); have HBD3 := Lib.hid (HBd.out.past hB3); clear hB3)
              | (go_at_call 47; refine (bld_write _ _ _ _ _ HBD3.out (by omega)).mono ?_; rintro e w5 ⟨rfl, hb5, hB5⟩; have HB5 := Lib.hid hb5; have HB6 := Lib.hid (HB3.out.trans hB5); clear hb5 hB5))
            go_roundw
            case measure => simpa [intOf] using HM1.out
            case rel => exact ⟨NX, A', c', ws', _, K', by go_num, rfl, hlc, HNW.out, HBI.out, HR'.out, HE'.out, by rw [ByteArray.size_append]; omega, HB5.out, HB6.out⟩
          · -- op 4
            obtain ⟨K', hr', hsz', hac', hly'⟩ := step_line HD.out HR.out hlt hND (.inr (.inr rfl))
            have hr2 := HE.out
            rw [hly'] at hr2
            have HR' := Lib.hid hr'; have HE' := Lib.hid hr2
            have HM1 : Hid (leftOf l (nextAt l q) < leftOf l q) := Lib.hid (by rw [leftOf_eq HR.out, leftOf_eq hr']; exact hsz')
            clear hr' hly' hr2 hsz'
            have HPC := Lib.hid (fun w' (hp : IsPlan w' gp A c l) (hl : Nds w' w'.heap.size A l) => piece_line HD.out w' hp hl hlt hND (.inr (.inr rfl)))
            generalize nextAt l q = NX at *
            generalize (⟨#[10]⟩ ++ blanksB (deepAt l q).toNat : ByteArray) = BL at *
            clear hND
            go_wp2_with (first
              | (go_at_call 51; refine (HPC.out _ (HPL.out.past HBel.out) (HN2.out.past HBel.out)).mono ?_; rintro e w3 ⟨rfl, hB3⟩; have HB3 := Lib.hid (HBel.out.trans (hB3.mono HBel.out.size)); have HBD3 := Lib.hid (HBd.out.past hB3); clear hB3)
              | (go_at_call 47; refine (bld_write _ _ _ _ _ HBD3.out (by omega)).mono ?_; rintro e w5 ⟨rfl, hb5, hB5⟩; have HB5 := Lib.hid hb5; have HB6 := Lib.hid (HB3.out.trans hB5); clear hb5 hB5))
            go_roundw
            case measure => simpa [intOf] using HM1.out
            case rel => exact ⟨NX, A', c', ws', _, K', by go_num, rfl, hlc, HNW.out, HBI.out, HR'.out, HE'.out, by rw [ByteArray.size_append]; omega, HB5.out, HB6.out⟩
          · -- op 5
            obtain ⟨K', hr', hsz', hac', hly'⟩ := step_zero HD.out HR.out hlt hND
            have hr2 := HE.out
            rw [hly'] at hr2
            have HR' := Lib.hid hr'; have HE' := Lib.hid hr2
            have HM1 : Hid (leftOf l (nextAt l q) < leftOf l q) := Lib.hid (by rw [leftOf_eq HR.out, leftOf_eq hr']; exact hsz')
            clear hr' hly' hr2 hsz'
            have HPC := Lib.hid (fun w' (hp : IsPlan w' gp A c l) (hl : Nds w' w'.heap.size A l) => piece_zero HD.out w' hp hl hlt hND)
            generalize nextAt l q = NX at *
            clear hND
            go_wp2_with (first
              | (go_at_call 51; refine (HPC.out _ (HPL.out.past HBel.out) (HN2.out.past HBel.out)).mono ?_; rintro e w3 ⟨rfl, hB3⟩; have HB3 := Lib.hid (HBel.out.trans (hB3.mono HBel.out.size)); have HBD3 := Lib.hid (HBd.out.past hB3); clear hB3)
              | (go_at_call 47; refine (bld_write _ _ _ _ _ HBD3.out (by omega)).mono ?_; rintro e w5 ⟨rfl, hb5, hB5⟩; have HB5 := Lib.hid hb5; have HB6 := Lib.hid (HB3.out.trans hB5); clear hb5 hB5))
            go_roundw
            case measure => simpa [intOf] using HM1.out
            case rel => exact ⟨NX, A', c', ws', _, K', by go_num, rfl, hlc, HNW.out, HBI.out, HR'.out, HE'.out, by rw [ByteArray.size_append]; omega, HB5.out, HB6.out⟩
          · -- op 6
            obtain ⟨K', hr', hsz', hac', hly'⟩ := step_both HD.out HR.out hlt hND
            have hr2 := HE.out
            rw [hly'] at hr2
            have HR' := Lib.hid hr'; have HE' := Lib.hid hr2
            have HM1 : Hid (leftOf l (q + 1) < leftOf l q) := Lib.hid (by rw [leftOf_eq HR.out, leftOf_eq hr']; exact hsz')
            clear hr' hly' hr2 hsz'
            have HPC := Lib.hid (fun w' (hp : IsPlan w' gp A c l) (hl : Nds w' w'.heap.size A l) => piece_part HD.out w' hp hl hlt hND (.inl rfl))
            clear hND
            go_wp2_with (first
              | (go_at_call 51; refine (HPC.out _ (HPL.out.past HBel.out) (HN2.out.past HBel.out)).mono ?_; rintro e w3 ⟨rfl, hB3⟩; have HB3 := Lib.hid (HBel.out.trans (hB3.mono HBel.out.size)); have HBD3 := Lib.hid (HBd.out.past hB3); clear hB3)
              | (go_at_call 47; refine (bld_write _ _ _ _ _ HBD3.out (by omega)).mono ?_; rintro e w5 ⟨rfl, hb5, hB5⟩; have HB5 := Lib.hid hb5; have HB6 := Lib.hid (HB3.out.trans hB5); clear hb5 hB5))
            go_roundw
            case measure => simpa [intOf] using HM1.out
            case rel => exact ⟨q + 1, A', c', ws', _, K', by go_num, rfl, hlc, HNW.out, HBI.out, HR'.out, HE'.out, by rw [ByteArray.size_append]; omega, HB5.out, HB6.out⟩
          · -- op 7
            obtain ⟨K', hr', hsz', hac', hly'⟩ := step_deep HD.out HR.out hlt hND
            have hr2 := HE.out
            rw [hly'] at hr2
            have HR' := Lib.hid hr'; have HE' := Lib.hid hr2
            have HM1 : Hid (leftOf l (q + 1) < leftOf l q) := Lib.hid (by rw [leftOf_eq HR.out, leftOf_eq hr']; exact hsz')
            clear hr' hly' hr2 hsz'
            have HPC := Lib.hid (fun w' (hp : IsPlan w' gp A c l) (hl : Nds w' w'.heap.size A l) => piece_part HD.out w' hp hl hlt hND (.inr rfl))
            clear hND
            go_wp2_with (first
              | (go_at_call 51; refine (HPC.out _ (HPL.out.past HBel.out) (HN2.out.past HBel.out)).mono ?_; rintro e w3 ⟨rfl, hB3⟩; have HB3 := Lib.hid (HBel.out.trans (hB3.mono HBel.out.size)); have HBD3 := Lib.hid (HBd.out.past hB3); clear hB3)
              | (go_at_call 47; refine (bld_write _ _ _ _ _ HBD3.out (by omega)).mono ?_; rintro e w5 ⟨rfl, hb5, hB5⟩; have HB5 := Lib.hid hb5; have HB6 := Lib.hid (HB3.out.trans hB5); clear hb5 hB5))
            go_roundw
            case measure => simpa [intOf] using HM1.out
            case rel => exact ⟨q + 1, A', c', ws', _, K', by go_num, rfl, hlc, HNW.out, HBI.out, HR'.out, HE'.out, by rw [ByteArray.size_append]; omega, HB5.out, HB6.out⟩
          · -- op 8
            have HPC := Lib.hid (fun w' (hp : IsPlan w' gp A c l) (hl : Nds w' w'.heap.size A l) => piece_choice HD.out w' hp hl hlt hND (.inl rfl))
            cases ws' with
            | nil =>
              have hno := pick_none HD.out HR.out hlt hND (.inl rfl) acc
              have hres := HE.out
              rw [hno] at hres
              have HRES := Lib.hid hres
              clear hno hres hND
              go_wp2_with (go_at_call 51; refine (HPC.out _ (HPL.out.past HBel.out) (HN2.out.past HBel.out)).mono ?_; rintro e w3 ⟨rfl, hB3⟩; have HB3 := Lib.hid (HBel.out.trans (hB3.mono HBel.out.size)); have HBD3 := Lib.hid (HBd.out.past hB3); clear hB3)
              go_ret2
              exact ⟨by rw [← HRES.out]; rfl, HB12.out.trans (HB3.out.mono HB12.out.size)⟩
            | cons v r =>
              obtain ⟨h01, hbr⟩ := bits_tail HBI.out
              have HBr := Lib.hid hbr
              have hln : (v :: r).length = r.length + 1 := rfl
              rw [hln] at hlc hnw63 ⊢
              obtain ⟨b2, off2, rfl, hb2, hcw⟩ := HNW.out.1.2 (by simp)
              have x0 : w2.cell? ⟨b2, off2, none⟩ = some (.int .i64 v) := hcw 0 _ rfl
              clear hcw hbr hln
              rcases h01 with rfl | rfl
              · have HCH := Lib.hid (fun w' (hp : IsPlan w' gp A c l) (hl : Nds w' w'.heap.size A l) => choose_flat HD.out w' hp hl hlt hND)
                cases hfl : (docAt l (q + 1)).flat with
                | none =>
                  have hbad := pick_bad HD.out HR.out hlt hND hfl r acc
                  have hres := HE.out
                  rw [hbad] at hres
                  have HRES := Lib.hid hres
                  have hla : lineAt l (q + 1) = (.empty, false) := by rw [lineAt, hfl]; rfl
                  rw [hla] at HCH
                  clear hbad hres hND hfl hla
                  go_wp2_with (first
                    | (go_at_call 51; refine (HPC.out _ (HPL.out.past HBel.out) (HN2.out.past HBel.out)).mono ?_; rintro e w3 ⟨rfl, hB3⟩; have HB3 := Lib.hid (HBel.out.trans (hB3.mono HBel.out.size)); have HBD3 := Lib.hid (HBd.out.past hB3); clear hB3; have y0 := (HB3.out.cell (p := ⟨b2, off2, none⟩) hb2).trans x0)
                    | (go_at_call 52; refine (HCH.out _ (HPL.out.past HB3.out) (HN2.out.past HB3.out)).mono ?_; rintro e w4 ⟨rfl, hB4⟩; have HB4 := Lib.hid (HB3.out.trans (hB4.mono HB3.out.size)); have HBD4 := Lib.hid (HBD3.out.past hB4); clear hB4))
                  go_ret2
                  exact ⟨by rw [← HRES.out]; rfl, HB12.out.trans (HB4.out.mono HB12.out.size)⟩
                | some s =>
                  have hla : lineAt l (q + 1) = (s, true) := by rw [lineAt, hfl]; rfl
                  rw [hla] at HCH
                  obtain ⟨K', hr', hsz', hac', hly'⟩ := pick_flat HD.out HR.out hlt hND hfl
                  have hr2 := HE.out
                  rw [hly'] at hr2
                  clear hfl hla
                  have HR' := Lib.hid hr'; have HE' := Lib.hid hr2
                  have HML : Hid (leftOf l (nextAt l q) < leftOf l q) := Lib.hid (by rw [leftOf_eq HR.out, leftOf_eq hr']; exact hsz')
                  clear hr' hly' hr2 hsz'
                  generalize nextAt l q = NX at *
                  clear hND
                  have k7 : (1 : Int) ≤ (r.length : Int) + 1 := by omega
                  go_wp2_with (first
                    | (go_at_call 51; refine (HPC.out _ (HPL.out.past HBel.out) (HN2.out.past HBel.out)).mono ?_; rintro e w3 ⟨rfl, hB3⟩; have HB3 := Lib.hid (HBel.out.trans (hB3.mono HBel.out.size)); have HBD3 := Lib.hid (HBd.out.past hB3); clear hB3; have y0 := (HB3.out.cell (p := ⟨b2, off2, none⟩) hb2).trans x0)
                    | (go_at_call 52; refine (HCH.out _ (HPL.out.past HB3.out) (HN2.out.past HB3.out)).mono ?_; rintro e w4 ⟨rfl, hB4⟩; have HB4 := Lib.hid (HB3.out.trans (hB4.mono HB3.out.size)); have HBD4 := Lib.hid (HBD3.out.past hB4); clear hB4))
                  go_quiet (fail)
                  have HBQ := Lib.hid (HBD4.out.past (below_drewN (Below.refl _ _) nq))
                  have HBR := Lib.hid (below_drewN HB4.out nq)
                  clear k7
                  go_wp2_with (go_at_call 47; refine (bld_write _ _ _ _ _ HBQ.out (by omega)).mono ?_; rintro e w5 ⟨rfl, hb5, hB5⟩; have HB5 := Lib.hid hb5; have HB6 := Lib.hid (HBR.out.trans hB5); clear hb5 hB5)
                  go_roundw
                  case measure => simpa [intOf] using HML.out
                  case rel => exact ⟨NX, _, c' - 1, r, _, K', rfl, rfl, by omega, HNW.out.tail (by simp only [List.length_cons]; omega), HBr.out, HR'.out, HE'.out, by rw [ByteArray.size_append]; omega, HB5.out, HB6.out⟩
              · have HCH := Lib.hid (fun w' (hp : IsPlan w' gp A c l) (hl : Nds w' w'.heap.size A l) => choose_lines HD.out w' hp hl hlt hND)
                obtain ⟨K', hr', hsz', hac', hly'⟩ := pick_lines HD.out HR.out hlt hND
                have hr2 := HE.out
                rw [hly'] at hr2
                have HR' := Lib.hid hr'; have HE' := Lib.hid hr2
                have HML : Hid (leftOf l (q + 1) < leftOf l q) := Lib.hid (by rw [leftOf_eq HR.out, leftOf_eq hr']; exact hsz')
                clear hr' hly' hr2 hsz'
                clear hND
                have k7 : (1 : Int) ≤ (r.length : Int) + 1 := by omega
                go_wp2_with (first
                  | (go_at_call 51; refine (HPC.out _ (HPL.out.past HBel.out) (HN2.out.past HBel.out)).mono ?_; rintro e w3 ⟨rfl, hB3⟩; have HB3 := Lib.hid (HBel.out.trans (hB3.mono HBel.out.size)); have HBD3 := Lib.hid (HBd.out.past hB3); clear hB3; have y0 := (HB3.out.cell (p := ⟨b2, off2, none⟩) hb2).trans x0)
                  | (go_at_call 52; refine (HCH.out _ (HPL.out.past HB3.out) (HN2.out.past HB3.out)).mono ?_; rintro e w4 ⟨rfl, hB4⟩; have HB4 := Lib.hid (HB3.out.trans (hB4.mono HB3.out.size)); have HBD4 := Lib.hid (HBD3.out.past hB4); clear hB4))
                go_quiet (fail)
                have HBQ := Lib.hid (HBD4.out.past (below_drewN (Below.refl _ _) nq))
                have HBR := Lib.hid (below_drewN HB4.out nq)
                clear k7
                go_wp2_with (go_at_call 47; refine (bld_write _ _ _ _ _ HBQ.out (by omega)).mono ?_; rintro e w5 ⟨rfl, hb5, hB5⟩; have HB5 := Lib.hid hb5; have HB6 := Lib.hid (HBR.out.trans hB5); clear hb5 hB5)
                go_roundw
                case measure => simpa [intOf] using HML.out
                case rel => exact ⟨q + 1, _, c' - 1, r, _, K', by go_num, rfl, by omega, HNW.out.tail (by simp only [List.length_cons]; omega), HBr.out, HR'.out, HE'.out, by rw [ByteArray.size_append]; omega, HB5.out, HB6.out⟩
          · -- op 9
            have HPC := Lib.hid (fun w' (hp : IsPlan w' gp A c l) (hl : Nds w' w'.heap.size A l) => piece_choice HD.out w' hp hl hlt hND (.inr rfl))
            cases ws' with
            | nil =>
              have hno := pick_none HD.out HR.out hlt hND (.inr rfl) acc
              have hres := HE.out
              rw [hno] at hres
              have HRES := Lib.hid hres
              clear hno hres hND
              go_wp2_with (go_at_call 51; refine (HPC.out _ (HPL.out.past HBel.out) (HN2.out.past HBel.out)).mono ?_; rintro e w3 ⟨rfl, hB3⟩; have HB3 := Lib.hid (HBel.out.trans (hB3.mono HBel.out.size)); have HBD3 := Lib.hid (HBd.out.past hB3); clear hB3)
              go_ret2
              exact ⟨by rw [← HRES.out]; rfl, HB12.out.trans (HB3.out.mono HB12.out.size)⟩
            | cons v r =>
              obtain ⟨h01, hbr⟩ := bits_tail HBI.out
              have HBr := Lib.hid hbr
              have hln : (v :: r).length = r.length + 1 := rfl
              rw [hln] at hlc hnw63 ⊢
              obtain ⟨b2, off2, rfl, hb2, hcw⟩ := HNW.out.1.2 (by simp)
              have x0 : w2.cell? ⟨b2, off2, none⟩ = some (.int .i64 v) := hcw 0 _ rfl
              clear hcw hbr hln
              have HCH := Lib.hid (fun w' (hp : IsPlan w' gp A c l) (hl : Nds w' w'.heap.size A l) => choose_either HD.out w' v h01 hp hl hlt hND)
              obtain ⟨K', hr', hsz', hac', hly'⟩ := pick_either HD.out HR.out hlt hND h01
              have hr2 := HE.out
              rw [hly'] at hr2
              have HR' := Lib.hid hr'; have HE' := Lib.hid hr2
              have HML : Hid (leftOf l (if v = 0 then q + 1 else endAt l (q + 1)) < leftOf l q) := Lib.hid (by rw [leftOf_eq HR.out, leftOf_eq hr']; exact hsz')
              clear hr' hly' hr2 hsz'
              generalize (if v = 0 then q + 1 else endAt l (q + 1)) = NX at *
              clear hND h01
              have k7 : (1 : Int) ≤ (r.length : Int) + 1 := by omega
              go_wp2_with (first
                | (go_at_call 51; refine (HPC.out _ (HPL.out.past HBel.out) (HN2.out.past HBel.out)).mono ?_; rintro e w3 ⟨rfl, hB3⟩; have HB3 := Lib.hid (HBel.out.trans (hB3.mono HBel.out.size)); have HBD3 := Lib.hid (HBd.out.past hB3); clear hB3; have y0 := (HB3.out.cell (p := ⟨b2, off2, none⟩) hb2).trans x0)
                | (go_at_call 52; refine (HCH.out _ (HPL.out.past HB3.out) (HN2.out.past HB3.out)).mono ?_; rintro e w4 ⟨rfl, hB4⟩; have HB4 := Lib.hid (HB3.out.trans (hB4.mono HB3.out.size)); have HBD4 := Lib.hid (HBD3.out.past hB4); clear hB4))
              go_quiet (fail)
              have HBQ := Lib.hid (HBD4.out.past (below_drewN (Below.refl _ _) nq))
              have HBR := Lib.hid (below_drewN HB4.out nq)
              clear k7
              go_wp2_with (go_at_call 47; refine (bld_write _ _ _ _ _ HBQ.out (by omega)).mono ?_; rintro e w5 ⟨rfl, hb5, hB5⟩; have HB5 := Lib.hid hb5; have HB6 := Lib.hid (HBR.out.trans hB5); clear hb5 hB5)
              go_roundw
              case measure => simpa [intOf] using HML.out
              case rel => exact ⟨NX, _, c' - 1, r, _, K', rfl, rfl, by omega, HNW.out.tail (by simp only [List.length_cons]; omega), HBr.out, HR'.out, HE'.out, by rw [ByteArray.size_append]; omega, HB5.out, HB6.out⟩
        · obtain ⟨rfl, hql⟩ := HR.out.ge (by omega)
          have hres := HE.out
          simp only [layK] at hres
          cases ws' with
          | nil =>
            have HRES := Lib.hid hres
            clear hres
            go_wp2_with (go_at_call 49; refine (bld_string _ _ _ _ HBd.out).mono ?_; rintro e w5 ⟨rfl, hB5⟩)
            go_ret2
            exact ⟨by rw [← HRES.out]; rfl, HB12.out.trans ((HBel.out.trans hB5).mono HB12.out.size)⟩
          | cons v r =>
            have HRES := Lib.hid hres
            clear hres
            go_wp2
            go_ret2
            exact ⟨by rw [← HRES.out]; rfl, HB12.out.trans (HBel.out.mono HB12.out.size)⟩
end Go.Proofs.YtddfdmopaeghnacGreatDoor

namespace Go.Proofs.YtddfdmopaeghnacGreatDoor
open Go.RowKit

theorem show_ok (hof : OfSaid) {l : List Nd} {x : D} {ws : List Int} {s : ByteArray} (h : Shown l x ws s) (A : Option Addr) (n c : Nat) (hn : l.length = n) (M : Option Addr) (m cm : Nat) (hm : ws.length = m) (hcm : m ≤ cm) (w : World) (hl : Nds w w.heap.size A l) (hM : NumsI w w.heap.size M ws) :
    Calls Tryz.prog 16 #[.slice A n c, .slice M m cm] w (Ret w (.tuple #[.string s, .nilIface])) :=
  (show_good hof h.doc A n c hn ws M m cm hm hcm w hl hM h.bits).mono fun _ _ ⟨he, hb⟩ => by
    have : showD x ws = .ok s := by unfold showD; rw [h.lay]
    rw [this] at he
    exact ⟨he, hb⟩
theorem show_no (hof : OfSaid) {l : List Nd} {ws : List Int} {q : Int} (h : showF l ws = .error q) (A : Option Addr) (n c : Nat) (hn : l.length = n) (M : Option Addr) (m cm : Nat) (hm : ws.length = m) (hcm : m ≤ cm) (w : World) (hl : Nds w w.heap.size A l) (hM : NumsI w w.heap.size M ws) :
    Calls Tryz.prog 16 #[.slice A n c, .slice M m cm] w (Ret w (.tuple #[.string .empty, .iface 43 (.int .i64 q)])) := by
  unfold showF at h
  by_cases he : checkF l = 0
  · rw [if_neg (by simp [he])] at h
    by_cases hb : badBit ws = true
    · rw [if_pos hb] at h
      cases h
      exact (show_bit l A n c hn ws M m cm hm w hl hM he hb).mono fun _ _ ⟨a, b⟩ => ⟨a, b⟩
    · rw [if_neg hb] at h
      obtain ⟨x, hd⟩ := Doc.of_check he
      rw [hd.root] at h
      exact (show_good hof hd A n c hn ws M m cm hm hcm w hl hM (by simpa using hb)).mono fun _ _ ⟨a, b⟩ => by
        rw [h] at a
        exact ⟨a, b⟩
  · rw [if_pos he] at h
    cases h
    exact (show_bad l A n c hn M m cm w hl he).mono fun _ _ ⟨a, b⟩ => ⟨a, b⟩

end Go.Proofs.YtddfdmopaeghnacGreatDoor

namespace Go.Proofs.YtddfdmopaeghnacGreatDoor
open Go.RowKit
set_option maxRecDepth 100000 in
set_option maxHeartbeats 40000000 in
theorem of_part1 : of_pre.1 := by
  intro l x A c w h400 i0 iS hiS hzS hzS1 hzS2 iT hiT hzT hzT1 hzT2 hmk HM HN HD zK_0 za_0 zJ_0 zKq_0 za_1 za_2
  go_region_with (go_at_call 90; refine (ends_any l x A c _ (HN.out.past (by repeat (first | exact Below.refl _ _ | assumption | apply Below.drew | refine below_drewN ?_ _ | apply Below.setCell _ (by first | omega | (simp; done) | (simp; omega)) | apply Below.alloc _ (by first | omega | (simp; done) | (simp; omega))))) HD.out).mono ?_; rintro e w2 ⟨g2, rfl, hown2, hB2⟩; have HW2 := Lib.hid hown2; clear hown2)
  all_goals go_wp2_with fail
  all_goals go_meet
  all_goals
    refine ps_mk (by first | rfl | (simp; done)) (by have := hB2.size; simp at this ⊢; first | done | omega) ?_ ?_ ?_ (by have := hB2.size; have := (HW2.out.lt g2 rfl).1; simp at *; first | done | omega) (by have := hB2.size; have := (HW2.out.lt g2 rfl); simp at *; first | done | omega) (by have := hB2.size; have := (HW2.out.lt g2 rfl); simp at *; first | done | omega) ?_
    · (repeat (first | ((refine own_made ?_ ?_ HM.out); (focus (first | rfl | (simp; done))); (focus (have hq := hB2.size; first | omega | (simp at hq ⊢; done) | (simp at hq ⊢; omega)))) | apply World.ownsRow.alloc | refine own_below ?_ hB2))
    · (repeat (first | ((refine own_made ?_ ?_ HM.out); (focus (first | rfl | (simp; done))); (focus (have hq := hB2.size; first | omega | (simp at hq ⊢; done) | (simp at hq ⊢; omega)))) | apply World.ownsRow.alloc | refine own_below ?_ hB2))
    · (repeat (first | exact own_more HW2.out (by simp; first | done | omega) | apply World.ownsRow.alloc))
    · have hsz := hB2.size
      (repeat (first | exact Below.refl _ _ | apply Below.drew | refine below_drewN ?_ _ | (refine Below.alloc ?_ (by simp at *; first | done | omega) _) | (refine Below.trans ?_ (hB2.mono (by simp; first | done | omega)))))
end Go.Proofs.YtddfdmopaeghnacGreatDoor

namespace Go.Proofs.YtddfdmopaeghnacGreatDoor
open Go.RowKit
/-- The plan of a doc that may be, with where it lies. -/
theorem of_from (l : List Nd) (x : D) (A : Option Addr) (c : Nat) (w : World) (hl : Nds w w.heap.size A l) (hd : Doc l x) :
    Calls Tryz.prog 50 #[.slice A l.length c] w (OfFrom l A c w) :=
  of_pre.2.2.2 of_part1 of_part2 of_part3 l x A c w hl hd
/-- The plan of a doc that may be. -/
theorem of_any (l : List Nd) (x : D) (A : Option Addr) (c : Nat) (w : World) (hl : Nds w w.heap.size A l) (hd : Doc l x) :
    Calls Tryz.prog 50 #[.slice A l.length c] w (OfTo l A c w) :=
  OfFromSaid.said (fun l x A c w hl hd => of_from l x A c w hl hd) l x A c w hl hd
end Go.Proofs.YtddfdmopaeghnacGreatDoor

namespace Go.Proofs.YtddfdmopaeghnacGreatDoor
open Go.RowKit

theorem prg_oneF {w : World} {A : Option Addr} {c n : Nat} {l : List Nd} (hn : l.length = n) (h : Nds w w.heap.size A l) (hs : Short l) {g : Nat} (hg : w.heap.size = g) : Prg (w.alloc (.cells #[.slice A n c] 22)) (w.alloc (.cells #[.slice A n c] 22)).heap.size (some ⟨g, 0, none⟩) [l] := by
  subst hn hg
  refine ⟨⟨[.slice A l.length c], Sl.lit (sz := 1) w #[.slice A l.length c] _ 1 rfl, fun j v hv => ?_⟩, by simp [maxLen]⟩
  cases j with
  | zero =>
    simp only [List.getElem?_cons_zero, Option.some.injEq] at hv
    exact ⟨A, c, l, rfl, hv.symm, h.past ((Below.refl _ _).alloc (Nat.le_refl _) _), hs⟩
  | succ j => simp at hv
theorem progF_oneF {l : List Nd} (h : treeF l = 0) : progF [l] = (0, 0) := by
  rw [progF, if_neg (by simp), progK, if_neg (by simp [h])]
  simp [progK]
theorem lit_trees2 (w : World) (a b : Nd) (ha : a.text.size ≤ maxLen) (hb : b.text.size ≤ maxLen) :
    Nds (w.alloc (.cells #[.int .i64 a.op, .string a.text, .int .i64 a.n, .int .i64 b.op, .string b.text, .int .i64 b.n] 25)) (w.alloc (.cells #[.int .i64 a.op, .string a.text, .int .i64 a.n, .int .i64 b.op, .string b.text, .int .i64 b.n] 25)).heap.size (some ⟨w.heap.size, 0, none⟩) [a, b] :=
  ⟨.lit w _ _ 2 rfl, by simp [maxLen], by simpa using ⟨ha, hb⟩⟩
def FactP (w : World) : Prop := Calls Tryz.prog 19 #[.slice (some ⟨w.heap.size, 0, none⟩) 2 2, .int .i64 10] (w.alloc (.cells #[.int .i64 8, .string .empty, .int .i64 0, .int .i64 1, .string .empty, .int .i64 7] 25)) (Ret (w.alloc (.cells #[.int .i64 8, .string .empty, .int .i64 0, .int .i64 1, .string .empty, .int .i64 7] 25)) (.tuple #[.string ⟨#[55, 59, 10]⟩, .nilIface]))
theorem factP (w : World) (hm : MaxL w) (hp : PowT w) : FactP w := by
  have h9 : opAt pFact 0 ≠ 9 := by decide
  have hlen := docL_len pFact_ok h9
  rw [show pFact.length = 2 from rfl] at hlen
  have hN := lit_trees2 w ⟨8, .empty, 0⟩ ⟨1, .empty, 7⟩ (by simp [maxLen]) (by simp [maxLen])
  have hal : Below w.heap.size w (w.alloc (.cells #[.int .i64 8, .string .empty, .int .i64 0, .int .i64 1, .string .empty, .int .i64 7] 25)) := (Below.refl _ _).alloc (Nat.le_refl _) _
  have hsh : Short pFact := by
    intro d hd
    simp only [pFact, List.mem_cons, List.not_mem_nil, or_false] at hd
    rcases hd with rfl | rfl <;> decide
  have h := pone_ok (fun l x A c w hl hd => of_from l x A c w hl hd) pFact 10 (some ⟨w.heap.size, 0, none⟩) 2 _ hN hsh (hm.past hal) (hp.past hal) (fun h => docL_doc pFact_ok h (by omega)) pFact_one.1
  rw [pFact_one.2] at h
  exact h

theorem cost_over (x y : Value) (w : World) : (Instr.field 47 (.agg #[x, y]) 0).run Tryz.prog w = .ok x w := by kernel_rfl
/-- What FormFits asks of each text: it may be read on. -/
structure TextS (S : ByteArray) : Prop where
  two : 2 ≤ S.size
  small : S.size ≤ 1500000
  last : ∀ w', (Instr.index 9 (.string S) (.int .i64 ((S.size : Int) - 1))).run Tryz.prog w' = .ok (.int .u8 10) w'
  no : ∀ k : Nat, 1 ≤ k → k < S.size → ∃ b1 b0 : Int, (∀ w', (Instr.index 9 (.string S) (.int .i64 (k : Nat))).run Tryz.prog w' = .ok (.int .u8 b1) w') ∧ (∀ w', (Instr.index 9 (.string S) (.int .i64 ((k : Int) - 1))).run Tryz.prog w' = .ok (.int .u8 b0) w') ∧ ((b1 == 10) = false ∨ (b1 = 10 ∧ (b0 == 32) = false))
theorem idx_is (S : ByteArray) {i : Int} {j : Nat} (hi : i = j) (hj : j < S.size) : ∀ w', (Instr.index 9 (.string S) (.int .i64 i)).run Tryz.prog w' = .ok (.int .u8 (S[j].toNat : Nat)) w' := fun w' => by
  subst hi
  rw [run_index_string w' 9 S .i64 _ Tryz.underlying9, dif_pos (by omega)]
  rfl
theorem OneIs.text {l : List Nd} {W : Int} {S : ByteArray} (h : OneIs l W S) : TextS S := by
  have h2 := h.two
  refine ⟨h.two, h.small, ?_, fun k h1 hk => ?_⟩
  · have hb := last_byte h.last (by omega)
    have := idx_is S (i := (S.size : Int) - 1) (j := S.size - 1) (by omega) (by omega)
    rw [hb] at this
    exact this
  · obtain ⟨j, rfl⟩ : ∃ j, k = j + 1 := ⟨k - 1, by omega⟩
    refine ⟨_, _, idx_is S (j := j + 1) rfl hk, idx_is S (j := j) (by omega) (by omega), ?_⟩
    by_cases h10 : S[j + 1] = 10
    · have := rn_bytes h.rn hk h10
      refine .inr ⟨by rw [h10]; rfl, ?_⟩
      have h3 : S[j].toNat ≠ 32 := fun e => this (UInt8.toNat_inj.1 e)
      simp; omega
    · have h3 : S[j + 1].toNat ≠ 10 := fun e => h10 (UInt8.toNat_inj.1 e)
      refine .inl ?_
      simp; omega

set_option maxRecDepth 100000 in
set_option maxHeartbeats 4000000 in
/-- It is not laid: for a reason. -/
theorem formFits_bad (l : List Nd) (A : Option Addr) (c : Nat) (W : Int) (M : Option Addr) (m cm : Nat) (w : World) (hl : Nds w w.heap.size A l) (hsh : Short l) (hm : MaxL w) (hp : PowT w) (h : oneQ l W ≠ 0) :
    Calls Tryz.prog 5 #[.slice A l.length c, .int .i64 W, .slice M m cm] w (Ret w (.bool true)) := by
  have HF0 := Lib.hid (factP w hm hp)
  unfold FactP at HF0
  have HAL : Hid (Below w.heap.size w (w.alloc (.cells #[.int .i64 8, .string .empty, .int .i64 0, .int .i64 1, .string .empty, .int .i64 7] 25))) := Lib.hid ((Below.refl _ _).alloc (Nat.le_refl _) _)
  have hml := hl.2.1
  unfold maxLen at hml
  have HONE := Lib.hid (fun (w' : World) (hB : Below w.heap.size w w') => pone_bad l W A c w' (hl.past hB) hsh (hm.past hB) (hp.past hB) h)
  have HTF := Lib.hid (fun (w' : World) (hB : Below w.heap.size w w') => treefault_any l A c w' (hl.past hB) hsh)
  have HLD : Hid (treeF l = 0 → ∀ w', Below w.heap.size w w' → Calls Tryz.prog 21 #[.slice (some ⟨w'.heap.size, 0, none⟩) 1 1, .int .i64 W] (w'.alloc (.cells #[.slice A l.length c] 22)) (Ret (w'.alloc (.cells #[.slice A l.length c] 22)) (.bool false))) := Lib.hid (fun ht w' hB => by
    have h1 := laid_any [l] (some ⟨w'.heap.size, 0, none⟩) 1 W _ (prg_oneF rfl (hl.past hB) hsh (c := c) rfl) (fun u hu => by rw [List.mem_singleton.1 hu]; exact ht)
    have h2 : laidF [l] W = false := laid_no h ht
    rw [h2] at h1
    exact h1)
  generalize oneQ l W = q at *
  have hcase : (treeF l == 0) = true ∧ treeF l = 0 ∨ (treeF l == 0) = false := by
    by_cases h0 : treeF l = 0
    · exact .inl ⟨by simp [h0], h0⟩
    · exact .inr (by simpa using h0)
  clear hl hsh hm hp h
  rcases hcase with ⟨k1, k2⟩ | k1
  · have HLD2 := Lib.hid (HLD.out k2)
    rw [k2] at HTF
    generalize treeF l = tf at *
    clear HLD k1 k2
    go_enter Tryz.func5, Tryz.ntmps5
    go_wp2_with (first
      | (go_at_call 19; (fail_if_success have z := T0); refine HF0.out.mono ?_; rintro e w1 ⟨rfl, hB⟩; have HB := Lib.hid (HAL.out.trans (hB.mono HAL.out.size)); have T0 := Lib.hid True.intro; clear hB)
      | (go_at_call 19; (have z := T0; clear z); refine (HONE.out _ HB.out).mono ?_; rintro e w2 ⟨rfl, hB⟩; have HB := Lib.hid (HB.out.trans (hB.mono HB.out.size)); clear hB)
      | (go_at_call 20; refine (HTF.out _ HB.out).mono ?_; rintro e w3 ⟨rfl, hB⟩; have HB := Lib.hid (HB.out.trans (hB.mono HB.out.size)); clear hB)
      | (go_at_call 21; refine (HLD2.out _ HB.out).mono ?_; rintro e w4 ⟨rfl, hB⟩; have HB := Lib.hid (Below.trans (HB.out.alloc HB.out.size _) (hB.mono (Nat.le_trans HB.out.size (by simp)))); clear hB))
    go_ret
    exact ⟨by first | rfl | (simp; done), HB.out⟩
  · clear HLD
    generalize treeF l = tf at *
    have k2 : (tf != 0) = true := by simp only [bne, k1]; rfl
    go_enter Tryz.func5, Tryz.ntmps5
    go_wp2_with (first
      | (go_at_call 19; (fail_if_success have z := T0); refine HF0.out.mono ?_; rintro e w1 ⟨rfl, hB⟩; have HB := Lib.hid (HAL.out.trans (hB.mono HAL.out.size)); have T0 := Lib.hid True.intro; clear hB)
      | (go_at_call 19; (have z := T0; clear z); refine (HONE.out _ HB.out).mono ?_; rintro e w2 ⟨rfl, hB⟩; have HB := Lib.hid (HB.out.trans (hB.mono HB.out.size)); clear hB)
      | (go_at_call 20; refine (HTF.out _ HB.out).mono ?_; rintro e w3 ⟨rfl, hB⟩; have HB := Lib.hid (HB.out.trans (hB.mono HB.out.size)); clear hB))
    go_ret
    exact ⟨by first | rfl | (simp; done), HB.out⟩

set_option maxRecDepth 100000 in
set_option maxHeartbeats 4000000 in
theorem formFits_1y (l : List Nd) (A : Option Addr) (c N : Nat) (M : Option Addr) (m cm : Nat) (w : World) (hm : MaxL w) (hp : PowT w) (S : ByteArray) (hS : TextS S) (hfit : (S.size : Int) - 1 ≤ N) (HONE : Hid (∀ w', Below w.heap.size w w' → Calls Tryz.prog 19 #[.slice A l.length c, .int .i64 (N : Nat)] w' (Ret w' (.tuple #[.string S, .nilIface])))) (HPR : Hid (∀ w', Below w.heap.size w w' → Calls Tryz.prog 15 #[.slice (some ⟨w'.heap.size, 0, none⟩) 1 1] (w'.alloc (.cells #[.slice A l.length c] 22)) (Ret (w'.alloc (.cells #[.slice A l.length c] 22)) (.tuple #[.string S, .nilIface])))) (HD : Hid (∀ w', Below w.heap.size w w' → Calls Tryz.prog 13 #[.slice A l.length c] w' (Ret w' (.tuple #[.slice none 0 0, .iface 43 (.int .i64 2)])))) :
    Calls Tryz.prog 5 #[.slice A l.length c, .int .i64 (N : Nat), .slice M m cm] w (Ret w (.bool true)) := by
  have HF0 := Lib.hid (factP w hm hp)
  unfold FactP at HF0
  have HAL : Hid (Below w.heap.size w (w.alloc (.cells #[.int .i64 8, .string .empty, .int .i64 0, .int .i64 1, .string .empty, .int .i64 7] 25))) := Lib.hid ((Below.refl _ _).alloc (Nat.le_refl _) _)
  obtain ⟨h2, hs, hlast, hno⟩ := hS
  have HNO := Lib.hid hno
  have k2 : decide ((S.size : Int) < 2) = false := decide_eq_false (by omega)
  have k5 : decide ((S.size : Int) - 1 ≤ (N : Int)) = true := decide_eq_true hfit
  have hbn : (S.toList != S.toList) = false := by simp
  have hbe : (S.toList == S.toList) = true := by simp
  clear hm hp hno hfit
  go_enter Tryz.func5, Tryz.ntmps5
  go_wp2_with (first
    | (go_at_call 19; (fail_if_success have z := T0); refine HF0.out.mono ?_; rintro e w1 ⟨rfl, hB⟩; have HB := Lib.hid (HAL.out.trans (hB.mono HAL.out.size)); have T0 := Lib.hid True.intro; clear hB)
    | (go_at_call 19; (have z := T0; clear z); refine (HONE.out _ HB.out).mono ?_; rintro e w2 ⟨rfl, hB⟩; have HB := Lib.hid (HB.out.trans (hB.mono HB.out.size)); clear hB))
  go_loop [11] (fun i => ∃ k : Nat, 1 ≤ k ∧ k ≤ S.size ∧ i = .int .i64 k) (fun i => S.size - (intOf i).toNat)
  case atStart => exact ⟨1, Nat.le_refl _, by omega, rfl⟩
  case round =>
    obtain ⟨k, hk1, hk, rfl⟩ := hrel
    by_cases hlt : k < S.size
    · obtain ⟨b1, b0, i1, i0, hb⟩ := HNO.out k hk1 hlt
      rcases hb with hb | ⟨rfl, hb⟩
      · go_wp2
        go_round
        case rel => exact ⟨k + 1, by omega, by omega, by go_num⟩
        case measure => simp [intOf]; omega
      · go_wp2
        go_round
        case rel => exact ⟨k + 1, by omega, by omega, by go_num⟩
        case measure => simp [intOf]; omega
    · clear hlast
      go_wp2_with (first
        | (go_at_call 15; refine (HPR.out _ HB.out).mono ?_; rintro e w3 ⟨rfl, hB⟩; have HB := Lib.hid (Below.trans (HB.out.alloc HB.out.size _) (hB.mono (Nat.le_trans HB.out.size (by simp)))); clear hB)
        | (go_at_call 13; refine (HD.out _ HB.out).mono ?_; rintro e w4 ⟨rfl, hB⟩; have HB := Lib.hid (HB.out.trans (hB.mono HB.out.size)); clear hB))
      go_ret
      exact ⟨by first | rfl | (simp; done), HB.out⟩

set_option maxRecDepth 100000 in
set_option maxHeartbeats 4000000 in
theorem formFits_2y (l : List Nd) (A : Option Addr) (c N : Nat) (M : Option Addr) (m cm : Nat) (w : World) (hm : MaxL w) (hp : PowT w) (S : ByteArray) (hS : TextS S) (hfit : (S.size : Int) - 1 ≤ N) (HONE : Hid (∀ w', Below w.heap.size w w' → Calls Tryz.prog 19 #[.slice A l.length c, .int .i64 (N : Nat)] w' (Ret w' (.tuple #[.string S, .nilIface])))) (HPR : Hid (∀ w', Below w.heap.size w w' → Calls Tryz.prog 15 #[.slice (some ⟨w'.heap.size, 0, none⟩) 1 1] (w'.alloc (.cells #[.slice A l.length c] 22)) (Ret (w'.alloc (.cells #[.slice A l.length c] 22)) (.tuple #[.string S, .nilIface])))) (d : List Nd) (HD : Hid (∀ w', Below w.heap.size w w' → Calls Tryz.prog 13 #[.slice A l.length c] w' (LdTo d w'))) (q : Int) (HSW : Hid (∀ A c w', Nds w' w'.heap.size A d → Below w.heap.size w w' → Calls Tryz.prog 16 #[.slice A d.length c, .slice M m cm] w' (Ret w' (.tuple #[.string .empty, .iface 43 (.int .i64 q)])))) :
    Calls Tryz.prog 5 #[.slice A l.length c, .int .i64 (N : Nat), .slice M m cm] w (Ret w (.bool true)) := by
  have HF0 := Lib.hid (factP w hm hp)
  unfold FactP at HF0
  have HAL : Hid (Below w.heap.size w (w.alloc (.cells #[.int .i64 8, .string .empty, .int .i64 0, .int .i64 1, .string .empty, .int .i64 7] 25))) := Lib.hid ((Below.refl _ _).alloc (Nat.le_refl _) _)
  obtain ⟨h2, hs, hlast, hno⟩ := hS
  have HNO := Lib.hid hno
  have k2 : decide ((S.size : Int) < 2) = false := decide_eq_false (by omega)
  have k5 : decide ((S.size : Int) - 1 ≤ (N : Int)) = true := decide_eq_true hfit
  have hbn : (S.toList != S.toList) = false := by simp
  have hbe : (S.toList == S.toList) = true := by simp
  clear hm hp hno hfit
  go_enter Tryz.func5, Tryz.ntmps5
  go_wp2_with (first
    | (go_at_call 19; (fail_if_success have z := T0); refine HF0.out.mono ?_; rintro e w1 ⟨rfl, hB⟩; have HB := Lib.hid (HAL.out.trans (hB.mono HAL.out.size)); have T0 := Lib.hid True.intro; clear hB)
    | (go_at_call 19; (have z := T0; clear z); refine (HONE.out _ HB.out).mono ?_; rintro e w2 ⟨rfl, hB⟩; have HB := Lib.hid (HB.out.trans (hB.mono HB.out.size)); clear hB))
  go_loop [11] (fun i => ∃ k : Nat, 1 ≤ k ∧ k ≤ S.size ∧ i = .int .i64 k) (fun i => S.size - (intOf i).toNat)
  case atStart => exact ⟨1, Nat.le_refl _, by omega, rfl⟩
  case round =>
    obtain ⟨k, hk1, hk, rfl⟩ := hrel
    by_cases hlt : k < S.size
    · obtain ⟨b1, b0, i1, i0, hb⟩ := HNO.out k hk1 hlt
      rcases hb with hb | ⟨rfl, hb⟩
      · go_wp2
        go_round
        case rel => exact ⟨k + 1, by omega, by omega, by go_num⟩
        case measure => simp [intOf]; omega
      · go_wp2
        go_round
        case rel => exact ⟨k + 1, by omega, by omega, by go_num⟩
        case measure => simp [intOf]; omega
    · clear hlast
      go_wp2_with (first
        | (go_at_call 15; refine (HPR.out _ HB.out).mono ?_; rintro e w3 ⟨rfl, hB⟩; have HB := Lib.hid (Below.trans (HB.out.alloc HB.out.size _) (hB.mono (Nat.le_trans HB.out.size (by simp)))); clear hB)
        | (go_at_call 13; refine (HD.out _ HB.out).mono ?_; rintro e w4 ⟨A4, c4, rfl, hn, hB⟩; have HN := Lib.hid hn.1; have HB := Lib.hid (HB.out.trans (hB.mono HB.out.size)); clear hB hn)
        | (go_at_call 16; refine (HSW.out _ _ _ HN.out HB.out).mono ?_; rintro e w5 ⟨rfl, hB⟩; have HB := Lib.hid (HB.out.trans (hB.mono HB.out.size)); clear hB))
      go_ret
      exact ⟨by first | rfl | (simp; done), HB.out⟩

set_option maxRecDepth 100000 in
set_option maxHeartbeats 4000000 in
theorem formFits_3y (l : List Nd) (A : Option Addr) (c N : Nat) (M : Option Addr) (m cm : Nat) (w : World) (hm : MaxL w) (hp : PowT w) (S : ByteArray) (hS : TextS S) (hfit : (S.size : Int) - 1 ≤ N) (HONE : Hid (∀ w', Below w.heap.size w w' → Calls Tryz.prog 19 #[.slice A l.length c, .int .i64 (N : Nat)] w' (Ret w' (.tuple #[.string S, .nilIface])))) (HPR : Hid (∀ w', Below w.heap.size w w' → Calls Tryz.prog 15 #[.slice (some ⟨w'.heap.size, 0, none⟩) 1 1] (w'.alloc (.cells #[.slice A l.length c] 22)) (Ret (w'.alloc (.cells #[.slice A l.length c] 22)) (.tuple #[.string S, .nilIface])))) (d : List Nd) (HD : Hid (∀ w', Below w.heap.size w w' → Calls Tryz.prog 13 #[.slice A l.length c] w' (LdTo d w'))) (u : ByteArray) (HSW : Hid (∀ A c w', Nds w' w'.heap.size A d → Below w.heap.size w w' → Calls Tryz.prog 16 #[.slice A d.length c, .slice M m cm] w' (Ret w' (.tuple #[.string u, .nilIface])))) (o lHCU : Nat) (ho : 0 < o) (HCU : Hid (∀ w', Calls Tryz.prog 22 #[.string u, .int .i64 (N : Nat)] w' (Ret w' (.agg #[.int .i64 (o : Nat), .int .i64 (lHCU : Nat)])))) :
    Calls Tryz.prog 5 #[.slice A l.length c, .int .i64 (N : Nat), .slice M m cm] w (Ret w (.bool true)) := by
  have HF0 := Lib.hid (factP w hm hp)
  unfold FactP at HF0
  have HAL : Hid (Below w.heap.size w (w.alloc (.cells #[.int .i64 8, .string .empty, .int .i64 0, .int .i64 1, .string .empty, .int .i64 7] 25))) := Lib.hid ((Below.refl _ _).alloc (Nat.le_refl _) _)
  obtain ⟨h2, hs, hlast, hno⟩ := hS
  have HNO := Lib.hid hno
  have k2 : decide ((S.size : Int) < 2) = false := decide_eq_false (by omega)
  have k5 : decide ((S.size : Int) - 1 ≤ (N : Int)) = true := decide_eq_true hfit
  have hbn : (S.toList != S.toList) = false := by simp
  have hbe : (S.toList == S.toList) = true := by simp
  have hfd : ∀ (x y : Value) w', (Instr.field 47 (.agg #[x, y]) 0).run Tryz.prog w' = .ok x w' := cost_over
  have ho2 : decide (0 < (o : Int)) = true := decide_eq_true (by omega)
  clear hm hp hno hfit
  go_enter Tryz.func5, Tryz.ntmps5
  go_wp2_with (first
    | (go_at_call 19; (fail_if_success have z := T0); refine HF0.out.mono ?_; rintro e w1 ⟨rfl, hB⟩; have HB := Lib.hid (HAL.out.trans (hB.mono HAL.out.size)); have T0 := Lib.hid True.intro; clear hB)
    | (go_at_call 19; (have z := T0; clear z); refine (HONE.out _ HB.out).mono ?_; rintro e w2 ⟨rfl, hB⟩; have HB := Lib.hid (HB.out.trans (hB.mono HB.out.size)); clear hB))
  go_loop [11] (fun i => ∃ k : Nat, 1 ≤ k ∧ k ≤ S.size ∧ i = .int .i64 k) (fun i => S.size - (intOf i).toNat)
  case atStart => exact ⟨1, Nat.le_refl _, by omega, rfl⟩
  case round =>
    obtain ⟨k, hk1, hk, rfl⟩ := hrel
    by_cases hlt : k < S.size
    · obtain ⟨b1, b0, i1, i0, hb⟩ := HNO.out k hk1 hlt
      rcases hb with hb | ⟨rfl, hb⟩
      · go_wp2
        go_round
        case rel => exact ⟨k + 1, by omega, by omega, by go_num⟩
        case measure => simp [intOf]; omega
      · go_wp2
        go_round
        case rel => exact ⟨k + 1, by omega, by omega, by go_num⟩
        case measure => simp [intOf]; omega
    · clear hlast
      go_wp2_with (first
        | (go_at_call 15; refine (HPR.out _ HB.out).mono ?_; rintro e w3 ⟨rfl, hB⟩; have HB := Lib.hid (Below.trans (HB.out.alloc HB.out.size _) (hB.mono (Nat.le_trans HB.out.size (by simp)))); clear hB)
        | (go_at_call 13; refine (HD.out _ HB.out).mono ?_; rintro e w4 ⟨A4, c4, rfl, hn, hB⟩; have HN := Lib.hid hn.1; have HB := Lib.hid (HB.out.trans (hB.mono HB.out.size)); clear hB hn)
        | (go_at_call 16; refine (HSW.out _ _ _ HN.out HB.out).mono ?_; rintro e w5 ⟨rfl, hB⟩; have HB := Lib.hid (HB.out.trans (hB.mono HB.out.size)); clear hB)
        | (go_at_call 22; (fail_if_success have z := T5); refine (HCU.out _).mono ?_; rintro e w6 ⟨rfl, hB⟩; have HB := Lib.hid (HB.out.trans (hB.mono HB.out.size)); have T5 := Lib.hid True.intro; clear hB))
      go_ret
      exact ⟨by first | rfl | (simp; done), HB.out⟩

set_option maxRecDepth 100000 in
set_option maxHeartbeats 4000000 in
theorem formFits_4y (l : List Nd) (A : Option Addr) (c N : Nat) (M : Option Addr) (m cm : Nat) (w : World) (hm : MaxL w) (hp : PowT w) (S : ByteArray) (hS : TextS S) (hfit : (S.size : Int) - 1 ≤ N) (HONE : Hid (∀ w', Below w.heap.size w w' → Calls Tryz.prog 19 #[.slice A l.length c, .int .i64 (N : Nat)] w' (Ret w' (.tuple #[.string S, .nilIface])))) (HPR : Hid (∀ w', Below w.heap.size w w' → Calls Tryz.prog 15 #[.slice (some ⟨w'.heap.size, 0, none⟩) 1 1] (w'.alloc (.cells #[.slice A l.length c] 22)) (Ret (w'.alloc (.cells #[.slice A l.length c] 22)) (.tuple #[.string S, .nilIface])))) (d : List Nd) (HD : Hid (∀ w', Below w.heap.size w w' → Calls Tryz.prog 13 #[.slice A l.length c] w' (LdTo d w'))) (u : ByteArray) (hu : u.size ≤ 1400000) (HSW : Hid (∀ A c w', Nds w' w'.heap.size A d → Below w.heap.size w w' → Calls Tryz.prog 16 #[.slice A d.length c, .slice M m cm] w' (Ret w' (.tuple #[.string u, .nilIface])))) (lHCU lHCS : Nat) (HCU : Hid (∀ w', Calls Tryz.prog 22 #[.string u, .int .i64 (N : Nat)] w' (Ret w' (.agg #[.int .i64 0, .int .i64 (lHCU : Nat)])))) (HCS : Hid (∀ w', Calls Tryz.prog 22 #[.string S, .int .i64 (N : Nat)] w' (Ret w' (.agg #[.int .i64 0, .int .i64 (lHCS : Nat)])))) :
    Calls Tryz.prog 5 #[.slice A l.length c, .int .i64 (N : Nat), .slice M m cm] w (Ret w (.bool true)) := by
  have HF0 := Lib.hid (factP w hm hp)
  unfold FactP at HF0
  have HAL : Hid (Below w.heap.size w (w.alloc (.cells #[.int .i64 8, .string .empty, .int .i64 0, .int .i64 1, .string .empty, .int .i64 7] 25))) := Lib.hid ((Below.refl _ _).alloc (Nat.le_refl _) _)
  obtain ⟨h2, hs, hlast, hno⟩ := hS
  have HNO := Lib.hid hno
  have k2 : decide ((S.size : Int) < 2) = false := decide_eq_false (by omega)
  have k5 : decide ((S.size : Int) - 1 ≤ (N : Int)) = true := decide_eq_true hfit
  have hbn : (S.toList != S.toList) = false := by simp
  have hbe : (S.toList == S.toList) = true := by simp
  have hfd : ∀ (x y : Value) w', (Instr.field 47 (.agg #[x, y]) 0).run Tryz.prog w' = .ok x w' := cost_over
  have hu2 : decide (0 < (u.size : Int) + 1) = true := decide_eq_true (by omega)
  clear hm hp hno hfit
  go_enter Tryz.func5, Tryz.ntmps5
  go_wp2_with (first
    | (go_at_call 19; (fail_if_success have z := T0); refine HF0.out.mono ?_; rintro e w1 ⟨rfl, hB⟩; have HB := Lib.hid (HAL.out.trans (hB.mono HAL.out.size)); have T0 := Lib.hid True.intro; clear hB)
    | (go_at_call 19; (have z := T0; clear z); refine (HONE.out _ HB.out).mono ?_; rintro e w2 ⟨rfl, hB⟩; have HB := Lib.hid (HB.out.trans (hB.mono HB.out.size)); clear hB))
  go_loop [11] (fun i => ∃ k : Nat, 1 ≤ k ∧ k ≤ S.size ∧ i = .int .i64 k) (fun i => S.size - (intOf i).toNat)
  case atStart => exact ⟨1, Nat.le_refl _, by omega, rfl⟩
  case round =>
    obtain ⟨k, hk1, hk, rfl⟩ := hrel
    by_cases hlt : k < S.size
    · obtain ⟨b1, b0, i1, i0, hb⟩ := HNO.out k hk1 hlt
      rcases hb with hb | ⟨rfl, hb⟩
      · go_wp2
        go_round
        case rel => exact ⟨k + 1, by omega, by omega, by go_num⟩
        case measure => simp [intOf]; omega
      · go_wp2
        go_round
        case rel => exact ⟨k + 1, by omega, by omega, by go_num⟩
        case measure => simp [intOf]; omega
    · clear hlast
      go_wp2_with (first
        | (go_at_call 15; refine (HPR.out _ HB.out).mono ?_; rintro e w3 ⟨rfl, hB⟩; have HB := Lib.hid (Below.trans (HB.out.alloc HB.out.size _) (hB.mono (Nat.le_trans HB.out.size (by simp)))); clear hB)
        | (go_at_call 13; refine (HD.out _ HB.out).mono ?_; rintro e w4 ⟨A4, c4, rfl, hn, hB⟩; have HN := Lib.hid hn.1; have HB := Lib.hid (HB.out.trans (hB.mono HB.out.size)); clear hB hn)
        | (go_at_call 16; refine (HSW.out _ _ _ HN.out HB.out).mono ?_; rintro e w5 ⟨rfl, hB⟩; have HB := Lib.hid (HB.out.trans (hB.mono HB.out.size)); clear hB)
        | (go_at_call 22; (fail_if_success have z := T5); refine (HCU.out _).mono ?_; rintro e w6 ⟨rfl, hB⟩; have HB := Lib.hid (HB.out.trans (hB.mono HB.out.size)); have T5 := Lib.hid True.intro; clear hB)
        | (go_at_call 22; (have z := T5; clear z); refine (HCS.out _).mono ?_; rintro e w7 ⟨rfl, hB⟩; have HB := Lib.hid (HB.out.trans (hB.mono HB.out.size)); clear hB))
      go_ret
      exact ⟨by first | rfl | (simp; done), HB.out⟩

set_option maxRecDepth 100000 in
set_option maxHeartbeats 4000000 in
theorem formFits_1n (l : List Nd) (A : Option Addr) (c N : Nat) (M : Option Addr) (m cm : Nat) (w : World) (hm : MaxL w) (hp : PowT w) (S : ByteArray) (hS : TextS S) (P : ByteArray) (hPs : P.size ≤ 3000) (hfit : ¬ (P.size : Int) - 1 ≤ N) (HONE : Hid (∀ w', Below w.heap.size w w' → Calls Tryz.prog 19 #[.slice A l.length c, .int .i64 (N : Nat)] w' (Ret w' (.tuple #[.string S, .nilIface])))) (HPR : Hid (∀ w', Below w.heap.size w w' → Calls Tryz.prog 15 #[.slice (some ⟨w'.heap.size, 0, none⟩) 1 1] (w'.alloc (.cells #[.slice A l.length c] 22)) (Ret (w'.alloc (.cells #[.slice A l.length c] 22)) (.tuple #[.string P, .nilIface])))) (HD : Hid (∀ w', Below w.heap.size w w' → Calls Tryz.prog 13 #[.slice A l.length c] w' (Ret w' (.tuple #[.slice none 0 0, .iface 43 (.int .i64 2)])))) :
    Calls Tryz.prog 5 #[.slice A l.length c, .int .i64 (N : Nat), .slice M m cm] w (Ret w (.bool true)) := by
  have HF0 := Lib.hid (factP w hm hp)
  unfold FactP at HF0
  have HAL : Hid (Below w.heap.size w (w.alloc (.cells #[.int .i64 8, .string .empty, .int .i64 0, .int .i64 1, .string .empty, .int .i64 7] 25))) := Lib.hid ((Below.refl _ _).alloc (Nat.le_refl _) _)
  obtain ⟨h2, hs, hlast, hno⟩ := hS
  have HNO := Lib.hid hno
  have k2 : decide ((S.size : Int) < 2) = false := decide_eq_false (by omega)
  have k5 : decide ((P.size : Int) - 1 ≤ (N : Int)) = false := decide_eq_false hfit
  clear hm hp hno hfit
  go_enter Tryz.func5, Tryz.ntmps5
  go_wp2_with (first
    | (go_at_call 19; (fail_if_success have z := T0); refine HF0.out.mono ?_; rintro e w1 ⟨rfl, hB⟩; have HB := Lib.hid (HAL.out.trans (hB.mono HAL.out.size)); have T0 := Lib.hid True.intro; clear hB)
    | (go_at_call 19; (have z := T0; clear z); refine (HONE.out _ HB.out).mono ?_; rintro e w2 ⟨rfl, hB⟩; have HB := Lib.hid (HB.out.trans (hB.mono HB.out.size)); clear hB))
  go_loop [11] (fun i => ∃ k : Nat, 1 ≤ k ∧ k ≤ S.size ∧ i = .int .i64 k) (fun i => S.size - (intOf i).toNat)
  case atStart => exact ⟨1, Nat.le_refl _, by omega, rfl⟩
  case round =>
    obtain ⟨k, hk1, hk, rfl⟩ := hrel
    by_cases hlt : k < S.size
    · obtain ⟨b1, b0, i1, i0, hb⟩ := HNO.out k hk1 hlt
      rcases hb with hb | ⟨rfl, hb⟩
      · go_wp2
        go_round
        case rel => exact ⟨k + 1, by omega, by omega, by go_num⟩
        case measure => simp [intOf]; omega
      · go_wp2
        go_round
        case rel => exact ⟨k + 1, by omega, by omega, by go_num⟩
        case measure => simp [intOf]; omega
    · clear hlast
      go_wp2_with (first
        | (go_at_call 15; refine (HPR.out _ HB.out).mono ?_; rintro e w3 ⟨rfl, hB⟩; have HB := Lib.hid (Below.trans (HB.out.alloc HB.out.size _) (hB.mono (Nat.le_trans HB.out.size (by simp)))); clear hB)
        | (go_at_call 13; refine (HD.out _ HB.out).mono ?_; rintro e w4 ⟨rfl, hB⟩; have HB := Lib.hid (HB.out.trans (hB.mono HB.out.size)); clear hB))
      go_ret
      exact ⟨by first | rfl | (simp; done), HB.out⟩

set_option maxRecDepth 100000 in
set_option maxHeartbeats 4000000 in
theorem formFits_2n (l : List Nd) (A : Option Addr) (c N : Nat) (M : Option Addr) (m cm : Nat) (w : World) (hm : MaxL w) (hp : PowT w) (S : ByteArray) (hS : TextS S) (P : ByteArray) (hPs : P.size ≤ 3000) (hfit : ¬ (P.size : Int) - 1 ≤ N) (HONE : Hid (∀ w', Below w.heap.size w w' → Calls Tryz.prog 19 #[.slice A l.length c, .int .i64 (N : Nat)] w' (Ret w' (.tuple #[.string S, .nilIface])))) (HPR : Hid (∀ w', Below w.heap.size w w' → Calls Tryz.prog 15 #[.slice (some ⟨w'.heap.size, 0, none⟩) 1 1] (w'.alloc (.cells #[.slice A l.length c] 22)) (Ret (w'.alloc (.cells #[.slice A l.length c] 22)) (.tuple #[.string P, .nilIface])))) (d : List Nd) (HD : Hid (∀ w', Below w.heap.size w w' → Calls Tryz.prog 13 #[.slice A l.length c] w' (LdTo d w'))) (q : Int) (HSW : Hid (∀ A c w', Nds w' w'.heap.size A d → Below w.heap.size w w' → Calls Tryz.prog 16 #[.slice A d.length c, .slice M m cm] w' (Ret w' (.tuple #[.string .empty, .iface 43 (.int .i64 q)])))) :
    Calls Tryz.prog 5 #[.slice A l.length c, .int .i64 (N : Nat), .slice M m cm] w (Ret w (.bool true)) := by
  have HF0 := Lib.hid (factP w hm hp)
  unfold FactP at HF0
  have HAL : Hid (Below w.heap.size w (w.alloc (.cells #[.int .i64 8, .string .empty, .int .i64 0, .int .i64 1, .string .empty, .int .i64 7] 25))) := Lib.hid ((Below.refl _ _).alloc (Nat.le_refl _) _)
  obtain ⟨h2, hs, hlast, hno⟩ := hS
  have HNO := Lib.hid hno
  have k2 : decide ((S.size : Int) < 2) = false := decide_eq_false (by omega)
  have k5 : decide ((P.size : Int) - 1 ≤ (N : Int)) = false := decide_eq_false hfit
  clear hm hp hno hfit
  go_enter Tryz.func5, Tryz.ntmps5
  go_wp2_with (first
    | (go_at_call 19; (fail_if_success have z := T0); refine HF0.out.mono ?_; rintro e w1 ⟨rfl, hB⟩; have HB := Lib.hid (HAL.out.trans (hB.mono HAL.out.size)); have T0 := Lib.hid True.intro; clear hB)
    | (go_at_call 19; (have z := T0; clear z); refine (HONE.out _ HB.out).mono ?_; rintro e w2 ⟨rfl, hB⟩; have HB := Lib.hid (HB.out.trans (hB.mono HB.out.size)); clear hB))
  go_loop [11] (fun i => ∃ k : Nat, 1 ≤ k ∧ k ≤ S.size ∧ i = .int .i64 k) (fun i => S.size - (intOf i).toNat)
  case atStart => exact ⟨1, Nat.le_refl _, by omega, rfl⟩
  case round =>
    obtain ⟨k, hk1, hk, rfl⟩ := hrel
    by_cases hlt : k < S.size
    · obtain ⟨b1, b0, i1, i0, hb⟩ := HNO.out k hk1 hlt
      rcases hb with hb | ⟨rfl, hb⟩
      · go_wp2
        go_round
        case rel => exact ⟨k + 1, by omega, by omega, by go_num⟩
        case measure => simp [intOf]; omega
      · go_wp2
        go_round
        case rel => exact ⟨k + 1, by omega, by omega, by go_num⟩
        case measure => simp [intOf]; omega
    · clear hlast
      go_wp2_with (first
        | (go_at_call 15; refine (HPR.out _ HB.out).mono ?_; rintro e w3 ⟨rfl, hB⟩; have HB := Lib.hid (Below.trans (HB.out.alloc HB.out.size _) (hB.mono (Nat.le_trans HB.out.size (by simp)))); clear hB)
        | (go_at_call 13; refine (HD.out _ HB.out).mono ?_; rintro e w4 ⟨A4, c4, rfl, hn, hB⟩; have HN := Lib.hid hn.1; have HB := Lib.hid (HB.out.trans (hB.mono HB.out.size)); clear hB hn)
        | (go_at_call 16; refine (HSW.out _ _ _ HN.out HB.out).mono ?_; rintro e w5 ⟨rfl, hB⟩; have HB := Lib.hid (HB.out.trans (hB.mono HB.out.size)); clear hB))
      go_ret
      exact ⟨by first | rfl | (simp; done), HB.out⟩

set_option maxRecDepth 100000 in
set_option maxHeartbeats 4000000 in
theorem formFits_3n (l : List Nd) (A : Option Addr) (c N : Nat) (M : Option Addr) (m cm : Nat) (w : World) (hm : MaxL w) (hp : PowT w) (S : ByteArray) (hS : TextS S) (P : ByteArray) (hPs : P.size ≤ 3000) (hfit : ¬ (P.size : Int) - 1 ≤ N) (HONE : Hid (∀ w', Below w.heap.size w w' → Calls Tryz.prog 19 #[.slice A l.length c, .int .i64 (N : Nat)] w' (Ret w' (.tuple #[.string S, .nilIface])))) (HPR : Hid (∀ w', Below w.heap.size w w' → Calls Tryz.prog 15 #[.slice (some ⟨w'.heap.size, 0, none⟩) 1 1] (w'.alloc (.cells #[.slice A l.length c] 22)) (Ret (w'.alloc (.cells #[.slice A l.length c] 22)) (.tuple #[.string P, .nilIface])))) (d : List Nd) (HD : Hid (∀ w', Below w.heap.size w w' → Calls Tryz.prog 13 #[.slice A l.length c] w' (LdTo d w'))) (u : ByteArray) (HSW : Hid (∀ A c w', Nds w' w'.heap.size A d → Below w.heap.size w w' → Calls Tryz.prog 16 #[.slice A d.length c, .slice M m cm] w' (Ret w' (.tuple #[.string u, .nilIface])))) (o lHCU : Nat) (ho : 0 < o) (HCU : Hid (∀ w', Calls Tryz.prog 22 #[.string u, .int .i64 (N : Nat)] w' (Ret w' (.agg #[.int .i64 (o : Nat), .int .i64 (lHCU : Nat)])))) :
    Calls Tryz.prog 5 #[.slice A l.length c, .int .i64 (N : Nat), .slice M m cm] w (Ret w (.bool true)) := by
  have HF0 := Lib.hid (factP w hm hp)
  unfold FactP at HF0
  have HAL : Hid (Below w.heap.size w (w.alloc (.cells #[.int .i64 8, .string .empty, .int .i64 0, .int .i64 1, .string .empty, .int .i64 7] 25))) := Lib.hid ((Below.refl _ _).alloc (Nat.le_refl _) _)
  obtain ⟨h2, hs, hlast, hno⟩ := hS
  have HNO := Lib.hid hno
  have k2 : decide ((S.size : Int) < 2) = false := decide_eq_false (by omega)
  have k5 : decide ((P.size : Int) - 1 ≤ (N : Int)) = false := decide_eq_false hfit
  have hfd : ∀ (x y : Value) w', (Instr.field 47 (.agg #[x, y]) 0).run Tryz.prog w' = .ok x w' := cost_over
  have ho2 : decide (0 < (o : Int)) = true := decide_eq_true (by omega)
  clear hm hp hno hfit
  go_enter Tryz.func5, Tryz.ntmps5
  go_wp2_with (first
    | (go_at_call 19; (fail_if_success have z := T0); refine HF0.out.mono ?_; rintro e w1 ⟨rfl, hB⟩; have HB := Lib.hid (HAL.out.trans (hB.mono HAL.out.size)); have T0 := Lib.hid True.intro; clear hB)
    | (go_at_call 19; (have z := T0; clear z); refine (HONE.out _ HB.out).mono ?_; rintro e w2 ⟨rfl, hB⟩; have HB := Lib.hid (HB.out.trans (hB.mono HB.out.size)); clear hB))
  go_loop [11] (fun i => ∃ k : Nat, 1 ≤ k ∧ k ≤ S.size ∧ i = .int .i64 k) (fun i => S.size - (intOf i).toNat)
  case atStart => exact ⟨1, Nat.le_refl _, by omega, rfl⟩
  case round =>
    obtain ⟨k, hk1, hk, rfl⟩ := hrel
    by_cases hlt : k < S.size
    · obtain ⟨b1, b0, i1, i0, hb⟩ := HNO.out k hk1 hlt
      rcases hb with hb | ⟨rfl, hb⟩
      · go_wp2
        go_round
        case rel => exact ⟨k + 1, by omega, by omega, by go_num⟩
        case measure => simp [intOf]; omega
      · go_wp2
        go_round
        case rel => exact ⟨k + 1, by omega, by omega, by go_num⟩
        case measure => simp [intOf]; omega
    · clear hlast
      go_wp2_with (first
        | (go_at_call 15; refine (HPR.out _ HB.out).mono ?_; rintro e w3 ⟨rfl, hB⟩; have HB := Lib.hid (Below.trans (HB.out.alloc HB.out.size _) (hB.mono (Nat.le_trans HB.out.size (by simp)))); clear hB)
        | (go_at_call 13; refine (HD.out _ HB.out).mono ?_; rintro e w4 ⟨A4, c4, rfl, hn, hB⟩; have HN := Lib.hid hn.1; have HB := Lib.hid (HB.out.trans (hB.mono HB.out.size)); clear hB hn)
        | (go_at_call 16; refine (HSW.out _ _ _ HN.out HB.out).mono ?_; rintro e w5 ⟨rfl, hB⟩; have HB := Lib.hid (HB.out.trans (hB.mono HB.out.size)); clear hB)
        | (go_at_call 22; (fail_if_success have z := T5); refine (HCU.out _).mono ?_; rintro e w6 ⟨rfl, hB⟩; have HB := Lib.hid (HB.out.trans (hB.mono HB.out.size)); have T5 := Lib.hid True.intro; clear hB))
      go_ret
      exact ⟨by first | rfl | (simp; done), HB.out⟩

set_option maxRecDepth 100000 in
set_option maxHeartbeats 4000000 in
theorem formFits_4n (l : List Nd) (A : Option Addr) (c N : Nat) (M : Option Addr) (m cm : Nat) (w : World) (hm : MaxL w) (hp : PowT w) (S : ByteArray) (hS : TextS S) (P : ByteArray) (hPs : P.size ≤ 3000) (hfit : ¬ (P.size : Int) - 1 ≤ N) (HONE : Hid (∀ w', Below w.heap.size w w' → Calls Tryz.prog 19 #[.slice A l.length c, .int .i64 (N : Nat)] w' (Ret w' (.tuple #[.string S, .nilIface])))) (HPR : Hid (∀ w', Below w.heap.size w w' → Calls Tryz.prog 15 #[.slice (some ⟨w'.heap.size, 0, none⟩) 1 1] (w'.alloc (.cells #[.slice A l.length c] 22)) (Ret (w'.alloc (.cells #[.slice A l.length c] 22)) (.tuple #[.string P, .nilIface])))) (d : List Nd) (HD : Hid (∀ w', Below w.heap.size w w' → Calls Tryz.prog 13 #[.slice A l.length c] w' (LdTo d w'))) (u : ByteArray) (hu : u.size ≤ 1400000) (HSW : Hid (∀ A c w', Nds w' w'.heap.size A d → Below w.heap.size w w' → Calls Tryz.prog 16 #[.slice A d.length c, .slice M m cm] w' (Ret w' (.tuple #[.string u, .nilIface])))) (lHCU lHCS : Nat) (HCU : Hid (∀ w', Calls Tryz.prog 22 #[.string u, .int .i64 (N : Nat)] w' (Ret w' (.agg #[.int .i64 0, .int .i64 (lHCU : Nat)])))) (HCS : Hid (∀ w', Calls Tryz.prog 22 #[.string S, .int .i64 (N : Nat)] w' (Ret w' (.agg #[.int .i64 0, .int .i64 (lHCS : Nat)])))) :
    Calls Tryz.prog 5 #[.slice A l.length c, .int .i64 (N : Nat), .slice M m cm] w (Ret w (.bool true)) := by
  have HF0 := Lib.hid (factP w hm hp)
  unfold FactP at HF0
  have HAL : Hid (Below w.heap.size w (w.alloc (.cells #[.int .i64 8, .string .empty, .int .i64 0, .int .i64 1, .string .empty, .int .i64 7] 25))) := Lib.hid ((Below.refl _ _).alloc (Nat.le_refl _) _)
  obtain ⟨h2, hs, hlast, hno⟩ := hS
  have HNO := Lib.hid hno
  have k2 : decide ((S.size : Int) < 2) = false := decide_eq_false (by omega)
  have k5 : decide ((P.size : Int) - 1 ≤ (N : Int)) = false := decide_eq_false hfit
  have hfd : ∀ (x y : Value) w', (Instr.field 47 (.agg #[x, y]) 0).run Tryz.prog w' = .ok x w' := cost_over
  have hu2 : decide (0 < (u.size : Int) + 1) = true := decide_eq_true (by omega)
  clear hm hp hno hfit
  go_enter Tryz.func5, Tryz.ntmps5
  go_wp2_with (first
    | (go_at_call 19; (fail_if_success have z := T0); refine HF0.out.mono ?_; rintro e w1 ⟨rfl, hB⟩; have HB := Lib.hid (HAL.out.trans (hB.mono HAL.out.size)); have T0 := Lib.hid True.intro; clear hB)
    | (go_at_call 19; (have z := T0; clear z); refine (HONE.out _ HB.out).mono ?_; rintro e w2 ⟨rfl, hB⟩; have HB := Lib.hid (HB.out.trans (hB.mono HB.out.size)); clear hB))
  go_loop [11] (fun i => ∃ k : Nat, 1 ≤ k ∧ k ≤ S.size ∧ i = .int .i64 k) (fun i => S.size - (intOf i).toNat)
  case atStart => exact ⟨1, Nat.le_refl _, by omega, rfl⟩
  case round =>
    obtain ⟨k, hk1, hk, rfl⟩ := hrel
    by_cases hlt : k < S.size
    · obtain ⟨b1, b0, i1, i0, hb⟩ := HNO.out k hk1 hlt
      rcases hb with hb | ⟨rfl, hb⟩
      · go_wp2
        go_round
        case rel => exact ⟨k + 1, by omega, by omega, by go_num⟩
        case measure => simp [intOf]; omega
      · go_wp2
        go_round
        case rel => exact ⟨k + 1, by omega, by omega, by go_num⟩
        case measure => simp [intOf]; omega
    · clear hlast
      go_wp2_with (first
        | (go_at_call 15; refine (HPR.out _ HB.out).mono ?_; rintro e w3 ⟨rfl, hB⟩; have HB := Lib.hid (Below.trans (HB.out.alloc HB.out.size _) (hB.mono (Nat.le_trans HB.out.size (by simp)))); clear hB)
        | (go_at_call 13; refine (HD.out _ HB.out).mono ?_; rintro e w4 ⟨A4, c4, rfl, hn, hB⟩; have HN := Lib.hid hn.1; have HB := Lib.hid (HB.out.trans (hB.mono HB.out.size)); clear hB hn)
        | (go_at_call 16; refine (HSW.out _ _ _ HN.out HB.out).mono ?_; rintro e w5 ⟨rfl, hB⟩; have HB := Lib.hid (HB.out.trans (hB.mono HB.out.size)); clear hB)
        | (go_at_call 22; (fail_if_success have z := T5); refine (HCU.out _).mono ?_; rintro e w6 ⟨rfl, hB⟩; have HB := Lib.hid (HB.out.trans (hB.mono HB.out.size)); have T5 := Lib.hid True.intro; clear hB)
        | (go_at_call 22; (have z := T5; clear z); refine (HCS.out _).mono ?_; rintro e w7 ⟨rfl, hB⟩; have HB := Lib.hid (HB.out.trans (hB.mono HB.out.size)); clear hB))
      go_ret
      exact ⟨by first | rfl | (simp; done), HB.out⟩

theorem formFits_any (l : List Nd) (A : Option Addr) (c : Nat) (W : Int) (M : Option Addr) (ws : List Int) (cm : Nat) (w : World) (hl : Nds w w.heap.size A l) (hM : NumsI w w.heap.size M ws) (hcm : ws.length ≤ cm) (hsh : Short l) (hm : MaxL w) (hp : PowT w) :
    Calls Tryz.prog 5 #[.slice A l.length c, .int .i64 W, .slice M ws.length cm] w (Ret w (.bool true)) := by
  by_cases h : oneQ l W = 0
  · obtain ⟨hw, ht, h4⟩ := oneQ_zero h
    obtain ⟨w10, w100⟩ := wideF_iff.1 hw
    obtain ⟨N, rfl⟩ : ∃ N : Nat, W = N := ⟨W.toNat, by omega⟩
    have hdc : opAt l 0 ≠ 9 → ∃ x, Doc (docL l) x := fun h9 => docL_doc ht h9 (by have := h4 h9; omega)
    have hone := oneX_is h hdc
    have HONE := Lib.hid (fun (w' : World) (hB : Below w.heap.size w w') => pone_ok (fun l x A c w hl hd => of_from l x A c w hl hd) l N A c w' (hl.past hB) hsh (hm.past hB) (hp.past hB) hdc h)
    have hLS := lineSaid_all ht
    have HPR := Lib.hid (fun (w' : World) (hB : Below w.heap.size w w') => sprint_any (fun _ => lineL l) [l] (some ⟨w'.heap.size, 0, none⟩) 1 _ (prg_oneF rfl (hl.past hB) hsh (c := c) rfl) ((hm.past hB).past ((Below.refl _ _).alloc (Nat.le_refl _) _)) ((hp.past hB).past ((Below.refl _ _).alloc (Nat.le_refl _) _)) (progF_oneF ht) (by simpa using hLS))
    have hpt : printL (fun _ => lineL l) [l] = lineL l ++ ⟨#[10]⟩ := by simp [printL]
    simp only [hpt] at HPR
    have hpz : (lineL l ++ ⟨#[10]⟩ : ByteArray).size = (lineL l).size + 1 := by rw [ByteArray.size_append]; rfl
    have hls := hLS.1
    have htx := hone.text
    have hfy : ((lineL l ++ ⟨#[10]⟩ : ByteArray).size : Int) - 1 ≤ N → oneX l N = lineL l ++ ⟨#[10]⟩ := fun hf => hone.fits (by omega)
    by_cases h9 : opAt l 0 = 9
    · have HD := Lib.hid (fun (w' : World) (hB : Below w.heap.size w w') => ldoc_note l A c w' (hl.past hB) hsh (hm.past hB) ht h9)
      by_cases hf : ((lineL l ++ ⟨#[10]⟩ : ByteArray).size : Int) - 1 ≤ N
      · rw [← hfy hf] at HPR hf
        exact formFits_1y l A c N M _ cm w hm hp _ htx hf HONE HPR HD
      · exact formFits_1n l A c N M _ cm w hm hp _ htx _ (by omega) hf HONE HPR HD
    · obtain ⟨x, hx⟩ := hdc h9
      have hof : OfSaid := fun l x A c w hl hd => of_any l x A c w hl hd
      have HD := Lib.hid (fun (w' : World) (hB : Below w.heap.size w w') => (ldoc_good l A c w' (hl.past hB) hsh (hm.past hB) (hp.past hB) ht h9).1 (h4 h9))
      cases hs : showF (docL l) ws with
      | error q =>
        have HSW := Lib.hid (fun A c (w' : World) (hN : Nds w' w'.heap.size A (docL l)) (hB : Below w.heap.size w w') => show_no hof hs A _ c rfl M _ cm rfl hcm w' hN (hM.past hB))
        by_cases hf : ((lineL l ++ ⟨#[10]⟩ : ByteArray).size : Int) - 1 ≤ N
        · rw [← hfy hf] at HPR hf
          exact formFits_2y l A c N M _ cm w hm hp _ htx hf HONE HPR _ HD q HSW
        · exact formFits_2n l A c N M _ cm w hm hp _ htx _ (by omega) hf HONE HPR _ HD q HSW
      | ok u =>
        obtain ⟨y, hy⟩ := showF_ok hs
        have HSW := Lib.hid (fun A c (w' : World) (hN : Nds w' w'.heap.size A (docL l)) (hB : Below w.heap.size w w') => show_ok hof hy A _ c rfl M _ cm rfl hcm w' hN (hM.past hB))
        have hus := hy.size
        have HCU := Lib.hid (fun w' => costof_any u (by omega) N w')
        simp only [cst] at HCU
        by_cases ho : ovr N 0 u.data.toList = 0
        · have hyx : y = x := by rw [← hy.doc.root, hx.root]
          subst hyx
          have hov := oneX_over h h9 hx hy (by simpa using ho)
          have HCS := Lib.hid (fun w' => costof_any (oneX l N) (by have := htx.small; omega) N w')
          simp only [cst] at HCS
          rw [show (N : Int).toNat = N by omega] at hov
          rw [hov] at HCS
          rw [ho] at HCU
          by_cases hf : ((lineL l ++ ⟨#[10]⟩ : ByteArray).size : Int) - 1 ≤ N
          · rw [← hfy hf] at HPR hf
            exact formFits_4y l A c N M _ cm w hm hp _ htx hf HONE HPR _ HD u hus HSW _ _ HCU HCS
          · exact formFits_4n l A c N M _ cm w hm hp _ htx _ (by omega) hf HONE HPR _ HD u hus HSW _ _ HCU HCS
        · by_cases hf : ((lineL l ++ ⟨#[10]⟩ : ByteArray).size : Int) - 1 ≤ N
          · rw [← hfy hf] at HPR hf
            exact formFits_3y l A c N M _ cm w hm hp _ htx hf HONE HPR _ HD u HSW _ _ (by omega) HCU
          · exact formFits_3n l A c N M _ cm w hm hp _ htx _ (by omega) hf HONE HPR _ HD u HSW _ _ (by omega) HCU
  · exact formFits_bad l A c W M _ cm w hl hsh hm hp h
end Go.Proofs.YtddfdmopaeghnacGreatDoor
