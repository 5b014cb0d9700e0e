/- What every law's row wants: arguments read as before behind a call that leaves old memory as it was; slices of nodes, of texts, of numbers opened. No condition. A slice of statement nodes, and a slice of such slices, as an argument, opened, with what a bound on the bulk gives; the library's variable MaxLen. No condition. What the listed variable errors.errorType gives a walk: its one cell; and a world that has it. No condition. A world that holds the listed tables math/bits.deBruijn32tab, deBruijn64tab, internal/strconv.uint64pow10, unicode/utf8.first, acceptRanges and the listed variable errors.errorType; what they give a walk. No condition. A world that holds the listed tables math/bits.deBruijn32tab, deBruijn64tab, internal/strconv.uint64pow10, unicode/utf8.first, acceptRanges and the listed variables errors.errorType, strconv.ErrRange, ErrSyntax. No condition. Walk of pargetrylaw2.SynIs (printed by wip/gensynis.py). Conditions: the program lies below the call's own blocks, its texts are shorter than 4294967281 bytes, the text is not longer than a slice may be; internal/bytealg.MaxLen holds some number; the table of the powers of ten and the variable errors.errorType read as the program's text lays them. -/
import Derived.Test.YtddfdmopaeghnacGreatDoorRows
import Derived.Test.YtddfdmopaeghnacGreatDoorMem
import Derived.ProofKit
import Derived.Deep.Slices
import Derived.SizedLaws
import Derived.Test.YtddfdmopaeghnacGreatDoorSiTr
import Derived.Deep.DeepHandedRow
import Derived.Lib.LaidTab
import Derived.Shelf.Vars
import Derived.Test.YtddfdmopaeghnacGreatDoorSiEr
import Derived.ChangeSame
import Derived.ChangeVars
import Derived.JoinedOf
import Derived.RowKit
import Derived.RowKitTokens
import Derived.LaidLaws
import Derived.LaidHandle
import Derived.Stop.Joined
import Derived.Test.YtddfdmopaeghnacGreatDoorSiSy
import Derived.Lib.TrailingZeros
import Derived.Lib.ItoaNum
import Derived.Test.YtddfdmopaeghnacGreatDoorSiPs
import Derived.Test.YtddfdmopaeghnacGreatDoorSiRt
import Derived.Test.YtddfdmopaeghnacGreatDoorSiTf
import Derived.Test.YtddfdmopaeghnacGreatDoorSiRr
namespace Go.Proofs.YtddfdmopaeghnacGreatDoor
open Go.ChangeShapes Go.WideShapes Go.ChangeAt Go.RowKit Go.Deep

theorem own : ownKnob Tryz.prog.godebug = none := by kernel_rfl
theorem laidOut : laidOutB Tryz.prog = true := by kernel_rfl

section
variable {H : Type} {enc : TypeId × Value → H} {P : Program}

theorem trodAll_stay (hl : laidOutB P = true) {W W' : World} (hb : Below W.heap.size W W') {sp : Nat → Bool} :
    ∀ {ts : List TypeId} {vs : List Value} {ds : List (DataW H)} {p : List MemPlace}, (∀ t ∈ ts, P.readableRec t = true ∧ t < P.types.size) →
      DataW.TrodAll enc P W 0 (fun _ => true) true ts vs ds p → (∀ x ∈ p, x.block < W.heap.size) → (∀ x ∈ p, sp x.block = true) → DataW.TrodAll enc P W' 0 sp true ts vs ds p
  | [], _, _, _, _, h, _, _ => by
    obtain ⟨rfl, rfl, rfl⟩ := trodAll_nil h
    exact h
  | t :: ts, _, _, _, hr, h, hlt, hsp => by
    obtain ⟨v, vs1, d, ds1, a, b, rfl, rfl, rfl, h1, h2⟩ := trodAll_cons h
    obtain ⟨r1, r2⟩ := hr t (by simp)
    exact ⟨a, b, WideElems.Trod_stays hl r1 r2 h1 (fun x hx => hb.same (hlt x (List.mem_append_left _ hx))) (fun x hx => hsp x (List.mem_append_left _ hx)),
      trodAll_stay hl hb (fun t ht => hr t (by simp [ht])) h2 (fun x hx => hlt x (List.mem_append_right _ hx)) (fun x hx => hsp x (List.mem_append_right _ hx)), rfl⟩

/-- A law's end: true, old memory as it was. -/
theorem law_post {f : Func} {s : ChangeSpec} {W W' : World} {args : Array Value} {ds gs : List (DataW H)} {before : List MemPlace} {t : TypeId}
    (hW : DataW.Whole enc P f.params.toList s.vars false W args.toList ds gs before) (hv : s.vars = [])
    (hfn : s.fn H (ds ++ []) = { results := [.lit (.bool true)], args := ds }) (hres : f.resultTypes = #[t]) (ht : P.underlying t = some .bool)
    (hl : laidOutB P = true) (hr : (f.params.toList.all fun t => P.readableRec t && decide (t < P.types.size)) = true) (hb : Below W.heap.size W W') :
    s.post enc P f false true false false W args (.bool true) W' := by
  have hW0 := hW
  have hlt : ∀ x ∈ before, x.block < W.heap.size := fun x hx => hW.lt x hx
  obtain ⟨p, q, hA, hV, rfl, hfz, hnd⟩ := hW
  rw [hv] at hV
  obtain ⟨rfl, rfl⟩ := trodVars_none hV
  have hr' : ∀ t ∈ f.params.toList, P.readableRec t = true ∧ t < P.types.size := fun t ht => by
    have := List.all_eq_true.1 hr t ht
    simpa using this
  refine ⟨ds, [], p ++ [], [], p, [], hW0, ?_, ?_, ?_, hb.frame _, fun h => by cases h⟩
  · rw [hfn, hres]
    exact trodAll_mk1 (shut_bool ht true)
  · rw [hfn]
    refine trodAll_stay hl hb hr' hA (fun x hx => hlt x (by simpa using hx)) (fun x hx => by simpa using hlt x (by simpa using hx))
  · rw [hfn, hv]
    exact rfl

/-- A slice of whatever elements, opened to their cells. -/
theorem open_sl {W : World} {t e : TypeId} {sz base : Nat} {v : Value} {d : DataW H} {p : List MemPlace} (ht : P.underlying t = some (.slice e)) (hC : P.cellsOf e = sz) (hz : 0 < sz)
    (hv : Value.okWide P W .any base t v) (h : DataW.Trod enc P W 0 (fun _ => true) true t v d p) (hlt : ∀ x ∈ p, x.block < W.heap.size) :
    ∃ (A : Option Addr) (n c : Nat) (css : List (List Value)), v = .slice A n c ∧ css.length = n ∧ Sl W W.heap.size sz A n css.flatten ∧ n ≤ c ∧ n ≤ maxLen ∧
      (d = .nil ∨ ∃ elems spare : List (DataW H), d = .slice elems spare ∧ elems.length = n) ∧
      ∀ cs ∈ css, cs.length = sz ∧ ∃ (k : Nat) (y : DataW H × List MemPlace), DataW.trod enc P W 0 (fun _ => true) true k e cs = some y ∧ (∀ x ∈ y.2, x ∈ p) ∧ ∃ elems spare : List (DataW H), d = .slice elems spare ∧ y.1 ∈ elems := by
  obtain ⟨A, n, c, rfl⟩ := okWide_slice ht hv
  obtain ⟨fuel, hf⟩ := h
  rcases open_slice ht hf with ⟨hcs, hx⟩ | ⟨a, len, cap, m, k, D, Pl, hcs, _, hl, hm, hmm, hx, hi⟩
  · simp [Value.cells] at hcs
    obtain ⟨rfl, rfl, rfl⟩ := hcs
    exact ⟨none, 0, 0, [], rfl, rfl, .nil_, Nat.le_refl _, by simp [maxLen], .inl (by cases hx; rfl), by simp⟩
  · simp [Value.cells] at hcs
    obtain ⟨rfl, rfl, rfl⟩ := hcs
    simp only [if_true] at hmm
    subst hmm
    rw [hC] at hi hx
    obtain ⟨F, hF⟩ := choose_lt (α := List Value) (p := fun i cs => W.cells? 0 (a.add (i * sz)) sz = some cs ∧ DataW.trod enc P W 0 (fun _ => true) true k e cs = some (D i, Pl i)) (fun i hi' => hi i hi')
    have hlenF : ∀ i, i < m → (F i).length = sz := fun i hi' => (World.cells?_some (hF i hi').1).2.1
    have hflat : ∀ (q : Nat), q ≤ m → ((List.range q).map F).flatten.length = q * sz ∧ ∀ i j, i < q → j < sz → ((List.range q).map F).flatten[i * sz + j]? = (F i)[j]? := by
      intro q
      induction q with
      | zero => intro _; exact ⟨by simp, fun i j hi' => absurd hi' (by omega)⟩
      | succ q ih =>
        intro hq
        obtain ⟨h1, h2⟩ := ih (by omega)
        have e1 : ((List.range (q + 1)).map F).flatten = ((List.range q).map F).flatten ++ F q := by simp [List.range_succ]
        rw [e1]
        refine ⟨by rw [List.length_append, h1, hlenF q (by omega), Nat.add_mul, Nat.one_mul], fun i j hi' hj => ?_⟩
        rcases Nat.lt_or_ge i q with hlt' | hge
        · have : i * sz + j < q * sz := by
            have : (i + 1) * sz ≤ q * sz := Nat.mul_le_mul_right _ hlt'
            rw [Nat.add_mul] at this; omega
          rw [List.getElem?_append_left (by omega)]
          exact h2 i j hlt' hj
        · obtain rfl : i = q := by omega
          rw [List.getElem?_append_right (by omega), h1]
          congr 1; omega
    have hp : p = MemPlace.row a (m * sz) ++ (List.range m).flatMap Pl := by cases hx; rfl
    refine ⟨some a, n, m, (List.range n).map F, rfl, by simp, ⟨(hflat n hl).1, fun hn => ?_⟩, hl, Nat.le_trans hl hm, .inr ⟨_, _, (by cases hx; rfl), by simp⟩, ?_⟩
    · have hmpos : 0 < m * sz := Nat.mul_pos (by omega) hz
      have hblk : a.block < W.heap.size := hlt (.cell a.block (a.off + 0)) (by rw [hp]; exact List.mem_append_left _ (MemPlace.mem_row.2 ⟨0, hmpos, rfl⟩))
      have hc0 : ∀ i j, i < m → j < sz → W.cell? ((a.add (i * sz)).add j) = (F i)[j]? := fun i j h1 h2 => (World.cells?_some (hF i h1).1).2.2 j h2
      have hspot : a.spot = none := by
        have h0 := hc0 0 0 (by omega) hz
        rw [Nat.zero_mul, List.getElem?_eq_getElem (by rw [hlenF 0 (by omega)]; exact hz)] at h0
        simp only [Addr.add, if_true, World.cell?] at h0
        split at h0
        · split at h0
          · cases h0
          · rename_i hs
            cases hsp : a.spot with
            | none => rfl
            | some _ => simp [hsp] at hs
        · cases h0
      have ha : a = ⟨a.block, a.off, none⟩ := by
        cases a
        simp only at hspot
        subst hspot
        rfl
      refine ⟨a.block, a.off, congrArg some ha, hblk, fun j u hu => ?_⟩
      have hjl : j < n * sz := by
        rw [← (hflat n hl).1]
        exact (List.getElem?_eq_some_iff.1 hu).1
      have hdiv : j / sz < n := (Nat.div_lt_iff_lt_mul hz).2 hjl
      have hmod := Nat.mod_lt j hz
      have hj : j = j / sz * sz + j % sz := by rw [Nat.mul_comm]; exact (Nat.div_add_mod j sz).symm
      have h1 := (hflat n hl).2 (j / sz) (j % sz) hdiv hmod
      rw [← hj, hu] at h1
      have h2 := hc0 (j / sz) (j % sz) (by omega) hmod
      rw [Go.Deep.add_add, ← hj, ← h1] at h2
      rw [← h2]
      unfold Addr.add
      split
      · rename_i h0; rw [h0, Nat.add_zero, ← ha]
      · rfl
    · intro cs hcs
      obtain ⟨i, hi', rfl⟩ := List.mem_map.1 hcs
      have hi2 : i < m := by have := List.mem_range.1 hi'; omega
      refine ⟨hlenF i hi2, k, _, (hF i hi2).2, fun x hx' => ?_, ?_⟩
      · rw [hp]
        exact List.mem_append_right _ (List.mem_flatMap.2 ⟨i, List.mem_range.2 hi2, hx'⟩)
      · refine ⟨_, _, congrArg Prod.fst hx, ?_⟩
        exact List.mem_map_of_mem (List.mem_range.2 (List.mem_range.1 hi'))

theorem flatten_one {α : Type} (f : α → Value) (l : List α) : (l.map fun x => [f x]).flatten = l.map f := by
  induction l with
  | nil => rfl
  | cons a r ih => rw [List.map_cons, List.flatten_cons, ih]; rfl

theorem flatten_map {α : Type} {css : List (List Value)} {f : α → List Value} {l : List α} (h : css = l.map f) : css.flatten = l.flatMap f := by
  rw [h, List.flatMap_def]

/-- From each to all. -/
theorem list_of {α : Type} {p : List Value → Prop} {q : α → Prop} {f : α → List Value} {css : List (List Value)} (h : ∀ cs ∈ css, p cs) (hp : ∀ cs, p cs → ∃ a, cs = f a ∧ q a) : ∃ l : List α, css = l.map f ∧ ∀ a ∈ l, q a := by
  induction css with
  | nil => exact ⟨[], rfl, by simp⟩
  | cons cs r ih =>
    obtain ⟨a, ha, hq⟩ := hp cs (h cs (by simp))
    obtain ⟨l, hl, hql⟩ := ih (fun c hc => h c (by simp [hc]))
    refine ⟨a :: l, by rw [hl, ha]; rfl, fun x hx => ?_⟩
    rcases List.mem_cons.1 hx with rfl | hx
    · exact hq
    · exact hql x hx

end
end Go.Proofs.YtddfdmopaeghnacGreatDoor

namespace Go.Proofs.YtddfdmopaeghnacGreatDoor
open Go.ChangeShapes Go.WideShapes Go.ChangeAt Go.RowKit Go.Deep

section
variable {P : Program} {H : Type} {enc : TypeId × Value → H}
/-- A slice of whatever elements, opened to their cells. -/
theorem open_sc {W : World} {t e : TypeId} {sz fuel : Nat} {cs0 : List Value} {d : DataW H} {p : List MemPlace} (ht : P.underlying t = some (.slice e)) (hC : P.cellsOf e = sz) (hz : 0 < sz)
    (hf : DataW.trod enc P W 0 (fun _ => true) true fuel t cs0 = some (d, p)) (hlt : ∀ x ∈ p, x.block < W.heap.size) :
    ∃ (A : Option Addr) (n c : Nat) (css : List (List Value)), cs0 = [.slice A n c] ∧ css.length = n ∧ Sl W W.heap.size sz A n css.flatten ∧ n ≤ c ∧ n ≤ maxLen ∧
      (d = .nil ∨ ∃ elems spare : List (DataW H), d = .slice elems spare ∧ elems.length = n) ∧
      ∀ cs ∈ css, cs.length = sz ∧ ∃ (k : Nat) (y : DataW H × List MemPlace), DataW.trod enc P W 0 (fun _ => true) true k e cs = some y ∧ (∀ x ∈ y.2, x ∈ p) ∧ ∃ elems spare : List (DataW H), d = .slice elems spare ∧ y.1 ∈ elems := by
  rcases open_slice ht hf with ⟨hcs, hx⟩ | ⟨a, len, cap, m, k, D, Pl, hcs, _, hl, hm, hmm, hx, hi⟩
  · subst hcs
    exact ⟨none, 0, 0, [], rfl, rfl, .nil_, Nat.le_refl _, by simp [maxLen], .inl (by cases hx; rfl), by simp⟩
  · subst hcs
    simp only [if_true] at hmm
    subst hmm
    rw [hC] at hi hx
    obtain ⟨F, hF⟩ := choose_lt (α := List Value) (p := fun i cs => W.cells? 0 (a.add (i * sz)) sz = some cs ∧ DataW.trod enc P W 0 (fun _ => true) true k e cs = some (D i, Pl i)) (fun i hi' => hi i hi')
    have hlenF : ∀ i, i < m → (F i).length = sz := fun i hi' => (World.cells?_some (hF i hi').1).2.1
    have hflat : ∀ (q : Nat), q ≤ m → ((List.range q).map F).flatten.length = q * sz ∧ ∀ i j, i < q → j < sz → ((List.range q).map F).flatten[i * sz + j]? = (F i)[j]? := by
      intro q
      induction q with
      | zero => intro _; exact ⟨by simp, fun i j hi' => absurd hi' (by omega)⟩
      | succ q ih =>
        intro hq
        obtain ⟨h1, h2⟩ := ih (by omega)
        have e1 : ((List.range (q + 1)).map F).flatten = ((List.range q).map F).flatten ++ F q := by simp [List.range_succ]
        rw [e1]
        refine ⟨by rw [List.length_append, h1, hlenF q (by omega), Nat.add_mul, Nat.one_mul], fun i j hi' hj => ?_⟩
        rcases Nat.lt_or_ge i q with hlt' | hge
        · have : i * sz + j < q * sz := by
            have : (i + 1) * sz ≤ q * sz := Nat.mul_le_mul_right _ hlt'
            rw [Nat.add_mul] at this; omega
          rw [List.getElem?_append_left (by omega)]
          exact h2 i j hlt' hj
        · obtain rfl : i = q := by omega
          rw [List.getElem?_append_right (by omega), h1]
          congr 1; omega
    have hp : p = MemPlace.row a (m * sz) ++ (List.range m).flatMap Pl := by cases hx; rfl
    refine ⟨some a, len, m, (List.range len).map F, rfl, by simp, ⟨(hflat len hl).1, fun hn => ?_⟩, hl, Nat.le_trans hl hm, .inr ⟨_, _, (by cases hx; rfl), by simp⟩, ?_⟩
    · have hmpos : 0 < m * sz := Nat.mul_pos (by omega) hz
      have hblk : a.block < W.heap.size := hlt (.cell a.block (a.off + 0)) (by rw [hp]; exact List.mem_append_left _ (MemPlace.mem_row.2 ⟨0, hmpos, rfl⟩))
      have hc0 : ∀ i j, i < m → j < sz → W.cell? ((a.add (i * sz)).add j) = (F i)[j]? := fun i j h1 h2 => (World.cells?_some (hF i h1).1).2.2 j h2
      have hspot : a.spot = none := by
        have h0 := hc0 0 0 (by omega) hz
        rw [Nat.zero_mul, List.getElem?_eq_getElem (by rw [hlenF 0 (by omega)]; exact hz)] at h0
        simp only [Addr.add, if_true, World.cell?] at h0
        split at h0
        · split at h0
          · cases h0
          · rename_i hs
            cases hsp : a.spot with
            | none => rfl
            | some _ => simp [hsp] at hs
        · cases h0
      have ha : a = ⟨a.block, a.off, none⟩ := by
        cases a
        simp only at hspot
        subst hspot
        rfl
      refine ⟨a.block, a.off, congrArg some ha, hblk, fun j u hu => ?_⟩
      have hjl : j < len * sz := by
        rw [← (hflat len hl).1]
        exact (List.getElem?_eq_some_iff.1 hu).1
      have hdiv : j / sz < len := (Nat.div_lt_iff_lt_mul hz).2 hjl
      have hmod := Nat.mod_lt j hz
      have hj : j = j / sz * sz + j % sz := by rw [Nat.mul_comm]; exact (Nat.div_add_mod j sz).symm
      have h1 := (hflat len hl).2 (j / sz) (j % sz) hdiv hmod
      rw [← hj, hu] at h1
      have h2 := hc0 (j / sz) (j % sz) (by omega) hmod
      rw [Go.Deep.add_add, ← hj, ← h1] at h2
      rw [← h2]
      unfold Addr.add
      split
      · rename_i h0; rw [h0, Nat.add_zero, ← ha]
      · rfl
    · intro cs hcs
      obtain ⟨i, hi', rfl⟩ := List.mem_map.1 hcs
      have hi2 : i < m := by have := List.mem_range.1 hi'; omega
      refine ⟨hlenF i hi2, k, _, (hF i hi2).2, fun x hx' => ?_, ?_⟩
      · rw [hp]
        exact List.mem_append_right _ (List.mem_flatMap.2 ⟨i, List.mem_range.2 hi2, hx'⟩)
      · refine ⟨_, _, congrArg Prod.fst hx, ?_⟩
        exact List.mem_map_of_mem (List.mem_range.2 (List.mem_range.1 hi'))

end

theorem cellsTree : Tryz.prog.cellsOf 25 = 3 := by kernel_rfl

theorem bulk_part {H : Type} {d : DataW H} {l : List (DataW H)} (h : d ∈ l) : Rows.uptoBulk d ≤ Rows.uptoBulkAll l := by
  induction l with
  | nil => cases h
  | cons x r ih =>
    simp only [Rows.uptoBulkAll]
    cases List.mem_cons.1 h with
    | inl e => subst e; omega
    | inr e => have := ih e; omega
theorem bulk_string {H : Type} (bytes : List UInt8) : Rows.uptoBulk (DataW.lit (H := H) (.string bytes)) = bytes.length + 1 := by simp [Rows.uptoBulk]
theorem bulk_elem {H : Type} {d : DataW H} {elems spare : List (DataW H)} (h : d ∈ elems) : Rows.uptoBulk d ≤ Rows.uptoBulk (DataW.slice elems spare) := by
  have := bulk_part h
  simp only [Rows.uptoBulk]; omega
theorem bulk_field {H : Type} {d : DataW H} {parts : List (DataW H)} (h : d ∈ parts) : Rows.uptoBulk d ≤ Rows.uptoBulk (DataW.agg parts) := by
  have := bulk_part h
  simp only [Rows.uptoBulk]; omega

set_option maxRecDepth 100000 in
/-- The same off a cell. -/
theorem open_trees_c {H : Type} {enc : TypeId × Value → H} {W : World} {fuel : Nat} {cs0 : List Value} {d : DataW H} {p : List MemPlace}
    (h : DataW.trod enc Tryz.prog W 0 (fun _ => true) true fuel 22 cs0 = some (d, p)) (hlt : ∀ x ∈ p, x.block < W.heap.size) :
    ∃ (A : Option Addr) (c : Nat) (l : List Nd), cs0 = [.slice A l.length c] ∧ Nds W W.heap.size A l ∧ l.length ≤ c ∧ ∀ x ∈ l, x.text.size + 1 ≤ Rows.uptoBulk d := by
  obtain ⟨A, n, c, css, rfl, rfl, hs, hc, hm, hd, hcs⟩ := open_sc Tryz.underlying22 cellsTree (by omega) h hlt
  obtain ⟨l, hl, hw⟩ := list_of (f := ndCells) (q := fun x => x.text.size ≤ maxLen ∧ x.text.size + 1 ≤ Rows.uptoBulk d) hcs (fun cs ⟨h1, k, y, hy, _, hin⟩ => by
    obtain ⟨xs, n, _, hyx, _, hlen, hf⟩ := DataW.trod_struct Tryz.underlying25 hy
    match cs, h1 with
    | [c0, c1, c2], _ =>
      match xs, hlen with
      | [y0, y1, y2], _ =>
        have e0 := hf 0 _ rfl
        have e1 := hf 1 _ rfl
        have e2 := hf 2 _ rfl
        have k0 : Tryz.prog.cellsOf 3 = 1 := by kernel_rfl
        have k1 : Tryz.prog.cellsOf 9 = 1 := by kernel_rfl
        simp [k0, k1] at e0 e1 e2
        obtain ⟨a, ha, _, wa⟩ := DataW.trod_int Tryz.underlying3 e0
        obtain ⟨t, htx, hy1, wt⟩ := DataW.trod_string Tryz.underlying9 e1
        obtain ⟨b, hb, _, wb⟩ := DataW.trod_int Tryz.underlying3 e2
        simp at ha htx hb
        subst ha htx hb
        refine ⟨⟨a, t, b⟩, rfl, wt, ?_⟩
        obtain ⟨elems, spare, he, hmem⟩ := hin
        rw [hyx] at hmem
        have h2 : Rows.uptoBulk (DataW.lit (H := H) (.string t.data.toList)) ≤ Rows.uptoBulk (DataW.agg ([y0, y1, y2].map (·.1))) := bulk_field (by rw [hy1]; simp)
        have h3 := bulk_elem (spare := spare) hmem
        rw [bulk_string] at h2
        rw [he]
        have h4 : t.data.toList.length = t.size := by simp
        show t.size + 1 ≤ _
        simp only at h3
        omega)
  rw [flatten_map hl] at hs
  have hlen : css.length = l.length := by rw [hl, List.length_map]
  rw [hlen] at hs hc hm ⊢
  exact ⟨A, c, l, rfl, ⟨hs, hm, fun x hx => (hw x hx).1⟩, hc, fun x hx => (hw x hx).2⟩

set_option maxRecDepth 100000 in
/-- A slice of statements. -/
theorem open_prog {H : Type} {enc : TypeId × Value → H} {W : World} {base : Nat} {v : Value} {d : DataW H} {p : List MemPlace}
    (hv : Value.okWide Tryz.prog W .any base 35 v) (h : DataW.Trod enc Tryz.prog W 0 (fun _ => true) true 35 v d p) (hlt : ∀ x ∈ p, x.block < W.heap.size) (hsm : Rows.uptoBulk d < 4294967281) :
    ∃ (A : Option Addr) (c : Nat) (l : List (List Nd)), v = .slice A l.length c ∧ Prg W W.heap.size A l := by
  obtain ⟨A, n, c, css, rfl, rfl, hs, hc, hm, hd, hcs⟩ := open_sl Tryz.underlying35 (by kernel_rfl : Tryz.prog.cellsOf 22 = 1) (by omega) hv h hlt
  obtain ⟨l, hl, hw⟩ := list_of (f := fun x : Option Addr × Nat × List Nd => [Value.slice x.1 x.2.2.length x.2.1]) (q := fun x => Nds W W.heap.size x.1 x.2.2 ∧ Short x.2.2) hcs (fun cs ⟨_, k, y, hy, hp, hin⟩ => by
    obtain ⟨A1, c1, l1, rfl, hn, _, hb⟩ := open_trees_c (d := y.1) (p := y.2) hy (fun x hx => hlt x (hp x hx))
    refine ⟨(A1, c1, l1), rfl, hn, fun x hx => ?_⟩
    have h1 := hb x hx
    obtain ⟨elems, spare, he, hmem⟩ := hin
    have h2 := bulk_elem (spare := spare) hmem
    rw [← he] at h2
    omega)
  have hfl : css.flatten = l.map fun x => Value.slice x.1 x.2.2.length x.2.1 := by rw [hl, flatten_one]
  have hlen : css.length = (l.map fun x => x.2.2).length := by rw [hl, List.length_map, List.length_map]
  rw [hfl] at hs
  rw [hlen] at hs hm ⊢
  refine ⟨A, c, l.map fun x => x.2.2, rfl, ⟨⟨_, hs, fun j v hv => ?_⟩, hm⟩⟩
  rw [List.getElem?_map] at hv
  cases hx : l[j]? with
  | none => rw [hx] at hv; cases hv
  | some x =>
    rw [hx] at hv
    cases hv
    have h1 := hw x (List.mem_of_getElem? hx)
    exact ⟨x.1, x.2.1, x.2.2, by rw [List.getElem?_map, hx]; rfl, rfl, h1.1, h1.2⟩

theorem maxL_of {W : World} (h : W.ShapedOpen Tryz.prog) : MaxL W := by
  obtain ⟨m, hm⟩ := cell_of_shapedOpen_int (P := Tryz.prog) (g := 1) (t := 3) (zero := #[.int .i64 0]) (k := .i64) h (of_decide_eq_true (by kernel_rfl)) (by kernel_rfl) rfl (by kernel_rfl) (by kernel_rfl) Tryz.underlying3
  refine ⟨?_, m, hm⟩
  rcases Nat.lt_or_ge 1 W.heap.size with h1 | h1
  · exact h1
  · unfold World.cell? at hm
    simp [Array.getElem?_eq_none h1] at hm

end Go.Proofs.YtddfdmopaeghnacGreatDoor

namespace Go.Proofs.YtddfdmopaeghnacGreatDoor
open Go.ChangeShapes Go.WideShapes Go.RowKit

theorem etName : Tryz.prog.globalNamed "errors.errorType" = some 0 := by kernel_rfl
theorem rtType : (Tryz.prog.cutTypes.find? (·.1 == "internal/reflectlite.rtype")).map (·.2) = some 273 := by kernel_rfl
theorem oneError : ((List.range 355).filter fun t => Tryz.prog.rowNamed t [101, 114, 114, 111, 114]) = [28] := by kernel_rfl
theorem manyTypes : Tryz.prog.types.size = 355 := by kernel_rfl

theorem errT_of_laid {W : World} (h : laidMetH Tryz.prog [("errors.errorType", Rows.laid_errors_errorType)] W) : ErrT W := by
  have h' : laidMet Tryz.prog [] W ∧ handlesMet Tryz.prog [("errors.errorType", Rows.laid_errors_errorType)] W := h
  obtain ⟨name, u, ty, e1, e2, e3, e4, e5⟩ := h'.2 _ (List.mem_singleton.2 rfl)
  have en : name = [101, 114, 114, 111, 114] := (Option.some.inj e1).symm
  subst en
  obtain rfl := Option.some.inj (rtType.symm.trans e2)
  have hm : ty ∈ (List.range 355).filter fun t => Tryz.prog.rowNamed t [101, 114, 114, 111, 114] := List.mem_filter.2 ⟨List.mem_range.2 (by rw [← manyTypes]; exact e3), e4⟩
  rw [oneError] at hm
  obtain rfl := List.mem_singleton.1 hm
  have hh : typeHandle Tryz.prog 28 = .pointer (some ⟨9, 28, none⟩) := by kernel_rfl
  rw [hh] at e5
  have := World.var?_cell etName e5 0
  simpa [ErrT] using this

theorem ErrT.size {W : World} (h : ErrT W) : 0 + 1 ≤ W.heap.size := by
  rcases Nat.lt_or_ge 0 W.heap.size with h1 | h1
  · exact h1
  · unfold ErrT World.cell? at h
    simp [Array.getElem?_eq_none h1] at h

end Go.Proofs.YtddfdmopaeghnacGreatDoor

namespace Go.Proofs.YtddfdmopaeghnacGreatDoor
open Go.ChangeShapes Go.WideShapes Go.RowKit

theorem errT_of_six {l : List (String × DataW Unit)} (hf : l.filter (fun x => x.2.handleName?.isSome) = [("errors.errorType", Rows.laid_errors_errorType)]) {W : World} (h : laidMetH Tryz.prog l W) : ErrT W := by
  refine errT_of_laid ?_
  unfold laidMetH at h ⊢
  rw [hf] at h
  have e2 : ([("errors.errorType", Rows.laid_errors_errorType)] : List (String × DataW Unit)).filter (fun x => x.2.handleName?.isSome) = [("errors.errorType", Rows.laid_errors_errorType)] := rfl
  rw [e2]
  exact ⟨laidMet_nil _ _, h.2⟩
/-- The table of the powers of ten stands third on the list. -/
theorem powT_of_six {a b : String × DataW Unit} {l rest : List (String × DataW Unit)} (hf : l.filter (fun x => x.2.handleName?.isSome) = [("errors.errorType", Rows.laid_errors_errorType)])
    (hn : l.filter (fun x => x.2.handleName?.isNone) = a :: b :: ("internal/strconv.uint64pow10", Lib.tabData .u64 Lib.pow10Tab) :: rest) {W : World} (h : laidMetH Tryz.prog l W) : PowT W := by
  unfold laidMetH at h
  rw [hf] at h
  have h1 := h.1
  rw [hn] at h1
  obtain ⟨ps, ⟨_, _, _, _, _, q1, _, _, _, _, ⟨_, _, _, _, _, q2, _, _, _, _, ⟨g', t', cs, fuel, p, q, hg', ht', hvar, hd, _, _⟩, _⟩, _⟩, _⟩ := h1
  have hg : Tryz.prog.globalNamed "internal/strconv.uint64pow10" = some 2 := by kernel_rfl
  obtain rfl := Option.some.inj (hg.symm.trans hg')
  have hty : (Tryz.prog.globals[2]?).map (·.type) = some 302 := by kernel_rfl
  obtain rfl := Option.some.inj (hty.symm.trans ht')
  unfold PowT Lib.TabIs
  rw [hvar, ← Lib.cells_of_tab Tryz.underlying302 Tryz.underlying268 (by kernel_rfl) (by kernel_rfl) hd]

end Go.Proofs.YtddfdmopaeghnacGreatDoor

namespace Go.Proofs.YtddfdmopaeghnacGreatDoor
open Go.RowKit

/-- A world that holds them. -/
noncomputable def tabWorld8 (os : Os) : World :=
  let w0 := World.holding Tryz.prog os ⟨#[], #[], []⟩
  let n := w0.heap.size
  { w0 with heap := (((((((((w0.heap.modify 5 fun
      | .cells _ t frozen => .cells (Lib.deBruijn32tab.map fun n : Nat => Value.int .u8 n).toArray t frozen
      | o => o).modify 6 fun
      | .cells _ t frozen => .cells (Lib.deBruijn64tab.map fun n : Nat => Value.int .u8 n).toArray t frozen
      | o => o).modify 2 fun
      | .cells _ t frozen => .cells (Lib.pow10Tab.map fun n : Int => Value.int .u64 n).toArray t frozen
      | o => o).modify 3 fun
      | .cells _ t frozen => .cells (Go.Pinned.utf8FirstZ.map fun n : Nat => Value.int .u8 n).toArray t frozen
      | o => o).modify 4 fun
      | .cells _ t frozen => .cells (([128, 191, 160, 191, 128, 159, 144, 191, 128, 143] ++ List.replicate 22 0).map fun n : Nat => Value.int .u8 n).toArray t frozen
      | o => o).modify 0 fun
      | .cells _ t frozen => .cells #[.iface 273 (.agg #[.pointer (some ⟨9, 28, none⟩)])] t frozen
      | o => o).modify 8 fun
      | .cells _ t frozen => .cells #[.iface 326 (.pointer (some ⟨n, 0, none⟩))] t frozen
      | o => o).modify 7 fun
      | .cells _ t frozen => .cells #[.iface 326 (.pointer (some ⟨n + 1, 0, none⟩))] t frozen
      | o => o).push (.cells #[.string ⟨#[118, 97, 108, 117, 101, 32, 111, 117, 116, 32, 111, 102, 32, 114, 97, 110, 103, 101]⟩] 328 (0, 0))).push (.cells #[.string ⟨#[105, 110, 118, 97, 108, 105, 100, 32, 115, 121, 110, 116, 97, 120]⟩] 328 (0, 0)) }
end Go.Proofs.YtddfdmopaeghnacGreatDoor

namespace Go.Proofs.YtddfdmopaeghnacGreatDoor
open Go.RowKit

theorem parse_bad_i {s : ByteArray} {f : Int} {k n : Nat} {l : List (List Nd)} (h : parseF s = (f, k, l)) (hf : f ≠ 0) (hn : l.length = n) (w : World) (hs : s.size ≤ maxLen) (hm : MaxL w) : Calls Tryz.prog 27 #[.string s] w fun e w' => ∃ A c, e = .returned (.tuple #[.slice A n c, .int .i64 (k : Nat), .iface 43 (.int .i64 f)]) ∧ PrgF w.heap.size w' A l ∧ Below w.heap.size w w' := by
  have := parse_bad (s := s) (by rw [h]; exact hf) w hs hm
  rw [h] at this
  subst hn
  exact this
theorem parse_ok_i {s : ByteArray} {k n : Nat} {l : List (List Nd)} (h : parseF s = (0, k, l)) (hn : l.length = n) (w : World) (hs : s.size ≤ maxLen) (hm : MaxL w) : Calls Tryz.prog 27 #[.string s] w fun e w' => ∃ A c, e = .returned (.tuple #[.slice A n c, .int .i64 (k : Nat), .nilIface]) ∧ PrgF w.heap.size w' A l ∧ Below w.heap.size w w' := by
  have := parse_ok (s := s) (by rw [h]) w hs hm
  rw [h] at this
  subst hn
  exact this
theorem parseof_is {s : ByteArray} {f : Int} {k n : Nat} {l : List (List Nd)} (h : parseF s = (f, k, l)) (hn : l.length = n) (w : World) (hs : s.size ≤ maxLen) : Calls Tryz.prog 26 #[.string s] w fun e w' => ∃ A c, e = .returned (.tuple #[.slice A n c, .int .i64 (k : Nat), .int .i64 f]) ∧ PrgF w.heap.size w' A l ∧ Below w.heap.size w w' := by
  have := parseof_any s w hs
  unfold ParRef at this
  rw [h] at this
  subst hn
  exact this
theorem sameP_self (a : List (List Nd)) : sameP a a = true := sameP_iff.2 rfl

set_option maxHeartbeats 8000000 in
theorem synIs_any (p : List (List Nd)) (P : Option Addr) (cp : Nat) (s : ByteArray) (w : World) (hp : Prg w w.heap.size P p) (hsz : s.size ≤ maxLen) (hm : MaxL w) (hpw : PowT w) (hg : ErrT w) (hgs : 0 + 1 ≤ w.heap.size) :
    Calls Tryz.prog 6 #[.slice P p.length cp, .string s] w (Ret w (.bool true)) := by
  have HB := Lib.hid (Below.refl w.heap.size w)
  have HPR := Lib.hid hp; have HM := Lib.hid hm; have HW := Lib.hid hpw; have HG := Lib.hid hg; have HS := Lib.hid hsz
  clear hp hm hpw hg hsz
  obtain ⟨f6, k6, x6, hs6⟩ : ∃ f k x, parseF s = (f, k, x) := ⟨_, _, _, rfl⟩
  obtain ⟨n6, hn6⟩ : ∃ n, x6.length = n := ⟨_, rfl⟩
  have HR1 : Hid (∀ w', Below w.heap.size w w' → Calls Tryz.prog 26 #[.string s] w' fun e w'' => ∃ A c, e = .returned (.tuple #[.slice A n6 c, .int .i64 (k6 : Nat), .int .i64 f6]) ∧ PrgF w'.heap.size w'' A x6 ∧ Below w'.heap.size w' w'') := Lib.hid (fun w' hB => parseof_is hs6 hn6 w' HS.out)
  have HG1 : Hid (∀ (A : Option Addr) (c : Nat) (B : Option Addr) (d : Nat) w', Prg w' w'.heap.size A x6 → Prg w' w'.heap.size B x6 → Below w.heap.size w w' → Calls Tryz.prog 28 #[.slice A n6 c, .slice B n6 d] w' fun e w'' => e = .returned (.bool true) ∧ ∃ m, w'' = w'.drewN m) := Lib.hid (fun A c B d w' ha hb _ => by have := progs_any x6 x6 n6 n6 hn6 hn6 A B c d w' ha hb; rwa [sameP_self] at this)
  have hml := HPR.out.le
  unfold maxLen at hml
  by_cases hf6 : f6 = 0
  · subst hf6
    have HQ1 : Hid (∀ w', Below w.heap.size w w' → Calls Tryz.prog 27 #[.string s] w' fun e w'' => ∃ A c, e = .returned (.tuple #[.slice A n6 c, .int .i64 (k6 : Nat), .nilIface]) ∧ PrgF w'.heap.size w'' A x6 ∧ Below w'.heap.size w' w'') := Lib.hid (fun w' hB => parse_ok_i hs6 hn6 w' HS.out (HM.out.past hB))
    have HE2 : Hid (∀ w', Below w.heap.size w w' → Calls Tryz.prog 25 #[.nilIface, .int .i64 0] w' (Ret w' (.bool true))) := Lib.hid (fun w' hB => error_nil w' (HG.out.past hgs hB) (Nat.le_trans hgs hB.size))
    clear hs6 hn6
    by_cases h0 : (progF p).2 = 0
    · obtain ⟨i1, hi1⟩ : ∃ i, (progF p).1 = i := ⟨_, rfl⟩
      have hf1 := h0
      have HF1 : Hid (∀ w', Below w.heap.size w w' → Calls Tryz.prog 23 #[.slice P p.length cp] w' fun e w'' => e = .returned (.tuple #[.int .i64 (i1 : Nat), .int .i64 0]) ∧ Below w'.heap.size w' w'') := Lib.hid (fun w' hB => by have := progfault_any p P cp w' (HPR.out.past hB); unfold FaultTo at this; rwa [hi1, hf1] at this)
      have HO1 : Hid (∀ w', Below w.heap.size w w' → Calls Tryz.prog 24 #[.slice P p.length cp] w' (Ret w' (.string (printF p)))) := Lib.hid (fun w' hB => printof_any p p.length rfl P cp w' (HPR.out.past hB) (progF_facts h0).2.1 (progF_facts h0).1)
      have HP1 : Hid (∀ w', Below w.heap.size w w' → Calls Tryz.prog 15 #[.slice P p.length cp] w' fun e w'' => e = .returned (.tuple #[.string (printF p), .nilIface]) ∧ Below w'.heap.size w' w'') := Lib.hid (fun w' hB => print_ok rfl P cp w' (HPR.out.past hB) (HM.out.past hB) (HW.out.past hB) h0)
      have HE1 : Hid (∀ w', Below w.heap.size w w' → Calls Tryz.prog 25 #[.nilIface, .int .i64 0] w' (Ret w' (.bool true))) := Lib.hid (fun w' hB => error_nil w' (HG.out.past hgs hB) (Nat.le_trans hgs hB.size))
      generalize printF p = U1 at *
      clear h0 hf1 hi1
      go_enter Tryz.func6, Tryz.ntmps6
      go_wp2_with (first
        | (go_at_call 23; (fail_if_success have z := T0); refine (HF1.out _ HB.out).mono ?_; rintro e w1 ⟨rfl, hB⟩; have HB := Lib.hid (HB.out.trans (hB.mono HB.out.size)); have T0 := Lib.hid True.intro; clear hB)
        | (go_at_call 24; (have z := T0; clear z); (fail_if_success have z := T1); refine (HO1.out _ HB.out).mono ?_; rintro e w2 ⟨rfl, hB⟩; have HB := Lib.hid (HB.out.trans (hB.mono HB.out.size)); have T1 := Lib.hid True.intro; clear hB)
        | (go_at_call 15; (have z := T1; clear z); (fail_if_success have z := T2); refine (HP1.out _ HB.out).mono ?_; rintro e w3 ⟨rfl, hB⟩; have HB := Lib.hid (HB.out.trans (hB.mono HB.out.size)); have T2 := Lib.hid True.intro; clear hB)
        | (go_at_call 25; (have z := T2; clear z); (fail_if_success have z := T3); refine (HE1.out _ HB.out).mono ?_; rintro e w4 ⟨rfl, hB⟩; have HB := Lib.hid (HB.out.trans (hB.mono HB.out.size)); have T3 := Lib.hid True.intro; clear hB)
        | (go_at_call 26; (have z := T3; clear z); (fail_if_success have z := T4); refine (HR1.out _ HB.out).mono ?_; rintro e w5 ⟨A5, c5, rfl, hF, hB⟩; have HX5 := Lib.hid hF; have HB := Lib.hid (HB.out.trans (hB.mono HB.out.size)); have T4 := Lib.hid True.intro; clear hF hB)
        | (go_at_call 27; (have z := T4; clear z); (fail_if_success have z := T5); refine (HQ1.out _ HB.out).mono ?_; rintro e w6 ⟨A6, c6, rfl, hF, hB⟩; have HX5 := Lib.hid (HX5.out.past hB); have HX6 := Lib.hid hF; have HB := Lib.hid (HB.out.trans (hB.mono HB.out.size)); have T5 := Lib.hid True.intro; clear hF hB)
        | (go_at_call 25; (have z := T5; clear z); (fail_if_success have z := T6); refine (HE2.out _ HB.out).mono ?_; rintro e w7 ⟨rfl, hB⟩; have HX5 := Lib.hid (HX5.out.past hB); have HX6 := Lib.hid (HX6.out.past hB); have HB := Lib.hid (HB.out.trans (hB.mono HB.out.size)); have T6 := Lib.hid True.intro; clear hB)
        | (go_at_call 28; (have z := T6; clear z); (fail_if_success have z := T7); refine (HG1.out A6 c6 A5 c5 _ HX6.out.prg HX5.out.prg HB.out).mono ?_; rintro e w8 ⟨rfl, m8, rfl⟩; have HB := Lib.hid (below_drewN HB.out m8); have T7 := Lib.hid True.intro))
      go_ret
      exact ⟨by first | rfl | (simp; done), HB.out⟩
    · obtain ⟨i1, hi1⟩ : ∃ i, (progF p).1 = i := ⟨_, rfl⟩
      obtain ⟨f1, hf1⟩ : ∃ f, (progF p).2 = f := ⟨_, rfl⟩
      have hz1 : f1 ≠ 0 := by rw [← hf1]; exact h0
      have d1 : (f1 == 0) = false := beq_eq_false_iff_ne.2 hz1
      have d2 : decide (f1 = 0) = false := decide_eq_false hz1
      have HF1 : Hid (∀ w', Below w.heap.size w w' → Calls Tryz.prog 23 #[.slice P p.length cp] w' fun e w'' => e = .returned (.tuple #[.int .i64 (i1 : Nat), .int .i64 f1]) ∧ Below w'.heap.size w' w'') := Lib.hid (fun w' hB => by have := progfault_any p P cp w' (HPR.out.past hB); unfold FaultTo at this; rwa [hi1, hf1] at this)
      have HP1 : Hid (∀ w', Below w.heap.size w w' → Calls Tryz.prog 15 #[.slice P p.length cp] w' fun e w'' => e = .returned (.tuple #[.string .empty, .iface 43 (.int .i64 f1)]) ∧ Below w'.heap.size w' w'') := Lib.hid (fun w' hB => by have := print_bad rfl P cp w' (HPR.out.past hB) (HM.out.past hB) h0; rwa [hf1] at this)
      have HE1 : Hid (∀ w', Below w.heap.size w w' → Calls Tryz.prog 25 #[.iface 43 (.int .i64 f1), .int .i64 f1] w' (Ret w' (.bool true))) := Lib.hid (fun w' hB => error_same f1 hz1 w' (HG.out.past hgs hB) (Nat.le_trans hgs hB.size))
      clear h0 hf1 hi1 hz1
      go_enter Tryz.func6, Tryz.ntmps6
      go_wp2_with (first
        | (go_at_call 23; (fail_if_success have z := T0); refine (HF1.out _ HB.out).mono ?_; rintro e w1 ⟨rfl, hB⟩; have HB := Lib.hid (HB.out.trans (hB.mono HB.out.size)); have T0 := Lib.hid True.intro; clear hB)
        | (go_at_call 15; (have z := T0; clear z); (fail_if_success have z := T2); refine (HP1.out _ HB.out).mono ?_; rintro e w3 ⟨rfl, hB⟩; have HB := Lib.hid (HB.out.trans (hB.mono HB.out.size)); have T2 := Lib.hid True.intro; clear hB)
        | (go_at_call 25; (have z := T2; clear z); (fail_if_success have z := T3); refine (HE1.out _ HB.out).mono ?_; rintro e w4 ⟨rfl, hB⟩; have HB := Lib.hid (HB.out.trans (hB.mono HB.out.size)); have T3 := Lib.hid True.intro; clear hB)
        | (go_at_call 26; (have z := T3; clear z); (fail_if_success have z := T4); refine (HR1.out _ HB.out).mono ?_; rintro e w5 ⟨A5, c5, rfl, hF, hB⟩; have HX5 := Lib.hid hF; have HB := Lib.hid (HB.out.trans (hB.mono HB.out.size)); have T4 := Lib.hid True.intro; clear hF hB)
        | (go_at_call 27; (have z := T4; clear z); (fail_if_success have z := T5); refine (HQ1.out _ HB.out).mono ?_; rintro e w6 ⟨A6, c6, rfl, hF, hB⟩; have HX5 := Lib.hid (HX5.out.past hB); have HX6 := Lib.hid hF; have HB := Lib.hid (HB.out.trans (hB.mono HB.out.size)); have T5 := Lib.hid True.intro; clear hF hB)
        | (go_at_call 25; (have z := T5; clear z); (fail_if_success have z := T6); refine (HE2.out _ HB.out).mono ?_; rintro e w7 ⟨rfl, hB⟩; have HX5 := Lib.hid (HX5.out.past hB); have HX6 := Lib.hid (HX6.out.past hB); have HB := Lib.hid (HB.out.trans (hB.mono HB.out.size)); have T6 := Lib.hid True.intro; clear hB)
        | (go_at_call 28; (have z := T6; clear z); (fail_if_success have z := T7); refine (HG1.out A6 c6 A5 c5 _ HX6.out.prg HX5.out.prg HB.out).mono ?_; rintro e w8 ⟨rfl, m8, rfl⟩; have HB := Lib.hid (below_drewN HB.out m8); have T7 := Lib.hid True.intro))
      go_ret
      exact ⟨by first | rfl | (simp; done), HB.out⟩
  · have HQ1 : Hid (∀ w', Below w.heap.size w w' → Calls Tryz.prog 27 #[.string s] w' fun e w'' => ∃ A c, e = .returned (.tuple #[.slice A n6 c, .int .i64 (k6 : Nat), .iface 43 (.int .i64 f6)]) ∧ PrgF w'.heap.size w'' A x6 ∧ Below w'.heap.size w' w'') := Lib.hid (fun w' hB => parse_bad_i hs6 hf6 hn6 w' HS.out (HM.out.past hB))
    have HE2 : Hid (∀ w', Below w.heap.size w w' → Calls Tryz.prog 25 #[.iface 43 (.int .i64 f6), .int .i64 f6] w' (Ret w' (.bool true))) := Lib.hid (fun w' hB => error_same f6 hf6 w' (HG.out.past hgs hB) (Nat.le_trans hgs hB.size))
    clear hs6 hf6 hn6
    by_cases h0 : (progF p).2 = 0
    · obtain ⟨i1, hi1⟩ : ∃ i, (progF p).1 = i := ⟨_, rfl⟩
      have hf1 := h0
      have HF1 : Hid (∀ w', Below w.heap.size w w' → Calls Tryz.prog 23 #[.slice P p.length cp] w' fun e w'' => e = .returned (.tuple #[.int .i64 (i1 : Nat), .int .i64 0]) ∧ Below w'.heap.size w' w'') := Lib.hid (fun w' hB => by have := progfault_any p P cp w' (HPR.out.past hB); unfold FaultTo at this; rwa [hi1, hf1] at this)
      have HO1 : Hid (∀ w', Below w.heap.size w w' → Calls Tryz.prog 24 #[.slice P p.length cp] w' (Ret w' (.string (printF p)))) := Lib.hid (fun w' hB => printof_any p p.length rfl P cp w' (HPR.out.past hB) (progF_facts h0).2.1 (progF_facts h0).1)
      have HP1 : Hid (∀ w', Below w.heap.size w w' → Calls Tryz.prog 15 #[.slice P p.length cp] w' fun e w'' => e = .returned (.tuple #[.string (printF p), .nilIface]) ∧ Below w'.heap.size w' w'') := Lib.hid (fun w' hB => print_ok rfl P cp w' (HPR.out.past hB) (HM.out.past hB) (HW.out.past hB) h0)
      have HE1 : Hid (∀ w', Below w.heap.size w w' → Calls Tryz.prog 25 #[.nilIface, .int .i64 0] w' (Ret w' (.bool true))) := Lib.hid (fun w' hB => error_nil w' (HG.out.past hgs hB) (Nat.le_trans hgs hB.size))
      generalize printF p = U1 at *
      clear h0 hf1 hi1
      go_enter Tryz.func6, Tryz.ntmps6
      go_wp2_with (first
        | (go_at_call 23; (fail_if_success have z := T0); refine (HF1.out _ HB.out).mono ?_; rintro e w1 ⟨rfl, hB⟩; have HB := Lib.hid (HB.out.trans (hB.mono HB.out.size)); have T0 := Lib.hid True.intro; clear hB)
        | (go_at_call 24; (have z := T0; clear z); (fail_if_success have z := T1); refine (HO1.out _ HB.out).mono ?_; rintro e w2 ⟨rfl, hB⟩; have HB := Lib.hid (HB.out.trans (hB.mono HB.out.size)); have T1 := Lib.hid True.intro; clear hB)
        | (go_at_call 15; (have z := T1; clear z); (fail_if_success have z := T2); refine (HP1.out _ HB.out).mono ?_; rintro e w3 ⟨rfl, hB⟩; have HB := Lib.hid (HB.out.trans (hB.mono HB.out.size)); have T2 := Lib.hid True.intro; clear hB)
        | (go_at_call 25; (have z := T2; clear z); (fail_if_success have z := T3); refine (HE1.out _ HB.out).mono ?_; rintro e w4 ⟨rfl, hB⟩; have HB := Lib.hid (HB.out.trans (hB.mono HB.out.size)); have T3 := Lib.hid True.intro; clear hB)
        | (go_at_call 26; (have z := T3; clear z); (fail_if_success have z := T4); refine (HR1.out _ HB.out).mono ?_; rintro e w5 ⟨A5, c5, rfl, hF, hB⟩; have HX5 := Lib.hid hF; have HB := Lib.hid (HB.out.trans (hB.mono HB.out.size)); have T4 := Lib.hid True.intro; clear hF hB)
        | (go_at_call 27; (have z := T4; clear z); (fail_if_success have z := T5); refine (HQ1.out _ HB.out).mono ?_; rintro e w6 ⟨A6, c6, rfl, hF, hB⟩; have HX5 := Lib.hid (HX5.out.past hB); have HX6 := Lib.hid hF; have HB := Lib.hid (HB.out.trans (hB.mono HB.out.size)); have T5 := Lib.hid True.intro; clear hF hB)
        | (go_at_call 25; (have z := T5; clear z); (fail_if_success have z := T6); refine (HE2.out _ HB.out).mono ?_; rintro e w7 ⟨rfl, hB⟩; have HX5 := Lib.hid (HX5.out.past hB); have HX6 := Lib.hid (HX6.out.past hB); have HB := Lib.hid (HB.out.trans (hB.mono HB.out.size)); have T6 := Lib.hid True.intro; clear hB)
        | (go_at_call 28; (have z := T6; clear z); (fail_if_success have z := T7); refine (HG1.out A6 c6 A5 c5 _ HX6.out.prg HX5.out.prg HB.out).mono ?_; rintro e w8 ⟨rfl, m8, rfl⟩; have HB := Lib.hid (below_drewN HB.out m8); have T7 := Lib.hid True.intro))
      go_ret
      exact ⟨by first | rfl | (simp; done), HB.out⟩
    · obtain ⟨i1, hi1⟩ : ∃ i, (progF p).1 = i := ⟨_, rfl⟩
      obtain ⟨f1, hf1⟩ : ∃ f, (progF p).2 = f := ⟨_, rfl⟩
      have hz1 : f1 ≠ 0 := by rw [← hf1]; exact h0
      have d1 : (f1 == 0) = false := beq_eq_false_iff_ne.2 hz1
      have d2 : decide (f1 = 0) = false := decide_eq_false hz1
      have HF1 : Hid (∀ w', Below w.heap.size w w' → Calls Tryz.prog 23 #[.slice P p.length cp] w' fun e w'' => e = .returned (.tuple #[.int .i64 (i1 : Nat), .int .i64 f1]) ∧ Below w'.heap.size w' w'') := Lib.hid (fun w' hB => by have := progfault_any p P cp w' (HPR.out.past hB); unfold FaultTo at this; rwa [hi1, hf1] at this)
      have HP1 : Hid (∀ w', Below w.heap.size w w' → Calls Tryz.prog 15 #[.slice P p.length cp] w' fun e w'' => e = .returned (.tuple #[.string .empty, .iface 43 (.int .i64 f1)]) ∧ Below w'.heap.size w' w'') := Lib.hid (fun w' hB => by have := print_bad rfl P cp w' (HPR.out.past hB) (HM.out.past hB) h0; rwa [hf1] at this)
      have HE1 : Hid (∀ w', Below w.heap.size w w' → Calls Tryz.prog 25 #[.iface 43 (.int .i64 f1), .int .i64 f1] w' (Ret w' (.bool true))) := Lib.hid (fun w' hB => error_same f1 hz1 w' (HG.out.past hgs hB) (Nat.le_trans hgs hB.size))
      clear h0 hf1 hi1 hz1
      go_enter Tryz.func6, Tryz.ntmps6
      go_wp2_with (first
        | (go_at_call 23; (fail_if_success have z := T0); refine (HF1.out _ HB.out).mono ?_; rintro e w1 ⟨rfl, hB⟩; have HB := Lib.hid (HB.out.trans (hB.mono HB.out.size)); have T0 := Lib.hid True.intro; clear hB)
        | (go_at_call 15; (have z := T0; clear z); (fail_if_success have z := T2); refine (HP1.out _ HB.out).mono ?_; rintro e w3 ⟨rfl, hB⟩; have HB := Lib.hid (HB.out.trans (hB.mono HB.out.size)); have T2 := Lib.hid True.intro; clear hB)
        | (go_at_call 25; (have z := T2; clear z); (fail_if_success have z := T3); refine (HE1.out _ HB.out).mono ?_; rintro e w4 ⟨rfl, hB⟩; have HB := Lib.hid (HB.out.trans (hB.mono HB.out.size)); have T3 := Lib.hid True.intro; clear hB)
        | (go_at_call 26; (have z := T3; clear z); (fail_if_success have z := T4); refine (HR1.out _ HB.out).mono ?_; rintro e w5 ⟨A5, c5, rfl, hF, hB⟩; have HX5 := Lib.hid hF; have HB := Lib.hid (HB.out.trans (hB.mono HB.out.size)); have T4 := Lib.hid True.intro; clear hF hB)
        | (go_at_call 27; (have z := T4; clear z); (fail_if_success have z := T5); refine (HQ1.out _ HB.out).mono ?_; rintro e w6 ⟨A6, c6, rfl, hF, hB⟩; have HX5 := Lib.hid (HX5.out.past hB); have HX6 := Lib.hid hF; have HB := Lib.hid (HB.out.trans (hB.mono HB.out.size)); have T5 := Lib.hid True.intro; clear hF hB)
        | (go_at_call 25; (have z := T5; clear z); (fail_if_success have z := T6); refine (HE2.out _ HB.out).mono ?_; rintro e w7 ⟨rfl, hB⟩; have HX5 := Lib.hid (HX5.out.past hB); have HX6 := Lib.hid (HX6.out.past hB); have HB := Lib.hid (HB.out.trans (hB.mono HB.out.size)); have T6 := Lib.hid True.intro; clear hB)
        | (go_at_call 28; (have z := T6; clear z); (fail_if_success have z := T7); refine (HG1.out A6 c6 A5 c5 _ HX6.out.prg HX5.out.prg HB.out).mono ?_; rintro e w8 ⟨rfl, m8, rfl⟩; have HB := Lib.hid (below_drewN HB.out m8); have T7 := Lib.hid True.intro))
      go_ret
      exact ⟨by first | rfl | (simp; done), HB.out⟩
end Go.Proofs.YtddfdmopaeghnacGreatDoor
