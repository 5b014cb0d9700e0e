/- What every law's row wants: arguments read as before behind a call that leaves old memory as it was; slices of nodes, of texts, of numbers opened. No condition. A slice of statement nodes as an argument, opened, with what a bound on the bulk gives; the library's variable MaxLen. No condition. What the listed variable errors.errorType gives a walk: its one cell; and a world that has it. No condition. A world that holds the listed tables math/bits.deBruijn32tab, deBruijn64tab, internal/strconv.uint64pow10, unicode/utf8.first, acceptRanges and the listed variable errors.errorType; what they give a walk. No condition. A world that holds the listed tables math/bits.deBruijn32tab, deBruijn64tab, internal/strconv.uint64pow10, unicode/utf8.first, acceptRanges and the listed variables errors.errorType, strconv.ErrRange, ErrSyntax. No condition. What the listed variables strconv.ErrRange, ErrSyntax give a walk: each holds an error. No condition. -/
import Derived.Test.YtddfdmopaeghnadGreatDoorRows
import Derived.Test.YtddfdmopaeghnadGreatDoorRqMm
import Derived.ProofKit
import Derived.Deep.Slices
import Derived.SizedLaws
import Derived.Test.YtddfdmopaeghnadGreatDoorRqTr
import Derived.Deep.DeepHandedRow
import Derived.Lib.LaidTab
import Derived.Shelf.Vars
import Derived.Test.YtddfdmopaeghnadGreatDoorRqEr
import Derived.ChangeSame
import Derived.ChangeVars
import Derived.JoinedOf
import Derived.RowKit
import Derived.RowKitTokens
import Derived.LaidLaws
import Derived.LaidHandle
import Derived.Stop.Joined
import Derived.Test.YtddfdmopaeghnadGreatDoorRqSy
import Derived.Lib.TrailingZeros
import Derived.Lib.ItoaNum
import Derived.Test.YtddfdmopaeghnadGreatDoorRuB
import Derived.Stop.LaidErr
import Derived.Stop.ErrReads
namespace Go.Proofs.YtddfdmopaeghnadGreatDoor
open Go.ChangeShapes Go.WideShapes Go.ChangeAt Go.RowKit Go.Deep

theorem own : ownKnob Tryz.prog.godebug = none := by kernel_rfl
theorem laidOut : laidOutB Tryz.prog = true := by kernel_rfl

section
variable {H : Type} {enc : TypeId × Value → H} {P : Program}

theorem trodAll_stay (hl : laidOutB P = true) {W W' : World} (hb : Below W.heap.size W W') {sp : Nat → Bool} :
    ∀ {ts : List TypeId} {vs : List Value} {ds : List (DataW H)} {p : List MemPlace}, (∀ t ∈ ts, P.readableRec t = true ∧ t < P.types.size) →
      DataW.TrodAll enc P W 0 (fun _ => true) true ts vs ds p → (∀ x ∈ p, x.block < W.heap.size) → (∀ x ∈ p, sp x.block = true) → DataW.TrodAll enc P W' 0 sp true ts vs ds p
  | [], _, _, _, _, h, _, _ => by
    obtain ⟨rfl, rfl, rfl⟩ := trodAll_nil h
    exact h
  | t :: ts, _, _, _, hr, h, hlt, hsp => by
    obtain ⟨v, vs1, d, ds1, a, b, rfl, rfl, rfl, h1, h2⟩ := trodAll_cons h
    obtain ⟨r1, r2⟩ := hr t (by simp)
    exact ⟨a, b, WideElems.Trod_stays hl r1 r2 h1 (fun x hx => hb.same (hlt x (List.mem_append_left _ hx))) (fun x hx => hsp x (List.mem_append_left _ hx)),
      trodAll_stay hl hb (fun t ht => hr t (by simp [ht])) h2 (fun x hx => hlt x (List.mem_append_right _ hx)) (fun x hx => hsp x (List.mem_append_right _ hx)), rfl⟩

/-- A law's end: true, old memory as it was. -/
theorem law_post {f : Func} {s : ChangeSpec} {W W' : World} {args : Array Value} {ds gs : List (DataW H)} {before : List MemPlace} {t : TypeId}
    (hW : DataW.Whole enc P f.params.toList s.vars false W args.toList ds gs before) (hv : s.vars = [])
    (hfn : s.fn H (ds ++ []) = { results := [.lit (.bool true)], args := ds }) (hres : f.resultTypes = #[t]) (ht : P.underlying t = some .bool)
    (hl : laidOutB P = true) (hr : (f.params.toList.all fun t => P.readableRec t && decide (t < P.types.size)) = true) (hb : Below W.heap.size W W') :
    s.post enc P f false true false false W args (.bool true) W' := by
  have hW0 := hW
  have hlt : ∀ x ∈ before, x.block < W.heap.size := fun x hx => hW.lt x hx
  obtain ⟨p, q, hA, hV, rfl, hfz, hnd⟩ := hW
  rw [hv] at hV
  obtain ⟨rfl, rfl⟩ := trodVars_none hV
  have hr' : ∀ t ∈ f.params.toList, P.readableRec t = true ∧ t < P.types.size := fun t ht => by
    have := List.all_eq_true.1 hr t ht
    simpa using this
  refine ⟨ds, [], p ++ [], [], p, [], hW0, ?_, ?_, ?_, hb.frame _, fun h => by cases h⟩
  · rw [hfn, hres]
    exact trodAll_mk1 (shut_bool ht true)
  · rw [hfn]
    refine trodAll_stay hl hb hr' hA (fun x hx => hlt x (by simpa using hx)) (fun x hx => by simpa using hlt x (by simpa using hx))
  · rw [hfn, hv]
    exact rfl

/-- A slice of whatever elements, opened to their cells. -/
theorem open_sl {W : World} {t e : TypeId} {sz base : Nat} {v : Value} {d : DataW H} {p : List MemPlace} (ht : P.underlying t = some (.slice e)) (hC : P.cellsOf e = sz) (hz : 0 < sz)
    (hv : Value.okWide P W .any base t v) (h : DataW.Trod enc P W 0 (fun _ => true) true t v d p) (hlt : ∀ x ∈ p, x.block < W.heap.size) :
    ∃ (A : Option Addr) (n c : Nat) (css : List (List Value)), v = .slice A n c ∧ css.length = n ∧ Sl W W.heap.size sz A n css.flatten ∧ n ≤ c ∧ n ≤ maxLen ∧
      (d = .nil ∨ ∃ elems spare : List (DataW H), d = .slice elems spare ∧ elems.length = n) ∧
      ∀ cs ∈ css, cs.length = sz ∧ ∃ (k : Nat) (y : DataW H × List MemPlace), DataW.trod enc P W 0 (fun _ => true) true k e cs = some y ∧ (∀ x ∈ y.2, x ∈ p) ∧ ∃ elems spare : List (DataW H), d = .slice elems spare ∧ y.1 ∈ elems := by
  obtain ⟨A, n, c, rfl⟩ := okWide_slice ht hv
  obtain ⟨fuel, hf⟩ := h
  rcases open_slice ht hf with ⟨hcs, hx⟩ | ⟨a, len, cap, m, k, D, Pl, hcs, _, hl, hm, hmm, hx, hi⟩
  · simp [Value.cells] at hcs
    obtain ⟨rfl, rfl, rfl⟩ := hcs
    exact ⟨none, 0, 0, [], rfl, rfl, .nil_, Nat.le_refl _, by simp [maxLen], .inl (by cases hx; rfl), by simp⟩
  · simp [Value.cells] at hcs
    obtain ⟨rfl, rfl, rfl⟩ := hcs
    simp only [if_true] at hmm
    subst hmm
    rw [hC] at hi hx
    obtain ⟨F, hF⟩ := choose_lt (α := List Value) (p := fun i cs => W.cells? 0 (a.add (i * sz)) sz = some cs ∧ DataW.trod enc P W 0 (fun _ => true) true k e cs = some (D i, Pl i)) (fun i hi' => hi i hi')
    have hlenF : ∀ i, i < m → (F i).length = sz := fun i hi' => (World.cells?_some (hF i hi').1).2.1
    have hflat : ∀ (q : Nat), q ≤ m → ((List.range q).map F).flatten.length = q * sz ∧ ∀ i j, i < q → j < sz → ((List.range q).map F).flatten[i * sz + j]? = (F i)[j]? := by
      intro q
      induction q with
      | zero => intro _; exact ⟨by simp, fun i j hi' => absurd hi' (by omega)⟩
      | succ q ih =>
        intro hq
        obtain ⟨h1, h2⟩ := ih (by omega)
        have e1 : ((List.range (q + 1)).map F).flatten = ((List.range q).map F).flatten ++ F q := by simp [List.range_succ]
        rw [e1]
        refine ⟨by rw [List.length_append, h1, hlenF q (by omega), Nat.add_mul, Nat.one_mul], fun i j hi' hj => ?_⟩
        rcases Nat.lt_or_ge i q with hlt' | hge
        · have : i * sz + j < q * sz := by
            have : (i + 1) * sz ≤ q * sz := Nat.mul_le_mul_right _ hlt'
            rw [Nat.add_mul] at this; omega
          rw [List.getElem?_append_left (by omega)]
          exact h2 i j hlt' hj
        · obtain rfl : i = q := by omega
          rw [List.getElem?_append_right (by omega), h1]
          congr 1; omega
    have hp : p = MemPlace.row a (m * sz) ++ (List.range m).flatMap Pl := by cases hx; rfl
    refine ⟨some a, n, m, (List.range n).map F, rfl, by simp, ⟨(hflat n hl).1, fun hn => ?_⟩, hl, Nat.le_trans hl hm, .inr ⟨_, _, (by cases hx; rfl), by simp⟩, ?_⟩
    · have hmpos : 0 < m * sz := Nat.mul_pos (by omega) hz
      have hblk : a.block < W.heap.size := hlt (.cell a.block (a.off + 0)) (by rw [hp]; exact List.mem_append_left _ (MemPlace.mem_row.2 ⟨0, hmpos, rfl⟩))
      have hc0 : ∀ i j, i < m → j < sz → W.cell? ((a.add (i * sz)).add j) = (F i)[j]? := fun i j h1 h2 => (World.cells?_some (hF i h1).1).2.2 j h2
      have hspot : a.spot = none := by
        have h0 := hc0 0 0 (by omega) hz
        rw [Nat.zero_mul, List.getElem?_eq_getElem (by rw [hlenF 0 (by omega)]; exact hz)] at h0
        simp only [Addr.add, if_true, World.cell?] at h0
        split at h0
        · split at h0
          · cases h0
          · rename_i hs
            cases hsp : a.spot with
            | none => rfl
            | some _ => simp [hsp] at hs
        · cases h0
      have ha : a = ⟨a.block, a.off, none⟩ := by
        cases a
        simp only at hspot
        subst hspot
        rfl
      refine ⟨a.block, a.off, congrArg some ha, hblk, fun j u hu => ?_⟩
      have hjl : j < n * sz := by
        rw [← (hflat n hl).1]
        exact (List.getElem?_eq_some_iff.1 hu).1
      have hdiv : j / sz < n := (Nat.div_lt_iff_lt_mul hz).2 hjl
      have hmod := Nat.mod_lt j hz
      have hj : j = j / sz * sz + j % sz := by rw [Nat.mul_comm]; exact (Nat.div_add_mod j sz).symm
      have h1 := (hflat n hl).2 (j / sz) (j % sz) hdiv hmod
      rw [← hj, hu] at h1
      have h2 := hc0 (j / sz) (j % sz) (by omega) hmod
      rw [Go.Deep.add_add, ← hj, ← h1] at h2
      rw [← h2]
      unfold Addr.add
      split
      · rename_i h0; rw [h0, Nat.add_zero, ← ha]
      · rfl
    · intro cs hcs
      obtain ⟨i, hi', rfl⟩ := List.mem_map.1 hcs
      have hi2 : i < m := by have := List.mem_range.1 hi'; omega
      refine ⟨hlenF i hi2, k, _, (hF i hi2).2, fun x hx' => ?_, ?_⟩
      · rw [hp]
        exact List.mem_append_right _ (List.mem_flatMap.2 ⟨i, List.mem_range.2 hi2, hx'⟩)
      · refine ⟨_, _, congrArg Prod.fst hx, ?_⟩
        exact List.mem_map_of_mem (List.mem_range.2 (List.mem_range.1 hi'))

theorem flatten_one {α : Type} (f : α → Value) (l : List α) : (l.map fun x => [f x]).flatten = l.map f := by
  induction l with
  | nil => rfl
  | cons a r ih => rw [List.map_cons, List.flatten_cons, ih]; rfl

theorem flatten_map {α : Type} {css : List (List Value)} {f : α → List Value} {l : List α} (h : css = l.map f) : css.flatten = l.flatMap f := by
  rw [h, List.flatMap_def]

/-- From each to all. -/
theorem list_of {α : Type} {p : List Value → Prop} {q : α → Prop} {f : α → List Value} {css : List (List Value)} (h : ∀ cs ∈ css, p cs) (hp : ∀ cs, p cs → ∃ a, cs = f a ∧ q a) : ∃ l : List α, css = l.map f ∧ ∀ a ∈ l, q a := by
  induction css with
  | nil => exact ⟨[], rfl, by simp⟩
  | cons cs r ih =>
    obtain ⟨a, ha, hq⟩ := hp cs (h cs (by simp))
    obtain ⟨l, hl, hql⟩ := ih (fun c hc => h c (by simp [hc]))
    refine ⟨a :: l, by rw [hl, ha]; rfl, fun x hx => ?_⟩
    rcases List.mem_cons.1 hx with rfl | hx
    · exact hq
    · exact hql x hx

/-- A slice of numbers. -/
theorem open_nums {W : World} {t e : TypeId} {base : Nat} {v : Value} {d : DataW H} {p : List MemPlace} {kd : IntKind} (ht : P.underlying t = some (.slice e)) (he : P.underlying e = some (.int kd)) (hC : P.cellsOf e = 1)
    (hv : Value.okWide P W .any base t v) (h : DataW.Trod enc P W 0 (fun _ => true) true t v d p) (hlt : ∀ x ∈ p, x.block < W.heap.size) :
    ∃ (A : Option Addr) (c : Nat) (l : List Int), v = .slice A l.length c ∧ Sl W W.heap.size 1 A l.length (l.map (.int kd)) ∧ l.length ≤ c ∧ l.length ≤ maxLen ∧ (d = .nil ∨ ∃ elems spare : List (DataW H), d = .slice elems spare ∧ elems.length = l.length) ∧ ∀ x ∈ l, (Lit.int kd x).wf = true := by
  obtain ⟨A, n, c, css, rfl, rfl, hs, hc, hm, hd, hcs⟩ := open_sl ht hC (by omega) hv h hlt
  obtain ⟨l, hl, hw⟩ := list_of (f := fun x : Int => [Value.int kd x]) (q := fun x => (Lit.int kd x).wf = true) hcs (fun cs ⟨h1, k, y, hy, _⟩ => by
    obtain ⟨x, h2, _, h3⟩ := DataW.trod_int he hy
    exact ⟨x, h2, h3⟩)
  have hfl : css.flatten = l.map (.int kd) := by rw [hl, flatten_one]
  rw [hfl] at hs
  have hlen : css.length = l.length := by rw [hl, List.length_map]
  rw [hlen] at hs hc hm hd ⊢
  exact ⟨A, c, l, rfl, hs, hc, hm, hd, hw⟩

/-- A slice of texts. -/
theorem open_texts {W : World} {t e : TypeId} {base : Nat} {v : Value} {d : DataW H} {p : List MemPlace} (ht : P.underlying t = some (.slice e)) (he : P.underlying e = some .string) (hC : P.cellsOf e = 1)
    (hv : Value.okWide P W .any base t v) (h : DataW.Trod enc P W 0 (fun _ => true) true t v d p) (hlt : ∀ x ∈ p, x.block < W.heap.size) :
    ∃ (A : Option Addr) (c : Nat) (l : List ByteArray), v = .slice A l.length c ∧ Sl W W.heap.size 1 A l.length (l.map .string) ∧ l.length ≤ c ∧ l.length ≤ maxLen ∧ (d = .nil ∨ ∃ elems spare : List (DataW H), d = .slice elems spare ∧ elems.length = l.length) ∧ ∀ x ∈ l, x.size ≤ maxLen := by
  obtain ⟨A, n, c, css, rfl, rfl, hs, hc, hm, hd, hcs⟩ := open_sl ht hC (by omega) hv h hlt
  obtain ⟨l, hl, hw⟩ := list_of (f := fun x : ByteArray => [Value.string x]) (q := fun x => x.size ≤ maxLen) hcs (fun cs ⟨h1, k, y, hy, _⟩ => by
    obtain ⟨x, h2, _, h3⟩ := DataW.trod_string he hy
    exact ⟨x, h2, h3⟩)
  have hfl : css.flatten = l.map .string := by rw [hl, flatten_one]
  rw [hfl] at hs
  have hlen : css.length = l.length := by rw [hl, List.length_map]
  rw [hlen] at hs hc hm hd ⊢
  exact ⟨A, c, l, rfl, hs, hc, hm, hd, hw⟩
end
end Go.Proofs.YtddfdmopaeghnadGreatDoor

namespace Go.Proofs.YtddfdmopaeghnadGreatDoor
open Go.ChangeShapes Go.WideShapes Go.ChangeAt Go.RowKit Go.Deep

theorem cellsTree : Tryz.prog.cellsOf 61 = 3 := by kernel_rfl

theorem bulk_part {H : Type} {d : DataW H} {l : List (DataW H)} (h : d ∈ l) : Rows.uptoBulk d ≤ Rows.uptoBulkAll l := by
  induction l with
  | nil => cases h
  | cons x r ih =>
    simp only [Rows.uptoBulkAll]
    cases List.mem_cons.1 h with
    | inl e => subst e; omega
    | inr e => have := ih e; omega
theorem bulk_string {H : Type} (bytes : List UInt8) : Rows.uptoBulk (DataW.lit (H := H) (.string bytes)) = bytes.length + 1 := by simp [Rows.uptoBulk]
theorem bulk_elem {H : Type} {d : DataW H} {elems spare : List (DataW H)} (h : d ∈ elems) : Rows.uptoBulk d ≤ Rows.uptoBulk (DataW.slice elems spare) := by
  have := bulk_part h
  simp only [Rows.uptoBulk]; omega
theorem bulk_field {H : Type} {d : DataW H} {parts : List (DataW H)} (h : d ∈ parts) : Rows.uptoBulk d ≤ Rows.uptoBulk (DataW.agg parts) := by
  have := bulk_part h
  simp only [Rows.uptoBulk]; omega

set_option maxRecDepth 100000 in
theorem open_trees {H : Type} {enc : TypeId × Value → H} {W : World} {base : Nat} {v : Value} {d : DataW H} {p : List MemPlace}
    (hv : Value.okWide Tryz.prog W .any base 59 v) (h : DataW.Trod enc Tryz.prog W 0 (fun _ => true) true 59 v d p) (hlt : ∀ x ∈ p, x.block < W.heap.size) :
    ∃ (A : Option Addr) (c : Nat) (l : List Nd), v = .slice A l.length c ∧ Nds W W.heap.size A l ∧ l.length ≤ c ∧ ∀ x ∈ l, x.text.size + 1 ≤ Rows.uptoBulk d := by
  obtain ⟨A, n, c, css, rfl, rfl, hs, hc, hm, hd, hcs⟩ := open_sl Tryz.underlying59 cellsTree (by omega) hv h hlt
  obtain ⟨l, hl, hw⟩ := list_of (f := ndCells) (q := fun x => x.text.size ≤ maxLen ∧ x.text.size + 1 ≤ Rows.uptoBulk d) hcs (fun cs ⟨h1, k, y, hy, _, hin⟩ => by
    obtain ⟨xs, n, _, hyx, _, hlen, hf⟩ := DataW.trod_struct Tryz.underlying61 hy
    match cs, h1 with
    | [c0, c1, c2], _ =>
      match xs, hlen with
      | [y0, y1, y2], _ =>
        have e0 := hf 0 _ rfl
        have e1 := hf 1 _ rfl
        have e2 := hf 2 _ rfl
        have k0 : Tryz.prog.cellsOf 3 = 1 := by kernel_rfl
        have k1 : Tryz.prog.cellsOf 9 = 1 := by kernel_rfl
        simp [k0, k1] at e0 e1 e2
        obtain ⟨a, ha, _, wa⟩ := DataW.trod_int Tryz.underlying3 e0
        obtain ⟨t, htx, hy1, wt⟩ := DataW.trod_string Tryz.underlying9 e1
        obtain ⟨b, hb, _, wb⟩ := DataW.trod_int Tryz.underlying3 e2
        simp at ha htx hb
        subst ha htx hb
        refine ⟨⟨a, t, b⟩, rfl, wt, ?_⟩
        obtain ⟨elems, spare, he, hmem⟩ := hin
        rw [hyx] at hmem
        have h2 : Rows.uptoBulk (DataW.lit (H := H) (.string t.data.toList)) ≤ Rows.uptoBulk (DataW.agg ([y0, y1, y2].map (·.1))) := bulk_field (by rw [hy1]; simp)
        have h3 := bulk_elem (spare := spare) hmem
        rw [bulk_string] at h2
        rw [he]
        have h4 : t.data.toList.length = t.size := by simp
        show t.size + 1 ≤ _
        simp only at h3
        omega)
  rw [flatten_map hl] at hs
  have hlen : css.length = l.length := by rw [hl, List.length_map]
  rw [hlen] at hs hc hm ⊢
  exact ⟨A, c, l, rfl, ⟨hs, hm, fun x hx => (hw x hx).1⟩, hc, fun x hx => (hw x hx).2⟩

theorem maxL_of {W : World} (h : W.ShapedOpen Tryz.prog) : MaxL W := by
  obtain ⟨m, hm⟩ := cell_of_shapedOpen_int (P := Tryz.prog) (g := 1) (t := 3) (zero := #[.int .i64 0]) (k := .i64) h (of_decide_eq_true (by kernel_rfl)) (by kernel_rfl) rfl (by kernel_rfl) (by kernel_rfl) Tryz.underlying3
  refine ⟨?_, m, hm⟩
  rcases Nat.lt_or_ge 1 W.heap.size with h1 | h1
  · exact h1
  · unfold World.cell? at hm
    simp [Array.getElem?_eq_none h1] at hm

end Go.Proofs.YtddfdmopaeghnadGreatDoor

namespace Go.Proofs.YtddfdmopaeghnadGreatDoor
open Go.ChangeShapes Go.WideShapes Go.RowKit

theorem etName : Tryz.prog.globalNamed "errors.errorType" = some 0 := by kernel_rfl
theorem rtType : (Tryz.prog.cutTypes.find? (·.1 == "internal/reflectlite.rtype")).map (·.2) = some 249 := by kernel_rfl
theorem oneError : ((List.range 359).filter fun t => Tryz.prog.rowNamed t [101, 114, 114, 111, 114]) = [27] := by kernel_rfl
theorem manyTypes : Tryz.prog.types.size = 359 := by kernel_rfl

theorem errT_of_laid {W : World} (h : laidMetH Tryz.prog [("errors.errorType", Rows.laid_errors_errorType)] W) : ErrT W := by
  have h' : laidMet Tryz.prog [] W ∧ handlesMet Tryz.prog [("errors.errorType", Rows.laid_errors_errorType)] W := h
  obtain ⟨name, u, ty, e1, e2, e3, e4, e5⟩ := h'.2 _ (List.mem_singleton.2 rfl)
  have en : name = [101, 114, 114, 111, 114] := (Option.some.inj e1).symm
  subst en
  obtain rfl := Option.some.inj (rtType.symm.trans e2)
  have hm : ty ∈ (List.range 359).filter fun t => Tryz.prog.rowNamed t [101, 114, 114, 111, 114] := List.mem_filter.2 ⟨List.mem_range.2 (by rw [← manyTypes]; exact e3), e4⟩
  rw [oneError] at hm
  obtain rfl := List.mem_singleton.1 hm
  have hh : typeHandle Tryz.prog 27 = .pointer (some ⟨9, 27, none⟩) := by kernel_rfl
  rw [hh] at e5
  have := World.var?_cell etName e5 0
  simpa [ErrT] using this

theorem ErrT.size {W : World} (h : ErrT W) : 0 + 1 ≤ W.heap.size := by
  rcases Nat.lt_or_ge 0 W.heap.size with h1 | h1
  · exact h1
  · unfold ErrT World.cell? at h
    simp [Array.getElem?_eq_none h1] at h

/-- A world that meets the condition. -/
noncomputable def laidWorld (os : Os) : World :=
  let w0 := World.holding Tryz.prog os ⟨#[], #[], []⟩
  { w0 with heap := w0.heap.modify 0 fun
      | .cells _ t frozen => .cells #[.iface 249 (.agg #[.pointer (some ⟨9, 27, none⟩)])] t frozen
      | o => o }
theorem laidWorld_met (os : Os) (args : Array Value) : laidMetH Tryz.prog [("errors.errorType", Rows.laid_errors_errorType)] ((laidWorld os).forCall (fun _ _ => 0) ⟨#[], args, []⟩).memory :=
  laidMetH_of_parts (laidMet_nil _ _) (by kernel_rfl)
end Go.Proofs.YtddfdmopaeghnadGreatDoor

namespace Go.Proofs.YtddfdmopaeghnadGreatDoor
open Go.ChangeShapes Go.WideShapes Go.RowKit

theorem errT_of_six {l : List (String × DataW Unit)} (hf : l.filter (fun x => x.2.handleName?.isSome) = [("errors.errorType", Rows.laid_errors_errorType)]) {W : World} (h : laidMetH Tryz.prog l W) : ErrT W := by
  refine errT_of_laid ?_
  unfold laidMetH at h ⊢
  rw [hf] at h
  have e2 : ([("errors.errorType", Rows.laid_errors_errorType)] : List (String × DataW Unit)).filter (fun x => x.2.handleName?.isSome) = [("errors.errorType", Rows.laid_errors_errorType)] := rfl
  rw [e2]
  exact ⟨laidMet_nil _ _, h.2⟩
/-- The table of the powers of ten stands third on the list. -/
theorem powT_of_six {a b : String × DataW Unit} {l rest : List (String × DataW Unit)} (hf : l.filter (fun x => x.2.handleName?.isSome) = [("errors.errorType", Rows.laid_errors_errorType)])
    (hn : l.filter (fun x => x.2.handleName?.isNone) = a :: b :: ("internal/strconv.uint64pow10", Lib.tabData .u64 Lib.pow10Tab) :: rest) {W : World} (h : laidMetH Tryz.prog l W) : PowT W := by
  unfold laidMetH at h
  rw [hf] at h
  have h1 := h.1
  rw [hn] at h1
  obtain ⟨ps, ⟨_, _, _, _, _, q1, _, _, _, _, ⟨_, _, _, _, _, q2, _, _, _, _, ⟨g', t', cs, fuel, p, q, hg', ht', hvar, hd, _, _⟩, _⟩, _⟩, _⟩ := h1
  have hg : Tryz.prog.globalNamed "internal/strconv.uint64pow10" = some 4 := by kernel_rfl
  obtain rfl := Option.some.inj (hg.symm.trans hg')
  have hty : (Tryz.prog.globals[4]?).map (·.type) = some 315 := by kernel_rfl
  obtain rfl := Option.some.inj (hty.symm.trans ht')
  unfold PowT Lib.TabIs
  rw [hvar, ← Lib.cells_of_tab Tryz.underlying315 Tryz.underlying298 (by kernel_rfl) (by kernel_rfl) hd]

/-- A world that holds them. -/
noncomputable def tabWorld6 (os : Os) : World :=
  let w0 := World.holding Tryz.prog os ⟨#[], #[], []⟩
  { w0 with heap := (((((w0.heap.modify 7 fun
      | .cells _ t frozen => .cells (Lib.deBruijn32tab.map fun n : Nat => Value.int .u8 n).toArray t frozen
      | o => o).modify 8 fun
      | .cells _ t frozen => .cells (Lib.deBruijn64tab.map fun n : Nat => Value.int .u8 n).toArray t frozen
      | o => o).modify 4 fun
      | .cells _ t frozen => .cells (Lib.pow10Tab.map fun n : Int => Value.int .u64 n).toArray t frozen
      | o => o).modify 5 fun
      | .cells _ t frozen => .cells (Go.Pinned.utf8FirstZ.map fun n : Nat => Value.int .u8 n).toArray t frozen
      | o => o).modify 6 fun
      | .cells _ t frozen => .cells (([128, 191, 160, 191, 128, 159, 144, 191, 128, 143] ++ List.replicate 22 0).map fun n : Nat => Value.int .u8 n).toArray t frozen
      | o => o).modify 0 fun
      | .cells _ t frozen => .cells #[.iface 249 (.agg #[.pointer (some ⟨9, 27, none⟩)])] t frozen
      | o => o }
end Go.Proofs.YtddfdmopaeghnadGreatDoor

namespace Go.Proofs.YtddfdmopaeghnadGreatDoor
open Go.RowKit

/-- A world that holds them. -/
noncomputable def tabWorld8 (os : Os) : World :=
  let w0 := World.holding Tryz.prog os ⟨#[], #[], []⟩
  let n := w0.heap.size
  { w0 with heap := (((((((((w0.heap.modify 7 fun
      | .cells _ t frozen => .cells (Lib.deBruijn32tab.map fun n : Nat => Value.int .u8 n).toArray t frozen
      | o => o).modify 8 fun
      | .cells _ t frozen => .cells (Lib.deBruijn64tab.map fun n : Nat => Value.int .u8 n).toArray t frozen
      | o => o).modify 4 fun
      | .cells _ t frozen => .cells (Lib.pow10Tab.map fun n : Int => Value.int .u64 n).toArray t frozen
      | o => o).modify 5 fun
      | .cells _ t frozen => .cells (Go.Pinned.utf8FirstZ.map fun n : Nat => Value.int .u8 n).toArray t frozen
      | o => o).modify 6 fun
      | .cells _ t frozen => .cells (([128, 191, 160, 191, 128, 159, 144, 191, 128, 143] ++ List.replicate 22 0).map fun n : Nat => Value.int .u8 n).toArray t frozen
      | o => o).modify 0 fun
      | .cells _ t frozen => .cells #[.iface 249 (.agg #[.pointer (some ⟨9, 27, none⟩)])] t frozen
      | o => o).modify 3 fun
      | .cells _ t frozen => .cells #[.iface 323 (.pointer (some ⟨n, 0, none⟩))] t frozen
      | o => o).modify 2 fun
      | .cells _ t frozen => .cells #[.iface 323 (.pointer (some ⟨n + 1, 0, none⟩))] t frozen
      | o => o).push (.cells #[.string ⟨#[118, 97, 108, 117, 101, 32, 111, 117, 116, 32, 111, 102, 32, 114, 97, 110, 103, 101]⟩] 325 (0, 0))).push (.cells #[.string ⟨#[105, 110, 118, 97, 108, 105, 100, 32, 115, 121, 110, 116, 97, 120]⟩] 325 (0, 0)) }
end Go.Proofs.YtddfdmopaeghnadGreatDoor

namespace Go.Proofs.YtddfdmopaeghnadGreatDoor
open Go.ChangeShapes Go.WideShapes Go.RowKit

theorem es_star : "*" ++ "errors.errorString" = "*errors.errorString" := by decide
theorem es_row (u : TypeId) (h : Tryz.prog.typeName? 3 u = some "*errors.errorString") : u = 323 :=
  typeName_ptr_named (nm := "errors.errorString") (by rw [es_star]; kernel_rfl) (by kernel_rfl) (by decide) u (by rw [es_star]; exact h)
theorem es_cells : Tryz.prog.cellsOf 325 = 1 := by kernel_rfl
theorem es_str : Tryz.prog.cellsOf 9 = 1 := by kernel_rfl
theorem es_range : Tryz.prog.globalNamed "strconv.ErrRange" = some 3 := by kernel_rfl
theorem es_syntax : Tryz.prog.globalNamed "strconv.ErrSyntax" = some 2 := by kernel_rfl
theorem es_rangeT : (Tryz.prog.globals[3]?).map (·.type) = some 27 := by kernel_rfl
theorem es_syntaxT : (Tryz.prog.globals[2]?).map (·.type) = some 27 := by kernel_rfl
theorem errS_of_laid {a b c d : String × DataW Unit} {l rest : List (String × DataW Unit)} (hf : l.filter (fun x => x.2.handleName?.isSome) = [("errors.errorType", Rows.laid_errors_errorType)])
    (hn : l.filter (fun x => x.2.handleName?.isNone) = a :: b :: c :: d :: ("strconv.ErrRange", Rows.laid_strconv_ErrRange) :: ("strconv.ErrSyntax", Rows.laid_strconv_ErrSyntax) :: rest) {W : World} (h : laidMetH Tryz.prog l W) : ErrS W := by
  unfold laidMetH at h
  rw [hf] at h
  have h1 := h.1
  rw [hn] at h1
  obtain ⟨a0, s0, hv0, _⟩ := laid_sentinel h1.tail.tail.tail.tail es_range es_rangeT Tryz.underlying27 es_row Tryz.underlying323 Tryz.underlying325 rfl rfl Tryz.underlying9 es_cells es_str
  obtain ⟨a1, s1, hv1, _⟩ := laid_sentinel h1.tail.tail.tail.tail.tail es_syntax es_syntaxT Tryz.underlying27 es_row Tryz.underlying323 Tryz.underlying325 rfl rfl Tryz.underlying9 es_cells es_str
  exact ⟨⟨_, _, by have h0 := World.var?_cell es_syntax hv1 0; simpa using h0⟩, ⟨_, _, by have h0 := World.var?_cell es_range hv0 0; simpa using h0⟩⟩
theorem cell_lt {w : World} {a : Addr} {v : Value} (h : w.cell? a = some v) : a.block + 1 ≤ w.heap.size := by
  rcases Nat.lt_or_ge a.block w.heap.size with h1 | h1
  · exact h1
  · unfold World.cell? at h
    simp [Array.getElem?_eq_none h1] at h
theorem runG_of {w : World} (hm : MaxL w) (hp : PowT w) (he : ErrT w) (hs : ErrS w) : RunG w := by
  obtain ⟨⟨t1, p1, h1⟩, t2, p2, h2⟩ := hs
  exact ⟨hm, hp, he, he.size, ⟨⟨t1, p1, h1⟩, t2, p2, h2⟩, cell_lt h1, cell_lt h2⟩
end Go.Proofs.YtddfdmopaeghnadGreatDoor
