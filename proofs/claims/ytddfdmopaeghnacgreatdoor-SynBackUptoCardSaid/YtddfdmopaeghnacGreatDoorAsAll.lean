/- A slice of statement nodes, and a slice of such slices, as an argument, opened, with what a bound on the bulk gives; the library's variable MaxLen. No condition. errors.As at an Errno held as an error, and plain.Told, pargetrysame.Error: turned from the kit's worked example on errors.As. Condition: the variable errors.errorType holds the type error's handle. plain.Told and pargetrysame.Error at nil and at an Errno. Condition: the variable errors.errorType holds the type error's handle. pargetrysame.Error at the number told. Condition: the variable errors.errorType holds the type error's handle. What the listed variable errors.errorType gives a walk: its one cell; and a world that has it. No condition. A world that holds the listed tables math/bits.deBruijn32tab, deBruijn64tab, internal/strconv.uint64pow10, unicode/utf8.first, acceptRanges and the listed variable errors.errorType; what they give a walk. No condition. A world that holds the listed tables math/bits.deBruijn32tab, deBruijn64tab, internal/strconv.uint64pow10, unicode/utf8.first, acceptRanges and the listed variables errors.errorType, strconv.ErrRange, ErrSyntax. No condition. -/
import Derived.Test.YtddfdmopaeghnacGreatDoorLaw
import Derived.Test.YtddfdmopaeghnacGreatDoorPrgV
import Derived.Deep.DeepHandedRow
import Derived.Lib.LaidTab
import Derived.Shelf.Vars
import Derived.Test.YtddfdmopaeghnacGreatDoorMem
import Derived.Test.YtddfdmopaeghnacGreatDoorDocW
import Derived.WalkKit
import Derived.LaidEql
import Derived.Stop.Asserts
import Derived.RowKitTokens
import Derived.WalkSpells
import Derived.WalkLawsBesides
import Derived.Test.YtddfdmopaeghnacGreatDoorRows
import Derived.ChangeSame
import Derived.ChangeVars
import Derived.JoinedOf
import Derived.RowKit
import Derived.LaidLaws
import Derived.LaidHandle
import Derived.Stop.Joined
import Derived.Test.YtddfdmopaeghnacGreatDoorSyAll
import Derived.Lib.TrailingZeros
import Derived.Lib.ItoaNum
namespace Go.Proofs.YtddfdmopaeghnacGreatDoor
open Go.ChangeShapes Go.WideShapes Go.ChangeAt Go.RowKit Go.Deep

section
variable {P : Program} {H : Type} {enc : TypeId × Value → H}
/-- A slice of whatever elements, opened to their cells. -/
theorem open_sc {W : World} {t e : TypeId} {sz fuel : Nat} {cs0 : List Value} {d : DataW H} {p : List MemPlace} (ht : P.underlying t = some (.slice e)) (hC : P.cellsOf e = sz) (hz : 0 < sz)
    (hf : DataW.trod enc P W 0 (fun _ => true) true fuel t cs0 = some (d, p)) (hlt : ∀ x ∈ p, x.block < W.heap.size) :
    ∃ (A : Option Addr) (n c : Nat) (css : List (List Value)), cs0 = [.slice A n c] ∧ css.length = n ∧ Sl W W.heap.size sz A n css.flatten ∧ n ≤ c ∧ n ≤ maxLen ∧
      (d = .nil ∨ ∃ elems spare : List (DataW H), d = .slice elems spare ∧ elems.length = n) ∧
      ∀ cs ∈ css, cs.length = sz ∧ ∃ (k : Nat) (y : DataW H × List MemPlace), DataW.trod enc P W 0 (fun _ => true) true k e cs = some y ∧ (∀ x ∈ y.2, x ∈ p) ∧ ∃ elems spare : List (DataW H), d = .slice elems spare ∧ y.1 ∈ elems := by
  rcases open_slice ht hf with ⟨hcs, hx⟩ | ⟨a, len, cap, m, k, D, Pl, hcs, _, hl, hm, hmm, hx, hi⟩
  · subst hcs
    exact ⟨none, 0, 0, [], rfl, rfl, .nil_, Nat.le_refl _, by simp [maxLen], .inl (by cases hx; rfl), by simp⟩
  · subst hcs
    simp only [if_true] at hmm
    subst hmm
    rw [hC] at hi hx
    obtain ⟨F, hF⟩ := choose_lt (α := List Value) (p := fun i cs => W.cells? 0 (a.add (i * sz)) sz = some cs ∧ DataW.trod enc P W 0 (fun _ => true) true k e cs = some (D i, Pl i)) (fun i hi' => hi i hi')
    have hlenF : ∀ i, i < m → (F i).length = sz := fun i hi' => (World.cells?_some (hF i hi').1).2.1
    have hflat : ∀ (q : Nat), q ≤ m → ((List.range q).map F).flatten.length = q * sz ∧ ∀ i j, i < q → j < sz → ((List.range q).map F).flatten[i * sz + j]? = (F i)[j]? := by
      intro q
      induction q with
      | zero => intro _; exact ⟨by simp, fun i j hi' => absurd hi' (by omega)⟩
      | succ q ih =>
        intro hq
        obtain ⟨h1, h2⟩ := ih (by omega)
        have e1 : ((List.range (q + 1)).map F).flatten = ((List.range q).map F).flatten ++ F q := by simp [List.range_succ]
        rw [e1]
        refine ⟨by rw [List.length_append, h1, hlenF q (by omega), Nat.add_mul, Nat.one_mul], fun i j hi' hj => ?_⟩
        rcases Nat.lt_or_ge i q with hlt' | hge
        · have : i * sz + j < q * sz := by
            have : (i + 1) * sz ≤ q * sz := Nat.mul_le_mul_right _ hlt'
            rw [Nat.add_mul] at this; omega
          rw [List.getElem?_append_left (by omega)]
          exact h2 i j hlt' hj
        · obtain rfl : i = q := by omega
          rw [List.getElem?_append_right (by omega), h1]
          congr 1; omega
    have hp : p = MemPlace.row a (m * sz) ++ (List.range m).flatMap Pl := by cases hx; rfl
    refine ⟨some a, len, m, (List.range len).map F, rfl, by simp, ⟨(hflat len hl).1, fun hn => ?_⟩, hl, Nat.le_trans hl hm, .inr ⟨_, _, (by cases hx; rfl), by simp⟩, ?_⟩
    · have hmpos : 0 < m * sz := Nat.mul_pos (by omega) hz
      have hblk : a.block < W.heap.size := hlt (.cell a.block (a.off + 0)) (by rw [hp]; exact List.mem_append_left _ (MemPlace.mem_row.2 ⟨0, hmpos, rfl⟩))
      have hc0 : ∀ i j, i < m → j < sz → W.cell? ((a.add (i * sz)).add j) = (F i)[j]? := fun i j h1 h2 => (World.cells?_some (hF i h1).1).2.2 j h2
      have hspot : a.spot = none := by
        have h0 := hc0 0 0 (by omega) hz
        rw [Nat.zero_mul, List.getElem?_eq_getElem (by rw [hlenF 0 (by omega)]; exact hz)] at h0
        simp only [Addr.add, if_true, World.cell?] at h0
        split at h0
        · split at h0
          · cases h0
          · rename_i hs
            cases hsp : a.spot with
            | none => rfl
            | some _ => simp [hsp] at hs
        · cases h0
      have ha : a = ⟨a.block, a.off, none⟩ := by
        cases a
        simp only at hspot
        subst hspot
        rfl
      refine ⟨a.block, a.off, congrArg some ha, hblk, fun j u hu => ?_⟩
      have hjl : j < len * sz := by
        rw [← (hflat len hl).1]
        exact (List.getElem?_eq_some_iff.1 hu).1
      have hdiv : j / sz < len := (Nat.div_lt_iff_lt_mul hz).2 hjl
      have hmod := Nat.mod_lt j hz
      have hj : j = j / sz * sz + j % sz := by rw [Nat.mul_comm]; exact (Nat.div_add_mod j sz).symm
      have h1 := (hflat len hl).2 (j / sz) (j % sz) hdiv hmod
      rw [← hj, hu] at h1
      have h2 := hc0 (j / sz) (j % sz) (by omega) hmod
      rw [Go.Deep.add_add, ← hj, ← h1] at h2
      rw [← h2]
      unfold Addr.add
      split
      · rename_i h0; rw [h0, Nat.add_zero, ← ha]
      · rfl
    · intro cs hcs
      obtain ⟨i, hi', rfl⟩ := List.mem_map.1 hcs
      have hi2 : i < m := by have := List.mem_range.1 hi'; omega
      refine ⟨hlenF i hi2, k, _, (hF i hi2).2, fun x hx' => ?_, ?_⟩
      · rw [hp]
        exact List.mem_append_right _ (List.mem_flatMap.2 ⟨i, List.mem_range.2 hi2, hx'⟩)
      · refine ⟨_, _, congrArg Prod.fst hx, ?_⟩
        exact List.mem_map_of_mem (List.mem_range.2 (List.mem_range.1 hi'))

end

theorem cellsTree : Tryz.prog.cellsOf 25 = 3 := by kernel_rfl

theorem bulk_part {H : Type} {d : DataW H} {l : List (DataW H)} (h : d ∈ l) : Rows.uptoBulk d ≤ Rows.uptoBulkAll l := by
  induction l with
  | nil => cases h
  | cons x r ih =>
    simp only [Rows.uptoBulkAll]
    cases List.mem_cons.1 h with
    | inl e => subst e; omega
    | inr e => have := ih e; omega
theorem bulk_string {H : Type} (bytes : List UInt8) : Rows.uptoBulk (DataW.lit (H := H) (.string bytes)) = bytes.length + 1 := by simp [Rows.uptoBulk]
theorem bulk_elem {H : Type} {d : DataW H} {elems spare : List (DataW H)} (h : d ∈ elems) : Rows.uptoBulk d ≤ Rows.uptoBulk (DataW.slice elems spare) := by
  have := bulk_part h
  simp only [Rows.uptoBulk]; omega
theorem bulk_field {H : Type} {d : DataW H} {parts : List (DataW H)} (h : d ∈ parts) : Rows.uptoBulk d ≤ Rows.uptoBulk (DataW.agg parts) := by
  have := bulk_part h
  simp only [Rows.uptoBulk]; omega

set_option maxRecDepth 100000 in
theorem open_trees {H : Type} {enc : TypeId × Value → H} {W : World} {base : Nat} {v : Value} {d : DataW H} {p : List MemPlace}
    (hv : Value.okWide Tryz.prog W .any base 22 v) (h : DataW.Trod enc Tryz.prog W 0 (fun _ => true) true 22 v d p) (hlt : ∀ x ∈ p, x.block < W.heap.size) :
    ∃ (A : Option Addr) (c : Nat) (l : List Nd), v = .slice A l.length c ∧ Nds W W.heap.size A l ∧ l.length ≤ c ∧ ∀ x ∈ l, x.text.size + 1 ≤ Rows.uptoBulk d := by
  obtain ⟨A, n, c, css, rfl, rfl, hs, hc, hm, hd, hcs⟩ := open_sl Tryz.underlying22 cellsTree (by omega) hv h hlt
  obtain ⟨l, hl, hw⟩ := list_of (f := ndCells) (q := fun x => x.text.size ≤ maxLen ∧ x.text.size + 1 ≤ Rows.uptoBulk d) hcs (fun cs ⟨h1, k, y, hy, _, hin⟩ => by
    obtain ⟨xs, n, _, hyx, _, hlen, hf⟩ := DataW.trod_struct Tryz.underlying25 hy
    match cs, h1 with
    | [c0, c1, c2], _ =>
      match xs, hlen with
      | [y0, y1, y2], _ =>
        have e0 := hf 0 _ rfl
        have e1 := hf 1 _ rfl
        have e2 := hf 2 _ rfl
        have k0 : Tryz.prog.cellsOf 3 = 1 := by kernel_rfl
        have k1 : Tryz.prog.cellsOf 9 = 1 := by kernel_rfl
        simp [k0, k1] at e0 e1 e2
        obtain ⟨a, ha, _, wa⟩ := DataW.trod_int Tryz.underlying3 e0
        obtain ⟨t, htx, hy1, wt⟩ := DataW.trod_string Tryz.underlying9 e1
        obtain ⟨b, hb, _, wb⟩ := DataW.trod_int Tryz.underlying3 e2
        simp at ha htx hb
        subst ha htx hb
        refine ⟨⟨a, t, b⟩, rfl, wt, ?_⟩
        obtain ⟨elems, spare, he, hmem⟩ := hin
        rw [hyx] at hmem
        have h2 : Rows.uptoBulk (DataW.lit (H := H) (.string t.data.toList)) ≤ Rows.uptoBulk (DataW.agg ([y0, y1, y2].map (·.1))) := bulk_field (by rw [hy1]; simp)
        have h3 := bulk_elem (spare := spare) hmem
        rw [bulk_string] at h2
        rw [he]
        have h4 : t.data.toList.length = t.size := by simp
        show t.size + 1 ≤ _
        simp only at h3
        omega)
  rw [flatten_map hl] at hs
  have hlen : css.length = l.length := by rw [hl, List.length_map]
  rw [hlen] at hs hc hm ⊢
  exact ⟨A, c, l, rfl, ⟨hs, hm, fun x hx => (hw x hx).1⟩, hc, fun x hx => (hw x hx).2⟩


set_option maxRecDepth 100000 in
/-- The same off a cell. -/
theorem open_trees_c {H : Type} {enc : TypeId × Value → H} {W : World} {fuel : Nat} {cs0 : List Value} {d : DataW H} {p : List MemPlace}
    (h : DataW.trod enc Tryz.prog W 0 (fun _ => true) true fuel 22 cs0 = some (d, p)) (hlt : ∀ x ∈ p, x.block < W.heap.size) :
    ∃ (A : Option Addr) (c : Nat) (l : List Nd), cs0 = [.slice A l.length c] ∧ Nds W W.heap.size A l ∧ l.length ≤ c ∧ ∀ x ∈ l, x.text.size + 1 ≤ Rows.uptoBulk d := by
  obtain ⟨A, n, c, css, rfl, rfl, hs, hc, hm, hd, hcs⟩ := open_sc Tryz.underlying22 cellsTree (by omega) h hlt
  obtain ⟨l, hl, hw⟩ := list_of (f := ndCells) (q := fun x => x.text.size ≤ maxLen ∧ x.text.size + 1 ≤ Rows.uptoBulk d) hcs (fun cs ⟨h1, k, y, hy, _, hin⟩ => by
    obtain ⟨xs, n, _, hyx, _, hlen, hf⟩ := DataW.trod_struct Tryz.underlying25 hy
    match cs, h1 with
    | [c0, c1, c2], _ =>
      match xs, hlen with
      | [y0, y1, y2], _ =>
        have e0 := hf 0 _ rfl
        have e1 := hf 1 _ rfl
        have e2 := hf 2 _ rfl
        have k0 : Tryz.prog.cellsOf 3 = 1 := by kernel_rfl
        have k1 : Tryz.prog.cellsOf 9 = 1 := by kernel_rfl
        simp [k0, k1] at e0 e1 e2
        obtain ⟨a, ha, _, wa⟩ := DataW.trod_int Tryz.underlying3 e0
        obtain ⟨t, htx, hy1, wt⟩ := DataW.trod_string Tryz.underlying9 e1
        obtain ⟨b, hb, _, wb⟩ := DataW.trod_int Tryz.underlying3 e2
        simp at ha htx hb
        subst ha htx hb
        refine ⟨⟨a, t, b⟩, rfl, wt, ?_⟩
        obtain ⟨elems, spare, he, hmem⟩ := hin
        rw [hyx] at hmem
        have h2 : Rows.uptoBulk (DataW.lit (H := H) (.string t.data.toList)) ≤ Rows.uptoBulk (DataW.agg ([y0, y1, y2].map (·.1))) := bulk_field (by rw [hy1]; simp)
        have h3 := bulk_elem (spare := spare) hmem
        rw [bulk_string] at h2
        rw [he]
        have h4 : t.data.toList.length = t.size := by simp
        show t.size + 1 ≤ _
        simp only at h3
        omega)
  rw [flatten_map hl] at hs
  have hlen : css.length = l.length := by rw [hl, List.length_map]
  rw [hlen] at hs hc hm ⊢
  exact ⟨A, c, l, rfl, ⟨hs, hm, fun x hx => (hw x hx).1⟩, hc, fun x hx => (hw x hx).2⟩


set_option maxRecDepth 100000 in
/-- A slice of statements. -/
theorem open_prog {H : Type} {enc : TypeId × Value → H} {W : World} {base : Nat} {v : Value} {d : DataW H} {p : List MemPlace}
    (hv : Value.okWide Tryz.prog W .any base 35 v) (h : DataW.Trod enc Tryz.prog W 0 (fun _ => true) true 35 v d p) (hlt : ∀ x ∈ p, x.block < W.heap.size) (hsm : Rows.uptoBulk d < 4294967281) :
    ∃ (A : Option Addr) (c : Nat) (l : List (List Nd)), v = .slice A l.length c ∧ Prg W W.heap.size A l := by
  obtain ⟨A, n, c, css, rfl, rfl, hs, hc, hm, hd, hcs⟩ := open_sl Tryz.underlying35 (by kernel_rfl : Tryz.prog.cellsOf 22 = 1) (by omega) hv h hlt
  obtain ⟨l, hl, hw⟩ := list_of (f := fun x : Option Addr × Nat × List Nd => [Value.slice x.1 x.2.2.length x.2.1]) (q := fun x => Nds W W.heap.size x.1 x.2.2 ∧ Short x.2.2) hcs (fun cs ⟨_, k, y, hy, hp, hin⟩ => by
    obtain ⟨A1, c1, l1, rfl, hn, _, hb⟩ := open_trees_c (d := y.1) (p := y.2) hy (fun x hx => hlt x (hp x hx))
    refine ⟨(A1, c1, l1), rfl, hn, fun x hx => ?_⟩
    have h1 := hb x hx
    obtain ⟨elems, spare, he, hmem⟩ := hin
    have h2 := bulk_elem (spare := spare) hmem
    rw [← he] at h2
    omega)
  have hfl : css.flatten = l.map fun x => Value.slice x.1 x.2.2.length x.2.1 := by rw [hl, flatten_one]
  have hlen : css.length = (l.map fun x => x.2.2).length := by rw [hl, List.length_map, List.length_map]
  rw [hfl] at hs
  rw [hlen] at hs hm ⊢
  refine ⟨A, c, l.map fun x => x.2.2, rfl, ⟨⟨_, hs, fun j v hv => ?_⟩, hm⟩⟩
  rw [List.getElem?_map] at hv
  cases hx : l[j]? with
  | none => rw [hx] at hv; cases hv
  | some x =>
    rw [hx] at hv
    cases hv
    have h1 := hw x (List.mem_of_getElem? hx)
    exact ⟨x.1, x.2.1, x.2.2, by rw [List.getElem?_map, hx]; rfl, rfl, h1.1, h1.2⟩

theorem maxL_of {W : World} (h : W.ShapedOpen Tryz.prog) : MaxL W := by
  obtain ⟨m, hm⟩ := cell_of_shapedOpen_int (P := Tryz.prog) (g := 1) (t := 3) (zero := #[.int .i64 0]) (k := .i64) h (of_decide_eq_true (by kernel_rfl)) (by kernel_rfl) rfl (by kernel_rfl) (by kernel_rfl) Tryz.underlying3
  refine ⟨?_, m, hm⟩
  rcases Nat.lt_or_ge 1 W.heap.size with h1 | h1
  · exact h1
  · unfold World.cell? at hm
    simp [Array.getElem?_eq_none h1] at hm

end Go.Proofs.YtddfdmopaeghnacGreatDoor

namespace Go.Proofs.YtddfdmopaeghnacGreatDoor
open Go.RowKit Go.Extern.Stop Go.Stop Go.Extern

theorem asx_valueOf27 (t : Addr) (w : World) : (ReflectliteValue.unpack (.iface 190 (.pointer (some t)))).run Tryz.prog w
    = .ok (.agg #[.pointer (some ⟨9, 190, none⟩), .pointer (some ⟨w.heap.size, 0, none⟩), .int .u64 150]) (w.alloc (.cells #[.pointer (some t)] 190)) := by kernel_rfl
theorem asx_type27 (a : Addr) (w : World) : (ReflectliteValue.methodAny (ReflectliteValue.valueError "reflectlite.Value.Type" 0) (fun t _ _ _ => ReflectliteType.toType t) #[.agg #[.pointer (some ⟨9, 190, none⟩), .pointer (some a), .int .u64 150]]).run Tryz.prog w
    = .ok (.iface 273 (.agg #[.pointer (some ⟨9, 190, none⟩)])) w := by kernel_rfl
theorem asx_methodKind (h : Value) (w : World) : (Go.method 455 273 (.agg #[h]) "Kind").run Tryz.prog w = .ok (256, h) w := by kernel_rfl
theorem asx_kind27 (w : World) : ((ReflectliteType.abiMethod fun t => (fun a : Nat => Value.int IntKind.u8 (a : Int)) <$> Rtype.kind t) #[.pointer (some ⟨9, 190, none⟩)]).run Tryz.prog w = .ok (.int .u8 22) w := by kernel_rfl
theorem asx_kind25 (w : World) : ((ReflectliteType.abiMethod fun t => (fun a : Nat => Value.int IntKind.u8 (a : Int)) <$> Rtype.kind t) #[.pointer (some ⟨9, 43, none⟩)]).run Tryz.prog w = .ok (.int .u8 2) w := by kernel_rfl


theorem rlm (z : Sem Value) (f : TypeId → Addr → Nat → Nat → Sem Value) (v : Value) :
    ReflectliteValue.method z f #[v] = (do match ← ReflectliteValue.parts v with | none => z | some (t, a, fl) => f t a fl (fl % 32)) := rfl
theorem asx_parts27 (a : Addr) (w : World) : (ReflectliteValue.parts (.agg #[.pointer (some ⟨9, 190, none⟩), .pointer (some a), .int .u64 150])).run Tryz.prog w = .ok (some (190, a, 150)) w := by kernel_rfl

theorem asx_isNil27 (a p : Addr) (W : World) (ha : W.cell? a = some (.pointer (some p))) :
    (ReflectliteValue.method (ReflectliteValue.valueError "reflectlite.Value.IsNil" 0) ReflectliteValue.isNil #[.agg #[.pointer (some ⟨9, 190, none⟩), .pointer (some a), .int .u64 150]]).run Tryz.prog W = .ok (.bool false) W := by
  rw [rlm]
  simp only [Sem.run_bind, asx_parts27, Result.andThen]
  simp [ReflectliteValue.isNil, loadVar, isAgg, underlying, Tryz.underlying190, ha, Result.andThen]

theorem asx_methodElem (h : Value) (w : World) : (Go.method 455 273 (.agg #[h]) "Elem").run Tryz.prog w = .ok (267, .agg #[h]) w := by kernel_rfl
theorem asx_methodImplements (h : Value) (w : World) : (Go.method 455 273 (.agg #[h]) "Implements").run Tryz.prog w = .ok (268, .agg #[h]) w := by kernel_rfl
theorem asx_methodAssignableTo (h : Value) (w : World) : (Go.method 455 273 (.agg #[h]) "AssignableTo").run Tryz.prog w = .ok (265, .agg #[h]) w := by kernel_rfl
theorem asx_elem27 (w : World) : (ReflectliteType.method ReflectliteType.elem #[.agg #[.pointer (some ⟨9, 190, none⟩)]]).run Tryz.prog w = .ok (.iface 273 (.agg #[.pointer (some ⟨9, 43, none⟩)])) w := by kernel_rfl
theorem asx_implements25 (w : World) : (ReflectliteType.relation "Implements" ReflectliteType.implements_ #[.agg #[.pointer (some ⟨9, 43, none⟩)], .iface 273 (.agg #[.pointer (some ⟨9, 28, none⟩)])]).run Tryz.prog w = .ok (.bool true) w := by kernel_rfl
theorem asx_typeOf25 (v : Value) (w : World) : (ReflectliteType.typeOf #[.iface 43 v]).run Tryz.prog w = .ok (.iface 273 (.agg #[.pointer (some ⟨9, 43, none⟩)])) w := by kernel_rfl
theorem asx_assignable25 (w : World) : (ReflectliteType.relation "AssignableTo" ReflectliteType.assignableTo #[.agg #[.pointer (some ⟨9, 43, none⟩)], .iface 273 (.agg #[.pointer (some ⟨9, 43, none⟩)])]).run Tryz.prog w = .ok (.bool true) w := by kernel_rfl
theorem asx_valueOf25 (k : Int) (w : World) : (ReflectliteValue.unpack (.iface 43 (.int .i64 k))).run Tryz.prog w
    = .ok (.agg #[.pointer (some ⟨9, 43, none⟩), .pointer (some ⟨w.heap.size, 0, none⟩), .int .u64 130]) (w.alloc (.cells #[.int .i64 k] 43)) := by kernel_rfl

theorem asx_elemOf27 (w : World) : (Rtype.elem? 190).run Tryz.prog w = .ok (some 43) w := by kernel_rfl
theorem asx_mk25 (p : Addr) (w : World) : (ReflectliteValue.mk 43 p ReflectliteValue.flagAddr).run Tryz.prog w = .ok (.agg #[.pointer (some ⟨9, 43, none⟩), .pointer (some p), .int .u64 386]) w := by kernel_rfl

theorem asx_elemV27 (a p : Addr) (W : World) (ha : W.cell? a = some (.pointer (some p))) :
    (ReflectliteValue.method (ReflectliteValue.valueError "reflectlite.Value.Elem" 0) ReflectliteValue.elem #[.agg #[.pointer (some ⟨9, 190, none⟩), .pointer (some a), .int .u64 150]]).run Tryz.prog W
      = .ok (.agg #[.pointer (some ⟨9, 43, none⟩), .pointer (some p), .int .u64 386]) W := by
  rw [rlm]
  simp only [Sem.run_bind, asx_parts27, Result.andThen]
  simp [ReflectliteValue.elem, loadVar, isAgg, underlying, Tryz.underlying190, ha, Result.andThen, asx_elemOf27, asx_mk25]
theorem rls (v x : Value) : ∃ (s1 s2 s3 s4 s5 : String), ReflectliteValue.set #[v, x] = (do
    let (some (dst, a, fl), some (src, b, _)) := (← ReflectliteValue.parts v, ← ReflectliteValue.parts x)
      | unsupported (.noEntry s1)
    if fl / ReflectliteValue.flagAddr % 2 == 0 then unsupported (.noEntry s2)
    let val ← loadVar src b
    if ← Rtype.directlyAssignable dst src then storeVar dst a val
    else if ← Rtype.implements dst src then
      if (← Rtype.kind src) == 20 then
        match val with
        | .nilIface => unsupported (.noEntry s3)
        | _ => storeVar dst a val
      else storeVar dst a (.iface src val)
    else panicString (s4 ++ (← Rtype.spelt src) ++ s5 ++ (← Rtype.spelt dst))
    pure (.tuple #[])) := ⟨_, _, _, _, _, rfl⟩
theorem asx_parts25a (a : Addr) (w : World) : (ReflectliteValue.parts (.agg #[.pointer (some ⟨9, 43, none⟩), .pointer (some a), .int .u64 386])).run Tryz.prog w = .ok (some (43, a, 386)) w := by kernel_rfl
theorem asx_parts25 (a : Addr) (w : World) : (ReflectliteValue.parts (.agg #[.pointer (some ⟨9, 43, none⟩), .pointer (some a), .int .u64 130])).run Tryz.prog w = .ok (some (43, a, 130)) w := by kernel_rfl
theorem asx_direct25 (w : World) : (Rtype.directlyAssignable 43 43).run Tryz.prog w = .ok true w := by kernel_rfl
theorem asx_size25 (w : World) : (sizeOf 43).run Tryz.prog w = .ok 1 w := by kernel_rfl

theorem asx_set25 (ta b : Addr) (k : Int) (old : Value) (W : World) (hb : W.cell? b = some (.int .i64 k)) (ht : W.cell? ta = some old) (hf : W.frozen? ta = false) :
    (ReflectliteValue.set #[.agg #[.pointer (some ⟨9, 43, none⟩), .pointer (some ta), .int .u64 386], .agg #[.pointer (some ⟨9, 43, none⟩), .pointer (some b), .int .u64 130]]).run Tryz.prog W
      = .ok (.tuple #[]) (W.setCell ta (.int .i64 k)) := by
  obtain ⟨s1, s2, s3, s4, s5, hz⟩ := rls (.agg #[.pointer (some ⟨9, 43, none⟩), .pointer (some ta), .int .u64 386]) (.agg #[.pointer (some ⟨9, 43, none⟩), .pointer (some b), .int .u64 130])
  rw [hz]
  simp only [Sem.run_bind, asx_parts25a, asx_parts25, Result.andThen]
  simp [ReflectliteValue.flagAddr, loadVar, isAgg, underlying, Tryz.underlying43, hb, Result.andThen, asx_direct25, storeVar, Value.cells, storeCells, Addr.add]
  rw [run_store Tryz.prog W ta _ _ (by rfl)]
  simp [ht, hf]

set_option maxHeartbeats 4000000 in
theorem as_hit (k : Int) (t : Addr) (old : Value) (w : World) (hg : w.cell? ⟨0, 0, none⟩ = some (.iface 273 (.agg #[.pointer (some ⟨9, 28, none⟩)]))) (ht0 : w.cell? t = some old) (hf0 : w.frozen? t = false) :
    Calls Tryz.prog 108 #[.iface 43 (.int .i64 k), .iface 190 (.pointer (some t))] w fun ev w' => ev = .returned (.bool true) ∧ w' = ((((w.alloc (.cells #[.pointer (some t)] 190)).alloc (.cells #[.pointer (some ⟨9, 190, none⟩), .pointer (some ⟨w.heap.size, 0, none⟩), .int .u64 150] 238)).alloc (.cells #[.pointer (some ⟨9, 190, none⟩), .pointer (some ⟨w.heap.size, 0, none⟩), .int .u64 150] 238)).alloc (.cells #[.int .i64 k] 43)).setCell t (.int .i64 k) := by
  have h6 := @run_callFunc_extern Tryz.prog 156 _ (fun args => ReflectliteValue.unpack (args.getD 0 (.tuple #[]))) Tryz.func156 (by kernel_rfl) (by kernel_rfl) (by kernel_rfl) (by kernel_rfl)
  have h7 := @run_callFunc_extern Tryz.prog 157 _ (ReflectliteValue.methodAny (ReflectliteValue.valueError "reflectlite.Value.Type" 0) (fun t _ _ _ => ReflectliteType.toType t)) Tryz.func157 (by kernel_rfl) (by kernel_rfl) (by kernel_rfl) (by kernel_rfl)
  have h8 := @run_callFunc_extern Tryz.prog 158 _ (ReflectliteValue.method (ReflectliteValue.valueError "reflectlite.Value.IsNil" 0) ReflectliteValue.isNil) Tryz.func158 (by kernel_rfl) (by kernel_rfl) (by kernel_rfl) (by kernel_rfl)
  have h27 := @run_callFunc_extern Tryz.prog 256 _ (ReflectliteType.abiMethod fun t => do pure (.int .u8 (← Rtype.kind t))) Tryz.func256 (by kernel_rfl) (by kernel_rfl) (by kernel_rfl) (by kernel_rfl)
  have h37 := @run_callFunc_extern Tryz.prog 267 _ (ReflectliteType.method ReflectliteType.elem) Tryz.func267 (by kernel_rfl) (by kernel_rfl) (by kernel_rfl) (by kernel_rfl)
  have h38 := @run_callFunc_extern Tryz.prog 268 _ (ReflectliteType.relation "Implements" ReflectliteType.implements_) Tryz.func268 (by kernel_rfl) (by kernel_rfl) (by kernel_rfl) (by kernel_rfl)
  have h10 := @run_callFunc_extern Tryz.prog 186 _ ReflectliteType.typeOf Tryz.func186 (by kernel_rfl) (by kernel_rfl) (by kernel_rfl) (by kernel_rfl)
  have h35 := @run_callFunc_extern Tryz.prog 265 _ (ReflectliteType.relation "AssignableTo" ReflectliteType.assignableTo) Tryz.func265 (by kernel_rfl) (by kernel_rfl) (by kernel_rfl) (by kernel_rfl)
  have h11 := @run_callFunc_extern Tryz.prog 187 _ (ReflectliteValue.method (ReflectliteValue.valueError "reflectlite.Value.Elem" 0) ReflectliteValue.elem) Tryz.func187 (by kernel_rfl) (by kernel_rfl) (by kernel_rfl) (by kernel_rfl)
  have h12 := @run_callFunc_extern Tryz.prog 188 _ ReflectliteValue.set Tryz.func188 (by kernel_rfl) (by kernel_rfl) (by kernel_rfl) (by kernel_rfl)
  have tO := asx_typeOf25
  have mA := asx_methodAssignableTo
  have a25 := asx_assignable25
  have v25 := asx_valueOf25
  have f6 := asx_valueOf27
  have f7 := asx_type27
  have mK := asx_methodKind
  have mE := asx_methodElem
  have mI := asx_methodImplements
  have k27 := asx_kind27
  have k25 := asx_kind25
  have e27 := asx_elem27
  have i25 := asx_implements25
  have n8 := asx_isNil27 ⟨w.heap.size, 0, none⟩ t ((w.alloc (.cells #[.pointer (some t)] 190)).alloc (.cells #[.pointer (some ⟨9, 190, none⟩), .pointer (some ⟨w.heap.size, 0, none⟩), .int .u64 150] 238)) (by simp)
  have hlt : 0 < w.heap.size := by
    rcases Nat.eq_zero_or_pos w.heap.size with h0 | h
    · simp [World.cell?, h0] at hg
    · exact h
  have hg2 : ((w.alloc (.cells #[.pointer (some t)] 190)).alloc (.cells #[.pointer (some ⟨9, 190, none⟩), .pointer (some ⟨w.heap.size, 0, none⟩), .int .u64 150] 238)).cell? ⟨0, 0, none⟩ = some (.iface 273 (.agg #[.pointer (some ⟨9, 28, none⟩)])) := by
    rw [World.cell?_alloc_lt _ _ ⟨0, 0, none⟩ (by simp), World.cell?_alloc_lt _ _ ⟨0, 0, none⟩ hlt]; exact hg
  have htl : t.block < w.heap.size := by
    rcases Nat.lt_or_ge t.block w.heap.size with h | h
    · exact h
    · simp [World.cell?, Array.getElem?_eq_none h] at ht0
  have el := asx_elemV27 ⟨w.heap.size, 0, none⟩ t (((w.alloc (.cells #[.pointer (some t)] 190)).alloc (.cells #[.pointer (some ⟨9, 190, none⟩), .pointer (some ⟨w.heap.size, 0, none⟩), .int .u64 150] 238)).alloc (.cells #[.pointer (some ⟨9, 190, none⟩), .pointer (some ⟨w.heap.size, 0, none⟩), .int .u64 150] 238)) (by rw [World.cell?_alloc_lt _ _ ⟨w.heap.size, 0, none⟩ (by simp; omega)]; simp)
  have st := asx_set25 t ⟨w.heap.size + 1 + 1 + 1, 0, none⟩ k old ((((w.alloc (.cells #[.pointer (some t)] 190)).alloc (.cells #[.pointer (some ⟨9, 190, none⟩), .pointer (some ⟨w.heap.size, 0, none⟩), .int .u64 150] 238)).alloc (.cells #[.pointer (some ⟨9, 190, none⟩), .pointer (some ⟨w.heap.size, 0, none⟩), .int .u64 150] 238)).alloc (.cells #[.int .i64 k] 43))
    (by rw [World.cell?_alloc_at _ _ _ _ (by simp)]; rfl)
    (by rw [World.cell?_alloc_lt _ _ t (by simp; omega), World.cell?_alloc_lt _ _ t (by simp; omega), World.cell?_alloc_lt _ _ t (by simp; omega), World.cell?_alloc_lt _ _ t htl]; exact ht0)
    (by rw [World.frozen?_alloc_old _ _ t (by simp; omega), World.frozen?_alloc_old _ _ t (by simp; omega), World.frozen?_alloc_old _ _ t (by simp; omega), World.frozen?_alloc_old _ _ t (Nat.ne_of_lt htl)]; exact hf0)
  go_enter Tryz.func108, Tryz.ntmps108
  go_wp2
  refine wp_loop_rounds 1 ?_
  rw [rounds_succ]
  go_wp2
  go_ret
  exact ⟨rfl, rfl⟩
end Go.Proofs.YtddfdmopaeghnacGreatDoor

namespace Go.Proofs.YtddfdmopaeghnacGreatDoor
open Go.RowKit

/-- The variable errors.errorType holds the handle of error. -/
def ErrT (w : World) : Prop := w.cell? ⟨0, 0, none⟩ = some (.iface 273 (.agg #[.pointer (some ⟨9, 28, none⟩)]))

set_option maxHeartbeats 1000000 in
theorem told_nil (w : World) : Calls Tryz.prog 64 #[.nilIface] w fun e w' => e = .returned (.int .i64 0) ∧ w = w' := by
  go_enter Tryz.func64, Tryz.ntmps64
  go_wp2_with fail
  go_ret
  exact ⟨rfl, rfl⟩

set_option maxHeartbeats 1000000 in
theorem told_hit (k : Int) (w : World) (hg : ErrT w) (hs : 0 + 1 ≤ w.heap.size) : Calls Tryz.prog 64 #[.iface 43 (.int .i64 k)] w (Ret w (.int .i64 k)) := by
  have hlt : (0 : Nat) < w.heap.size := by omega
  go_enter Tryz.func64, Tryz.ntmps64
  have hg2 : (w.alloc (.cells #[.int .i64 0] 43)).cell? ⟨0, 0, none⟩ = some (.iface 273 (.agg #[.pointer (some ⟨9, 28, none⟩)])) := by
    rw [World.cell?_alloc_lt _ _ ⟨0, 0, none⟩ hlt]; exact hg
  have HG := Lib.hid hg2; clear hg2 hg
  go_wp2_with (go_at_call 108; refine (as_hit k ⟨w.heap.size, 0, none⟩ (.int .i64 0) _ HG.out (by simp) (by simp)).mono ?_; rintro e w1 ⟨rfl, rfl⟩)
  go_ret
  exact ⟨rfl, (by repeat (first | exact Below.refl _ _ | assumption | apply Below.drew | refine below_drewN ?_ _ | apply Below.setCell _ (by first | omega | (simp; done) | (simp; omega)) | apply Below.alloc _ (by first | omega | (simp; done) | (simp; omega))))⟩

/-- pargetrysame.Error: is the error's number this one? -/
theorem same_error (n e : Int) (w : World) (hg : ErrT w) (hs : 0 + 1 ≤ w.heap.size) : Calls Tryz.prog 25 #[errV n, .int .i64 e] w (Ret w (.bool (n == e))) := by
  by_cases hn : n = 0
  · subst hn
    rw [← errV_zero rfl]
    clear hg
    by_cases he : e = 0
    · subst he
      go_enter Tryz.func25, Tryz.ntmps25
      go_wp2_with (go_at_call 64; refine (told_nil _).mono ?_; rintro e w1 ⟨rfl, rfl⟩)
      go_ret
      exact ⟨by simp, Below.refl _ _⟩
    · have h0 : ((0 : Int) == e) = false := by simp; omega
      have H0 := Lib.hid h0
      go_enter Tryz.func25, Tryz.ntmps25
      go_wp2_with (go_at_call 64; refine (told_nil _).mono ?_; rintro e w1 ⟨rfl, rfl⟩)
      go_ret
      exact ⟨by rw [H0.out]; rfl, Below.refl _ _⟩
  · rw [← errV_pos hn]
    have HG := Lib.hid hg; clear hg
    clear hn
    go_enter Tryz.func25, Tryz.ntmps25
    go_wp2_with (go_at_call 64; refine (told_hit n _ HG.out hs).mono ?_; rintro e w1 ⟨rfl, hB1⟩)
    go_ret
    exact ⟨rfl, hB1⟩
end Go.Proofs.YtddfdmopaeghnacGreatDoor

namespace Go.Proofs.YtddfdmopaeghnacGreatDoor
open Go.RowKit

theorem ErrT.past {w w' : World} (h : ErrT w) (hs : 0 + 1 ≤ w.heap.size) (hb : Below w.heap.size w w') : ErrT w' :=
  (hb.cell (p := ⟨0, 0, none⟩) (Nat.lt_of_lt_of_le (by decide) hs)).trans h
theorem Below.next {a b c : World} (h : Below a.heap.size a b) (h2 : Below b.heap.size b c) : Below a.heap.size a c := h.trans (h2.mono h.size)
theorem ErrT.drew {w : World} (h : ErrT w) : ErrT w.drew := h

theorem error_nil (w : World) (hg : ErrT w) (hs : 0 + 1 ≤ w.heap.size) : Calls Tryz.prog 25 #[.nilIface, .int .i64 0] w (Ret w (.bool true)) := by
  have h := same_error 0 0 w hg hs
  rw [← errV_zero rfl] at h
  exact h
theorem error_same (k : Int) (hk : k ≠ 0) (w : World) (hg : ErrT w) (hs : 0 + 1 ≤ w.heap.size) : Calls Tryz.prog 25 #[.iface 43 (.int .i64 k), .int .i64 k] w (Ret w (.bool true)) := by
  have h := same_error k k w hg hs
  rw [← errV_pos hk, beq_self_eq_true] at h
  exact h

end Go.Proofs.YtddfdmopaeghnacGreatDoor

namespace Go.Proofs.YtddfdmopaeghnacGreatDoor
open Go.ChangeShapes Go.WideShapes Go.RowKit

theorem etName : Tryz.prog.globalNamed "errors.errorType" = some 0 := by kernel_rfl
theorem rtType : (Tryz.prog.cutTypes.find? (·.1 == "internal/reflectlite.rtype")).map (·.2) = some 273 := by kernel_rfl
theorem oneError : ((List.range 355).filter fun t => Tryz.prog.rowNamed t [101, 114, 114, 111, 114]) = [28] := by kernel_rfl
theorem manyTypes : Tryz.prog.types.size = 355 := by kernel_rfl

theorem errT_of_laid {W : World} (h : laidMetH Tryz.prog [("errors.errorType", Rows.laid_errors_errorType)] W) : ErrT W := by
  have h' : laidMet Tryz.prog [] W ∧ handlesMet Tryz.prog [("errors.errorType", Rows.laid_errors_errorType)] W := h
  obtain ⟨name, u, ty, e1, e2, e3, e4, e5⟩ := h'.2 _ (List.mem_singleton.2 rfl)
  have en : name = [101, 114, 114, 111, 114] := (Option.some.inj e1).symm
  subst en
  obtain rfl := Option.some.inj (rtType.symm.trans e2)
  have hm : ty ∈ (List.range 355).filter fun t => Tryz.prog.rowNamed t [101, 114, 114, 111, 114] := List.mem_filter.2 ⟨List.mem_range.2 (by rw [← manyTypes]; exact e3), e4⟩
  rw [oneError] at hm
  obtain rfl := List.mem_singleton.1 hm
  have hh : typeHandle Tryz.prog 28 = .pointer (some ⟨9, 28, none⟩) := by kernel_rfl
  rw [hh] at e5
  have := World.var?_cell etName e5 0
  simpa [ErrT] using this

theorem ErrT.size {W : World} (h : ErrT W) : 0 + 1 ≤ W.heap.size := by
  rcases Nat.lt_or_ge 0 W.heap.size with h1 | h1
  · exact h1
  · unfold ErrT World.cell? at h
    simp [Array.getElem?_eq_none h1] at h

/-- A world that meets the condition. -/
noncomputable def laidWorld (os : Os) : World :=
  let w0 := World.holding Tryz.prog os ⟨#[], #[], []⟩
  { w0 with heap := w0.heap.modify 0 fun
      | .cells _ t frozen => .cells #[.iface 273 (.agg #[.pointer (some ⟨9, 28, none⟩)])] t frozen
      | o => o }
theorem laidWorld_met (os : Os) (args : Array Value) : laidMetH Tryz.prog [("errors.errorType", Rows.laid_errors_errorType)] ((laidWorld os).forCall (fun _ _ => 0) ⟨#[], args, []⟩).memory :=
  laidMetH_of_parts (laidMet_nil _ _) (by kernel_rfl)
end Go.Proofs.YtddfdmopaeghnacGreatDoor

namespace Go.Proofs.YtddfdmopaeghnacGreatDoor
open Go.ChangeShapes Go.WideShapes Go.RowKit

theorem errT_of_six {l : List (String × DataW Unit)} (hf : l.filter (fun x => x.2.handleName?.isSome) = [("errors.errorType", Rows.laid_errors_errorType)]) {W : World} (h : laidMetH Tryz.prog l W) : ErrT W := by
  refine errT_of_laid ?_
  unfold laidMetH at h ⊢
  rw [hf] at h
  have e2 : ([("errors.errorType", Rows.laid_errors_errorType)] : List (String × DataW Unit)).filter (fun x => x.2.handleName?.isSome) = [("errors.errorType", Rows.laid_errors_errorType)] := rfl
  rw [e2]
  exact ⟨laidMet_nil _ _, h.2⟩
/-- The table of the powers of ten stands third on the list. -/
theorem powT_of_six {a b : String × DataW Unit} {l rest : List (String × DataW Unit)} (hf : l.filter (fun x => x.2.handleName?.isSome) = [("errors.errorType", Rows.laid_errors_errorType)])
    (hn : l.filter (fun x => x.2.handleName?.isNone) = a :: b :: ("internal/strconv.uint64pow10", Lib.tabData .u64 Lib.pow10Tab) :: rest) {W : World} (h : laidMetH Tryz.prog l W) : PowT W := by
  unfold laidMetH at h
  rw [hf] at h
  have h1 := h.1
  rw [hn] at h1
  obtain ⟨ps, ⟨_, _, _, _, _, q1, _, _, _, _, ⟨_, _, _, _, _, q2, _, _, _, _, ⟨g', t', cs, fuel, p, q, hg', ht', hvar, hd, _, _⟩, _⟩, _⟩, _⟩ := h1
  have hg : Tryz.prog.globalNamed "internal/strconv.uint64pow10" = some 2 := by kernel_rfl
  obtain rfl := Option.some.inj (hg.symm.trans hg')
  have hty : (Tryz.prog.globals[2]?).map (·.type) = some 302 := by kernel_rfl
  obtain rfl := Option.some.inj (hty.symm.trans ht')
  unfold PowT Lib.TabIs
  rw [hvar, ← Lib.cells_of_tab Tryz.underlying302 Tryz.underlying268 (by kernel_rfl) (by kernel_rfl) hd]

/-- A world that holds them. -/
noncomputable def tabWorld6 (os : Os) : World :=
  let w0 := World.holding Tryz.prog os ⟨#[], #[], []⟩
  { w0 with heap := (((((w0.heap.modify 5 fun
      | .cells _ t frozen => .cells (Lib.deBruijn32tab.map fun n : Nat => Value.int .u8 n).toArray t frozen
      | o => o).modify 6 fun
      | .cells _ t frozen => .cells (Lib.deBruijn64tab.map fun n : Nat => Value.int .u8 n).toArray t frozen
      | o => o).modify 2 fun
      | .cells _ t frozen => .cells (Lib.pow10Tab.map fun n : Int => Value.int .u64 n).toArray t frozen
      | o => o).modify 3 fun
      | .cells _ t frozen => .cells (Go.Pinned.utf8FirstZ.map fun n : Nat => Value.int .u8 n).toArray t frozen
      | o => o).modify 4 fun
      | .cells _ t frozen => .cells (([128, 191, 160, 191, 128, 159, 144, 191, 128, 143] ++ List.replicate 22 0).map fun n : Nat => Value.int .u8 n).toArray t frozen
      | o => o).modify 0 fun
      | .cells _ t frozen => .cells #[.iface 273 (.agg #[.pointer (some ⟨9, 28, none⟩)])] t frozen
      | o => o }
end Go.Proofs.YtddfdmopaeghnacGreatDoor

namespace Go.Proofs.YtddfdmopaeghnacGreatDoor
open Go.RowKit

/-- A world that holds them. -/
noncomputable def tabWorld8 (os : Os) : World :=
  let w0 := World.holding Tryz.prog os ⟨#[], #[], []⟩
  let n := w0.heap.size
  { w0 with heap := (((((((((w0.heap.modify 5 fun
      | .cells _ t frozen => .cells (Lib.deBruijn32tab.map fun n : Nat => Value.int .u8 n).toArray t frozen
      | o => o).modify 6 fun
      | .cells _ t frozen => .cells (Lib.deBruijn64tab.map fun n : Nat => Value.int .u8 n).toArray t frozen
      | o => o).modify 2 fun
      | .cells _ t frozen => .cells (Lib.pow10Tab.map fun n : Int => Value.int .u64 n).toArray t frozen
      | o => o).modify 3 fun
      | .cells _ t frozen => .cells (Go.Pinned.utf8FirstZ.map fun n : Nat => Value.int .u8 n).toArray t frozen
      | o => o).modify 4 fun
      | .cells _ t frozen => .cells (([128, 191, 160, 191, 128, 159, 144, 191, 128, 143] ++ List.replicate 22 0).map fun n : Nat => Value.int .u8 n).toArray t frozen
      | o => o).modify 0 fun
      | .cells _ t frozen => .cells #[.iface 273 (.agg #[.pointer (some ⟨9, 28, none⟩)])] t frozen
      | o => o).modify 8 fun
      | .cells _ t frozen => .cells #[.iface 326 (.pointer (some ⟨n, 0, none⟩))] t frozen
      | o => o).modify 7 fun
      | .cells _ t frozen => .cells #[.iface 326 (.pointer (some ⟨n + 1, 0, none⟩))] t frozen
      | o => o).push (.cells #[.string ⟨#[118, 97, 108, 117, 101, 32, 111, 117, 116, 32, 111, 102, 32, 114, 97, 110, 103, 101]⟩] 328 (0, 0))).push (.cells #[.string ⟨#[105, 110, 118, 97, 108, 105, 100, 32, 115, 121, 110, 116, 97, 120]⟩] 328 (0, 0)) }
end Go.Proofs.YtddfdmopaeghnacGreatDoor
