/- What every law's row wants: arguments read as before behind a call that leaves old memory as it was; slices of nodes, of texts, of numbers opened. No condition. -/
import Derived.Test.YtddfdmopaeghnacGreatDoorRows
import Derived.Test.YtddfdmopaeghnacGreatDoorMem
import Derived.ProofKit
import Derived.Deep.Slices
import Derived.SizedLaws
namespace Go.Proofs.YtddfdmopaeghnacGreatDoor
open Go.ChangeShapes Go.WideShapes Go.ChangeAt Go.RowKit Go.Deep

theorem own : ownKnob Tryz.prog.godebug = none := by kernel_rfl
theorem laidOut : laidOutB Tryz.prog = true := by kernel_rfl

section
variable {H : Type} {enc : TypeId × Value → H} {P : Program}

theorem trodAll_stay (hl : laidOutB P = true) {W W' : World} (hb : Below W.heap.size W W') {sp : Nat → Bool} :
    ∀ {ts : List TypeId} {vs : List Value} {ds : List (DataW H)} {p : List MemPlace}, (∀ t ∈ ts, P.readableRec t = true ∧ t < P.types.size) →
      DataW.TrodAll enc P W 0 (fun _ => true) true ts vs ds p → (∀ x ∈ p, x.block < W.heap.size) → (∀ x ∈ p, sp x.block = true) → DataW.TrodAll enc P W' 0 sp true ts vs ds p
  | [], _, _, _, _, h, _, _ => by
    obtain ⟨rfl, rfl, rfl⟩ := trodAll_nil h
    exact h
  | t :: ts, _, _, _, hr, h, hlt, hsp => by
    obtain ⟨v, vs1, d, ds1, a, b, rfl, rfl, rfl, h1, h2⟩ := trodAll_cons h
    obtain ⟨r1, r2⟩ := hr t (by simp)
    exact ⟨a, b, WideElems.Trod_stays hl r1 r2 h1 (fun x hx => hb.same (hlt x (List.mem_append_left _ hx))) (fun x hx => hsp x (List.mem_append_left _ hx)),
      trodAll_stay hl hb (fun t ht => hr t (by simp [ht])) h2 (fun x hx => hlt x (List.mem_append_right _ hx)) (fun x hx => hsp x (List.mem_append_right _ hx)), rfl⟩

/-- A law's end: true, old memory as it was. -/
theorem law_post {f : Func} {s : ChangeSpec} {W W' : World} {args : Array Value} {ds gs : List (DataW H)} {before : List MemPlace} {t : TypeId}
    (hW : DataW.Whole enc P f.params.toList s.vars false W args.toList ds gs before) (hv : s.vars = [])
    (hfn : s.fn H (ds ++ []) = { results := [.lit (.bool true)], args := ds }) (hres : f.resultTypes = #[t]) (ht : P.underlying t = some .bool)
    (hl : laidOutB P = true) (hr : (f.params.toList.all fun t => P.readableRec t && decide (t < P.types.size)) = true) (hb : Below W.heap.size W W') :
    s.post enc P f false true false false W args (.bool true) W' := by
  have hW0 := hW
  have hlt : ∀ x ∈ before, x.block < W.heap.size := fun x hx => hW.lt x hx
  obtain ⟨p, q, hA, hV, rfl, hfz, hnd⟩ := hW
  rw [hv] at hV
  obtain ⟨rfl, rfl⟩ := trodVars_none hV
  have hr' : ∀ t ∈ f.params.toList, P.readableRec t = true ∧ t < P.types.size := fun t ht => by
    have := List.all_eq_true.1 hr t ht
    simpa using this
  refine ⟨ds, [], p ++ [], [], p, [], hW0, ?_, ?_, ?_, hb.frame _, fun h => by cases h⟩
  · rw [hfn, hres]
    exact trodAll_mk1 (shut_bool ht true)
  · rw [hfn]
    refine trodAll_stay hl hb hr' hA (fun x hx => hlt x (by simpa using hx)) (fun x hx => by simpa using hlt x (by simpa using hx))
  · rw [hfn, hv]
    exact rfl

/-- A slice of whatever elements, opened to their cells. -/
theorem open_sl {W : World} {t e : TypeId} {sz base : Nat} {v : Value} {d : DataW H} {p : List MemPlace} (ht : P.underlying t = some (.slice e)) (hC : P.cellsOf e = sz) (hz : 0 < sz)
    (hv : Value.okWide P W .any base t v) (h : DataW.Trod enc P W 0 (fun _ => true) true t v d p) (hlt : ∀ x ∈ p, x.block < W.heap.size) :
    ∃ (A : Option Addr) (n c : Nat) (css : List (List Value)), v = .slice A n c ∧ css.length = n ∧ Sl W W.heap.size sz A n css.flatten ∧ n ≤ c ∧ n ≤ maxLen ∧
      (d = .nil ∨ ∃ elems spare : List (DataW H), d = .slice elems spare ∧ elems.length = n) ∧
      ∀ cs ∈ css, cs.length = sz ∧ ∃ (k : Nat) (y : DataW H × List MemPlace), DataW.trod enc P W 0 (fun _ => true) true k e cs = some y ∧ (∀ x ∈ y.2, x ∈ p) ∧ ∃ elems spare : List (DataW H), d = .slice elems spare ∧ y.1 ∈ elems := by
  obtain ⟨A, n, c, rfl⟩ := okWide_slice ht hv
  obtain ⟨fuel, hf⟩ := h
  rcases open_slice ht hf with ⟨hcs, hx⟩ | ⟨a, len, cap, m, k, D, Pl, hcs, _, hl, hm, hmm, hx, hi⟩
  · simp [Value.cells] at hcs
    obtain ⟨rfl, rfl, rfl⟩ := hcs
    exact ⟨none, 0, 0, [], rfl, rfl, .nil_, Nat.le_refl _, by simp [maxLen], .inl (by cases hx; rfl), by simp⟩
  · simp [Value.cells] at hcs
    obtain ⟨rfl, rfl, rfl⟩ := hcs
    simp only [if_true] at hmm
    subst hmm
    rw [hC] at hi hx
    obtain ⟨F, hF⟩ := choose_lt (α := List Value) (p := fun i cs => W.cells? 0 (a.add (i * sz)) sz = some cs ∧ DataW.trod enc P W 0 (fun _ => true) true k e cs = some (D i, Pl i)) (fun i hi' => hi i hi')
    have hlenF : ∀ i, i < m → (F i).length = sz := fun i hi' => (World.cells?_some (hF i hi').1).2.1
    have hflat : ∀ (q : Nat), q ≤ m → ((List.range q).map F).flatten.length = q * sz ∧ ∀ i j, i < q → j < sz → ((List.range q).map F).flatten[i * sz + j]? = (F i)[j]? := by
      intro q
      induction q with
      | zero => intro _; exact ⟨by simp, fun i j hi' => absurd hi' (by omega)⟩
      | succ q ih =>
        intro hq
        obtain ⟨h1, h2⟩ := ih (by omega)
        have e1 : ((List.range (q + 1)).map F).flatten = ((List.range q).map F).flatten ++ F q := by simp [List.range_succ]
        rw [e1]
        refine ⟨by rw [List.length_append, h1, hlenF q (by omega), Nat.add_mul, Nat.one_mul], fun i j hi' hj => ?_⟩
        rcases Nat.lt_or_ge i q with hlt' | hge
        · have : i * sz + j < q * sz := by
            have : (i + 1) * sz ≤ q * sz := Nat.mul_le_mul_right _ hlt'
            rw [Nat.add_mul] at this; omega
          rw [List.getElem?_append_left (by omega)]
          exact h2 i j hlt' hj
        · obtain rfl : i = q := by omega
          rw [List.getElem?_append_right (by omega), h1]
          congr 1; omega
    have hp : p = MemPlace.row a (m * sz) ++ (List.range m).flatMap Pl := by cases hx; rfl
    refine ⟨some a, n, m, (List.range n).map F, rfl, by simp, ⟨(hflat n hl).1, fun hn => ?_⟩, hl, Nat.le_trans hl hm, .inr ⟨_, _, (by cases hx; rfl), by simp⟩, ?_⟩
    · have hmpos : 0 < m * sz := Nat.mul_pos (by omega) hz
      have hblk : a.block < W.heap.size := hlt (.cell a.block (a.off + 0)) (by rw [hp]; exact List.mem_append_left _ (MemPlace.mem_row.2 ⟨0, hmpos, rfl⟩))
      have hc0 : ∀ i j, i < m → j < sz → W.cell? ((a.add (i * sz)).add j) = (F i)[j]? := fun i j h1 h2 => (World.cells?_some (hF i h1).1).2.2 j h2
      have hspot : a.spot = none := by
        have h0 := hc0 0 0 (by omega) hz
        rw [Nat.zero_mul, List.getElem?_eq_getElem (by rw [hlenF 0 (by omega)]; exact hz)] at h0
        simp only [Addr.add, if_true, World.cell?] at h0
        split at h0
        · split at h0
          · cases h0
          · rename_i hs
            cases hsp : a.spot with
            | none => rfl
            | some _ => simp [hsp] at hs
        · cases h0
      have ha : a = ⟨a.block, a.off, none⟩ := by
        cases a
        simp only at hspot
        subst hspot
        rfl
      refine ⟨a.block, a.off, congrArg some ha, hblk, fun j u hu => ?_⟩
      have hjl : j < n * sz := by
        rw [← (hflat n hl).1]
        exact (List.getElem?_eq_some_iff.1 hu).1
      have hdiv : j / sz < n := (Nat.div_lt_iff_lt_mul hz).2 hjl
      have hmod := Nat.mod_lt j hz
      have hj : j = j / sz * sz + j % sz := by rw [Nat.mul_comm]; exact (Nat.div_add_mod j sz).symm
      have h1 := (hflat n hl).2 (j / sz) (j % sz) hdiv hmod
      rw [← hj, hu] at h1
      have h2 := hc0 (j / sz) (j % sz) (by omega) hmod
      rw [Go.Deep.add_add, ← hj, ← h1] at h2
      rw [← h2]
      unfold Addr.add
      split
      · rename_i h0; rw [h0, Nat.add_zero, ← ha]
      · rfl
    · intro cs hcs
      obtain ⟨i, hi', rfl⟩ := List.mem_map.1 hcs
      have hi2 : i < m := by have := List.mem_range.1 hi'; omega
      refine ⟨hlenF i hi2, k, _, (hF i hi2).2, fun x hx' => ?_, ?_⟩
      · rw [hp]
        exact List.mem_append_right _ (List.mem_flatMap.2 ⟨i, List.mem_range.2 hi2, hx'⟩)
      · refine ⟨_, _, congrArg Prod.fst hx, ?_⟩
        exact List.mem_map_of_mem (List.mem_range.2 (List.mem_range.1 hi'))

theorem flatten_one {α : Type} (f : α → Value) (l : List α) : (l.map fun x => [f x]).flatten = l.map f := by
  induction l with
  | nil => rfl
  | cons a r ih => rw [List.map_cons, List.flatten_cons, ih]; rfl

theorem flatten_map {α : Type} {css : List (List Value)} {f : α → List Value} {l : List α} (h : css = l.map f) : css.flatten = l.flatMap f := by
  rw [h, List.flatMap_def]

/-- From each to all. -/
theorem list_of {α : Type} {p : List Value → Prop} {q : α → Prop} {f : α → List Value} {css : List (List Value)} (h : ∀ cs ∈ css, p cs) (hp : ∀ cs, p cs → ∃ a, cs = f a ∧ q a) : ∃ l : List α, css = l.map f ∧ ∀ a ∈ l, q a := by
  induction css with
  | nil => exact ⟨[], rfl, by simp⟩
  | cons cs r ih =>
    obtain ⟨a, ha, hq⟩ := hp cs (h cs (by simp))
    obtain ⟨l, hl, hql⟩ := ih (fun c hc => h c (by simp [hc]))
    refine ⟨a :: l, by rw [hl, ha]; rfl, fun x hx => ?_⟩
    rcases List.mem_cons.1 hx with rfl | hx
    · exact hq
    · exact hql x hx

/-- A slice of numbers. -/
theorem open_nums {W : World} {t e : TypeId} {base : Nat} {v : Value} {d : DataW H} {p : List MemPlace} {kd : IntKind} (ht : P.underlying t = some (.slice e)) (he : P.underlying e = some (.int kd)) (hC : P.cellsOf e = 1)
    (hv : Value.okWide P W .any base t v) (h : DataW.Trod enc P W 0 (fun _ => true) true t v d p) (hlt : ∀ x ∈ p, x.block < W.heap.size) :
    ∃ (A : Option Addr) (c : Nat) (l : List Int), v = .slice A l.length c ∧ Sl W W.heap.size 1 A l.length (l.map (.int kd)) ∧ l.length ≤ c ∧ l.length ≤ maxLen ∧ (d = .nil ∨ ∃ elems spare : List (DataW H), d = .slice elems spare ∧ elems.length = l.length) ∧ ∀ x ∈ l, (Lit.int kd x).wf = true := by
  obtain ⟨A, n, c, css, rfl, rfl, hs, hc, hm, hd, hcs⟩ := open_sl ht hC (by omega) hv h hlt
  obtain ⟨l, hl, hw⟩ := list_of (f := fun x : Int => [Value.int kd x]) (q := fun x => (Lit.int kd x).wf = true) hcs (fun cs ⟨h1, k, y, hy, _⟩ => by
    obtain ⟨x, h2, _, h3⟩ := DataW.trod_int he hy
    exact ⟨x, h2, h3⟩)
  have hfl : css.flatten = l.map (.int kd) := by rw [hl, flatten_one]
  rw [hfl] at hs
  have hlen : css.length = l.length := by rw [hl, List.length_map]
  rw [hlen] at hs hc hm hd ⊢
  exact ⟨A, c, l, rfl, hs, hc, hm, hd, hw⟩

/-- A slice of texts. -/
theorem open_texts {W : World} {t e : TypeId} {base : Nat} {v : Value} {d : DataW H} {p : List MemPlace} (ht : P.underlying t = some (.slice e)) (he : P.underlying e = some .string) (hC : P.cellsOf e = 1)
    (hv : Value.okWide P W .any base t v) (h : DataW.Trod enc P W 0 (fun _ => true) true t v d p) (hlt : ∀ x ∈ p, x.block < W.heap.size) :
    ∃ (A : Option Addr) (c : Nat) (l : List ByteArray), v = .slice A l.length c ∧ Sl W W.heap.size 1 A l.length (l.map .string) ∧ l.length ≤ c ∧ l.length ≤ maxLen ∧ (d = .nil ∨ ∃ elems spare : List (DataW H), d = .slice elems spare ∧ elems.length = l.length) ∧ ∀ x ∈ l, x.size ≤ maxLen := by
  obtain ⟨A, n, c, css, rfl, rfl, hs, hc, hm, hd, hcs⟩ := open_sl ht hC (by omega) hv h hlt
  obtain ⟨l, hl, hw⟩ := list_of (f := fun x : ByteArray => [Value.string x]) (q := fun x => x.size ≤ maxLen) hcs (fun cs ⟨h1, k, y, hy, _⟩ => by
    obtain ⟨x, h2, _, h3⟩ := DataW.trod_string he hy
    exact ⟨x, h2, h3⟩)
  have hfl : css.flatten = l.map .string := by rw [hl, flatten_one]
  rw [hfl] at hs
  have hlen : css.length = l.length := by rw [hl, List.length_map]
  rw [hlen] at hs hc hm hd ⊢
  exact ⟨A, c, l, rfl, hs, hc, hm, hd, hw⟩
end
end Go.Proofs.YtddfdmopaeghnacGreatDoor
