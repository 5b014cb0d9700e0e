/- Walk: the cheapest course from a spot on, with a memory of spots. Conditions: the plan and the doc lie below the search; the width is at most 100. -/
import Derived.Test.YtddfdmopaeghnacGreatDoorBestA
namespace Go.Proofs.YtddfdmopaeghnacGreatDoor
open Go.RowKit Go.Maps Go.ChangeMaps

/-- Small numbers. -/
theorem bestC_le (W : Nat) (K : List (D × Int)) (col : Nat) (h : ∀ u ∈ waysK K, (textK K u).length ≤ 3300 * szK K) : (bestC W K col).1 ≤ 3300 * szK K ∧ (bestC W K col).2 ≤ 3300 * szK K := by
  have h1 := h _ (bestU_mem W K col)
  exact ⟨Nat.le_trans (ovr_le _ _ _) h1, Nat.le_trans (lns_le _) h1⟩

/-- What is laid is not too long. -/
theorem Doc.text_le {l : List Nd} {x : D} (hd : Doc l x) : ∀ (z : Nat) (i : Nat) (K : List (D × Int)), szK K ≤ z → Rep l i K → ∀ u ∈ waysK K, (textK K u).length ≤ 3300 * szK K := by
  intro z
  induction z with
  | zero =>
    intro i K hz hr u hu
    by_cases hi : i < l.length
    · have := szK_pos hr hi; omega
    · obtain ⟨rfl, _⟩ := hr.ge (by omega)
      simp [waysK] at hu
      subst hu
      simp [textK, layK]
  | succ z ih =>
    intro i K hz hr u hu
    by_cases hi : i < l.length
    · by_cases ho : l[i].op = 8 ∨ l[i].op = 9
      · obtain ⟨t0, ok0, i0, i1, K0, K1, hp, h0, h1, _⟩ := best_ask (gp := 0) (A := none) (c := 0) hd hr hi ho
        rw [hp.2.2.2.2, List.mem_append] at hu
        rcases hu with hu | hu
        · cases ok0 with
          | false => simp at hu
          | true =>
            simp only [if_true, List.mem_map] at hu
            obtain ⟨v, hv, rfl⟩ := hu
            obtain ⟨_, g2, g3⟩ := h0 rfl
            rw [textK_step (g3 v) hv, List.length_append]
            have := ih i0 K0 (by have := hp.2.2.1; omega) hp.1 v hv
            have e : t0.data.toList.length = t0.size := by simp
            omega
        · simp only [List.mem_map] at hu
          obtain ⟨v, hv, rfl⟩ := hu
          obtain ⟨_, g2, g3⟩ := h1
          rw [textK_step (g3 v) hv, List.length_append]
          have := ih i1 K1 (by have := hp.2.2.2.1; omega) hp.2.1 v hv
          simp only [ByteArray.size_empty] at g2
          have e : ByteArray.empty.data.toList.length = 0 := by simp
          omega
      · obtain ⟨txt, nx, K', hs, hw, _, _⟩ := best_go (gp := 0) (A := none) (c := 0) hd hr hi ⟨fun h => ho (.inl h), fun h => ho (.inr h)⟩
        rw [hw] at hu
        rw [textK_step (hs.2.2.2 u) hu, List.length_append]
        have := ih nx K' (by have := hs.2.1; omega) hs.1 u hu
        have e : txt.data.toList.length = txt.size := by simp
        have := hs.2.2.1
        omega
    · obtain ⟨rfl, _⟩ := hr.ge (by omega)
      simp [waysK] at hu
      subst hu
      simp [textK, layK]

theorem Rep.le {l : List Nd} {i : Nat} {K : List (D × Int)} (h : Rep l i K) : i ≤ l.length := by
  rcases Nat.lt_or_ge i l.length with h1 | h1
  · omega
  · exact Nat.le_of_eq (h.ge h1).2

/-- What the head of a call reads. -/
def HeadIs (gs gp bm : Nat) (A : Option Addr) (c n bx i col : Nat) (f : Value → Option Value) (W' : World) : Prop :=
  W'.cell? ⟨gs, 0, none⟩ = some (.pointer (some ⟨gp, 0, none⟩)) ∧ W'.cell? ⟨gs, 2, none⟩ = some (.map (some bm)) ∧ W'.cell? ⟨gp, 0, none⟩ = some (.slice A n c) ∧ W'.cell? ⟨bx, 0, none⟩ = some (.int .i64 (i : Nat)) ∧ W'.cell? ⟨bx, 1, none⟩ = some (.int .i64 (col : Nat)) ∧
    (Instr.lookup 174 (.map (some bm)) (.agg #[.int .i64 (i : Nat), .int .i64 (col : Nat)]) true).run Tryz.prog W' = .ok (.tuple #[(f (spotV i col)).getD (.agg #[.int .i64 0, .int .i64 0, .int .i64 0]), .bool (f (spotV i col)).isSome]) W'
theorem HeadIs.past {gs gp bm c n bx i col : Nat} {A : Option Addr} {f : Value → Option Value} {w w' : World} (h0 : w.cell? ⟨gs, 0, none⟩ = some (.pointer (some ⟨gp, 0, none⟩))) (h2 : w.cell? ⟨gs, 2, none⟩ = some (.map (some bm))) (hp : w.cell? ⟨gp, 0, none⟩ = some (.slice A n c))
    (hx : w.heap[bx]? = some (.cells #[.int .i64 (i : Nat), .int .i64 (col : Nat)] 181 (0, 0))) (hm : MapF Tryz.prog 181 f bm w) (hs : gs < w.heap.size) (hg : gp < w.heap.size) {kl : Lit} (hk : keyOf Tryz.prog 181 (spotV i col) = some kl) (hb : Below w.heap.size w w') : HeadIs gs gp bm A c n bx i col f w' := by
  have hx' := blk_below hx hb
  exact ⟨(hb.cell (p := ⟨gs, 0, none⟩) hs).trans h0, (hb.cell (p := ⟨gs, 2, none⟩) hs).trans h2, (hb.cell (p := ⟨gp, 0, none⟩) hg).trans hp, blk_cell hx', blk_cell hx', (hm.below hb).look spotLaw Tryz.underlying174 (spotZero _) hk⟩

set_option maxRecDepth 100000 in
set_option maxHeartbeats 4000000 in
/-- At the end; where it is known. -/
theorem cheap_known {l : List Nd} {x : D} (hd : Doc l x) {gp : Nat} {A : Option Addr} {c : Nat} (w0 : World) (hpl : IsPlan w0 gp A c l) {gs bm W : Nat} {i col : Nat} {w : World} (hcs : CS w0 gs gp bm W l w) (hcol : col ≤ 2000000)
    {f : Value → Option Value} (hmf : MapF Tryz.prog 181 f bm w) {a b : Nat} {ch : Int} (hv : f (spotV i col) = some (.agg #[.int .i64 (a : Nat), .int .i64 (b : Nat), .int .i64 ch])) (hlt : i < l.length) :
    Calls Tryz.prog 97 #[.pointer (some ⟨gs, 0, none⟩), spotV i col] w (Ret w (.agg #[.int .i64 (a : Nat), .int .i64 (b : Nat), .int .i64 ch])) := by
  have h400 := hd.len
  obtain ⟨kl, hkl⟩ := spot_key (i := i) (col := col) (by omega) (by omega)
  have hml := hcs.mlt
  have hsl := lt_of_heap hcs.blk
  have y0 := blk_cell (j := 0) hcs.blk
  have y2 := blk_cell (j := 2) hcs.blk
  simp at y0 y2
  obtain ⟨gn, gd, ge, gf', gi, cf, ci, hpa⟩ := hpl.past hcs.bel
  have z0 := hpa.c0
  have hgp := hpa.lp
  have hne : ((i : Int) == (l.length : Int)) = false := by rw [beq_eq_false_iff_ne]; omega
  have hb1 : ∀ o1 o2, Below w.heap.size w ((w.alloc o1).alloc o2) := fun o1 o2 => ((Below.refl _ _).alloc (Nat.le_refl _) _).alloc (by simp) _
  have HW : ∀ (o2 : Obj) W', Below (((w.alloc (.cells #[.int .i64 (i : Nat), .int .i64 (col : Nat)] 181)).alloc o2).heap.size) ((w.alloc (.cells #[.int .i64 (i : Nat), .int .i64 (col : Nat)] 181)).alloc o2) W' → HeadIs gs gp bm A c l.length w.heap.size i col f W' := fun o2 W' hW' => by
    refine HeadIs.past (((hb1 _ _).cell (p := ⟨gs, 0, none⟩) hsl).trans y0) (((hb1 _ _).cell (p := ⟨gs, 2, none⟩) hsl).trans y2) (((hb1 _ _).cell (p := ⟨gp, 0, none⟩) hgp).trans z0) ?_ (hmf.below (hb1 _ _)) (by simp; omega) (by simp; omega) hkl hW'
    exact (Below.heap_alloc _ _ _ (by simp)).trans (heap_new rfl)
  unfold HeadIs at HW
  simp only [hv, Option.getD_some, Option.isSome_some] at HW
  unfold spotV
  have HWW := Lib.hid HW
  clear HW hpa hkl hcs hmf hv hpl hd y0 y2 z0
  go_enter Tryz.func97, Tryz.ntmps97
  go_wp2
  obtain ⟨q0, q2, z0, x0, x1, hl⟩ := HWW.out (.cells #[.int .i64 0, .int .i64 0, .int .i64 0] 178) _ (Below.refl _ _)
  clear hl
  go_quiet (fail)
  go_wp2
  have hlk : ∀ n : Nat, (Instr.lookup 174 (.map (some bm)) (.agg #[.int .i64 (i : Nat), .int .i64 (col : Nat)]) true).run Tryz.prog (((w.alloc (.cells #[.int .i64 (i : Nat), .int .i64 (col : Nat)] 181)).alloc (.cells #[.int .i64 0, .int .i64 0, .int .i64 0] 178)).drewN n) = .ok (.tuple #[.agg #[.int .i64 (a : Nat), .int .i64 (b : Nat), .int .i64 ch], .bool true]) (((w.alloc (.cells #[.int .i64 (i : Nat), .int .i64 (col : Nat)] 181)).alloc (.cells #[.int .i64 0, .int .i64 0, .int .i64 0] 178)).drewN n) :=
    fun n => (HWW.out _ _ (below_drewN (Below.refl _ _) n)).2.2.2.2.2
  have hlk2 : ∀ n : Nat, (Instr.lookup 174 (.map (some bm)) (.agg #[.int .i64 (i : Nat), .int .i64 (col : Nat)]) true).run Tryz.prog ((((w.alloc (.cells #[.int .i64 (i : Nat), .int .i64 (col : Nat)] 181)).alloc (.cells #[.int .i64 0, .int .i64 0, .int .i64 0] 178)).drewN n).alloc (.cells #[.int .i64 0, .int .i64 0, .int .i64 0] 178)) = .ok (.tuple #[.agg #[.int .i64 (a : Nat), .int .i64 (b : Nat), .int .i64 ch], .bool true]) ((((w.alloc (.cells #[.int .i64 (i : Nat), .int .i64 (col : Nat)] 181)).alloc (.cells #[.int .i64 0, .int .i64 0, .int .i64 0] 178)).drewN n).alloc (.cells #[.int .i64 0, .int .i64 0, .int .i64 0] 178)) :=
    fun n => (HWW.out (.cells #[.int .i64 0, .int .i64 0, .int .i64 0] 178) ((((w.alloc (.cells #[.int .i64 (i : Nat), .int .i64 (col : Nat)] 181)).alloc (.cells #[.int .i64 0, .int .i64 0, .int .i64 0] 178)).drewN n).alloc (.cells #[.int .i64 0, .int .i64 0, .int .i64 0] 178)) (by repeat (first | exact Below.refl _ _ | assumption | apply Below.drew | refine below_drewN ?_ _ | apply Below.setCell _ (by first | omega | (simp; done) | (simp; omega)) | apply Below.alloc _ (by first | omega | (simp; done) | (simp; omega))))).2.2.2.2.2
  go_region_held3 (fun w' => w'.cell? ⟨gs, 2, none⟩ = some (.map (some bm)) ∧ w'.cell? ⟨w.heap.size, 0, none⟩ = some (.int .i64 (i : Nat)) ∧ w'.cell? ⟨w.heap.size, 1, none⟩ = some (.int .i64 (col : Nat)))
    (exact ⟨(HWW.out (.cells #[.int .i64 0, .int .i64 0, .int .i64 0] 178) _ (by repeat (first | exact Below.refl _ _ | assumption | apply Below.drew | refine below_drewN ?_ _ | apply Below.setCell _ (by first | omega | (simp; done) | (simp; omega)) | apply Below.alloc _ (by first | omega | (simp; done) | (simp; omega))))).2.1, (HWW.out (.cells #[.int .i64 0, .int .i64 0, .int .i64 0] 178) _ (by repeat (first | exact Below.refl _ _ | assumption | apply Below.drew | refine below_drewN ?_ _ | apply Below.setCell _ (by first | omega | (simp; done) | (simp; omega)) | apply Below.alloc _ (by first | omega | (simp; done) | (simp; omega))))).2.2.2.1, (HWW.out (.cells #[.int .i64 0, .int .i64 0, .int .i64 0] 178) _ (by repeat (first | exact Below.refl _ _ | assumption | apply Below.drew | refine below_drewN ?_ _ | apply Below.setCell _ (by first | omega | (simp; done) | (simp; omega)) | apply Below.alloc _ (by first | omega | (simp; done) | (simp; omega))))).2.2.2.2.1⟩) (fail)
  clear hlk hlk2
  all_goals
    go_wp2
    simp [bodyPost, results, Tryz.results97, go_sem]
    exact ⟨rfl, (by repeat (first | exact Below.refl _ _ | assumption | apply Below.drew | refine below_drewN ?_ _ | apply Below.setCell _ (by first | omega | (simp; done) | (simp; omega)) | apply Below.alloc _ (by first | omega | (simp; done) | (simp; omega))))⟩

/-- At the end. -/
theorem cheap_end {l : List Nd} {gp : Nat} {A : Option Addr} {c : Nat} (w0 : World) (hpl : IsPlan w0 gp A c l) {gs bm W : Nat} {col : Nat} {w : World} (hcs : CS w0 gs gp bm W l w) :
    Calls Tryz.prog 97 #[.pointer (some ⟨gs, 0, none⟩), spotV l.length col] w (Ret w (.agg #[.int .i64 0, .int .i64 0, .int .i64 0])) := by
  have hsl := lt_of_heap hcs.blk
  have y0 := blk_cell (j := 0) hcs.blk
  simp at y0
  obtain ⟨gn, gd, ge, gf', gi, cf, ci, hpa⟩ := hpl.past hcs.bel
  have z0 := hpa.c0
  have hgp := hpa.lp
  have hne : ((l.length : Int) == (l.length : Int)) = true := by simp
  have hb1 : ∀ o1 o2, Below w.heap.size w ((w.alloc o1).alloc o2) := fun o1 o2 => ((Below.refl _ _).alloc (Nat.le_refl _) _).alloc (by simp) _
  have q0 : ∀ o1 o2, ((w.alloc o1).alloc o2).cell? ⟨gs, 0, none⟩ = some (.pointer (some ⟨gp, 0, none⟩)) := fun o1 o2 => ((hb1 o1 o2).cell (p := ⟨gs, 0, none⟩) hsl).trans y0
  have q1 : ∀ o1 o2, ((w.alloc o1).alloc o2).cell? ⟨gp, 0, none⟩ = some (.slice A l.length c) := fun o1 o2 => ((hb1 o1 o2).cell (p := ⟨gp, 0, none⟩) hgp).trans z0
  unfold spotV
  clear hpa hcs hpl y0 z0
  go_enter Tryz.func97, Tryz.ntmps97
  go_wp2
  go_quiet (fail)
  go_wp2
  simp [bodyPost, results, Tryz.results97, go_sem]
  exact ⟨rfl, (by repeat (first | exact Below.refl _ _ | assumption | apply Below.drew | refine below_drewN ?_ _ | apply Below.setCell _ (by first | omega | (simp; done) | (simp; omega)) | apply Below.alloc _ (by first | omega | (simp; done) | (simp; omega))))⟩

theorem course_cost (x y z : Value) (W : World) : (Instr.field 178 (.agg #[x, y, z]) 0).run Tryz.prog W = .ok (.agg #[x, y]) W := by kernel_rfl
theorem course_choice (x y z : Value) (W : World) : (Instr.field 178 (.agg #[x, y, z]) 1).run Tryz.prog W = .ok z W := by kernel_rfl
theorem blk_set3 {w : World} {b : Nat} {x y z p q r : Value} {T : TypeId} {fr : Nat × Nat} (h : w.heap[b]? = some (.cells #[x, y, z] T fr)) : (((w.setCell ⟨b, 0, none⟩ p).setCell ⟨b, 1, none⟩ q).setCell ⟨b, 2, none⟩ r).heap[b]? = some (.cells #[p, q, r] T fr) := by
  simp [World.setCell, Array.getElem?_modify, h]
theorem blk_gb' {a w : World} {b g : Nat} {o : Obj} (h : a.grownBy w (some b)) (hg : a.heap[g]? = some o) (hne : g ≠ b) : w.heap[g]? = some o := blk_gb hg h hne
def set3 (w : World) (b : Nat) (p q r : Value) : World := ((w.setCell ⟨b, 0, none⟩ p).setCell ⟨b, 1, none⟩ q).setCell ⟨b, 2, none⟩ r
theorem CS.set3_ {w0 w : World} {gs gp bm W b : Nat} {l : List Nd} (h : CS w0 gs gp bm W l w) (h1 : b ≠ gs) (h2 : b ≠ bm) (h3 : w0.heap.size ≤ b) (p q r : Value) : CS w0 gs gp bm W l (set3 w b p q r) :=
  ((h.set (p := ⟨b, 0, none⟩) h1 h2 h3 p).set (p := ⟨b, 1, none⟩) h1 h2 h3 q).set (p := ⟨b, 2, none⟩) h1 h2 h3 r
theorem gb_set3 {a w : World} {m b : Nat} (h : a.grownBy w (some m)) (hb : a.heap.size ≤ b) (p q r : Value) : a.grownBy (set3 w b p q r) (some m) :=
  gb_set (gb_set (gb_set h (p := ⟨b, 0, none⟩) hb p) (p := ⟨b, 1, none⟩) hb q) (p := ⟨b, 2, none⟩) hb r
theorem blk_far3 {w : World} {g b : Nat} {o : Obj} (h : w.heap[g]? = some o) (hne : g ≠ b) (p q r : Value) : (set3 w b p q r).heap[g]? = some o :=
  blk_set (blk_set (blk_set h ⟨b, 0, none⟩ p hne) ⟨b, 1, none⟩ q hne) ⟨b, 2, none⟩ r hne
theorem CS.store {w0 w : World} {gs gp bm W i col : Nat} {l : List Nd} (h : CS w0 gs gp bm W l w) {f : Value → Option Value} {val : Value} {o : Obj}
    (ho : ∀ W' : World, W'.heap[bm]? = w.heap[bm]? → (Instr.mapUpdate 174 (.map (some bm)) (.agg #[.int .i64 (i : Nat), .int .i64 (col : Nat)]) val).run Tryz.prog W' = .ok () (setBlock W' bm o) ∧ MapF Tryz.prog 181 (putF f (.agg #[.int .i64 (i : Nat), .int .i64 (col : Nat)]) val) bm (setBlock W' bm o) ∧ W'.grownBy (setBlock W' bm o) (some bm))
    (hk : KnownC l W (putF f (.agg #[.int .i64 (i : Nat), .int .i64 (col : Nat)]) val)) (n : Nat) : CS w0 gs gp bm W l (setBlock (w.drewN n) bm o) := by
  obtain ⟨_, h2, h3⟩ := ho (w.drewN n) rfl
  exact ⟨blk_gb' h3 h.blk h.ms, ⟨_, h2, hk⟩, h.lowS, h.lowM, (below_drewN h.bel n).grown h3 h.bel.size (fun k e => by cases e; exact h.lowM)⟩
theorem then_named {K : Act → World → Prop} {Q : Exit → Act → World → Prop} {e : Exit} {a : Act} {w : World} (S : World → Prop) (hS : S w) (h : ∀ w', S w' → Exit.then K Q e a w') : Exit.then K Q e a w := h w hS
theorem wp_named {P : Program} {c : Code} {Q : Exit → Act → World → Prop} {a : Act} {w : World} (S : World → Prop) (hS : S w) (h : ∀ w', S w' → Code.wp P c Q a w') : Code.wp P c Q a w := h w hS

set_option maxRecDepth 100000 in
set_option maxHeartbeats 8000000 in
theorem cheap_go {l : List Nd} {x : D} (hd : Doc l x) {gp : Nat} {A : Option Addr} {c : Nat} (w0 : World) (hpl : IsPlan w0 gp A c l) (hnl : Nds w0 w0.heap.size A l) {gs bm W : Nat} (hW : W ≤ 100) {K : List (D × Int)} (ih : ∀ y, y < szK K → CheapSaid w0 gs gp bm W l y) {i col : Nat} {w : World} (hrep : Rep l i K) (hcs : CS w0 gs gp bm W l w) (hcol : col + 3300 * szK K ≤ 2000000)
    {f : Value → Option Value} (hmf : MapF Tryz.prog 181 f bm w) (hv : f (spotV i col) = none) (hlt : i < l.length) (ho : l[i].op ≠ 8 ∧ l[i].op ≠ 9) :
    Calls Tryz.prog 97 #[.pointer (some ⟨gs, 0, none⟩), spotV i col] w (CheapTo w0 gs gp bm W l (courseV (bestC W K col) (choiceOf l i (bestU W K col))) w) := by
  have h400 := hd.len
  obtain ⟨kl, hkl⟩ := spot_key (i := i) (col := col) (by omega) (by omega)
  obtain ⟨txt, nx, K', hst, hwk, hpt, hpc⟩ := best_go (gp := gp) (A := A) (c := c) hd hrep hlt ho
  obtain ⟨hbu, hbc⟩ := best_step hst hwk W col
  have hch : choiceOf l i (bestU W K col) = 0 := by
    unfold choiceOf
    rw [dif_pos hlt, if_neg]
    rintro (h | h)
    · exact ho.1 h
    · exact ho.2 h
  have hsz := hst.2.1
  have htx := hst.2.2.1
  have hcl := colOf_le txt.data.toList col
  have hle := bestC_le W K' (colOf col txt.data.toList) (hd.text_le _ nx K' (Nat.le_refl _) hst.1)
  have ho0 := ovr_le W txt.data.toList col
  have hl0 := lns_le txt.data.toList
  have etx : txt.data.toList.length = txt.size := by simp
  have hcheap := ih (szK K') hsz K' (Nat.le_refl _) nx (colOf col txt.data.toList)
  have HREPN := Lib.hid hst.1
  have hputc := fun (W' : World) hb => put_any (gs := gs) (gp := gp) (bm := bm) (W := W) (col := col) hpt (by omega) (by omega) hW W' hb
  have hres : courseV (bestC W K col) (choiceOf l i (bestU W K col)) = .agg #[.int .i64 ((cAdd (cst W col txt.data.toList) (bestC W K' (colOf col txt.data.toList))).1 : Nat), .int .i64 ((cAdd (cst W col txt.data.toList) (bestC W K' (colOf col txt.data.toList))).2 : Nat), .int .i64 0] := by rw [hbc, hch]; rfl
  have hknown : ∀ f' : Value → Option Value, KnownC l W f' → KnownC l W (putF f' (.agg #[.int .i64 (i : Nat), .int .i64 (col : Nat)]) (.agg #[.int .i64 ((cAdd (cst W col txt.data.toList) (bestC W K' (colOf col txt.data.toList))).1 : Nat), .int .i64 ((cAdd (cst W col txt.data.toList) (bestC W K' (colOf col txt.data.toList))).2 : Nat), .int .i64 0])) := fun f' hk => by
    have := hk.put (i := i) (col := col) hrep
    rw [hres] at this
    exact this
  rw [hres]
  have hplus := fun (W' : World) => plus_any (cst W col txt.data.toList) (bestC W K' (colOf col txt.data.toList)) (by simp only [cst]; omega) (by simp only [cst]; omega) W'
  unfold courseV spotV at hcheap
  have hcb : (colOf col txt.data.toList) + 3300 * szK K' ≤ 2000000 := by omega
  generalize hchN : choiceOf l nx (bestU W K' (colOf col txt.data.toList)) = chN at *
  generalize hc0 : cst W col txt.data.toList = c0 at *
  generalize hc1 : bestC W K' (colOf col txt.data.toList) = c1 at *
  generalize hco : colOf col txt.data.toList = colN at *
  obtain ⟨c0a, c0b⟩ := c0
  obtain ⟨c1a, c1b⟩ := c1
  simp only [cAdd, Int.natCast_add] at *
  have HCH := Lib.hid hcheap; have HPUT := Lib.hid hputc; have HPL := Lib.hid hplus; have HKN := Lib.hid hknown; have HPC := Lib.hid hpc
  clear hcheap hputc hplus hknown hpc hst hwk hbu hbc hch hsz htx hcl hle ho0 hl0 etx hres hc0 hc1 hco hchN hpt ih
  have hml := hcs.mlt
  have hms := hcs.ms
  have hsl := lt_of_heap hcs.blk
  obtain ⟨gn, gd, ge, gf', gi, cf, ci, hpa⟩ := hpl.past hcs.bel
  have z0 := hpa.c0
  have hgp := hpa.lp
  have hne : ((i : Int) == (l.length : Int)) = false := by rw [beq_eq_false_iff_ne]; omega
  have y0 := blk_cell (j := 0) hcs.blk
  have y2 := blk_cell (j := 2) hcs.blk
  simp at y0 y2
  have hb1 : ∀ o1 o2, Below w.heap.size w ((w.alloc o1).alloc o2) := fun o1 o2 => ((Below.refl _ _).alloc (Nat.le_refl _) _).alloc (by simp) _
  have HW : ∀ (o2 : Obj) W', Below (((w.alloc (.cells #[.int .i64 (i : Nat), .int .i64 (col : Nat)] 181)).alloc o2).heap.size) ((w.alloc (.cells #[.int .i64 (i : Nat), .int .i64 (col : Nat)] 181)).alloc o2) W' → HeadIs gs gp bm A c l.length w.heap.size i col f W' := fun o2 W' hW' => by
    refine HeadIs.past (((hb1 _ _).cell (p := ⟨gs, 0, none⟩) hsl).trans y0) (((hb1 _ _).cell (p := ⟨gs, 2, none⟩) hsl).trans y2) (((hb1 _ _).cell (p := ⟨gp, 0, none⟩) hgp).trans z0) ?_ (hmf.below (hb1 _ _)) (by simp; omega) (by simp; omega) hkl hW'
    exact (Below.heap_alloc _ _ _ (by simp)).trans (heap_new rfl)
  unfold HeadIs at HW
  simp only [hv, Option.getD_none, Option.isSome_none] at HW
  unfold spotV
  have HBX : Hid (∀ W', Below (((w.alloc (.cells #[.int .i64 (i : Nat), .int .i64 (col : Nat)] 181)).alloc (.cells #[.int .i64 0, .int .i64 0, .int .i64 0] 178)).heap.size) ((w.alloc (.cells #[.int .i64 (i : Nat), .int .i64 (col : Nat)] 181)).alloc (.cells #[.int .i64 0, .int .i64 0, .int .i64 0] 178)) W' → W'.heap[w.heap.size]? = some (.cells #[.int .i64 (i : Nat), .int .i64 (col : Nat)] 181 (0, 0)) ∧ W'.heap[w.heap.size + 1]? = some (.cells #[.int .i64 0, .int .i64 0, .int .i64 0] 178 (0, 0))) :=
    Lib.hid (fun W' hb => ⟨blk_below ((Below.heap_alloc _ _ _ (by simp)).trans (heap_new rfl)) hb, blk_below (heap_new (by simp)) hb⟩)
  have HGS : Hid (∀ W', Below w.heap.size w W' → W'.heap[gs]? = some (.cells #[.pointer (some ⟨gp, 0, none⟩), .int .i64 (W : Nat), .map (some bm)] 176 (0, 0))) := Lib.hid (fun W' hb => blk_below hcs.blk hb)
  have HMF := Lib.hid hmf
  have HWW := Lib.hid HW
  have HCS := Lib.hid hcs; have HKL := Lib.hid hkl
  have HPN : Hid (∀ W', Below w.heap.size w W' → IsPlan W' gp A c l ∧ Nds W' W'.heap.size A l) := Lib.hid (fun W' hb => ⟨hpl.past (hcs.bel.trans (hb.mono hcs.bel.size)), hnl.past (hcs.bel.trans (hb.mono hcs.bel.size))⟩)
  clear HW hpa hkl hcs hmf hv hpl hd y0 y2 z0 hrep hnl
  go_enter Tryz.func97, Tryz.ntmps97
  go_wp2
  obtain ⟨q0, q2, z0, x0, x1, hl⟩ := HWW.out (.cells #[.int .i64 0, .int .i64 0, .int .i64 0] 178) _ (Below.refl _ _)
  clear hl
  go_quiet (fail)
  go_upto_region 3 with fail
  have hlk : ∀ n : Nat, (Instr.lookup 174 (.map (some bm)) (.agg #[.int .i64 (i : Nat), .int .i64 (col : Nat)]) true).run Tryz.prog (((w.alloc (.cells #[.int .i64 (i : Nat), .int .i64 (col : Nat)] 181)).alloc (.cells #[.int .i64 0, .int .i64 0, .int .i64 0] 178)).drewN n) = .ok (.tuple #[.agg #[.int .i64 0, .int .i64 0, .int .i64 0], .bool false]) (((w.alloc (.cells #[.int .i64 (i : Nat), .int .i64 (col : Nat)] 181)).alloc (.cells #[.int .i64 0, .int .i64 0, .int .i64 0] 178)).drewN n) :=
    fun n => (HWW.out _ _ (below_drewN (Below.refl _ _) n)).2.2.2.2.2
  have hlk2 : ∀ n : Nat, (Instr.lookup 174 (.map (some bm)) (.agg #[.int .i64 (i : Nat), .int .i64 (col : Nat)]) true).run Tryz.prog ((((w.alloc (.cells #[.int .i64 (i : Nat), .int .i64 (col : Nat)] 181)).alloc (.cells #[.int .i64 0, .int .i64 0, .int .i64 0] 178)).drewN n).alloc (.cells #[.int .i64 0, .int .i64 0, .int .i64 0] 178)) = .ok (.tuple #[.agg #[.int .i64 0, .int .i64 0, .int .i64 0], .bool false]) ((((w.alloc (.cells #[.int .i64 (i : Nat), .int .i64 (col : Nat)] 181)).alloc (.cells #[.int .i64 0, .int .i64 0, .int .i64 0] 178)).drewN n).alloc (.cells #[.int .i64 0, .int .i64 0, .int .i64 0] 178)) :=
    fun n => (HWW.out (.cells #[.int .i64 0, .int .i64 0, .int .i64 0] 178) ((((w.alloc (.cells #[.int .i64 (i : Nat), .int .i64 (col : Nat)] 181)).alloc (.cells #[.int .i64 0, .int .i64 0, .int .i64 0] 178)).drewN n).alloc (.cells #[.int .i64 0, .int .i64 0, .int .i64 0] 178)) (by repeat (first | exact Below.refl _ _ | assumption | apply Below.drew | refine below_drewN ?_ _ | apply Below.setCell _ (by first | omega | (simp; done) | (simp; omega)) | apply Below.alloc _ (by first | omega | (simp; done) | (simp; omega))))).2.2.2.2.2
  go_cut [6] from 31 to 39 (fun s6 wx => s6 = .bool false ∧ Below w.heap.size w wx ∧ wx.heap[w.heap.size]? = some (.cells #[.int .i64 (i : Nat), .int .i64 (col : Nat)] 181 (0, 0)) ∧ wx.heap[w.heap.size + 1]? = some (.cells #[.int .i64 0, .int .i64 0, .int .i64 0] 178 (0, 0)))
  case first =>
    go_region_held3 (fun w' => w'.cell? ⟨gs, 2, none⟩ = some (.map (some bm)) ∧ w'.cell? ⟨w.heap.size, 0, none⟩ = some (.int .i64 (i : Nat)) ∧ w'.cell? ⟨w.heap.size, 1, none⟩ = some (.int .i64 (col : Nat)))
      (exact ⟨(HWW.out (.cells #[.int .i64 0, .int .i64 0, .int .i64 0] 178) _ (by repeat (first | exact Below.refl _ _ | assumption | apply Below.drew | refine below_drewN ?_ _ | apply Below.setCell _ (by first | omega | (simp; done) | (simp; omega)) | apply Below.alloc _ (by first | omega | (simp; done) | (simp; omega))))).2.1, (HWW.out (.cells #[.int .i64 0, .int .i64 0, .int .i64 0] 178) _ (by repeat (first | exact Below.refl _ _ | assumption | apply Below.drew | refine below_drewN ?_ _ | apply Below.setCell _ (by first | omega | (simp; done) | (simp; omega)) | apply Below.alloc _ (by first | omega | (simp; done) | (simp; omega))))).2.2.2.1, (HWW.out (.cells #[.int .i64 0, .int .i64 0, .int .i64 0] 178) _ (by repeat (first | exact Below.refl _ _ | assumption | apply Below.drew | refine below_drewN ?_ _ | apply Below.setCell _ (by first | omega | (simp; done) | (simp; omega)) | apply Below.alloc _ (by first | omega | (simp; done) | (simp; omega))))).2.2.2.2.1⟩) (fail)
    all_goals
      go_wp2_with fail
      go_meet
      case rel => exact ⟨rfl, (by repeat (first | exact Below.refl _ _ | assumption | apply Below.drew | refine below_drewN ?_ _ | apply Below.setCell _ (by first | omega | (simp; done) | (simp; omega)) | apply Below.alloc _ (by first | omega | (simp; done) | (simp; omega)))), (HBX.out _ (by repeat (first | exact Below.refl _ _ | assumption | apply Below.drew | refine below_drewN ?_ _ | apply Below.setCell _ (by first | omega | (simp; done) | (simp; omega)) | apply Below.alloc _ (by first | omega | (simp; done) | (simp; omega))))).1, (HBX.out _ (by repeat (first | exact Below.refl _ _ | assumption | apply Below.drew | refine below_drewN ?_ _ | apply Below.setCell _ (by first | omega | (simp; done) | (simp; omega)) | apply Below.alloc _ (by first | omega | (simp; done) | (simp; omega))))).2⟩
  case rest =>
    obtain ⟨rfl, hBx, hX, hR⟩ := hcut
    clear hlk hlk2 x0 x1 z0 q0 q2 HBX HWW
    go_wp2_with fail
    refine wp_named (fun w3 => Below w.heap.size w w3 ∧ w3.heap[w.heap.size]? = some (.cells #[.int .i64 (i : Nat), .int .i64 (col : Nat)] 181 (0, 0)) ∧ w3.heap[w.heap.size + 1]? = some (.cells #[.int .i64 0, .int .i64 0, .int .i64 0] 178 (0, 0)) ∧ w3.heap[wc.heap.size]? = some (.cells #[.int .i64 0, .int .i64 0, .int .i64 (-1)] 178 (0, 0)))
      ⟨hBx.alloc hBx.size _, (Below.heap_alloc _ _ _ (lt_of_heap hX)).trans hX, (Below.heap_alloc _ _ _ (lt_of_heap hR)).trans hR, heap_new rfl⟩ ?_
    rintro w3 ⟨hB3, hX3, hR3, h73⟩
    obtain ⟨b7, hb7⟩ : ∃ b7, wc.heap.size = b7 := ⟨_, rfl⟩
    rw [hb7] at h73 ⊢
    have hb7' : w.heap.size + 2 ≤ b7 := by rw [← hb7]; exact lt_of_heap hR
    clear hb7 hX hR hBx
    have e0 := blk_cell (j := 0) (HGS.out w3 hB3)
    have e1 := blk_cell (j := 0) hX3
    simp at e0 e1
    go_region_held3 (fun w' => w'.cell? ⟨gs, 0, none⟩ = some (.pointer (some ⟨gp, 0, none⟩)) ∧ w'.cell? ⟨w.heap.size, 0, none⟩ = some (.int .i64 (i : Nat)))
      (first | exact ⟨e0, e1⟩ | exact ⟨e0', e1'⟩)
      ((go_at_call 51; refine (HPC.out _ (HPN.out _ (by repeat (first | exact Below.refl _ _ | assumption | apply Below.drew | refine below_drewN ?_ _ | apply Below.setCell _ (by first | omega | (simp; done) | (simp; omega)) | apply Below.alloc _ (by first | omega | (simp; done) | (simp; omega))))).1 (HPN.out _ (by repeat (first | exact Below.refl _ _ | assumption | apply Below.drew | refine below_drewN ?_ _ | apply Below.setCell _ (by first | omega | (simp; done) | (simp; omega)) | apply Below.alloc _ (by first | omega | (simp; done) | (simp; omega))))).2).mono ?_; rintro e w4 ⟨rfl, hB4⟩; have e0' := (hB4.cell (p := ⟨gs, 0, none⟩) (lt_of_heap (HGS.out w3 hB3))).trans e0; have e1' := (hB4.cell (p := ⟨w.heap.size, 0, none⟩) (lt_of_heap hX3)).trans e1))
    have hB34 : Below w3.heap.size w3 w4 := by first | exact hB4 | exact past_drew hB4 | exact past_drewN hB4
    have hB4' := hB3.trans (hB34.mono hB3.size)
    have hX4 := blk_below hX3 hB34
    have hR4 := blk_below hR3 hB34
    have h74 := blk_below h73 hB34
    have e2 := blk_cell (j := 1) hX4
    simp at e2
    clear hB4 hB34 hB3 hX3 hR3 h73 e0 e1 e0' e1'
    go_wp2_with (go_at_call 152; refine (HPUT.out _ (HGS.out _ hB4')).mono ?_; rintro e w5 ⟨rfl, hB5⟩)
    have hX5 := blk_below hX4 hB5
    have hR5 := blk_below hR4 hB5
    have h75 := blk_below h74 hB5
    have hB5' := hB4'.trans (hB5.mono hB4'.size)
    clear hX4 hR4 h74 hB4' hB5 e2
    refine wp_named (fun w6 => Below w.heap.size w w6 ∧ w6.heap[w.heap.size]? = some (.cells #[.int .i64 (i : Nat), .int .i64 (col : Nat)] 181 (0, 0)) ∧ w6.heap[w.heap.size + 1]? = some (.cells #[.int .i64 0, .int .i64 0, .int .i64 0] 178 (0, 0)) ∧ w6.heap[b7]? = some (.cells #[.int .i64 0, .int .i64 0, .int .i64 (-1)] 178 (0, 0)) ∧ w6.heap[w5.heap.size]? = some (.cells #[.int .i64 (c0a : Nat), .int .i64 (c0b : Nat)] 47 (0, 0)))
      ⟨hB5'.alloc hB5'.size _, (Below.heap_alloc _ _ _ (lt_of_heap hX5)).trans hX5, (Below.heap_alloc _ _ _ (lt_of_heap hR5)).trans hR5, (Below.heap_alloc _ _ _ (lt_of_heap h75)).trans h75, heap_new rfl⟩ ?_
    rintro w6 ⟨hB6, hX6, hR6, h76, h116⟩
    obtain ⟨b11, hb11⟩ : ∃ b11, w5.heap.size = b11 := ⟨_, rfl⟩
    rw [hb11] at h116 ⊢
    have hb11' : b7 < b11 := by rw [← hb11]; exact lt_of_heap h75
    clear hb11 hX5 hR5 h75 hB5'
    have hfld := course_cost
    have HC6 : Hid (∀ W', Below w6.heap.size w6 W' → CS w0 gs gp bm W l W') := Lib.hid (fun W' hb => (HCS.out.past hB6).past hb)
    have f0 := blk_cell (j := 0) h116
    have f1 := blk_cell (j := 1) h116
    simp at f0 f1
    go_region_held3 (fun w' => w'.cell? ⟨b11, 0, none⟩ = some (.int .i64 (c0a : Nat)) ∧ w'.cell? ⟨b11, 1, none⟩ = some (.int .i64 (c0b : Nat)))
      (first | exact ⟨f0, f1⟩ | exact ⟨f0', f1'⟩ | exact ⟨f0'', f1''⟩ | (refine ⟨?_, ?_⟩ <;> (rw [World.cell?_setCell_other _ _ _ _ (by first | (simp; done) | (simp; omega)), World.cell?_setCell_other _ _ _ _ (by first | (simp; done) | (simp; omega)), World.cell?_setCell_other _ _ _ _ (by first | (simp; done) | (simp; omega))]; first | exact f0'' | exact f1'')))
      (first
        | (go_at_call 97; refine (HCH.out _ HREPN.out (HC6.out _ (by repeat (first | exact Below.refl _ _ | assumption | apply Below.drew | refine below_drewN ?_ _ | apply Below.setCell _ (by first | omega | (simp; done) | (simp; omega)) | apply Below.alloc _ (by first | omega | (simp; done) | (simp; omega))))) hcb).mono ?_; rintro e w7 ⟨rfl, hcs7, hg7⟩; have HC7 := Lib.hid hcs7; have HG7 := Lib.hid hg7; have h117 := blk_gb' hg7 h116 (by omega); have f0' := (show w7.cell? ⟨b11, 0, none⟩ = some (.int .i64 (c0a : Nat)) from blk_cell (j := 0) h117); have f1' := (show w7.cell? ⟨b11, 1, none⟩ = some (.int .i64 (c0b : Nat)) from blk_cell (j := 1) h117); clear hcs7 hg7)
        | (go_at_call 153; refine (HPL.out _).mono ?_; rintro e w8 ⟨rfl, hB8⟩; have HB8 := Lib.hid hB8; have f0'' := (hB8.cell (p := ⟨b11, 0, none⟩) (lt_of_heap h117)).trans f0'; have f1'' := (hB8.cell (p := ⟨b11, 1, none⟩) (lt_of_heap h117)).trans f1'; have h78 := blk_below (blk_gb' HG7.out h76 (by omega)) hB8; have g0 : w8.cell? ⟨b7, 0, none⟩ = some (.int .i64 0) := blk_cell (j := 0) h78; have g1 : w8.cell? ⟨b7, 1, none⟩ = some (.int .i64 0) := blk_cell (j := 1) h78; have g2 : w8.cell? ⟨b7, 2, none⟩ = some (.int .i64 (-1)) := blk_cell (j := 2) h78; have k0 := blk_free (j := 0) h78; have k1 := blk_free (j := 1) h78; have k2 := blk_free (j := 2) h78; clear hB8))
    clear f0 f1 f0' f1' f0'' f1'' hfld
    have hB78 : Below w7.heap.size w7 w8 := by first | exact HB8.out | exact past_drew HB8.out | exact past_drewN HB8.out
    have gb7 : w.grownBy w7 (some bm) := grown_trans (gb_of_below (by repeat (first | exact Below.refl _ _ | assumption | apply Below.drew | refine below_drewN ?_ _ | apply Below.setCell _ (by first | omega | (simp; done) | (simp; omega)) | apply Below.alloc _ (by first | omega | (simp; done) | (simp; omega)))) bm) HG7.out
    have gb8 := gb_below gb7 hB78
    have hC8 := HC7.out.past hB78
    have hX8 := blk_below (blk_gb' HG7.out hX6 (by omega)) hB78
    have hR8 := blk_below (blk_gb' HG7.out hR6 (by omega)) hB78
    clear h117 g0 g1 g2 k0 k1 k2 HB8 HG7 HC7 gb7 hB78 hB6 hX6 hR6 h76 h116 HC6
    refine then_named (fun w9 => CS w0 gs gp bm W l w9 ∧ w.grownBy w9 (some bm) ∧ w9.heap[w.heap.size]? = some (.cells #[.int .i64 (i : Nat), .int .i64 (col : Nat)] 181 (0, 0)) ∧ w9.heap[w.heap.size + 1]? = some (.cells #[.int .i64 0, .int .i64 0, .int .i64 0] 178 (0, 0)) ∧ w9.heap[b7]? = some (.cells #[.int .i64 ((c0a : Int) + (c1a : Int)), .int .i64 ((c0b : Int) + (c1b : Int)), .int .i64 0] 178 (0, 0))) ?c1 ?c2
    case c1 => exact ⟨hC8.set3_ (by omega) (by omega) (by have := HCS.out.bel.size; omega) _ _ _, gb_set3 gb8 (by omega) _ _ _, blk_far3 hX8 (by omega) _ _ _, blk_far3 hR8 (by omega) _ _ _, blk_set3 h78⟩
    case c2 =>
      rintro w9 ⟨hC9, gb9, hX9, hR9, h79⟩
      clear hC8 gb8 hX8 hR8 h78
      have HC9 := Lib.hid hC9; have GB9 := Lib.hid gb9
      clear hC9 gb9
      go_wp2_with fail
      go_loopw [13] (fun s13 wr => s13 = .int .i64 0 ∧ wr = w9) (fun _ _ => 0)
      case atStart => exact ⟨rfl, rfl⟩
      case round =>
        obtain ⟨rfl, rfl⟩ := hrel
        go_wp2_with fail
        obtain ⟨f', hm', hk'⟩ := HC9.out.map
        obtain ⟨o, ho⟩ := hm'.store spotLaw Tryz.underlying174 HKL.out (.agg #[.int .i64 ((c0a : Int) + (c1a : Int)), .int .i64 ((c0b : Int) + (c1b : Int)), .int .i64 0])
        unfold spotV at ho
        have HO := Lib.hid ho
        have hk2 := HKN.out f' hk'
        have HK2 := Lib.hid hk2
        have hup : (Instr.mapUpdate 174 (.map (some bm)) (.agg #[.int .i64 (i : Nat), .int .i64 (col : Nat)]) (.agg #[.int .i64 ((c0a : Int) + (c1a : Int)), .int .i64 ((c0b : Int) + (c1b : Int)), .int .i64 0])).run Tryz.prog wr.drew = .ok () (setBlock wr.drew bm o) := (ho wr.drew rfl).1
        have v0 : wr.cell? ⟨gs, 2, none⟩ = some (.map (some bm)) := blk_cell (j := 2) HC9.out.blk
        have v1 : wr.cell? ⟨w.heap.size, 0, none⟩ = some (.int .i64 (i : Nat)) := blk_cell (j := 0) hX9
        have v2 : wr.cell? ⟨w.heap.size, 1, none⟩ = some (.int .i64 (col : Nat)) := blk_cell (j := 1) hX9
        have v3 : wr.cell? ⟨b7, 0, none⟩ = some (.int .i64 ((c0a : Int) + (c1a : Int))) := blk_cell (j := 0) h79
        have v4 : wr.cell? ⟨b7, 1, none⟩ = some (.int .i64 ((c0b : Int) + (c1b : Int))) := blk_cell (j := 1) h79
        have v5 : wr.cell? ⟨b7, 2, none⟩ = some (.int .i64 0) := blk_cell (j := 2) h79
        have far : ∀ (g : Nat) (x : Obj), g ≠ bm → wr.heap[g]? = some x → (setBlock wr.drew bm o).heap[g]? = some x := fun g x hne hg => blk_gb' (HO.out wr.drew rfl).2.2 hg hne
        have FAR := Lib.hid far
        have u0 : (setBlock wr.drew bm o).cell? ⟨gs, 2, none⟩ = some (.map (some bm)) := blk_cell (j := 2) (far gs _ hms HC9.out.blk)
        have u1 : (setBlock wr.drew bm o).cell? ⟨w.heap.size, 0, none⟩ = some (.int .i64 (i : Nat)) := blk_cell (j := 0) (far _ _ (by omega) hX9)
        have u2 : (setBlock wr.drew bm o).cell? ⟨w.heap.size, 1, none⟩ = some (.int .i64 (col : Nat)) := blk_cell (j := 1) (far _ _ (by omega) hX9)
        have u3 : (setBlock wr.drew bm o).cell? ⟨b7, 0, none⟩ = some (.int .i64 ((c0a : Int) + (c1a : Int))) := blk_cell (j := 0) (far _ _ (by omega) h79)
        have u4 : (setBlock wr.drew bm o).cell? ⟨b7, 1, none⟩ = some (.int .i64 ((c0b : Int) + (c1b : Int))) := blk_cell (j := 1) (far _ _ (by omega) h79)
        have u5' : (setBlock wr.drew bm o).cell? ⟨b7, 2, none⟩ = some (.int .i64 0) := blk_cell (j := 2) (far _ _ (by omega) h79)
        clear ho hk2 hk' hm' far
        go_region_held3 (fun w' => w'.cell? ⟨gs, 2, none⟩ = some (.map (some bm)) ∧ w'.cell? ⟨w.heap.size, 0, none⟩ = some (.int .i64 (i : Nat)) ∧ w'.cell? ⟨w.heap.size, 1, none⟩ = some (.int .i64 (col : Nat)) ∧ w'.cell? ⟨b7, 0, none⟩ = some (.int .i64 ((c0a : Int) + (c1a : Int))) ∧ w'.cell? ⟨b7, 1, none⟩ = some (.int .i64 ((c0b : Int) + (c1b : Int))) ∧ w'.cell? ⟨b7, 2, none⟩ = some (.int .i64 0))
          (first | exact ⟨v0, v1, v2, v3, v4, v5⟩ | exact ⟨u0, u1, u2, u3, u4, u5'⟩) (fail)
        clear hup u0 u1 u2 u3 u4 u5' v0 v1 v2 v3 v4 v5
        refine then_named (fun wy => CS w0 gs gp bm W l wy ∧ w.grownBy wy (some bm) ∧ wy.heap[w.heap.size + 1]? = some (.cells #[.int .i64 0, .int .i64 0, .int .i64 0] 178 (0, 0)) ∧ wy.heap[b7]? = some (.cells #[.int .i64 ((c0a : Int) + (c1a : Int)), .int .i64 ((c0b : Int) + (c1b : Int)), .int .i64 0] 178 (0, 0))) ⟨HC9.out.store HO.out HK2.out 1, grown_trans (gb_drew GB9.out) (HO.out wr.drew rfl).2.2, FAR.out _ _ (by omega) hR9, FAR.out _ _ (by omega) h79⟩ ?_
        rintro wy ⟨hCy, gby, hRy, h7y⟩
        have a0 := blk_cell (j := 0) h7y
        have a1 := blk_cell (j := 1) h7y
        have a2 := blk_cell (j := 2) h7y
        have a3 := blk_cell (j := 0) hRy
        have a4 := blk_cell (j := 1) hRy
        have a5 := blk_cell (j := 2) hRy
        have a6 := blk_free (j := 0) hRy
        have a7 := blk_free (j := 1) hRy
        have a8 := blk_free (j := 2) hRy
        simp at a0 a1 a2 a3 a4 a5
        have HCY := Lib.hid hCy; have GBY := Lib.hid gby; have HRY := Lib.hid hRy
        clear hCy gby hRy h7y hX9 hR9 h79
        go_wp2
        have b0 := blk_set3 (p := .int .i64 ((c0a : Int) + (c1a : Int))) (q := .int .i64 ((c0b : Int) + (c1b : Int))) (r := .int .i64 0) HRY.out
        have b1 := blk_cell (j := 0) b0
        have b2 := blk_cell (j := 1) b0
        have b3 := blk_cell (j := 2) b0
        simp at b1 b2 b3
        simp [bodyPost, results, Tryz.results97, go_sem, b1, b2, b3]
        refine ⟨?_, HCY.out.set3_ (by omega) (by omega) (by have := HCS.out.bel.size; omega) _ _ _, gb_set3 GBY.out (by omega) _ _ _⟩
        rfl
end Go.Proofs.YtddfdmopaeghnacGreatDoor
