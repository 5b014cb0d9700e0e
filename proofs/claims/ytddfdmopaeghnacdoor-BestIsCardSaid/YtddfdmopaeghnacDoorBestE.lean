/- Walks: following the cheapest course; best.Best. Conditions: the slice of nodes lies below the call's own blocks; way.Of's contract. -/
import Derived.Test.YtddfdmopaeghnacDoorBestD
import Derived.Test.YtddfdmopaeghnacDoorBldK
import Derived.Test.YtddfdmopaeghnacDoorOfT
namespace Go.Proofs.YtddfdmopaeghnacDoor
open Go.RowKit Go.Maps Go.ChangeMaps

theorem int_infoB : (Tryd.prog.info? 3).map (fun i => (i.zero, i.size, i.bytes)) = some (some (.int .i64 0), 1, 8) := by kernel_rfl

/-- At a choice the cheapest way takes one, which may be taken. -/
theorem best_take {l : List Nd} {x : D} (hd : Doc l x) {gp : Nat} {A : Option Addr} {c i : Nat} {K : List (D × Int)} (hr : Rep l i K) (hi : i < l.length) (ho : l[i].op = 8 ∨ l[i].op = 9) (W col : Nat) :
    ∃ (ch : Int) (t : ByteArray) (i' : Nat) (K' : List (D × Int)), (ch = 0 ∨ ch = 1) ∧ bestU W K col = ch :: bestU W K' (colOf col t.data.toList) ∧ NoNl t.data.toList ∧ t.size + 3300 * szK K' ≤ 3300 * szK K ∧ szK K' < szK K ∧ Rep l i' K' ∧
      textK K (bestU W K col) = t.data.toList ++ textK K' (bestU W K' (colOf col t.data.toList)) ∧
      (∀ w, IsPlan w gp A c l → Nds w w.heap.size A l → Calls Tryd.prog 47 #[.pointer (some ⟨gp, 0, none⟩), .int .i64 i] w (Ret w (.tuple #[.string .empty, .int .i64 (i : Nat), .bool true]))) ∧
      (∀ w, IsPlan w gp A c l → Nds w w.heap.size A l → Calls Tryd.prog 50 #[.pointer (some ⟨gp, 0, none⟩), .int .i64 i, .int .i64 ch] w (Ret w (.tuple #[.string t, .int .i64 (i' : Nat), .bool true]))) := by
  obtain ⟨t0, ok0, i0, i1, K0, K1, hp, h0, h1, hpc, hc0, hc1⟩ := best_ask (gp := gp) (A := A) (c := c) hd hr hi ho
  obtain ⟨hbp0, hbp1⟩ := best_pick hp (fun h => (h0 h).2.2) h1.2.2 W col
  by_cases hc : ok0 = true ∧ cLess (cAdd (cst W col ByteArray.empty.data.toList) (bestC W K1 (colOf col ByteArray.empty.data.toList))) (cAdd (cst W col t0.data.toList) (bestC W K0 (colOf col t0.data.toList))) = false
  · obtain ⟨hu, _⟩ := hbp0 hc
    obtain ⟨g1, g2, g3⟩ := h0 hc.1
    have e := hc.1
    subst e
    exact ⟨0, t0, i0, K0, .inl rfl, hu, g1, g2, hp.2.2.1, hp.1, by rw [hu]; exact textK_step (g3 _) (bestU_mem _ _ _), hpc, hc0⟩
  · obtain ⟨hu, _⟩ := hbp1 (by
      cases ok0 with
      | false => exact .inl rfl
      | true => exact .inr (by
          cases hq : cLess (cAdd (cst W col ByteArray.empty.data.toList) (bestC W K1 (colOf col ByteArray.empty.data.toList))) (cAdd (cst W col t0.data.toList) (bestC W K0 (colOf col t0.data.toList))) with
          | true => rfl
          | false => exact absurd ⟨rfl, hq⟩ hc))
    obtain ⟨g1, g2, g3⟩ := h1
    exact ⟨1, .empty, i1, K1, .inr rfl, hu, g1, g2, hp.2.2.2.1, hp.2.1, by rw [hu]; exact textK_step (g3 _) (bestU_mem _ _ _), hpc, hc1⟩

variable {w0 w w' : World} {gs gp bm W : Nat} {l : List Nd}
theorem CS.grown (h : CS w0 gs gp bm W l w) {row : Option Nat} (hg : w.grownBy w' row) (h1 : row ≠ some gs) (h2 : row ≠ some bm) (h3 : ∀ k, row = some k → w0.heap.size ≤ k) : CS w0 gs gp bm W l w' := by
  obtain ⟨f, g1, g2⟩ := h.map
  exact ⟨(hg.block gs (lt_of_heap h.blk) (Ne.symm h1)).trans h.blk, ⟨f, g1.kept hg (Ne.symm h2), g2⟩, h.lowS, h.lowM, h.bel.grown hg h.bel.size h3⟩
/-- Behind a write into a builder. -/
theorem CS.beside (h : CS w0 gs gp bm W l w) {B b : Nat} (hb : Beside b w w') (hB : Below B w w') (h1 : b ≠ gs) (h2 : b ≠ bm) (h0 : w0.heap.size ≤ B) : CS w0 gs gp bm W l w' := by
  obtain ⟨f, ⟨es, clock, g1, g2⟩, g3⟩ := h.map
  exact ⟨hb.blk h.blk (Ne.symm h1) (by decide), ⟨f, ⟨es, clock, hb bm _ g1 (Ne.symm h2) (fun _ _ e => by cases e), g2⟩, g3⟩, h.lowS, h.lowM, h.bel.trans (hB.mono h0)⟩
theorem CS.notCells (h : CS w0 gs gp bm W l w) {base : Nat} {e : TypeId} {size n : Nat} {v : Value} {xs : List Value} (hr : w.ownsRow base e size v n xs) : v.ownBlock ≠ some bm := by
  obtain ⟨f, ⟨es, clock, hb, _⟩, _⟩ := h.map
  rcases hr.2 with ⟨rfl, _⟩ | ⟨g, cap, cur, rfl, _, hg, _⟩
  · simp [Value.ownBlock]
  · intro e1
    simp [Value.ownBlock] at e1
    subst e1
    rw [hg] at hb
    cases hb
theorem CS.notBytes (h : CS w0 gs gp bm W l w) : ∀ c fz, w.heap[bm]? ≠ some (.cells c 5 fz) := by
  obtain ⟨f, ⟨es, clock, hb, _⟩, _⟩ := h.map
  intro c fz e1
  rw [e1] at hb
  cases hb
theorem row_notBytes {base : Nat} {e : TypeId} {size n : Nat} {v : Value} {xs : List Value} (hr : w.ownsRow base e size v n xs) (he : e ≠ 5) {g : Nat} (hg : v.ownBlock = some g) : ∀ c fz, w.heap[g]? ≠ some (.cells c 5 fz) := by
  rcases hr.2 with ⟨rfl, _⟩ | ⟨g', cap, cur, rfl, _, hgg, _⟩
  · simp [Value.ownBlock] at hg
  · simp [Value.ownBlock] at hg
    subst hg
    intro c fz e1
    rw [hgg] at e1
    cases e1
    exact he rfl
theorem row_base {base : Nat} {e : TypeId} {size n : Nat} {v : Value} {xs : List Value} (hr : w.ownsRow base e size v n xs) {g : Nat} (hg : v.ownBlock = some g) : base ≤ g := by
  rcases hr.2 with ⟨rfl, _⟩ | ⟨g', cap, cur, rfl, hb, _⟩
  · simp [Value.ownBlock] at hg
  · simp [Value.ownBlock] at hg
    omega

/-- Where a spot stands. -/
def spotOf (wr : World) : Value → Nat
  | .pointer (some p) => match wr.cell? p with
    | some (.int _ n) => n.toNat
    | _ => 0
  | _ => 0

/-- What the loop of follow has at its head. -/
structure FL (w0 : World) (gs gp bm W : Nat) (l : List Nd) (B : Nat) (UU : List Int) (TT : List UInt8) (q colq bx : Nat) (K : List (D × Int)) (ws : List Int) (acc : ByteArray) (v5 : Value) (wr : World) : Prop where
  spot : wr.heap[bx]? = some (.cells #[.int .i64 (q : Nat), .int .i64 (colq : Nat)] 71 (0, 0))
  own : wr.ownsRow B 3 1 v5 ws.length (ws.map (.int .i64))
  rep : Rep l q K
  text : acc.data.toList ++ textK K (bestU W K colq) = TT
  ways : ws ++ bestU W K colq = UU
  colb : colq + 3300 * szK K ≤ 2000000
  accb : acc.size + 3300 * szK K ≤ 1400000
  wsb : ws.length + szK K ≤ 400
  bld : BldK B B acc wr
  cs : CS w0 gs gp bm W l wr
  lowB : w0.heap.size ≤ B
  neS : gs < B
  neM : bm < B
  neX : B < bx
theorem FL.past {B q colq bx : Nat} {UU : List Int} {TT : List UInt8} {K : List (D × Int)} {ws : List Int} {acc : ByteArray} {v5 : Value} (h : FL w0 gs gp bm W l B UU TT q colq bx K ws acc v5 w) (hb : Below w.heap.size w w') : FL w0 gs gp bm W l B UU TT q colq bx K ws acc v5 w' :=
  ⟨blk_below h.spot hb, own_below h.own hb, h.rep, h.text, h.ways, h.colb, h.accb, h.wsb, h.bld.past hb, h.cs.past hb, h.lowB, h.neS, h.neM, h.neX⟩
/-- Behind a call of cheapest. -/
theorem FL.cheap {B q colq bx : Nat} {UU : List Int} {TT : List UInt8} {K : List (D × Int)} {ws : List Int} {acc : ByteArray} {v5 : Value} (h : FL w0 gs gp bm W l B UU TT q colq bx K ws acc v5 w) (hc : CS w0 gs gp bm W l w') (hg : w.grownBy w' (some bm)) : FL w0 gs gp bm W l B UU TT q colq bx K ws acc v5 w' := by
  have h1 := h.neM; have h2 := h.neX
  exact ⟨blk_gb h.spot hg (by omega), h.own.kept hg (.inr (h.cs.notCells h.own)), h.rep, h.text, h.ways, h.colb, h.accb, h.wsb, h.bld.grown hg (fun g e => by cases e; exact ⟨by omega, h.cs.notBytes⟩), hc, h.lowB, h.neS, h.neM, h.neX⟩

theorem spotOf_of {w : World} {b : Nat} {n : Int} {k : IntKind} {y : Value} {T : TypeId} {fr : Nat × Nat} (h : w.heap[b]? = some (.cells #[.int k n, y] T fr)) : spotOf w (.pointer (some ⟨b, 0, none⟩)) = n.toNat := by
  have := blk_cell (j := 0) h
  simp at this
  simp [spotOf, this]

theorem set_grownB (w : World) (g : Nat) (j : Nat) (v : Value) : w.grownBy (w.setCell ⟨g, j, none⟩ v) (some g) :=
  ⟨rfl, rfl, rfl, by simp [World.setCell], fun i _ hi => Below.heap_setCell _ _ _ _ (fun e => hi (by rw [e]))⟩
theorem own_sliceB {w : World} {base : Nat} {e : TypeId} {size n : Nat} {v : Value} {xs : List Value} (h : w.ownsRow base e size v n xs) : ∃ A c, v = .slice A n c := by
  rcases h.2 with ⟨rfl, rfl⟩ | ⟨g, cap, cur, rfl, _⟩
  · exact ⟨none, 0, rfl⟩
  · exact ⟨_, _, rfl⟩

/-- A round's end: the spot is stored, and copied for the next round. -/
theorem FL.turn {B q colq bx nx col' : Nat} {UU : List Int} {TT : List UInt8} {K' : List (D × Int)} {ws' : List Int} {acc' : ByteArray} {v5' : Value} (hx : w.heap[bx]? = some (.cells #[.int .i64 (q : Nat), .int .i64 (colq : Nat)] 71 (0, 0)))
    (ho : w.ownsRow B 3 1 v5' ws'.length (ws'.map (.int .i64))) (hr : Rep l nx K') (ht : acc'.data.toList ++ textK K' (bestU W K' col') = TT) (hw : ws' ++ bestU W K' col' = UU) (h1 : col' + 3300 * szK K' ≤ 2000000) (h2 : acc'.size + 3300 * szK K' ≤ 1400000) (h3 : ws'.length + szK K' ≤ 400)
    (hb : BldK B B acc' w) (hc : CS w0 gs gp bm W l w) (hl : w0.heap.size ≤ B) (hS : gs < B) (hM : bm < B) (hX : B < bx) (o : Obj) :
    FL w0 gs gp bm W l B UU TT nx col' (w.heap.size + 1) K' ws' acc' v5' ((((w.setCell ⟨bx, 0, none⟩ (.int .i64 (nx : Nat))).setCell ⟨bx, 1, none⟩ (.int .i64 (col' : Nat))).alloc o).alloc (.cells #[.int .i64 (nx : Nat), .int .i64 (col' : Nat)] 71)) := by
  have hsz : ((w.setCell ⟨bx, 0, none⟩ (.int .i64 (nx : Nat))).setCell ⟨bx, 1, none⟩ (.int .i64 (col' : Nat))).heap.size = w.heap.size := by simp [World.setCell]
  have hgr : w.grownBy ((w.setCell ⟨bx, 0, none⟩ (.int .i64 (nx : Nat))).setCell ⟨bx, 1, none⟩ (.int .i64 (col' : Nat))) (some bx) := grown_trans (set_grownB _ bx 0 _) (set_grownB _ bx 1 _)
  have hal : ∀ {W' : World} (o' : Obj), Below W'.heap.size W' (W'.alloc o') := fun _ => (Below.refl _ _).alloc (Nat.le_refl _) _
  have hcb : CS w0 gs gp bm W l ((w.setCell ⟨bx, 0, none⟩ (.int .i64 (nx : Nat))).setCell ⟨bx, 1, none⟩ (.int .i64 (col' : Nat))) :=
    hc.grown hgr (by intro e; cases e; omega) (by intro e; cases e; omega) (fun k e => by cases e; omega)
  have hbb : BldK B B acc' ((w.setCell ⟨bx, 0, none⟩ (.int .i64 (nx : Nat))).setCell ⟨bx, 1, none⟩ (.int .i64 (col' : Nat))) := hb.grown hgr (fun g e => by
    cases e
    refine ⟨by omega, fun c fz e2 => ?_⟩
    rw [hx] at e2
    cases e2)
  exact ⟨heap_new (by simp [hsz]), own_below (own_below (ho.kept hgr (.inr (row_blk ho hx (by decide)))) (hal _)) (hal _), hr, ht, hw, h1, h2, h3, (hbb.past (hal _)).past (hal _), (hcb.past (hal _)).past (hal _), hl, hS, hM, by have := lt_of_heap hx; omega⟩

/-- What follow answers. -/
def FollowTo (w0 : World) (W : Nat) (x : D) (e : Ending) (w' : World) : Prop := ∃ A c, e = .returned (.tuple #[.string (bT W x), .slice A (bU W x).length c]) ∧ NumsI w' w'.heap.size A (bU W x) ∧ (bU W x).length ≤ c ∧ Below w0.heap.size w0 w' ∧ ∀ p : Addr, A = some p → w0.heap.size ≤ p.block

set_option maxRecDepth 100000 in
set_option maxHeartbeats 16000000 in
theorem follow_any {l : List Nd} {x : D} (hd : Doc l x) {gp : Nat} {A : Option Addr} {c : Nat} (w0 : World) (hpl : IsPlan w0 gp A c l) (hnl : Nds w0 w0.heap.size A l) {gs bm W : Nat} (hW : W ≤ 100) {w : World} (hcs : CS w0 gs gp bm W l w) :
    Calls Tryd.prog 25 #[.pointer (some ⟨gs, 0, none⟩)] w (FollowTo w0 W x) := by
  obtain ⟨iI, hiI, hzI, hzI1, hzI2⟩ := info_parts int_infoB
  have h400 := hd.len
  have hszx : x.sz = l.length := hd.szx
  obtain ⟨UU, hUU⟩ : ∃ UU, UU = bU W x := ⟨_, rfl⟩
  obtain ⟨TT, hTT⟩ : ∃ TT, TT = textK [(x, 0)] (bU W x) := ⟨_, rfl⟩
  have hsl := lt_of_heap hcs.blk
  have hml := hcs.mlt
  have hlow := hcs.bel.size
  have HFL0 : Hid (FL w0 gs gp bm W l w.heap.size UU TT 0 0 (w.heap.size + 1) [(x, 0)] [] .empty (.slice none 0 0) ((w.alloc (.cells #[.pointer none, .slice none 0 0] 116)).alloc (.cells #[.int .i64 0, .int .i64 0] 71))) := by
    have ha : Below w.heap.size w (w.alloc (.cells #[.pointer none, .slice none 0 0] 116)) := (Below.refl _ _).alloc (Nat.le_refl _) _
    have hb : Below (w.alloc (.cells #[.pointer none, .slice none 0 0] 116)).heap.size (w.alloc (.cells #[.pointer none, .slice none 0 0] 116)) ((w.alloc (.cells #[.pointer none, .slice none 0 0] 116)).alloc (.cells #[.int .i64 0, .int .i64 0] 71)) := (Below.refl _ _).alloc (Nat.le_refl _) _
    exact ⟨heap_new (by simp), ⟨by simp, .inl ⟨rfl, rfl⟩⟩, hd.rep0, by rw [hTT]; simp [bU], by rw [hUU]; simp [bU], by simp only [szK]; omega, by simp only [szK, ByteArray.size_empty]; omega, by simp only [szK, List.length_nil]; omega, (BldK.new w).past hb, (hcs.past ha).past hb, hlow, hsl, hml, Nat.lt_succ_self _⟩
  have HD := Lib.hid hd; have HUU := Lib.hid hUU; have HTT := Lib.hid hTT
  have HPN : Hid (∀ W', Below w0.heap.size w0 W' → IsPlan W' gp A c l ∧ Nds W' W'.heap.size A l) := Lib.hid (fun W' hb => ⟨hpl.past hb, hnl.past hb⟩)
  have HCA := Lib.hid (fun z => cheap_any hd w0 hpl hnl (gs := gs) (bm := bm) hW z)
  clear hd hUU hTT hcs hpl hnl
  go_enter Tryd.func25, Tryd.ntmps25
  go_wp2_with fail
  go_loopw [5, 6] (fun s5 s6 wr => ∃ (q colq bx : Nat) (K : List (D × Int)) (ws : List Int) (acc : ByteArray), s6 = .pointer (some ⟨bx, 0, none⟩) ∧ FL w0 gs gp bm W l w.heap.size UU TT q colq bx K ws acc s5 wr) (fun _ s6 wr => leftOf l (spotOf wr s6))
  case atStart => exact ⟨0, 0, w.heap.size + 1, [(x, 0)], [], .empty, rfl, HFL0.out⟩
  case round =>
    obtain ⟨q, colq, bx, K, ws, acc, rfl, hF⟩ := hrel
    have HF := Lib.hid hF
    have HPW : Hid (∀ W', Below wr.heap.size wr W' → IsPlan W' gp A c l ∧ Nds W' W'.heap.size A l) := Lib.hid (fun W' hb => HPN.out W' (hF.cs.bel.trans (hb.mono hF.cs.bel.size)))
    obtain ⟨gn, gd, ge, gf', gi, cf, ci, hpa⟩ := (HPW.out wr (Below.refl _ _)).1
    have z0 := hpa.c0
    have e0 := blk_cell (j := 0) hF.cs.blk
    have e1 := blk_cell (j := 0) hF.spot
    simp at e0 e1
    have hneS := hF.neS; have hneM := hF.neM; have hneX := hF.neX; have hcolb := hF.colb; have haccb := hF.accb; have hwsb := hF.wsb
    obtain ⟨A5, c5, h5⟩ := own_sliceB hF.own
    subst h5
    clear hpa HFL0
    by_cases hlt : q < l.length
    · have k1 : decide (q < l.length) = true := decide_eq_true hlt
      have k2 : decide ((q : Int) < (l.length : Int)) = true := decide_eq_true (by omega)
      have hmlt : ∀ {nx : Nat} {K' : List (D × Int)}, Rep l nx K' → szK K' < szK K → leftOf l nx < leftOf l q := fun h1 h2 => by rw [leftOf_eq h1, leftOf_eq hF.rep]; exact h2
      by_cases hop : l[q].op = 8 ∨ l[q].op = 9
      · obtain ⟨ch, t, nx, K', h01, hbu, hnl, hts, hsz, hr', htx, hpc, hcc⟩ := best_take (gp := gp) (A := A) (c := c) HD.out hF.rep hlt hop W colq
        have HPC := Lib.hid hpc; have HCC0 := Lib.hid hcc; have HRP := Lib.hid hr'
        have HML : Hid (leftOf l nx < leftOf l q) := Lib.hid (hmlt hr' hsz)
        have HWY : Hid ((ws ++ [ch]) ++ bestU W K' (colOf colq t.data.toList) = UU) := Lib.hid (by rw [← hF.ways, hbu]; simp)
        have HTX : Hid ((acc ++ t).data.toList ++ textK K' (bestU W K' (colOf colq t.data.toList)) = TT) := Lib.hid (by rw [← hF.text, htx, toList_app]; simp)
        have hco := colOf_le t.data.toList colq
        have etx : t.data.toList.length = t.size := by simp
        rw [etx] at hco
        have HPT := Lib.hid (fun (W' : World) hb => put_any (gs := gs) (gp := gp) (bm := bm) (W := W) (col := colq) (.inl hnl) (by omega) (by omega) hW W' hb)
        have HCH := Lib.hid (fun (W' : World) (hc : CS w0 gs gp bm W l W') => HCA.out (szK K) K (Nat.le_refl _) q colq W' hF.rep hc hF.colb)
        have hcv : courseV (bestC W K colq) (choiceOf l q (bestU W K colq)) = .agg #[.int .i64 ((bestC W K colq).1 : Nat), .int .i64 ((bestC W K colq).2 : Nat), .int .i64 ch] := by
          unfold choiceOf courseV
          rw [dif_pos hlt, if_pos hop, hbu]
          rfl
        rw [hcv] at HCH
        unfold spotV at HCH
        have hws1 : (ws ++ [ch]).length = ws.length + 1 := by simp
        generalize colOf colq t.data.toList = colN at *
        generalize bestC W K colq = BC at *
        clear hpc hcc hr' hbu hnl htx etx hcv hmlt
        have hfld := course_choice
        clear hF
        go_wp2_with fail
        go_quiet (fail)
        go_wp2_with fail
        go_region_held3 (fun w' => w'.cell? ⟨gs, 0, none⟩ = some (.pointer (some ⟨gp, 0, none⟩)) ∧ w'.cell? ⟨bx, 0, none⟩ = some (.int .i64 (q : Nat)))
          (first | exact ⟨e0, e1⟩ | exact ⟨e0', e1'⟩)
          ((go_at_call 47; refine (HPC.out _ (HPW.out _ (by repeat (first | exact Below.refl _ _ | assumption | apply Below.drew | refine below_drewN ?_ _ | apply Below.setCell _ (by first | omega | (simp; done) | (simp; omega)) | apply Below.alloc _ (by first | omega | (simp; done) | (simp; omega))))).1 (HPW.out _ (by repeat (first | exact Below.refl _ _ | assumption | apply Below.drew | refine below_drewN ?_ _ | apply Below.setCell _ (by first | omega | (simp; done) | (simp; omega)) | apply Below.alloc _ (by first | omega | (simp; done) | (simp; omega))))).2).mono ?_; rintro e w4 ⟨rfl, hB4⟩; have e0' := (hB4.cell (p := ⟨gs, 0, none⟩) (lt_of_heap HF.out.cs.blk)).trans e0; have e1' := (hB4.cell (p := ⟨bx, 0, none⟩) (lt_of_heap HF.out.spot)).trans e1))
        have hB34 : Below wr.heap.size wr w4 := by first | exact hB4 | exact past_drew hB4 | exact past_drewN hB4
        have F4 := Lib.hid (HF.out.past hB34)
        have HSQ := Lib.hid HF.out.spot
        clear hB4 hB34 e0 e1 e0' e1'

        have s0 := blk_cell (j := 0) F4.out.spot
        have s1 := blk_cell (j := 1) F4.out.spot
        simp at s0 s1
        go_wp2_with (go_at_call 24; refine (HCH.out _ F4.out.cs).mono ?_; rintro e w5 ⟨rfl, hc5, hg5⟩)
        have F5 := Lib.hid (F4.out.cheap hc5 hg5)
        have HPW5 : Hid (∀ W', Below w5.heap.size w5 W' → IsPlan W' gp A c l ∧ Nds W' W'.heap.size A l) := Lib.hid (fun W' hb => HPN.out W' (hc5.bel.trans (hb.mono hc5.bel.size)))
        have e0 := blk_cell (j := 0) F5.out.cs.blk
        have e1 := blk_cell (j := 0) F5.out.spot
        simp at e0 e1
        clear hc5 hg5 s0 s1 F4 hfld
        go_region_held3 (fun w' => w'.cell? ⟨gs, 0, none⟩ = some (.pointer (some ⟨gp, 0, none⟩)) ∧ w'.cell? ⟨bx, 0, none⟩ = some (.int .i64 (q : Nat)))
          (first | exact ⟨e0, e1⟩ | exact ⟨e0', e1'⟩)
          ((go_at_call 50; refine (HCC0.out _ (HPW5.out _ (by repeat (first | exact Below.refl _ _ | assumption | apply Below.drew | refine below_drewN ?_ _ | apply Below.setCell _ (by first | omega | (simp; done) | (simp; omega)) | apply Below.alloc _ (by first | omega | (simp; done) | (simp; omega))))).1 (HPW5.out _ (by repeat (first | exact Below.refl _ _ | assumption | apply Below.drew | refine below_drewN ?_ _ | apply Below.setCell _ (by first | omega | (simp; done) | (simp; omega)) | apply Below.alloc _ (by first | omega | (simp; done) | (simp; omega))))).2).mono ?_; rintro e w6 ⟨rfl, hB6⟩; have e0' := (hB6.cell (p := ⟨gs, 0, none⟩) (lt_of_heap F5.out.cs.blk)).trans e0; have e1' := (hB6.cell (p := ⟨bx, 0, none⟩) (lt_of_heap F5.out.spot)).trans e1))
        have hB56 : Below w5.heap.size w5 w6 := by first | exact hB6 | exact past_drew hB6 | exact past_drewN hB6
        have F6 := Lib.hid (F5.out.past hB56)
        have hsz6 := F6.out.cs.bel.size
        have hB6s : w.heap.size ≤ w6.heap.size := Nat.le_of_lt (Nat.lt_trans hneX (lt_of_heap F6.out.spot))
        clear hB6 hB56 e0 e1 e0' e1' F5
        go_upto_region 10 with (at_builtin; refine wpList_app _ rfl (.tmp 53) (.tmp 55) _ rfl w.heap.size 3 iI (.int .i64 0) 1 8 Tryd.underlying25 hiI hzI hzI1 hzI2 rfl (by decide) _ ws.length _ rfl (World.ownsRow.alloc F6.out.own _) _ _ 1 1 [.int .i64 ch] rfl (Sl.lit (sz := 1) _ #[.int .i64 ch] 3 1 rfl) (by simp [Value.oneCell']) (by simp only [maxLen]; omega) (by omega) (by simp; omega) ?_; intro v7 w7 hown7 hg7 hat7; obtain ⟨A7, c7, hv7⟩ := own_sliceB hown7; subst hv7; have HG7 := Lib.hid hg7; have HW7 := Lib.hid hown7; clear hown7 hg7 hat7)
        have hF := F6.out
        have hal : Below w6.heap.size w6 (w6.alloc (.cells #[.int .i64 ch] 3)) := (Below.refl _ _).alloc (Nat.le_refl _) _
        have F6a := hF.past hal
        have hrow := F6a.own
        have HCC := Lib.hid (F6a.cs.grown HG7.out (row_blk hrow F6a.cs.blk (by decide)) (F6a.cs.notCells hrow) (fun k e => by have := row_base hrow e; omega))
        have HSP := Lib.hid (blk_app hrow F6a.spot (by decide) HG7.out)
        have HOW : Hid (w7.ownsRow w.heap.size 3 1 (.slice A7 (ws.length + 1) c7) (ws ++ [ch]).length ((ws ++ [ch]).map (.int .i64))) := Lib.hid (by rw [hws1, List.map_append]; exact HW7.out)
        have HBL := Lib.hid (F6a.bld.grown HG7.out (fun g e => ⟨fun e2 => row_blk hrow (F6a.bld.blk.2.2.choose_spec) (by decide) (e2 ▸ e), row_notBytes hrow (by decide) e⟩))
        clear hal F6a hrow HG7 HW7 F6 hsz6 hB6s
        go_wp2_with (first
          | (go_at_call 52; refine (bldk_write _ _ _ _ _ HBL.out (by omega)).mono ?_; rintro e w8 ⟨rfl, hb8, hB8, hO8, hz8⟩; have HO8 := Lib.hid hO8; have HB8 := Lib.hid hB8; have HBL8 := Lib.hid hb8; have hx8 := hO8.blk HSP.out (by omega) (by decide); have HX8 := Lib.hid hx8; have x1 := blk_cell (j := 1) hx8; simp at x1; have HC8 := Lib.hid (HCC.out.beside hO8 hB8 (by omega) (by omega) hF.lowB); clear hb8 hB8 hO8 hx8)
          | (go_at_call 48; refine (HPT.out _ HC8.out.blk).mono ?_; rintro e w9 ⟨rfl, hB9⟩; have hx9 := blk_below HX8.out hB9; have HX9 := Lib.hid hx9; have m0 := blk_cell (j := 0) hx9; have m1 := blk_cell (j := 1) hx9; have m2 := blk_free (j := 0) hx9; have m3 := blk_free (j := 1) hx9; simp at m0 m1; have HB9 := Lib.hid hB9; have hlx := lt_of_heap hx9; clear hx9 hB9))
        have hC9 := HC8.out.past HB9.out
        have hOw8 := HO8.out.own HOW.out (by intro e1; exact row_blk HOW.out (HBL.out.blk.2.2.choose_spec) (by decide) e1) (by decide)
        have hOw9 := own_below hOw8 HB9.out
        have hBl9 := HBL8.out.past HB9.out
        have hlow := HC8.out.bel.size
        have FIN := Lib.hid (fun (o : Obj) => FL.turn (nx := nx) (col' := _) HX9.out hOw9 HRP.out HTX.out HWY.out (by omega) (by rw [ByteArray.size_append]; omega) (by omega) hBl9 hC9 hF.lowB hF.neS hF.neM hF.neX o)
        go_roundw
        case rel => exact ⟨nx, _, _, K', ws ++ [ch], _, rfl, FIN.out _⟩
        case measure =>
          rw [spotOf_of HSQ.out]
          refine Nat.lt_of_le_of_lt (Nat.le_of_eq ?_) HML.out
          rw [spotOf_of (FIN.out _).spot]
          simp

      · obtain ⟨t, nx, K', hst, hwk, hpt, hpc⟩ := best_go (gp := gp) (A := A) (c := c) HD.out hF.rep hlt ⟨fun h => hop (.inl h), fun h => hop (.inr h)⟩
        obtain ⟨hbu, _⟩ := best_step hst hwk W colq
        have hsz := hst.2.1
        have hts := hst.2.2.1
        have HPC := Lib.hid hpc; have HRP := Lib.hid hst.1
        have HML : Hid (leftOf l nx < leftOf l q) := Lib.hid (hmlt hst.1 hsz)
        have HWY : Hid (ws ++ bestU W K' (colOf colq t.data.toList) = UU) := Lib.hid (by rw [← hF.ways, hbu])
        have HTX : Hid ((acc ++ t).data.toList ++ textK K' (bestU W K' (colOf colq t.data.toList)) = TT) := Lib.hid (by rw [← hF.text, textK_step (hst.2.2.2 _) (hwk ▸ bestU_mem W K colq), toList_app, hbu]; simp)
        have hco := colOf_le t.data.toList colq
        have etx : t.data.toList.length = t.size := by simp
        rw [etx] at hco
        have HPT := Lib.hid (fun (W' : World) hb => put_any (gs := gs) (gp := gp) (bm := bm) (W := W) (col := colq) hpt (by omega) (by omega) hW W' hb)
        generalize colOf colq t.data.toList = colN at *
        clear hpc hst hwk hpt hbu etx hmlt
        clear hF
        go_wp2_with fail
        go_quiet (fail)
        go_wp2_with fail
        go_region_held3 (fun w' => w'.cell? ⟨gs, 0, none⟩ = some (.pointer (some ⟨gp, 0, none⟩)) ∧ w'.cell? ⟨bx, 0, none⟩ = some (.int .i64 (q : Nat)))
          (first | exact ⟨e0, e1⟩ | exact ⟨e0', e1'⟩)
          ((go_at_call 47; refine (HPC.out _ (HPW.out _ (by repeat (first | exact Below.refl _ _ | assumption | apply Below.drew | refine below_drewN ?_ _ | apply Below.setCell _ (by first | omega | (simp; done) | (simp; omega)) | apply Below.alloc _ (by first | omega | (simp; done) | (simp; omega))))).1 (HPW.out _ (by repeat (first | exact Below.refl _ _ | assumption | apply Below.drew | refine below_drewN ?_ _ | apply Below.setCell _ (by first | omega | (simp; done) | (simp; omega)) | apply Below.alloc _ (by first | omega | (simp; done) | (simp; omega))))).2).mono ?_; rintro e w4 ⟨rfl, hB4⟩; have e0' := (hB4.cell (p := ⟨gs, 0, none⟩) (lt_of_heap HF.out.cs.blk)).trans e0; have e1' := (hB4.cell (p := ⟨bx, 0, none⟩) (lt_of_heap HF.out.spot)).trans e1))
        have hB34 : Below wr.heap.size wr w4 := by first | exact hB4 | exact past_drew hB4 | exact past_drewN hB4
        have F4 := Lib.hid (HF.out.past hB34)
        have HSQ := Lib.hid HF.out.spot
        clear hB4 hB34 e0 e1 e0' e1'

        have hF := F4.out
        have HCC := Lib.hid hF.cs; have HSP := Lib.hid hF.spot; have HOW := Lib.hid hF.own; have HBL := Lib.hid hF.bld
        clear F4
        go_wp2_with (first
          | (go_at_call 52; refine (bldk_write _ _ _ _ _ HBL.out (by omega)).mono ?_; rintro e w8 ⟨rfl, hb8, hB8, hO8, hz8⟩; have HO8 := Lib.hid hO8; have HB8 := Lib.hid hB8; have HBL8 := Lib.hid hb8; have hx8 := hO8.blk HSP.out (by omega) (by decide); have HX8 := Lib.hid hx8; have x1 := blk_cell (j := 1) hx8; simp at x1; have HC8 := Lib.hid (HCC.out.beside hO8 hB8 (by omega) (by omega) hF.lowB); clear hb8 hB8 hO8 hx8)
          | (go_at_call 48; refine (HPT.out _ HC8.out.blk).mono ?_; rintro e w9 ⟨rfl, hB9⟩; have hx9 := blk_below HX8.out hB9; have HX9 := Lib.hid hx9; have m0 := blk_cell (j := 0) hx9; have m1 := blk_cell (j := 1) hx9; have m2 := blk_free (j := 0) hx9; have m3 := blk_free (j := 1) hx9; simp at m0 m1; have HB9 := Lib.hid hB9; have hlx := lt_of_heap hx9; clear hx9 hB9))
        have hC9 := HC8.out.past HB9.out
        have hOw8 := HO8.out.own HOW.out (by intro e1; exact row_blk HOW.out (HBL.out.blk.2.2.choose_spec) (by decide) e1) (by decide)
        have hOw9 := own_below hOw8 HB9.out
        have hBl9 := HBL8.out.past HB9.out
        have hlow := HC8.out.bel.size
        have FIN := Lib.hid (fun (o : Obj) => FL.turn (nx := nx) (col' := _) HX9.out hOw9 HRP.out HTX.out HWY.out (by omega) (by rw [ByteArray.size_append]; omega) (by omega) hBl9 hC9 hF.lowB hF.neS hF.neM hF.neX o)
        go_roundw
        case rel => exact ⟨nx, _, _, K', ws, _, rfl, FIN.out _⟩
        case measure =>
          rw [spotOf_of HSQ.out]
          refine Nat.lt_of_le_of_lt (Nat.le_of_eq ?_) HML.out
          rw [spotOf_of (FIN.out _).spot]
          simp

    · obtain ⟨rfl, hql⟩ := hF.rep.ge (by omega)
      have k1 : decide (q < l.length) = false := decide_eq_false hlt
      have k2 : decide ((q : Int) < (l.length : Int)) = false := decide_eq_false (by omega)
      have hu0 := (best_end W colq).1
      have hws : ws = UU := by have := hF.ways; rw [hu0] at this; simpa using this
      have hac : acc = bT W x := by
        have := hF.text
        rw [hu0] at this
        have e3 : textK ([] : List (D × Int)) [] = [] := rfl
        rw [e3, List.append_nil, HTT.out, ← bT_toList] at this
        exact ByteArray.ext (Array.ext' this)
      subst hac
      have HWS := Lib.hid hws
      clear hF hws hu0 hql
      go_wp2_with fail
      go_quiet (fail)
      go_wp2_with (go_at_call 53; refine (bldk_string _ _ _ _ (HF.out.bld.past (by repeat (first | exact Below.refl _ _ | assumption | apply Below.drew | refine below_drewN ?_ _ | apply Below.setCell _ (by first | omega | (simp; done) | (simp; omega)) | apply Below.alloc _ (by first | omega | (simp; done) | (simp; omega)))))).mono ?_; rintro e w5 ⟨rfl, hB5, hO5⟩)
      go_ret2
      refine ⟨A5, c5, ?_, ?_, ?_, ?_, ?_⟩
      · rw [HWS.out, HUU.out]; rfl
      · have e4 : bU W x = ws := by rw [HWS.out, HUU.out]
        rw [e4]
        have ho : w5.ownsRow w.heap.size 3 1 (.slice A5 ws.length c5) ws.length (ws.map (.int .i64)) := hO5.own (own_below HF.out.own (by repeat (first | exact Below.refl _ _ | assumption | apply Below.drew | refine below_drewN ?_ _ | apply Below.setCell _ (by first | omega | (simp; done) | (simp; omega)) | apply Below.alloc _ (by first | omega | (simp; done) | (simp; omega))))) (fun e1 => row_blk HF.out.own (HF.out.bld.blk.2.2.choose_spec) (by decide) e1) (by decide)
        exact NumsI.own ho rfl (by simp only [maxLen]; omega)
      · have e4 : bU W x = ws := by rw [HWS.out, HUU.out]
        rw [e4]
        exact own_cap HF.out.own
      · have hb0 := HF.out.cs.bel
        exact Below.trans (by repeat (first | exact Below.refl _ _ | assumption | apply Below.drew | refine below_drewN ?_ _ | apply Below.setCell _ (by first | omega | (simp; done) | (simp; omega)) | apply Below.alloc _ (by first | omega | (simp; done) | (simp; omega)))) (hB5.mono HF.out.lowB)
      · rintro p rfl
        exact Nat.le_trans HF.out.lowB (row_base HF.out.own rfl)

/-- What best.Best answers of a doc that may be, at a width that may be. -/
def BestIs_ (W : Nat) (x : D) (p1 p2 : Nat) (w : World) (e : Ending) (w' : World) : Prop := ∃ A c, e = .returned (.tuple #[.string (bT W x), .slice A (bU W x).length c, .agg #[.int .i64 (p1 : Nat), .int .i64 (p2 : Nat)], .nilIface]) ∧ NumsI w' w'.heap.size A (bU W x) ∧ (bU W x).length ≤ c ∧ Below w.heap.size w w'
/-- .. and the way lies in a block of the call's own. -/
def BestIsF (W : Nat) (x : D) (p1 p2 : Nat) (w : World) (e : Ending) (w' : World) : Prop := ∃ A c, e = .returned (.tuple #[.string (bT W x), .slice A (bU W x).length c, .agg #[.int .i64 (p1 : Nat), .int .i64 (p2 : Nat)], .nilIface]) ∧ NumsI w' w'.heap.size A (bU W x) ∧ (bU W x).length ≤ c ∧ Below w.heap.size w w' ∧ ∀ p : Addr, A = some p → w.heap.size ≤ p.block
def BestToF (W : Nat) (x : D) (w : World) (e : Ending) (w' : World) : Prop := BestIsF W x (bC W x).1 (bC W x).2 w e w'
def BestTo (W : Nat) (x : D) (w : World) (e : Ending) (w' : World) : Prop := BestIs_ W x (bC W x).1 (bC W x).2 w e w'

theorem cell_same {w : World} {p q : Addr} {v : Value} (h : w.cell? p = some v) : (w.setCell p v).cell? q = w.cell? q := by
  by_cases e : q = p
  · subst e
    rw [h]
    exact World.cell?_setCell_same' _ _ _ (by rw [h]; rfl)
  · exact World.cell?_setCell_other _ _ _ _ (Ne.symm e)
theorem nums_same {w : World} {A : Option Addr} {u : List Int} (h : NumsI w w.heap.size A u) {p : Addr} {v : Value} (hp : w.cell? p = some v) : NumsI (w.setCell p v) (w.setCell p v).heap.size A u := by
  have hs : (w.setCell p v).heap.size = w.heap.size := by simp [World.setCell]
  rw [hs]
  exact ⟨h.1.keep (fun q _ => cell_same hp), h.2⟩
theorem NumsI.drewN {w : World} {A : Option Addr} {u : List Int} (h : NumsI w w.heap.size A u) (n : Nat) : NumsI (w.drewN n) (w.drewN n).heap.size A u := h

/-- A search told from a world in which a cell below it has turned. -/
theorem CS.rebase {w0 w : World} {gs gp bm W : Nat} {l : List Nd} (h : CS w0 gs gp bm W l w) {p : Addr} (hp : p.block < w0.heap.size) (v : Value) : CS (w0.setCell p v) gs gp bm W l (w.setCell p v) := by
  obtain ⟨f, g1, g2⟩ := h.map
  have hs : (w0.setCell p v).heap.size = w0.heap.size := by simp [World.setCell]
  have hl := h.lowS; have hm := h.lowM
  refine ⟨blk_set h.blk p v (by omega), ⟨f, g1.of_block ?_, g2⟩, by omega, by omega, ⟨h.bel.os, h.bel.tape, h.bel.output, by simpa [World.setCell] using h.bel.size, fun i hi => ?_⟩⟩
  · simp [World.setCell, Array.getElem?_modify]
    intro e; omega
  · have := h.bel.block i (by omega)
    simp only [World.setCell, Array.getElem?_modify]
    rw [this]

theorem Nds.set {w : World} {A : Option Addr} {l : List Nd} {B : Nat} (h : Nds w B A l) (p : Addr) (hp : B ≤ p.block) (v : Value) : Nds (w.setCell p v) B A l :=
  ⟨h.1.keep (fun q hq => World.cell?_setCell_other _ _ _ _ (fun e => by subst e; omega)), h.2⟩
theorem Nds.more {w : World} {A : Option Addr} {l : List Nd} {B B' : Nat} (h : Nds w B A l) (hB : B ≤ B') : Nds w B' A l := ⟨h.1.more hB, h.2⟩

set_option maxRecDepth 100000 in
set_option maxHeartbeats 4000000 in
theorem best_goodF (hof : OfFromSaid) {l : List Nd} {x : D} (hd : Doc l x) (A : Option Addr) (n c : Nat) (hn : l.length = n) (W : Nat) {width : Int} (hwd : width = W) (hW : W ≤ 100) (w : World) (hl : Nds w w.heap.size A l) :
    Calls Tryd.prog 7 #[.slice A n c, .int .i64 width] w (BestToF W x w) := by
  subst hn hwd
  have hchk := hd.check
  have hFO := fun (w0 : World) (gp : Nat) (hpl : IsPlan w0 gp A c l) (hnl : Nds w0 w0.heap.size A l) (gs bm : Nat) (w' : World) (hcs : CS w0 gs gp bm W l w') => follow_any hd w0 hpl hnl hW hcs
  have hCH := fun (w0 : World) (gp : Nat) (hpl : IsPlan w0 gp A c l) (hnl : Nds w0 w0.heap.size A l) (gs bm : Nat) (w' : World) (hcs : CS w0 gs gp bm W l w') => cheap_any hd w0 hpl hnl hW (szK [(x, 0)]) [(x, 0)] (Nat.le_refl _) 0 0 w' hd.rep0 hcs (by have := hd.len; have := hd.szx; simp only [szK]; omega)
  have hcv : courseV (bestC W [(x, 0)] 0) (choiceOf l 0 (bestU W [(x, 0)] 0)) = .agg #[.int .i64 ((bC W x).1 : Nat), .int .i64 ((bC W x).2 : Nat), .int .i64 (choiceOf l 0 (bestU W [(x, 0)] 0))] := rfl
  rw [hcv] at hCH
  unfold spotV at hCH
  generalize choiceOf l 0 (bestU W [(x, 0)] 0) = ch at *
  unfold BestToF
  obtain ⟨p1, hp1⟩ : ∃ p1, p1 = (bC W x).1 := ⟨_, rfl⟩
  obtain ⟨p2, hp2⟩ : ∃ p2, p2 = (bC W x).2 := ⟨_, rfl⟩
  rw [← hp1, ← hp2] at hCH ⊢
  have HFO := Lib.hid hFO; have HCH := Lib.hid hCH; have HN := Lib.hid hl; have HD := Lib.hid hd; have HOF := Lib.hid hof; have HCK := Lib.hid hchk
  have k1 : decide ((W : Int) < 0) = false := decide_eq_false (by omega)
  have k2 : decide (100 < (W : Int)) = false := decide_eq_false (by omega)
  have hmm := @run_makeMap Tryd.prog
  have hfld := course_cost
  have hr0 : (w.alloc (.cells #[.int .i64 0, .int .i64 0] 27)).heap[w.heap.size]? = some (.cells #[.int .i64 0, .int .i64 0] 27 (0, 0)) := heap_new rfl
  have HR0 := Lib.hid hr0
  clear hFO hCH hl hd hof hcv hp1 hp2 hr0 hchk
  go_enter Tryd.func7, Tryd.ntmps7
  go_wp2_with (first
    | (go_at_call 22; refine (check_any l A c _ (HN.out.past (by repeat (first | exact Below.refl _ _ | assumption | apply Below.drew | refine below_drewN ?_ _ | apply Below.setCell _ (by first | omega | (simp; done) | (simp; omega)) | apply Below.alloc _ (by first | omega | (simp; done) | (simp; omega)))))).mono ?_; rintro e w1 ⟨rfl, hB1⟩; rw [← errV_zero HCK.out]; have hB1' : Below w.heap.size w w1 := ((Below.refl _ _).alloc (Nat.le_refl _) _).trans (hB1.mono (by simp)); have HR1 := Lib.hid (blk_below HR0.out hB1); have HB1 := Lib.hid hB1'; have HN1 := Lib.hid (HN.out.past hB1'); clear hB1 hB1')
    | (go_at_call 23; refine (HOF.out l x A c _ HN1.out HD.out).mono ?_; rintro e w2 ⟨gp, rfl, hpf, hB2⟩; have HR2 := Lib.hid (blk_below HR1.out hB2); have HN2 := Lib.hid (HN1.out.past hB2); have HPF := Lib.hid hpf; have HB2 := Lib.hid hB2; clear hpf hB2)
    | (go_at_call 24; refine (HCH.out w2 gp HPF.out.plan HN2.out _ _ _ (CS.new w2 gp W l)).mono ?_; rintro e w4 ⟨rfl, hc4, hg4⟩; have hR4 := blk_gb' hg4 (blk_below (blk_below HR2.out ((Below.refl _ _).alloc (Nat.le_refl _) (.map #[] 0))) ((Below.refl _ _).alloc (Nat.le_refl _) _)) (by have := lt_of_heap HR2.out; omega); have HR4 := Lib.hid hR4; have HC4 := Lib.hid hc4; have m0 := blk_cell (j := 0) hR4; have m1 := blk_cell (j := 1) hR4; have m2 := blk_free (j := 0) hR4; have m3 := blk_free (j := 1) hR4; simp at m0 m1; clear hc4 hg4 hR4))
  have hRlt : w.heap.size < w1.heap.size := lt_of_heap HR1.out
  have hw12 := HB2.out.size
  have hB12 : Below w.heap.size w w2 := HB1.out.trans (HB2.out.mono HB1.out.size)
  have HNB : Nds w2 w.heap.size A l := ⟨HN.out.1.below hB12 (Nat.le_refl _), HN.out.2⟩
  obtain ⟨w0, hw0⟩ : ∃ w0, w0 = (w2.setCell ⟨w.heap.size, 0, none⟩ (.int .i64 (p1 : Nat))).setCell ⟨w.heap.size, 1, none⟩ (.int .i64 (p2 : Nat)) := ⟨_, rfl⟩
  have hz0 : w0.heap.size = w2.heap.size := by rw [hw0]; simp [World.setCell]
  have hN0 : Nds w0 w0.heap.size A l := by
    rw [hz0, hw0]
    exact ((HNB.set ⟨w.heap.size, 0, none⟩ (Nat.le_refl _) _).set ⟨w.heap.size, 1, none⟩ (Nat.le_refl _) _).more (by omega)
  have hP0 : IsPlan w0 gp A c l := by
    rw [hw0]
    exact ((HPF.out.set ⟨w.heap.size, 0, none⟩ hRlt _).set ⟨w.heap.size, 1, none⟩ hRlt _).plan
  have hC0 : CS w0 (w2.heap.size + 1) gp w2.heap.size W l ((w4.setCell ⟨w.heap.size, 0, none⟩ (.int .i64 (p1 : Nat))).setCell ⟨w.heap.size, 1, none⟩ (.int .i64 (p2 : Nat))) := by
    rw [hw0]
    exact (HC4.out.rebase (p := ⟨w.heap.size, 0, none⟩) (by simp only; omega) _).rebase (p := ⟨w.heap.size, 1, none⟩) (by simp only [World.setCell, Array.size_modify]; omega) _
  have hR0' : w0.heap[w.heap.size]? = some (.cells #[.int .i64 (p1 : Nat), .int .i64 (p2 : Nat)] 27 (0, 0)) := by
    rw [hw0]
    exact blk_set2 HR2.out
  have hb0 : Below w.heap.size w w0 := by
    rw [hw0]
    exact (hB12.setCell (p := ⟨w.heap.size, 0, none⟩) (Nat.le_refl _) _).setCell (p := ⟨w.heap.size, 1, none⟩) (Nat.le_refl _) _
  have HN0 := Lib.hid hN0; have HP0 := Lib.hid hP0; have HC0 := Lib.hid hC0; have HR0' := Lib.hid hR0'; have HB0 := Lib.hid hb0
  clear hN0 hP0 hC0 hR0' hb0 HNB hB12 hw0 m0 m1 m2 m3 hfld hmm
  refine (HFO.out w0 gp HP0.out HN0.out _ _ _ HC0.out).mono ?_
  rintro e w5 ⟨A5, c5, rfl, hn5, hc5, hB5, hf5⟩
  have HF5 := Lib.hid hf5
  clear hf5
  have hR5 := blk_below HR0'.out hB5
  have HR5 := Lib.hid hR5
  have r0 := blk_cell (j := 0) hR5
  have r1 := blk_cell (j := 1) hR5
  have r2 := blk_free (j := 0) hR5
  have r3 := blk_free (j := 1) hR5
  simp at r0 r1
  have HN5 := Lib.hid hn5; have HB5 := Lib.hid hB5
  clear hn5 hB5 hR5
  go_wp2_with fail
  have hset : ∀ n : Nat, (((w5.drewN n).setCell ⟨w.heap.size, 0, none⟩ (.int .i64 (p1 : Nat))).setCell ⟨w.heap.size, 1, none⟩ (.int .i64 (p2 : Nat))).cell? ⟨w.heap.size, 0, none⟩ = some (.int .i64 (p1 : Nat)) ∧ (((w5.drewN n).setCell ⟨w.heap.size, 0, none⟩ (.int .i64 (p1 : Nat))).setCell ⟨w.heap.size, 1, none⟩ (.int .i64 (p2 : Nat))).cell? ⟨w.heap.size, 1, none⟩ = some (.int .i64 (p2 : Nat)) := fun n => by
    have := blk_set2 (w := w5.drewN n) (p := .int .i64 (p1 : Nat)) (q := .int .i64 (p2 : Nat)) HR5.out
    exact ⟨blk_cell (j := 0) this, blk_cell (j := 1) this⟩
  have HST := Lib.hid hset
  clear hset
  go_region_held3 (fun w' => w'.cell? ⟨w.heap.size, 0, none⟩ = some (.int .i64 (p1 : Nat)) ∧ w'.cell? ⟨w.heap.size, 1, none⟩ = some (.int .i64 (p2 : Nat)))
    (first | exact ⟨r0, r1⟩ | exact HST.out _ | exact HST.out 1) (fail)
  go_wp2_with fail
  simp [bodyPost, results, Tryd.results7, go_sem, r0, r1]
  have hB05 : Below w.heap.size w w5 := HB0.out.trans (HB5.out.mono HB0.out.size)
  refine ⟨A5, c5, ?_, ?_, hc5, ?_, ?_⟩
  · rfl
  · refine nums_same (p := ⟨w.heap.size, 1, none⟩) (nums_same (p := ⟨w.heap.size, 0, none⟩) ?_ ?_) ?_
    · exact HN5.out
    · exact r0
    · exact (cell_same r0).trans r1
  · exact ((hB05.setCell (p := ⟨w.heap.size, 0, none⟩) (Nat.le_refl _) _).setCell (p := ⟨w.heap.size, 1, none⟩) (Nat.le_refl _) _).drew
  · exact fun p hp => Nat.le_trans HB0.out.size (HF5.out p hp)

theorem best_good (hof : OfFromSaid) {l : List Nd} {x : D} (hd : Doc l x) (A : Option Addr) (n c : Nat) (hn : l.length = n) (W : Nat) {width : Int} (hwd : width = W) (hW : W ≤ 100) (w : World) (hl : Nds w w.heap.size A l) :
    Calls Tryd.prog 7 #[.slice A n c, .int .i64 width] w (BestTo W x w) :=
  (best_goodF hof hd A n c hn W hwd hW w hl).mono fun _ _ ⟨A', c', h1, h2, h3, h4, _⟩ => ⟨A', c', h1, h2, h3, h4⟩

set_option maxRecDepth 100000 in
set_option maxHeartbeats 2000000 in
theorem best_bad {l : List Nd} (he : checkF l ≠ 0) (A : Option Addr) (n c : Nat) (hn : l.length = n) (width : Int) (w : World) (hl : Nds w w.heap.size A l) :
    Calls Tryd.prog 7 #[.slice A n c, .int .i64 width] w (Ret w (.tuple #[.string .empty, .slice none 0 0, .agg #[.int .i64 0, .int .i64 0], .iface 23 (.int .i64 (checkF l))])) := by
  subst hn
  have HE := Lib.hid he; have HN := Lib.hid hl
  have hr0 : (w.alloc (.cells #[.int .i64 0, .int .i64 0] 27)).heap[w.heap.size]? = some (.cells #[.int .i64 0, .int .i64 0] 27 (0, 0)) := heap_new rfl
  have HR0 := Lib.hid hr0
  clear he hl hr0
  go_enter Tryd.func7, Tryd.ntmps7
  go_wp2_with (go_at_call 22; refine (check_any l A c _ (HN.out.past (by repeat (first | exact Below.refl _ _ | assumption | apply Below.drew | refine below_drewN ?_ _ | apply Below.setCell _ (by first | omega | (simp; done) | (simp; omega)) | apply Below.alloc _ (by first | omega | (simp; done) | (simp; omega)))))).mono ?_; rintro e w1 ⟨rfl, hB1⟩; rw [← errV_pos HE.out]; have hB1' : Below w.heap.size w w1 := ((Below.refl _ _).alloc (Nat.le_refl _) _).trans (hB1.mono (by simp)); have hR1 := blk_below HR0.out hB1; have HR1 := Lib.hid hR1; have r0 := blk_cell (j := 0) hR1; have r1 := blk_cell (j := 1) hR1; have r2 := blk_free (j := 0) hR1; have r3 := blk_free (j := 1) hR1; simp at r0 r1; have HB1 := Lib.hid hB1'; clear hB1 hB1' hR1)
  have b0 := blk_set2 (p := .int .i64 0) (q := .int .i64 0) HR1.out
  have b1 := blk_cell (j := 0) b0
  have b2 := blk_cell (j := 1) b0
  simp at b1 b2
  simp [bodyPost, results, Tryd.results7, go_sem, b1, b2]
  exact ⟨rfl, (HB1.out.setCell (p := ⟨w.heap.size, 0, none⟩) (Nat.le_refl _) _).setCell (p := ⟨w.heap.size, 1, none⟩) (Nat.le_refl _) _⟩

set_option maxRecDepth 100000 in
set_option maxHeartbeats 2000000 in
theorem best_wide {l : List Nd} (he : checkF l = 0) (A : Option Addr) (n c : Nat) (hn : l.length = n) {width : Int} (hw : width < 0 ∨ 100 < width) (w : World) (hl : Nds w w.heap.size A l) :
    Calls Tryd.prog 7 #[.slice A n c, .int .i64 width] w (Ret w (.tuple #[.string .empty, .slice none 0 0, .agg #[.int .i64 0, .int .i64 0], .iface 23 (.int .i64 1)])) := by
  subst hn
  have HE := Lib.hid he; have HN := Lib.hid hl
  have hr0 : (w.alloc (.cells #[.int .i64 0, .int .i64 0] 27)).heap[w.heap.size]? = some (.cells #[.int .i64 0, .int .i64 0] 27 (0, 0)) := heap_new rfl
  have HR0 := Lib.hid hr0
  clear he hl hr0
  by_cases hw0 : width < 0
  · have k1 : decide (width < 0) = true := decide_eq_true hw0
    clear hw hw0
    go_enter Tryd.func7, Tryd.ntmps7
    go_wp2_with (go_at_call 22; refine (check_any l A c _ (HN.out.past (by repeat (first | exact Below.refl _ _ | assumption | apply Below.drew | refine below_drewN ?_ _ | apply Below.setCell _ (by first | omega | (simp; done) | (simp; omega)) | apply Below.alloc _ (by first | omega | (simp; done) | (simp; omega)))))).mono ?_; rintro e w1 ⟨rfl, hB1⟩; rw [← errV_zero HE.out]; have hB1' : Below w.heap.size w w1 := ((Below.refl _ _).alloc (Nat.le_refl _) _).trans (hB1.mono (by simp)); have hR1 := blk_below HR0.out hB1; have HR1 := Lib.hid hR1; have r0 := blk_cell (j := 0) hR1; have r1 := blk_cell (j := 1) hR1; have r2 := blk_free (j := 0) hR1; have r3 := blk_free (j := 1) hR1; simp at r0 r1; have HB1 := Lib.hid hB1'; clear hB1 hB1' hR1)
    have b0 := blk_set2 (p := .int .i64 0) (q := .int .i64 0) HR1.out
    have b1 := blk_cell (j := 0) b0
    have b2 := blk_cell (j := 1) b0
    simp at b1 b2
    simp [bodyPost, results, Tryd.results7, go_sem, b1, b2]
    exact ⟨rfl, (HB1.out.setCell (p := ⟨w.heap.size, 0, none⟩) (Nat.le_refl _) _).setCell (p := ⟨w.heap.size, 1, none⟩) (Nat.le_refl _) _⟩
  · have k1 : decide (width < 0) = false := decide_eq_false hw0
    have k2 : decide (100 < width) = true := decide_eq_true (by omega)
    clear hw hw0
    go_enter Tryd.func7, Tryd.ntmps7
    go_wp2_with (go_at_call 22; refine (check_any l A c _ (HN.out.past (by repeat (first | exact Below.refl _ _ | assumption | apply Below.drew | refine below_drewN ?_ _ | apply Below.setCell _ (by first | omega | (simp; done) | (simp; omega)) | apply Below.alloc _ (by first | omega | (simp; done) | (simp; omega)))))).mono ?_; rintro e w1 ⟨rfl, hB1⟩; rw [← errV_zero HE.out]; have hB1' : Below w.heap.size w w1 := ((Below.refl _ _).alloc (Nat.le_refl _) _).trans (hB1.mono (by simp)); have hR1 := blk_below HR0.out hB1; have HR1 := Lib.hid hR1; have r0 := blk_cell (j := 0) hR1; have r1 := blk_cell (j := 1) hR1; have r2 := blk_free (j := 0) hR1; have r3 := blk_free (j := 1) hR1; simp at r0 r1; have HB1 := Lib.hid hB1'; clear hB1 hB1' hR1)
    have b0 := blk_set2 (p := .int .i64 0) (q := .int .i64 0) HR1.out
    have b1 := blk_cell (j := 0) b0
    have b2 := blk_cell (j := 1) b0
    simp at b1 b2
    simp [bodyPost, results, Tryd.results7, go_sem, b1, b2]
    exact ⟨rfl, (HB1.out.setCell (p := ⟨w.heap.size, 0, none⟩) (Nat.le_refl _) _).setCell (p := ⟨w.heap.size, 1, none⟩) (Nat.le_refl _) _⟩
end Go.Proofs.YtddfdmopaeghnacDoor
