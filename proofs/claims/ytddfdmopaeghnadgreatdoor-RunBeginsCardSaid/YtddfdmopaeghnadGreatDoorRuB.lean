/- Walks: Desk.Set, Desk.Wide over a session (printed by wip/genrune.py). Conditions: as the desk's own walks. Plain: where a text's fault may lie, how great the numbers are. Walks: look.Check, run.told over a session. Conditions: as the desk's own walks. Walks: the closure that a session's line defers: over a frame that panics, over one that returns. No condition. Plain: the library's cut and prefix as a session reads its lines. No condition. Walk: a session's line. Conditions: as the desk's own walks. Walk: a session's line, arm by arm. Conditions: the text is not too long; the tables and the variables read as the program's text lays them. -/
import Derived.Test.YtddfdmopaeghnadGreatDoorRuA
import Derived.Test.YtddfdmopaeghnadGreatDoorRqDe
import Derived.Recover
import Derived.Defers
import Derived.Laws.Pointers
import Derived.Lib.IndexMore
namespace Go.Proofs.YtddfdmopaeghnadGreatDoor
open Go.RowKit Go.Maps

theorem lexL_far : ∀ (n i : Nat) (l : List UInt8), l.length ≤ n → (∀ p ∈ (lexL i l).1, p.1 ≤ i + l.length) ∧ ∀ j, (lexL i l).2 = some j → j ≤ i + l.length := by
  intro n
  induction n with
  | zero =>
    intro i l hn
    obtain rfl : l = [] := List.eq_nil_of_length_eq_zero (by omega)
    simp [lexL_nil]
  | succ n ih =>
    intro i l hn
    cases l with
    | nil => simp [lexL_nil]
    | cons c r =>
      simp only [List.length_cons] at hn ⊢
      cases hc : (c == 32 || c == 10) with
      | true =>
        rw [lexL_skip hc]
        obtain ⟨h1, h2⟩ := ih (i + 1) r (by omega)
        exact ⟨fun p hp => by have := h1 p hp; omega, fun j hj => by have := h2 j hj; omega⟩
      | false =>
        cases hb : (firstW (c :: r)).2 with
        | false =>
          rw [lexL_bad hc hb]
          exact ⟨fun p hp => (by cases hp), fun j hj => by simp at hj; omega⟩
        | true =>
          have hp := firstW_pos hb
          simp only [List.length_cons] at hp
          rw [lexL_word hc hb]
          obtain ⟨h1, h2⟩ := ih (i + (firstW (c :: r)).1) ((c :: r).drop (firstW (c :: r)).1) (by rw [List.length_drop, List.length_cons]; omega)
          rw [List.length_drop, List.length_cons] at h1 h2
          refine ⟨fun p hp' => ?_, fun j hj => by have := h2 j hj; omega⟩
          rcases List.mem_cons.1 hp' with rfl | hp'
          · simp only; omega
          · have := h1 p hp'; omega
theorem rb_size (s : ByteArray) : s.data.toList.length = s.size := rfl
theorem place_le (s : ByteArray) : (parseF s).2.1 ≤ s.size := by
  have hf := lexL_far s.data.toList.length 0 s.data.toList (Nat.le_refl _)
  rw [rb_size] at hf
  have hp : ∀ x ∈ placesN s, x ≤ s.size := by
    intro x hx
    simp only [placesN, List.mem_append, List.mem_map, List.mem_singleton] at hx
    rcases hx with ⟨p, hp, rfl⟩ | rfl
    · have := hf.1 p hp; omega
    · exact Nat.le_refl _
  unfold parseF
  split
  · unfold lexE
    split
    · simp
    · split
      · rename_i i hi; have := hf.2 i hi; simp only; omega
      · split <;> simp
  · split
    · rename_i x _
      simp only
      rw [List.getD_eq_getElem?_getD]
      cases hx : (placesN s)[x]? with
      | none => simp
      | some y => simpa using hp y (List.mem_of_getElem? hx)
    · split <;> simp
set_option maxRecDepth 100000 in
set_option maxHeartbeats 8000000 in
theorem dset_okG {d lo0 lo : Nat} {W : Int} {p : List (List Nd)} {K : List ByteArray} {w : World} (h : DeskL d lo0 W p K w) (hdl0 : d < lo) (hlo : lo ≤ w.heap.size) {s : ByteArray} {k : Nat} {q : List (List Nd)} (hp : parseF s = (0, k, q)) (hs : s.size ≤ maxLen) (hm : MaxL w) (hpw : PowT w) (hq : formE W q = 0) :
    Calls Tryz.prog 14 #[.pointer (some ⟨d, 0, none⟩), .string s] w (fun e w' => e = .returned (.tuple #[.int .i64 (newN K [] q : Nat), .int .i64 0, .nilIface]) ∧ DeskL d lo W q (seenL [] q) w' ∧ Below d w w' ∧ w.grownBy w' (some d)) := by
  obtain ⟨P, c, mv, h1, h2, h3, h4, h5, h6⟩ := h
  have hdl := lt_of_heap h1
  have ho := OnDesk.of_parse hp h6.wide hq
  have HO := Lib.hid ho
  have HP := Lib.hid (parse_okB hp rfl w hs hm)
  have HL := Lib.hid (fun (P1 : Option Addr) (c1 : Nat) (w1 : World) (hB : Below w.heap.size w w1) (hF : Prg w1 w1.heap.size P1 q) => dlaid_any W q q.length rfl P1 c1 K mv w1 hF ho.stm ho.few (h3.past hB) (hm.past hB) (hpw.past hB))
  have HQ := Lib.hid hq; have H1 := Lib.hid h1
  clear h2 h3 h4 h5 h6 hm hpw hs hp hq ho h1
  have HC : Hid (∀ w', Below w.heap.size w w' → w'.cell? ⟨d, 0, none⟩ = some (.int .i64 W) ∧ w'.cell? ⟨d, 2, none⟩ = some mv) := Lib.hid (fun w' hB => by rw [blk_cell (j := 0) (blk_below H1.out hB), blk_cell (j := 2) (blk_below H1.out hB)]; exact ⟨rfl, rfl⟩)
  go_enter Tryz.func14, Tryz.ntmps14
  go_upto_region 4 with (go_at_call 21; refine HP.out.mono ?_; rintro e w1 ⟨P1, c1, rfl, hF, hB⟩; have HF1 := Lib.hid hF; clear hF)
  have hz1 := hB.size
  go_region_held3 (fun w' => w'.cell? ⟨d, 0, none⟩ = some (.int .i64 W) ∧ w'.cell? ⟨d, 2, none⟩ = some mv) (first | exact HC.out _ (by repeat (first | exact Below.refl _ _ | assumption | apply Below.drew | refine below_drewN ?_ _ | apply Below.setCell _ (by first | omega | (simp; done) | (simp; omega)) | apply Below.alloc _ (by first | omega | (simp; done) | (simp; omega)))) | exact HC.out _ hB2)
    (first
    | (go_at_call 26; refine (HL.out P1 c1 _ (by repeat (first | exact Below.refl _ _ | assumption | apply Below.drew | refine below_drewN ?_ _ | apply Below.setCell _ (by first | omega | (simp; done) | (simp; omega)) | apply Below.alloc _ (by first | omega | (simp; done) | (simp; omega)))) (HF1.out.past (by repeat (first | exact Below.refl _ _ | assumption | apply Below.drew | refine below_drewN ?_ _ | apply Below.setCell _ (by first | omega | (simp; done) | (simp; omega)) | apply Below.alloc _ (by first | omega | (simp; done) | (simp; omega))))).prg).mono ?_; rintro e w2 ⟨hz, -⟩; obtain ⟨b, f, rfl, hM, hF, hb, hB'⟩ := hz HQ.out; have HMF := Lib.hid hM; have HKF := Lib.hid hF; have hbw : w1.heap.size ≤ b := (by simp at hb; omega); clear hz hM hF; have hB2 : Below w.heap.size w w2 := Below.trans (by repeat (first | exact Below.refl _ _ | assumption | apply Below.drew | refine below_drewN ?_ _ | apply Below.setCell _ (by first | omega | (simp; done) | (simp; omega)) | apply Below.alloc _ (by first | omega | (simp; done) | (simp; omega)))) (hB'.mono (Below.size (by repeat (first | exact Below.refl _ _ | assumption | apply Below.drew | refine below_drewN ?_ _ | apply Below.setCell _ (by first | omega | (simp; done) | (simp; omega)) | apply Below.alloc _ (by first | omega | (simp; done) | (simp; omega)))))); have hz2 := hB2.size; have hB12 : Below w1.heap.size w1 w2 := Below.trans (by repeat (first | exact Below.refl _ _ | assumption | apply Below.drew | refine below_drewN ?_ _ | apply Below.setCell _ (by first | omega | (simp; done) | (simp; omega)) | apply Below.alloc _ (by first | omega | (simp; done) | (simp; omega)))) (hB'.mono (by first | exact Nat.le_refl _ | (simp; done) | (simp; omega))); have hz12 := hB12.size; (try (have hbw2 : w1.heap.size < b := (by simp at hb; omega))); (try (have hx : w2.heap[w1.heap.size]? = some (.cells #[.int .i64 0, .slice none 0 0, .map none] 65 (0, 0)) := blk_below (heap_new_drew _ _) hB'; have f0 := blk_free (j := 0) hx; have f1 := blk_free (j := 1) hx; have f2 := blk_free (j := 2) hx; have x0 := blk_cell (j := 0) hx; have x1 := blk_cell (j := 1) hx; have x2 := blk_cell (j := 2) hx; simp at x0 x1 x2))))
  all_goals
    go_upto_region 7 with fail
  · clear hB' hb
    refine wp_namedD (fun wx => wx.heap[w2.heap.size]? = some (.cells #[.int .i64 W, .slice P1 q.length c1, .map (some b)] 65 (0, 0)) ∧ Below w.heap.size w wx ∧ Below w1.heap.size w1 wx ∧ MapF Tryz.prog 9 f b wx) ⟨heap_new rfl, (by repeat (first | exact Below.refl _ _ | assumption | apply Below.drew | refine below_drewN ?_ _ | apply Below.setCell _ (by first | omega | (simp; done) | (simp; omega)) | apply Below.alloc _ (by first | omega | (simp; done) | (simp; omega)))), (by repeat (first | exact Below.refl _ _ | assumption | apply Below.drew | refine below_drewN ?_ _ | apply Below.setCell _ (by first | omega | (simp; done) | (simp; omega)) | apply Below.alloc _ (by first | omega | (simp; done) | (simp; omega)))), HMF.out.below ((Below.refl _ _).alloc (Nat.le_refl _) _)⟩ ?_
    rintro wx ⟨hx10, hBx, hB1x, hMx⟩
    have hb10 : d < w2.heap.size := by omega
    have y0 := blk_cell (j := 0) hx10
    have y1 := blk_cell (j := 1) hx10
    have y2 := blk_cell (j := 2) hx10
    have hdx := blk_below H1.out hBx
    have r0 := blk_cell (j := 0) hdx
    have r1 := blk_cell (j := 1) hdx
    have r2 := blk_cell (j := 2) hdx
    have f0 := blk_free (j := 0) hdx
    have f1 := blk_free (j := 1) hdx
    have f2 := blk_free (j := 2) hdx
    simp at y0 y1 y2 r0 r1 r2
    have HDX := Lib.hid hdx
    have HBX := Lib.hid hBx; have HB1X := Lib.hid hB1x; have HMX := Lib.hid hMx; have HX := Lib.hid hx10
    clear hdx hBx hB1x hMx hx10
    go_wp2
    go_ret3
    have hg := set3_grown (w := wx) (d := d) (.int .i64 W) (.slice P1 q.length c1) (.map (some b))
    refine ⟨rfl, ⟨P1, c1, .map (some b), blk_set3 HDX.out, ((HF1.out.past HB1X.out).less (by omega)).grow hg (fun k e => by injection e with e; omega), .inr ⟨b, f, rfl, HMX.out.kept hg (fun e => by injection e with e; omega), HKF.out⟩, fun u hu => seenL_all.2 u hu, fun b' e => by cases e; omega, HO.out⟩, ?_, (grown_at HBX.out (some d)).trans hg⟩
    have hbd : Below d w wx := HBX.out.mono (by omega)
    exact ((hbd.setCell (p := ⟨d, 0, none⟩) (Nat.le_refl _) _).setCell (p := ⟨d, 1, none⟩) (Nat.le_refl _) _).setCell (p := ⟨d, 2, none⟩) (Nat.le_refl _) _
  · clear hB' hb f0 f1 f2 x0 x1 x2
    refine wp_namedD (fun wx => wx.heap[w1.heap.size]? = some (.cells #[.int .i64 W, .slice P1 q.length c1, .map (some b)] 65 (0, 0)) ∧ Below w.heap.size w wx ∧ Below w1.heap.size w1 wx ∧ MapF Tryz.prog 9 f b wx) ⟨blk_set3 hx, (by repeat (first | exact Below.refl _ _ | assumption | apply Below.drew | refine below_drewN ?_ _ | apply Below.setCell _ (by first | omega | (simp; done) | (simp; omega)) | apply Below.alloc _ (by first | omega | (simp; done) | (simp; omega)))), (by repeat (first | exact Below.refl _ _ | assumption | apply Below.drew | refine below_drewN ?_ _ | apply Below.setCell _ (by first | omega | (simp; done) | (simp; omega)) | apply Below.alloc _ (by first | omega | (simp; done) | (simp; omega)))), HMF.out.kept (set3_grown _ _ _) (fun e => by injection e with e; omega)⟩ ?_
    rintro wx ⟨hx10, hBx, hB1x, hMx⟩
    have hb10 : d < w1.heap.size := by omega
    have y0 := blk_cell (j := 0) hx10
    have y1 := blk_cell (j := 1) hx10
    have y2 := blk_cell (j := 2) hx10
    have hdx := blk_below H1.out hBx
    have r0 := blk_cell (j := 0) hdx
    have r1 := blk_cell (j := 1) hdx
    have r2 := blk_cell (j := 2) hdx
    have f0 := blk_free (j := 0) hdx
    have f1 := blk_free (j := 1) hdx
    have f2 := blk_free (j := 2) hdx
    simp at y0 y1 y2 r0 r1 r2
    have HDX := Lib.hid hdx
    have HBX := Lib.hid hBx; have HB1X := Lib.hid hB1x; have HMX := Lib.hid hMx; have HX := Lib.hid hx10
    clear hdx hBx hB1x hMx hx10
    go_wp2
    go_ret3
    have hg := set3_grown (w := wx) (d := d) (.int .i64 W) (.slice P1 q.length c1) (.map (some b))
    refine ⟨rfl, ⟨P1, c1, .map (some b), blk_set3 HDX.out, ((HF1.out.past HB1X.out).less (by omega)).grow hg (fun k e => by injection e with e; omega), .inr ⟨b, f, rfl, HMX.out.kept hg (fun e => by injection e with e; omega), HKF.out⟩, fun u hu => seenL_all.2 u hu, fun b' e => by cases e; omega, HO.out⟩, ?_, (grown_at HBX.out (some d)).trans hg⟩
    have hbd : Below d w wx := HBX.out.mono (by omega)
    exact ((hbd.setCell (p := ⟨d, 0, none⟩) (Nat.le_refl _) _).setCell (p := ⟨d, 1, none⟩) (Nat.le_refl _) _).setCell (p := ⟨d, 2, none⟩) (Nat.le_refl _) _
set_option maxRecDepth 100000 in
set_option maxHeartbeats 4000000 in
theorem dwide_okG {d lo : Nat} {W V : Int} {p : List (List Nd)} {K : List ByteArray} {w : World} (h : DeskL d lo W p K w) (hV : wideF V = true) (hm : MaxL w) (hpw : PowT w) (hq : formE V p = 0) :
    Calls Tryz.prog 11 #[.pointer (some ⟨d, 0, none⟩), .int .i64 V] w (fun e w' => e = .returned .nilIface ∧ (∃ P c mv m f, w.heap[d]? = some (.cells #[.int .i64 W, .slice P p.length c, mv] 67 (0, 0)) ∧ w'.heap[d]? = some (.cells #[.int .i64 V, .slice P p.length c, .map (some m)] 67 (0, 0)) ∧ MapF Tryz.prog 9 f m w' ∧ KnownF V (seenL [] p) f ∧ w.heap.size ≤ m) ∧ OnDesk V p ∧ Below d w w' ∧ w.grownBy w' (some d)) := by
  have HW := Lib.hid (fun w' => wide_any V w')
  rw [hV] at HW
  obtain ⟨P, c, mv, h1, h2, h3, h4, h5, h6⟩ := h
  have hdl := lt_of_heap h1
  have r1 := blk_cell (j := 1) h1
  simp at r1
  have HL := Lib.hid (dlaid_any V p p.length rfl P c [] (.map none) w h2.prg h6.stm h6.few (.inl ⟨rfl, rfl⟩) hm hpw)
  have HQ := Lib.hid hq; have H1 := Lib.hid h1; have H2 := Lib.hid h2
  have HO : Hid (OnDesk V p) := Lib.hid ⟨hV, h6.few, h6.stm, hq⟩
  clear hV hm hpw h1 h2 h3 h4 h5 h6 hq
  go_enter Tryz.func11, Tryz.ntmps11
  go_wp2_with (first
    | (go_at_call 23; refine (HW.out _).mono ?_; rintro e w1 ⟨rfl, rfl⟩)
    | (go_at_call 26; refine HL.out.mono ?_; rintro e w2 ⟨hz, -⟩; obtain ⟨b, f, rfl, hM, hF, hb, hB⟩ := hz HQ.out; have HB := Lib.hid hB; have HMF := Lib.hid hM; have HKF := Lib.hid hF; have hd2 := blk_below H1.out hB; have hda : ∀ o, (w2.alloc o).heap[d]? = some (.cells #[.int .i64 W, .slice P p.length c, mv] 67 (0, 0)) := (fun o => (Below.heap_alloc _ _ _ (lt_of_heap hd2)).trans hd2); have f0 : ∀ o, (w2.alloc o).frozen? ⟨d, 0, none⟩ = false := (fun o => blk_free (j := 0) (hda o)); have f1 : ∀ o, (w2.alloc o).frozen? ⟨d, 1, none⟩ = false := (fun o => blk_free (j := 1) (hda o)); have f2 : ∀ o, (w2.alloc o).frozen? ⟨d, 2, none⟩ = false := (fun o => blk_free (j := 2) (hda o)); have c0 : ∀ o, (w2.alloc o).cell? ⟨d, 0, none⟩ = some (.int .i64 W) := (fun o => by rw [blk_cell (j := 0) (hda o)]; rfl); have c1 : ∀ o, (w2.alloc o).cell? ⟨d, 1, none⟩ = some (.slice P p.length c) := (fun o => by rw [blk_cell (j := 1) (hda o)]; rfl); have c2 : ∀ o, (w2.alloc o).cell? ⟨d, 2, none⟩ = some mv := (fun o => by rw [blk_cell (j := 2) (hda o)]; rfl); clear hda; have HD2 := Lib.hid hd2; clear hz hB hM hF hd2))
  go_ret
  have hz := HB.out.size
  have hba : Below w2.heap.size w2 (w2.alloc (.cells #[.int .i64 V, .slice P p.length c, .map (some b)] 65)) := (Below.refl _ _).alloc (Nat.le_refl _) _
  have hg := set3_grown (w := w2.alloc (.cells #[.int .i64 V, .slice P p.length c, .map (some b)] 65)) (d := d) (.int .i64 V) (.slice P p.length c) (.map (some b))
  refine ⟨rfl, ⟨P, c, mv, b, f, H1.out, blk_set3 (blk_below HD2.out hba), (HMF.out.below hba).kept hg (fun e => by injection e with e; omega), HKF.out, by omega⟩, HO.out, ?_, (grown_at (HB.out.alloc hz _) (some d)).trans hg⟩
  have hbd : Below d w w2 := HB.out.mono (by omega)
  have hdz : d ≤ w2.heap.size := by omega
  exact (((hbd.alloc hdz _).setCell (p := ⟨d, 0, none⟩) (Nat.le_refl _) _).setCell (p := ⟨d, 1, none⟩) (Nat.le_refl _) _).setCell (p := ⟨d, 2, none⟩) (Nat.le_refl _) _

/-- Where the desk alone was written. -/
theorem RsW.desk {B b d : Nat} {x : Value} {s : ByteArray} {w w' : World} {cs : Array Value} (h : RsW B b x s w) (hg : w.grownBy w' (some d)) (hd : w.heap[d]? = some (.cells cs 67 (0, 0))) (hdb : d ≠ b) : RsW B b x s w' := by
  obtain ⟨h1, h2, h3⟩ := h
  have hlt := h1.blk.2.1
  have hb : w'.heap[b]? = w.heap[b]? := hg.block b hlt (fun e => hdb (by injection e with e; exact e.symm))
  have one : ∀ {p : Value}, RsAt B b p (Lib.strCells s) x w → RsAt B b p (Lib.strCells s) x w' := by
    rintro p ⟨k1, v, k2, k3, k4⟩
    exact ⟨k1, v, hb.trans k2, k3.kept hg (.inr (Lib.ownBlock_neF k3 hd (by decide))), k4⟩
  exact ⟨h1.imp one one, Nat.le_trans h2 hg.size, fun e => (h3 e).imp fun _ k => hb.trans k⟩
theorem SesAt.row {w0 : World} {d b : Nat} {x : Ses} {F : Nat → Prop} {w : World} (h : SesAt w0 d b x F w) {v : Value} {g : Nat} (hv : w.cell? ⟨b, 1, none⟩ = some v) (hg : v.ownBlock = some g) : g < w.heap.size := by
  rcases h.text.1 with ⟨_, u, k2, k3, _⟩ | ⟨_, u, k2, k3, _⟩ <;>
  · rw [Lib.cell_of_heap k2] at hv
    simp at hv
    subst hv
    exact (k3.lt g hg).2
theorem SesAt.set_ok {w0 : World} {d b : Nat} {x : Ses} {F : Nat → Prop} {w : World} (h : SesAt w0 d b x F w) {s : ByteArray} {k : Nat} {q : List (List Nd)} (hp : parseF s = (0, k, q)) (hs : s.size ≤ maxLen) (hm : MaxL w) (hpw : PowT w) (hq : formE x.W q = 0) :
    Calls Tryz.prog 14 #[.pointer (some ⟨d, 0, none⟩), .string s] w (fun e w' => e = .returned (.tuple #[.int .i64 (newN x.K [] q : Nat), .int .i64 0, .nilIface]) ∧ SesTo w0 d b { x with p := q, K := seenL [] q } F w w') := by
  have hb := h.text.1.blk.2.1
  have hdb := h.lt
  refine (dset_okG h.lo (by omega) (Nat.le_refl _) hp hs hm hpw hq).mono ?_
  rintro e w' ⟨rfl, ⟨P, c, mv, g1, g2, g3, g4, g5, g6⟩, hB, hg⟩
  obtain ⟨_, _, _, _, _, hd, _, _, _, _, _, _, _, k9, _⟩ := h.desk
  have hcb : w'.heap[b]? = w.heap[b]? := hg.block b hb (fun e => by injection e with e; omega)
  refine ⟨rfl, ⟨⟨P, c, mv, w.heap.size, w', g1, g2, Win.refl _ _, hb, g3, g4, g6, fun m e => ⟨by have := g5 m e; omega, fun hF => by have := g5 m e; have := h.few m hF; omega⟩, ?_, fun k hF => .inl (h.few k hF)⟩, h.text.desk hg hd (by omega), h.lt, h.old, h.bel.trans (hB.mono h.old), fun k hF => Nat.lt_of_lt_of_le (h.few k hF) hg.size, h.far⟩, fun k hF => hg.block k (h.few k hF) (fun e => by injection e with e; exact h.far.1 (e ▸ hF)), hg.size⟩
  intro v g hv hgv
  rw [World.cell?_of_block (w := w) (a := ⟨b, 1, none⟩) hcb] at hv
  exact ⟨.inl (h.row hv hgv), (k9 v g hv hgv).2⟩
theorem SesAt.wide_ok {w0 : World} {d b : Nat} {x : Ses} {F : Nat → Prop} {w : World} (h : SesAt w0 d b x F w) {V : Int} (hV : wideF V = true) (hm : MaxL w) (hpw : PowT w) (hq : formE V x.p = 0) :
    Calls Tryz.prog 11 #[.pointer (some ⟨d, 0, none⟩), .int .i64 V] w (fun e w' => e = .returned .nilIface ∧ SesTo w0 d b { x with W := V, K := seenL [] x.p } F w w') := by
  have hb := h.text.1.blk.2.1
  have hdb := h.lt
  refine (dwide_okG h.lo hV hm hpw hq).mono ?_
  rintro e w' ⟨rfl, ⟨P, c, mv, m, f, g1, g2, g3, g4, g5⟩, g6, hB, hg⟩
  obtain ⟨P0, c0, mv0, lo, w1, k1, k2, k3, k4, _, _, _, _, k9, k10⟩ := h.desk
  rw [g1] at k1
  simp at k1
  obtain ⟨⟨rfl, rfl⟩, rfl⟩ := k1
  have hcb : w'.heap[b]? = w.heap[b]? := hg.block b hb (fun e => by injection e with e; omega)
  refine ⟨rfl, ⟨⟨P, c, .map (some m), lo, w1, g2, k2, k3.trans (fun k hl hk => hg.block k (Nat.lt_of_lt_of_le hk k3.1) (fun e => by injection e with e; omega)) hg.size, k4, .inr ⟨m, f, rfl, g3, g4⟩, fun u hu => seenL_all.2 u hu, g6, fun m' e => by cases e; exact ⟨by omega, fun hF => by have := h.few m hF; omega⟩, ?_, k10⟩, h.text.desk hg g1 (by omega), h.lt, h.old, h.bel.trans (hB.mono h.old), fun k hF => Nat.lt_of_lt_of_le (h.few k hF) hg.size, h.far⟩, fun k hF => hg.block k (h.few k hF) (fun e => by injection e with e; exact h.far.1 (e ▸ hF)), hg.size⟩
  intro v g hv hgv
  rw [World.cell?_of_block (w := w) (a := ⟨b, 1, none⟩) hcb] at hv
  exact k9 v g hv hgv
/-- 'Set' of a session's text. -/
theorem SesAt.set {w0 : World} {d b : Nat} {x : Ses} {F : Nat → Prop} {w : World} (h : SesAt w0 d b x F w) (hs : x.s.size ≤ maxLen) (hm : MaxL w) (hpw : PowT w) :
    Calls Tryz.prog 14 #[.pointer (some ⟨d, 0, none⟩), .string x.s] w (fun e w' => ∃ (n k : Nat) (f : Int), e = .returned (.tuple #[.int .i64 n, .int .i64 k, errV f]) ∧ setS x = ((setS x).1, toldF (itoaB n) k f) ∧ (n ≤ 20 ∧ k ≤ x.s.size) ∧ SesTo w0 d b (setS x).1 F w w') := by
  have hpl := place_le x.s
  unfold setS
  by_cases h1 : (parseF x.s).1 = 0
  · rw [if_pos h1]
    by_cases h2 : formE x.W (parseF x.s).2.2 = 0
    · rw [if_pos h2]
      refine (h.set_ok (k := (parseF x.s).2.1) (q := (parseF x.s).2.2) (by rw [← h1]) hs hm hpw h2).mono ?_
      rintro e w' ⟨rfl, hk⟩
      have hn := newN_le x.K (parseF x.s).2.2 []
      have h20 := (progF_facts (parsed_ok (s := x.s) h1)).1
      exact ⟨_, 0, 0, by rw [errV_zero rfl]; rfl, rfl, ⟨by omega, Nat.zero_le _⟩, hk⟩
    · rw [if_neg h2]
      refine (dset_full h.lo (k := (parseF x.s).2.1) (q := (parseF x.s).2.2) (by rw [← h1]) hs hm hpw h2).mono ?_
      rintro e w' ⟨rfl, hk⟩
      exact ⟨0, 0, _, by rw [errV_pos h2]; rfl, rfl, ⟨by omega, Nat.zero_le _⟩, h.past hk⟩
  · rw [if_neg h1]
    refine (dset_no (k := (parseF x.s).2.1) (q := (parseF x.s).2.2) (f := (parseF x.s).1) rfl h1 w hs hm).mono ?_
    rintro e w' ⟨rfl, hk⟩
    exact ⟨0, _, _, by rw [errV_pos h1]; rfl, rfl, ⟨by omega, hpl⟩, h.past hk⟩
/-- 'Wide' of a session's desk. -/
theorem SesAt.wide {w0 : World} {d b : Nat} {x : Ses} {F : Nat → Prop} {w : World} (h : SesAt w0 d b x F w) (V : Int) (hm : MaxL w) (hpw : PowT w) :
    Calls Tryz.prog 11 #[.pointer (some ⟨d, 0, none⟩), .int .i64 V] w (fun e w' => ∃ (f : Int), e = .returned (errV f) ∧ wideS x V = ((wideS x V).1, toldF ⟨#[111, 107]⟩ 0 f) ∧ SesTo w0 d b (wideS x V).1 F w w') := by
  unfold wideS
  by_cases h1 : wideF V = true
  · rw [if_pos h1]
    by_cases h2 : formE V x.p = 0
    · rw [if_pos h2]
      refine (h.wide_ok h1 hm hpw h2).mono ?_
      rintro e w' ⟨rfl, hk⟩
      exact ⟨0, by rw [errV_zero rfl], rfl, hk⟩
    · rw [if_neg h2]
      refine (dwide_full h.lo h1 hm hpw h2).mono ?_
      rintro e w' ⟨rfl, hk⟩
      exact ⟨_, by rw [errV_pos h2], rfl, h.past hk⟩
  · rw [if_neg h1]
    refine (dwide_no (d := d) (w := w) (by simpa using h1)).mono ?_
    rintro e w' ⟨rfl, hk⟩
    exact ⟨1, by rw [errV_pos (by decide)], rfl, h.past hk⟩
theorem SesAt.text_ {w0 : World} {d b : Nat} {x : Ses} {F : Nat → Prop} {w : World} (h : SesAt w0 d b x F w) (hpw : PowT w) :
    Calls Tryz.prog 15 #[.pointer (some ⟨d, 0, none⟩)] w fun e w' => e = .returned (.string (formT x.W x.p)) ∧ SesTo w0 d b x F w w' :=
  (dtext_any h.lo hpw).mono fun _ _ ⟨he, hb⟩ => ⟨he, h.past hb⟩
theorem SesAt.width {w0 : World} {d b : Nat} {x : Ses} {F : Nat → Prop} {w : World} (h : SesAt w0 d b x F w) :
    Calls Tryz.prog 16 #[.pointer (some ⟨d, 0, none⟩)] w fun e w' => e = .returned (.int .i64 x.W) ∧ w' = w := by
  obtain ⟨_, _, _, _, _, hd, _⟩ := h.desk
  exact dwidth_any w hd
end Go.Proofs.YtddfdmopaeghnadGreatDoor

namespace Go.Proofs.YtddfdmopaeghnadGreatDoor
open Go.RowKit Go.Maps

theorem difL_bd : ∀ (a b : List UInt8) (n : Nat), -1 ≤ difL n a b ∧ difL n a b ≤ (n + a.length + 1 : Nat)
  | [], [], n => by simp [difL]; omega
  | [], c :: _, n => by
    rw [difL]
    split <;> simp <;> omega
  | c :: r, [], n => by
    rw [difL]
    split <;> simp <;> omega
  | a :: x, b :: y, n => by
    rw [difL]
    split
    · have h1 := difL_bd x y (n + 1)
      have h0 := difL_bd x y n
      simp only [List.length_cons]
      by_cases ha : a = 10
      · rw [if_pos ha]; exact ⟨h1.1, by omega⟩
      · rw [if_neg ha]; exact ⟨h0.1, by omega⟩
    · simp; omega
theorem itoaB_size (n : Int) (h0 : -1 ≤ n) (h1 : n ≤ 999999) : (itoaB n).size ≤ 1000000 := by
  unfold itoaB
  rcases Int.lt_or_le n 0 with h | h
  · obtain rfl : n = -1 := by omega
    have h : (Lib.itoa (-1)).length ≤ 3 := by
      rw [Lib.itoa, if_pos (by omega)]
      have := dec_len (-1 : Int).natAbs
      simp only [List.length_cons]
      have e : (-1 : Int).natAbs = 1 := rfl
      omega
    have e : (⟨(Lib.itoa (-1)).toArray⟩ : ByteArray).size = (Lib.itoa (-1)).length := by simp [ByteArray.size]
    omega
  · obtain ⟨j, rfl⟩ : ∃ j : Nat, n = (j : Nat) := ⟨n.toNat, by omega⟩
    have := itoa_short j
    omega
/-- run.told. -/
theorem told_any (s : ByteArray) (k : Nat) (f : Int) (w : World) (hs : s.size ≤ 4000000000) (hk : k ≤ 999999) (hg : ErrT w) (hz : 0 + 1 ≤ w.heap.size) (hp : PowT w) :
    Calls Tryz.prog 69 #[.string s, .int .i64 k, errV f] w (Ret w (.string (toldF s k f))) := by
  by_cases hf : f = 0
  · subst hf
    rw [← errV_zero rfl]
    exact told_ok s k w hs
  · rw [← errV_pos hf]
    exact told_bad s k f w hf (by omega) (by omega) hg hz hp
/-- look.Check of a session's text. -/
theorem look_any (x : Ses) (w : World) (hs : x.s.size ≤ 60000) (hm : MaxL w) (hp : PowT w) :
    Calls Tryz.prog 41 #[.string x.s, .int .i64 x.W] w (fun e w' => ∃ (n : Int) (k : Nat) (f : Int), e = .returned (.tuple #[.int .i64 n, .int .i64 k, errV f]) ∧ lookS x = toldF (itoaB n) k f ∧ (-1 ≤ n ∧ n ≤ 999999) ∧ k ≤ 999999 ∧ Below w.heap.size w w') := by
  have hM : x.s.size ≤ maxLen := by simp only [maxLen]; omega
  have hpl := place_le x.s
  by_cases h0 : (fmtF x.s x.W).1 = 0
  · have hT' : fmtF x.s x.W = (0, 0, formT x.W (parseF x.s).2.2) := by
      unfold fmtF at h0 ⊢
      split
      · rename_i h; rw [if_pos h] at h0; simp at h0
      · rename_i h
        rw [if_neg h] at h0
        split
        · rename_i h'; rw [if_pos h'] at h0; exact absurd h0 h'
        · rename_i h'
          rw [if_neg h'] at h0
          split
          · rename_i h2; rw [if_pos h2] at h0; exact absurd h0 h2
          · rfl
    have hT : (formT x.W (parseF x.s).2.2).size ≤ 4000000000 := by
      unfold fmtF at h0
      split at h0
      · simp at h0
      · split at h0
        · rename_i h1
          exact absurd h0 h1
        · rename_i h1
          split at h0
          · rename_i h2
            exact absurd h0 h2
          · rename_i h2
            have hf := progF_facts (parsed_ok (s := x.s) (Decidable.not_not.1 h1))
            have := formT_size hf.2.1 hf.1 (Decidable.not_not.1 h2)
            omega
    refine (check_ok hT' hs hT w hM hm hp).mono ?_
    rintro e w' ⟨rfl, hb⟩
    have hd := difL_bd x.s.data.toList (formT x.W (parseF x.s).2.2).data.toList 0
    rw [rb_size] at hd
    refine ⟨_, 0, 0, by rw [errV_zero rfl], ?_, ⟨hd.1, by omega⟩, by omega, hb⟩
    unfold lookS
    rw [if_pos h0, hT']
    rfl
  · have hE : fmtF x.s x.W = ((fmtF x.s x.W).1, (fmtF x.s x.W).2.1, .empty) ∧ (fmtF x.s x.W).2.1 ≤ x.s.size := by
      unfold fmtF at h0 ⊢
      split
      · exact ⟨rfl, by simp⟩
      · rename_i h
        rw [if_neg h] at h0
        split
        · exact ⟨rfl, hpl⟩
        · rename_i h'
          rw [if_neg h'] at h0
          split
          · exact ⟨rfl, by simp⟩
          · rename_i h2
            rw [if_neg h2] at h0
            exact absurd rfl h0
    refine (check_bad hE.1 h0 w hM hm hp).mono ?_
    rintro e w' ⟨rfl, hb⟩
    refine ⟨0, _, _, by rw [errV_pos h0], ?_, ⟨by omega, by omega⟩, by omega, hb⟩
    unfold lookS
    rw [if_neg h0]
end Go.Proofs.YtddfdmopaeghnadGreatDoor

namespace Go.Proofs.YtddfdmopaeghnadGreatDoor
open Go.RowKit

def unreadV : Value := .iface 138 (.agg #[])
theorem unread_info : (Tryz.prog.info? 138).map (fun i => (i.zero, i.size, i.bytes)) = some (some (.agg #[]), 0, 0) := by kernel_rfl
set_option maxRecDepth 100000 in
set_option maxHeartbeats 2000000 in
theorem lcatch_bad (b0 : Nat) (vo : Value) (older : List PanicEntry) (w : World) (h0 : w.heap[b0]? = some (.cells #[vo] 9 (0, 0))) :
    CallsD Tryz.prog 67 #[.pointer (some ⟨b0, 0, none⟩)] (.panicking ({ v := .iface 138 (.agg #[]), recovered := false } :: older)) w fun e u' w' =>
      e = .returned (.tuple #[]) ∧ u' = .panicking ({ v := .iface 138 (.agg #[]), recovered := true } :: older) ∧ w'.cell? ⟨b0, 0, none⟩ = some (.string badT) ∧ Below b0 w w' := by
  have c0 : w.cell? ⟨b0, 0, none⟩ = some vo := by rw [Lib.cell_of_heap h0]; rfl
  have f0 := Lib.frozen_of_heap h0 0
  have hta : ∀ (xt : TypeId) (w' : World), (Instr.typeAssert (.iface 138 (.agg #[])) xt 138 true).run Tryz.prog w' = .ok (.tuple #[.agg #[], .bool true]) w' := fun xt w' => by
    simp [Instr.typeAssert, run_underlying Tryz.underlying138]
  refine callsD_of_wpS Tryz.func67 rfl fun c₀ cs hu => ?_
  apply wpS_seq
  apply wpS_region
  simp [wpOpsS, go_sem, recoverD, hu, Tryz.ntmps67, Exit.thenS, hta, Array.replicate]
  refine wpS_of_wp ?_
  have a0 : (w.alloc (.cells #[] 138)).cell? ⟨b0, 0, none⟩ = some vo := (World.cell?_of_block (Below.heap_alloc _ _ _ (Array.getElem?_eq_some_iff.1 h0).1)).trans c0
  have a3 : (w.alloc (.cells #[] 138)).frozen? ⟨b0, 0, none⟩ = false := (World.frozen?_of_block (Below.heap_alloc _ _ _ (Array.getElem?_eq_some_iff.1 h0).1)).trans f0
  have hz : Below b0 w (w.alloc (.cells #[] 138)) := (Below.refl _ _).alloc (Nat.le_of_lt (Array.getElem?_eq_some_iff.1 h0).1) _
  have HZ := Lib.hid hz
  clear hz h0 c0 f0
  go_wp2
  refine ⟨rfl, _, rfl, .tuple #[], by simp [results, Tryz.results67, go_sem], rfl, rfl, ?_, ?_⟩
  · simp [go_sem, badT, *]
  · repeat (first | exact HZ.out | refine Below.drew ?_ | refine Below.setCell ?_ (by simp only; omega) _)
set_option maxRecDepth 100000 in
set_option maxHeartbeats 1000000 in
theorem lcatch_idle (p0 : Value) (w : World) :
    CallsD Tryz.prog 67 #[p0] .returning w fun e u' w' => e = .returned (.tuple #[]) ∧ u' = .returning ∧ Below w.heap.size w w' := by
  obtain ⟨i0, hi0, hz0, hz1, hz2⟩ := info_parts unread_info
  have hta : ∀ (xt : TypeId) (w' : World), (Instr.typeAssert .nilIface xt 138 true).run Tryz.prog w' = .ok (.tuple #[.agg #[], .bool false]) w' := fun xt w' => by
    simp [Instr.typeAssert, run_underlying Tryz.underlying138, zeroValue, typeInfo, hi0, hz0, go_sem]
  refine callsD_of_wpS Tryz.func67 rfl fun c₀ cs hu => ?_
  apply wpS_seq
  apply wpS_region
  simp [wpOpsS, go_sem, recoverD, hu, Tryz.ntmps67, Exit.thenS, hta, Array.replicate]
  refine wpS_of_wp ?_
  go_wp2
  cases c₀
  refine ⟨rfl, .returning, by simp_all, .tuple #[], by simp [results, Tryz.results67, go_sem], rfl, rfl, (Below.refl _ _).alloc (Nat.le_refl _) _⟩
end Go.Proofs.YtddfdmopaeghnadGreatDoor

namespace Go.Proofs.YtddfdmopaeghnadGreatDoor

theorem behindL_some : ∀ {p l r : List UInt8}, behindL p l = some r → Lib.hasPrefix l p = true ∧ Lib.trimPrefix l p = r
  | [], l, r, h => by
    simp only [behindL, Option.some.injEq] at h
    subst h
    simp [Lib.trimPrefix, Lib.hasPrefix]
  | _ :: _, [], _, h => by simp [behindL] at h
  | a :: p, c :: l, r, h => by
    rw [behindL] at h
    split at h
    · rename_i hac
      subst hac
      obtain ⟨h1, h2⟩ := behindL_some h
      rw [Lib.trimPrefix, if_pos h1] at h2
      have h3 : Lib.hasPrefix (a :: l) (a :: p) = true := by simpa [Lib.hasPrefix, List.isPrefixOf] using h1
      rw [Lib.trimPrefix, if_pos h3]
      exact ⟨h3, by simpa using h2⟩
    · cases h
theorem behindL_none : ∀ {p l : List UInt8}, behindL p l = none → Lib.hasPrefix l p = false
  | [], l, h => by simp [behindL] at h
  | _ :: _, [], _ => by simp [Lib.hasPrefix, List.isPrefixOf]
  | a :: p, c :: l, h => by
    rw [behindL] at h
    split at h
    · rename_i hac
      subst hac
      have := behindL_none h
      simp only [Lib.hasPrefix] at this ⊢
      simpa [List.isPrefixOf] using this
    · rename_i hac
      simp [Lib.hasPrefix, List.isPrefixOf, hac]
theorem behindL_len : ∀ {p l r : List UInt8}, behindL p l = some r → r.length ≤ l.length
  | [], l, r, h => by
    simp only [behindL, Option.some.injEq] at h
    subst h
    exact Nat.le_refl _
  | _ :: _, [], _, h => by simp [behindL] at h
  | a :: p, c :: l, r, h => by
    rw [behindL] at h
    split at h
    · have := behindL_len h
      simp only [List.length_cons]
      omega
    · cases h
theorem index_nl : ∀ l : List UInt8, (10 ∉ l ∧ Lib.index l [10] = -1 ∧ cutL l = (l, [])) ∨ ∃ k : Nat, Lib.index l [10] = k ∧ k < l.length ∧ cutL l = (l.take k, l.drop (k + 1))
  | [] => .inl ⟨by simp, by simp [Lib.index], rfl⟩
  | c :: r => by
    by_cases hc : c = 10
    · subst hc
      exact .inr ⟨0, by simp [Lib.index, List.isPrefixOf], by simp, by simp [cutL]⟩
    · have hp : ([10] : List UInt8).isPrefixOf (c :: r) = false := by
        simp only [List.isPrefixOf, Bool.and_true, beq_eq_false_iff_ne]
        exact fun e => hc e.symm
      rcases index_nl r with ⟨h1, h2, h3⟩ | ⟨k, h1, h2, h3⟩
      · refine .inl ⟨by simp only [List.mem_cons, not_or]; exact ⟨fun e => hc e.symm, h1⟩, by rw [Lib.index, hp, h2]; rfl, ?_⟩
        rw [cutL, if_neg hc, h3]
      · refine .inr ⟨k + 1, ?_, by simp; omega, ?_⟩
        · rw [Lib.index, hp, h1]
          have : ((k : Int) == -1) = false := beq_eq_false_iff_ne.2 (by omega)
          simp [this]
        · rw [cutL, if_neg hc, h3]
          simp
theorem cut_nl (l : List UInt8) : (Lib.cut l [10]).1 = (cutL l).1 ∧ (Lib.cut l [10]).2.1 = (cutL l).2 := by
  rcases index_nl l with ⟨_, h2, h3⟩ | ⟨k, h1, h2, h3⟩
  · rw [h3]
    simp [Lib.cut, h2]
  · rw [h3]
    simp [Lib.cut, h1]
end Go.Proofs.YtddfdmopaeghnadGreatDoor

namespace Go.Proofs.YtddfdmopaeghnadGreatDoor
open Go.RowKit

/-- The session and the cell of the line's answer. -/
def LnAt (w0 : World) (d b : Nat) (x : Ses) (F : Nat → Prop) (w : World) (o : Nat) (v : Value) (w' : World) : Prop :=
  o = w.heap.size ∧ SesAt w0 d b x (fun k => F k ∨ k = o) w' ∧ w'.heap[o]? = some (.cells #[v] 9 (0, 0)) ∧ (∀ k, F k → w'.heap[k]? = w.heap[k]?) ∧ (∀ k, F k → k < o) ∧ w0.heap.size ≤ o
theorem SesAt.outV {w0 : World} {d b : Nat} {x : Ses} {F : Nat → Prop} {w : World} (h : SesAt w0 d b x F w) (v : Value) : LnAt w0 d b x F w w.heap.size v (w.alloc (.cells #[v] 9)) := by
  have hb : Below w.heap.size w (w.alloc (.cells #[v] 9)) := (Below.refl _ _).alloc (Nat.le_refl _) _
  refine ⟨rfl, h.more hb (fun k hk => ?_) (fun k hk => ?_), heap_new rfl, fun k hk => hb.block k (h.few k hk), h.few, h.bel.size⟩
  · rcases hk with hk | rfl
    · exact .inl hk
    · exact .inr (Nat.le_refl _)
  · rcases hk with hk | rfl
    · exact Nat.lt_of_lt_of_le (h.few k hk) hb.size
    · simp
theorem SesAt.out {w0 : World} {d b : Nat} {x : Ses} {F : Nat → Prop} {w : World} (h : SesAt w0 d b x F w) : LnAt w0 d b x F w w.heap.size (.string .empty) (w.alloc (.cells #[.string .empty] 9)) := h.outV _
theorem LnAt.step {w0 : World} {d b o : Nat} {x y : Ses} {F : Nat → Prop} {w w1 w2 : World} {v : Value} (h : LnAt w0 d b x F w o v w1) (hs : SesTo w0 d b y (fun k => F k ∨ k = o) w1 w2) : LnAt w0 d b y F w o v w2 :=
  ⟨h.1, hs.1, (hs.2.1 o (.inr rfl)).trans h.2.2.1, fun k hk => (hs.2.1 k (.inl hk)).trans (h.2.2.2.1 k hk), h.2.2.2.2.1, h.2.2.2.2.2⟩
theorem LnAt.past {w0 : World} {d b o : Nat} {x : Ses} {F : Nat → Prop} {w w1 w2 : World} {v : Value} (h : LnAt w0 d b x F w o v w1) (hb : Below w1.heap.size w1 w2) : LnAt w0 d b x F w o v w2 := h.step (h.2.1.past hb)
theorem LnAt.put {w0 : World} {d b o : Nat} {x : Ses} {F : Nat → Prop} {w w1 : World} {v : Value} (h : LnAt w0 d b x F w o v w1) (v' : Value) : LnAt w0 d b x F w o v' (w1.setCell ⟨o, 0, none⟩ v') := by
  obtain ⟨h1, h2, h3, h4, h5, h6⟩ := h
  refine ⟨h1, h2.other (fun k hk _ => Below.heap_setCell _ _ _ _ (fun e => hk (.inr e))) (by simp [World.setCell]) (h2.bel.setCell h6 _), ?_, fun k hk => ?_, h5, h6⟩
  · simp [World.setCell, Array.getElem?_modify, h3]
  · have : k ≠ o := fun e => by have := h5 k hk; omega
    exact (Below.heap_setCell _ _ _ _ this).trans (h4 k hk)
theorem LnAt.fin {w0 : World} {d b o : Nat} {x : Ses} {F : Nat → Prop} {w w1 w2 : World} {v : Value} (h : LnAt w0 d b x F w o v w1) (hb : Below w1.heap.size w1 w2) : w2.cell? ⟨o, 0, none⟩ = some v ∧ SesTo w0 d b x F w w2 := by
  have g := h.past hb
  obtain ⟨h1, h2, h3, h4, h5, h6⟩ := g
  have ho := lt_of_heap h3
  refine ⟨by rw [Lib.cell_of_heap h3]; rfl, h2.more (Below.refl _ _) (fun k hk => .inl (.inl hk)) (fun k hk => h2.few k (.inl hk)), h4, by omega⟩
theorem LnAt.c0 {w0 : World} {d b o : Nat} {x : Ses} {F : Nat → Prop} {w w1 : World} {v : Value} (h : LnAt w0 d b x F w o v w1) : w1.cell? ⟨o, 0, none⟩ = some v ∧ w1.frozen? ⟨o, 0, none⟩ = false ∧ w1.cell? ⟨b, 2, none⟩ = some (.pointer (some ⟨d, 0, none⟩)) :=
  ⟨by rw [Lib.cell_of_heap h.2.2.1]; rfl, Lib.frozen_of_heap h.2.2.1 0, h.2.1.c2⟩
theorem nl_app (r : List UInt8) : (⟨(r ++ [10]).toArray⟩ : ByteArray) = ⟨r.toArray⟩ ++ ⟨#[10]⟩ := by
  apply ByteArray.ext
  rw [ByteArray.data_append]
  simp
set_option maxRecDepth 100000 in
set_option maxHeartbeats 2000000 in
theorem line_plus {w0 : World} {d b : Nat} {x : Ses} {F : Nat → Prop} {w : World} (h : SesAt w0 d b x F w) (l : ByteArray) (hl : l.size ≤ 3000) (hx : x.s.size ≤ 6000) {r : List UInt8} (hr : behindL [43] l.data.toList = some r) :
    Calls Tryz.prog 40 #[.pointer (some ⟨b, 0, none⟩), .string l] w (fun e w' => e = .returned (.string okT) ∧ SesTo w0 d b { x with s := x.s ++ ⟨(r ++ [10]).toArray⟩ } F w w') := by
  rw [nl_app]
  obtain ⟨g1, g2⟩ := behindL_some hr
  have hlen : (⟨r.toArray⟩ : ByteArray).size ≤ 3000 := by
    have := behindL_len hr
    rw [rb_size] at this
    simp only [ByteArray.size, List.size_toArray] at this hl ⊢
    omega
  have HCP := Lib.hid (fun (w' : World) => Tryz.strings_CutPrefix l ⟨#[43]⟩ w')
  rw [g1, g2] at HCP
  have HO := Lib.hid h.out
  clear h g1 g2 hr hl
  generalize (⟨r.toArray⟩ : ByteArray) = R at *
  obtain ⟨c0, f0, -⟩ := HO.out.c0
  have hne : (R ++ ⟨#[10]⟩ : ByteArray).data.toList ≠ [] := by rw [ByteArray.data_append]; simp
  have hsz : x.s.size + (R ++ ⟨#[10]⟩ : ByteArray).size ≤ 140737488355328 := by
    rw [ByteArray.size_append]
    have : (⟨#[10]⟩ : ByteArray).size = 1 := rfl
    omega
  have HW := Lib.hid (HO.out.2.1.write (R ++ ⟨#[10]⟩) hne hsz)
  clear hne hsz hx
  have hmf : ∀ (fn : Fn) (first cap : Array Value) (w : World), (Instr.makeFunc fn first cap).run Tryz.prog w = .ok (.func fn first cap) w := fun _ _ _ _ => rfl
  go_enter_defers Tryz.func40, Tryz.ntmps40
  go_wp2_with (first
    | (go_at_call 68; refine (HCP.out _).mono ?_; rintro e w1 ⟨rfl, rfl⟩)
    | (go_at_call 35; refine HW.out.mono ?_; rintro e w2 ⟨rfl, hk⟩; have HO := Lib.hid (HO.out.step hk); clear hk; obtain ⟨c0, f0, -⟩ := HO.out.c0))
  refine leaves_cons (f := 67) (args := #[.pointer (some ⟨w.heap.size, 0, none⟩)]) (by simp) (by simp [go_sem]) ?_
  refine (lcatch_idle _ _).mono ?_
  rintro e u' w9 ⟨rfl, rfl, hB⟩
  obtain ⟨c0, hk⟩ := (HO.out.put (.string okT)).fin hB
  have HK := Lib.hid hk
  clear hB hk
  simp [Leaves, settle, results, Tryz.results40, go_sem, c0]
  exact HK.out
end Go.Proofs.YtddfdmopaeghnadGreatDoor

namespace Go.Proofs.YtddfdmopaeghnadGreatDoor
open Go.RowKit

/-- What is read as the program's text lays it. -/
structure RunG (w : World) : Prop where
  max : MaxL w
  pow : PowT w
  err : ErrT w
  esz : 0 + 1 ≤ w.heap.size
  ers : ErrS w
  ssz : 2 + 1 ≤ w.heap.size
  rsz : 3 + 1 ≤ w.heap.size
theorem RunG.past {w0 w : World} (h : RunG w0) (hb : Below w0.heap.size w0 w) : RunG w := by
  obtain ⟨h1, h2, h3, h4, ⟨⟨a, c, h5⟩, ⟨a', c', h6⟩⟩, h7, h8⟩ := h
  exact ⟨h1.past hb, h2.past hb, h3.past h4 hb, Nat.le_trans h4 hb.size, ⟨⟨a, c, (World.cell?_of_block (hb.block _ (by simp only; omega))).trans h5⟩, ⟨a', c', (World.cell?_of_block (hb.block _ (by simp only; omega))).trans h6⟩⟩, Nat.le_trans h7 hb.size, Nat.le_trans h8 hb.size⟩
theorem LnAt.run {w0 : World} {d b o : Nat} {x : Ses} {F : Nat → Prop} {w w1 : World} {v : Value} (h : LnAt w0 d b x F w o v w1) (hG : RunG w0) : RunG w1 := hG.past h.2.1.bel
theorem b_eq {l : ByteArray} {c : List UInt8} (h : l.data.toList = c) : (l.toList == c) = true := by
  rw [ByteArray.toList_eq, h]; simp
theorem b_ne {l : ByteArray} {c : List UInt8} (h : l.data.toList ≠ c) : (l.toList == c) = false := by
  rw [ByteArray.toList_eq, beq_eq_false_iff_ne]; exact h
end Go.Proofs.YtddfdmopaeghnadGreatDoor
