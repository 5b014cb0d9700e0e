/- Walk of the reference's Lay. Condition: the layer's block is the caller's own, the slices lie below it; the slice of nodes is a doc that may be. -/
import Derived.Test.YtddfdmopaeghnabDoorLayW
namespace Go.Proofs.YtddfdmopaeghnabDoor
open Go.RowKit

theorem wp_namedY {P : Program} {c : Code} {Q : Exit → Act → World → Prop} {a : Act} {w : World} (S : World → Prop) (hS : S w) (h : ∀ w', S w' → Code.wp P c Q a w') : Code.wp P c Q a w := h w hS

/-- What a call of Lay leaves. -/
def LayTo (g : Nat) (A : Option Addr) (c : Nat) (l : List Nd) (acc : ByteArray) (r : Except Int (ByteArray × List Int)) (w : World) (e : Ending) (w' : World) : Prop :=
  e = .returned (.tuple #[]) ∧ Below g w w' ∧ (∀ s ws, r = .ok (s, ws) → Lay g A c l ws (acc ++ s) w') ∧ (∀ k, r = .error k → LayE g A c l k w')

/-- The layer, and the node that a call holds in a block of its own. -/
structure LayN (g h : Nat) (A : Option Addr) (c : Nat) (l : List Nd) (ws : List Int) (acc : ByteArray) (op : Int) (t : ByteArray) (n : Int) (w0 w : World) : Prop where
  lay : Lay g A c l ws acc w
  nd : w.heap[h]? = some (.cells #[.int .i64 op, .string t, .int .i64 n] 51 (0, 0))
  bel : Below g w0 w
  lt : g < h

theorem Lay.cells {g : Nat} {A : Option Addr} {c : Nat} {l : List Nd} {ws : List Int} {acc : ByteArray} {w : World} (h : Lay g A c l ws acc w) :
    w.cell? ⟨g, 0, none⟩ = some (.slice A l.length c) ∧ w.cell? ⟨g, 2, none⟩ = some (.string acc) ∧ w.cell? ⟨g, 3, none⟩ = some (.int .i64 0) ∧ w.frozen? ⟨g, 2, none⟩ = false ∧ w.frozen? ⟨g, 3, none⟩ = false := by
  obtain ⟨WA, WC, h1, _⟩ := h.blk
  refine ⟨?_, ?_, ?_, Lib.frozen_of_heap h1 2, Lib.frozen_of_heap h1 3⟩ <;> rw [Lib.cell_of_heap h1] <;> rfl
theorem LayE.cells {g : Nat} {A : Option Addr} {c : Nat} {l : List Nd} {e : Int} {w : World} (h : LayE g A c l e w) :
    w.cell? ⟨g, 0, none⟩ = some (.slice A l.length c) ∧ w.cell? ⟨g, 3, none⟩ = some (.int .i64 e) := by
  obtain ⟨v1, v2, h1⟩ := h.blk
  refine ⟨?_, ?_⟩ <;> rw [Lib.cell_of_heap h1] <;> rfl
theorem LayN.cells {g h : Nat} {A : Option Addr} {c : Nat} {l : List Nd} {ws : List Int} {acc : ByteArray} {op : Int} {t : ByteArray} {n : Int} {w0 w : World} (x : LayN g h A c l ws acc op t n w0 w) :
    w.cell? ⟨h, 0, none⟩ = some (.int .i64 op) ∧ w.cell? ⟨h, 1, none⟩ = some (.string t) ∧ w.cell? ⟨h, 2, none⟩ = some (.int .i64 n) := by
  refine ⟨?_, ?_, ?_⟩ <;> rw [Lib.cell_of_heap x.nd] <;> rfl

set_option maxRecDepth 100000 in
set_option maxHeartbeats 1000000 in
/-- Behind a fault nothing is laid. -/
theorem lay_err {g : Nat} {A : Option Addr} {c : Nat} {l : List Nd} {k : Int} {w : World} (h : LayE g A c l k w) {i : Nat} {v : Int} (hv : v = i) (hi : i < l.length) (dp : Int) :
    Calls Tryd.prog 61 #[.pointer (some ⟨g, 0, none⟩), .int .i64 v, .int .i64 dp] w fun e w' => e = .returned (.tuple #[]) ∧ LayE g A c l k w' ∧ Below w.heap.size w w' := by
  subst hv
  have hm := h.nds.2.1
  unfold maxLen at hm
  have hgl := h.lt
  obtain ⟨c0, c3⟩ := h.cells
  obtain ⟨b, off, op, t, n, rfl, hb, hnd, hts, d1, d2, d3⟩ := h.nds.node (Below.refl _ _) hi
  have hk : (k != 0) = true := by simpa using h.ne
  have HL := Lib.hid h
  clear h hnd
  go_enter Tryd.func61, Tryd.ntmps61
  go_wp2
  (try simp only [Exit.inBlock, Exit.then]); refine bodyPost_ret (results_none rfl _ _ _) rfl ?_
  exact ⟨rfl, HL.out.past (by repeat (first | exact Below.refl _ _ | assumption | apply Below.drew | refine below_drewN ?_ _ | apply Below.setCell _ (by first | omega | (simp; done) | (simp; omega)) | apply Below.alloc _ (by first | omega | (simp; done) | (simp; omega)))), (by repeat (first | exact Below.refl _ _ | assumption | apply Below.drew | refine below_drewN ?_ _ | apply Below.setCell _ (by first | omega | (simp; done) | (simp; omega)) | apply Below.alloc _ (by first | omega | (simp; done) | (simp; omega))))⟩

def LaySaid (g : Nat) (A : Option Addr) (c : Nat) (l : List Nd) (f : Nat) : Prop :=
  ∀ (i dp : Nat) (v d : Int) (ws : List Int) (acc : ByteArray) (w : World), v = i → d = dp → i < l.length → l.length ≤ i + f → Lay g A c l ws acc w → Bits ws → dp + 8 * (docAt l i).sz ≤ 3200 → acc.size + 7000 * (docAt l i).sz ≤ 3000000 →
    Calls Tryd.prog 61 #[.pointer (some ⟨g, 0, none⟩), .int .i64 v, .int .i64 d] w (LayTo g A c l acc ((docAt l i).lay dp ws) w)

set_option maxRecDepth 100000 in
set_option maxHeartbeats 4000000 in
theorem lay_any {l : List Nd} {x : D} (hd : Doc l x) (g : Nat) (A : Option Addr) (c : Nat) : ∀ f, LaySaid g A c l f := by
  have h400 := hd.len
  have HD := Lib.hid hd; clear hd
  intro f
  induction f with
  | zero => intro i dp v d ws acc w hv hdp hi hf; omega
  | succ f ih =>
    intro i dp v d ws acc w hv hdp hi hf hl hbits hdz haz
    subst hv hdp
    have HI := Lib.hid ih; clear ih
    have hgl := hl.lt
    have hsp := (docAt l i).sz_pos
    obtain ⟨c0, c2, c3, f2, f3⟩ := hl.cells
    obtain ⟨b, off, op, t, n, rfl, hb, hnd, hts, d1, d2, d3⟩ := hl.nds.node (Below.refl _ _) hi
    have hone := HD.out.one _ (List.getElem_mem hi)
    rw [hnd] at hone
    have HL := Lib.hid hl; have HBT := Lib.hid hbits
    clear hl hbits
    have k1 : IntKind.i64.wrap ((i : Int) + 1) = (i : Int) + 1 := IntWalk.i64_in _ (by omega)
    have hgs : g ≤ w.heap.size := by omega
    rcases nd_cases hone with ⟨t', he, ht⟩ | he | he | he | he | he | ⟨n', hn', he⟩ | he | he <;> cases he <;> clear hone
    case succ.inl.refl =>
      have hres : (docAt l i).lay dp ws = .ok (t, ws) := by rw [HD.out.lay0 hi hnd rfl]; rfl
      rw [hres]
      have hcat : ∀ w', (Op.stringOp .add acc t).run Tryd.prog w' = .ok (.string (acc ++ t)) w' := fun w' => run_string_add_sum w' acc t (by omega)
      clear hnd hres
      go_enter Tryd.func61, Tryd.ntmps61
      go_wp2_with fail
      obtain ⟨h, hh⟩ : ∃ h, h = w.heap.size := ⟨_, rfl⟩
      rw [← hh]
      refine wp_namedY (fun wy => LayN g h (some ⟨b, off, none⟩) c l ws acc 1 t 0 w wy) ⟨HL.out.past (by repeat (first | exact Below.refl _ _ | assumption | apply Below.drew | refine below_drewN ?_ _ | apply Below.setCell _ (by first | omega | (simp; done) | (simp; omega)) | apply Below.alloc _ (by first | omega | (simp; done) | (simp; omega)))), heap_new hh.symm, (by repeat (first | exact Below.refl _ _ | assumption | apply Below.drew | refine below_drewN ?_ _ | apply Below.setCell _ (by first | omega | (simp; done) | (simp; omega)) | apply Below.alloc _ (by first | omega | (simp; done) | (simp; omega)))), by omega⟩ ?_
      clear hh c0 c2 c3 f2 f3 d1 d2 d3
      rintro wy hy
      obtain ⟨c0, c2, c3, f2, f3⟩ := hy.lay.cells
      obtain ⟨y0, y1, y2⟩ := hy.cells
      have HY := Lib.hid hy
      clear hy
      go_region
      all_goals
        go_wp2
        go_end0
        refine ⟨rfl, HY.out.bel.trans (Below.trans (by first | exact (Below.refl _ _).drew | exact Below.refl _ _) (by first | exact set_belowG _ _ _ _ | exact (set_belowG _ _ _ _).drew)), fun s r he => ?_, fun k he => by cases he⟩
        cases he
        first
          | exact (HY.out.lay.past (Below.refl _ _).drew).text _
          | exact (HY.out.lay.text _).past (Below.refl _ _).drew
          | exact HY.out.lay.text _
    case succ.inr.inl.refl =>
      have hres : (docAt l i).lay dp ws = .ok (⟨#[10]⟩ ++ blanksB dp, ws) := by rw [HD.out.lay0 hi hnd rfl]; rfl
      rw [hres]
      have HBL := Lib.hid (fun w' => blanks_any dp (by omega) w')
      have hbz := blanksB_size dp
      generalize blanksB dp = BL at *
      have hcat0 : ∀ w', (Op.stringOp .add acc ⟨#[10]⟩).run Tryd.prog w' = .ok (.string (acc ++ ⟨#[10]⟩)) w' := fun w' => run_string_add_sum w' acc ⟨#[10]⟩ (by show acc.size + 1 ≤ _; omega)
      have hcat : ∀ w', (Op.stringOp .add (acc ++ ⟨#[10]⟩) BL).run Tryd.prog w' = .ok (.string (acc ++ ⟨#[10]⟩ ++ BL)) w' := fun w' => run_string_add_sum w' _ BL (by rw [ByteArray.size_append]; show acc.size + 1 + BL.size ≤ _; omega)
      clear hnd hres
      go_enter Tryd.func61, Tryd.ntmps61
      go_wp2_with fail
      obtain ⟨h, hh⟩ : ∃ h, h = w.heap.size := ⟨_, rfl⟩
      rw [← hh]
      refine wp_namedY (fun wy => LayN g h (some ⟨b, off, none⟩) c l ws acc 2 .empty 0 w wy) ⟨HL.out.past (by repeat (first | exact Below.refl _ _ | assumption | apply Below.drew | refine below_drewN ?_ _ | apply Below.setCell _ (by first | omega | (simp; done) | (simp; omega)) | apply Below.alloc _ (by first | omega | (simp; done) | (simp; omega)))), heap_new hh.symm, (by repeat (first | exact Below.refl _ _ | assumption | apply Below.drew | refine below_drewN ?_ _ | apply Below.setCell _ (by first | omega | (simp; done) | (simp; omega)) | apply Below.alloc _ (by first | omega | (simp; done) | (simp; omega)))), by omega⟩ ?_
      clear hh c0 c2 c3 f2 f3 d1 d2 d3
      rintro wy hy
      obtain ⟨c0, c2, c3, f2, f3⟩ := hy.lay.cells
      obtain ⟨y0, y1, y2⟩ := hy.cells
      have HY := Lib.hid hy
      clear hy
      go_region_with (go_at_call 86; refine (HBL.out _).mono ?_; rintro e w1 ⟨rfl, rfl⟩)
      all_goals
        go_wp2
        go_end0
        refine ⟨rfl, HY.out.bel.trans (Below.trans (by first | exact (Below.refl _ _).drew | exact Below.refl _ _) (by first | exact set_belowG _ _ _ _ | exact (set_belowG _ _ _ _).drew)), fun s r he => ?_, fun k he => by cases he⟩
        cases he
        rw [← ByteArray.append_assoc]
        first
          | exact (HY.out.lay.past (Below.refl _ _).drew).text _
          | exact (HY.out.lay.text _).past (Below.refl _ _).drew
          | exact HY.out.lay.text _
    case succ.inr.inr.inl.refl =>
      have hres : (docAt l i).lay dp ws = .ok (⟨#[10]⟩ ++ blanksB dp, ws) := by rw [HD.out.lay0 hi hnd rfl]; rfl
      rw [hres]
      have HBL := Lib.hid (fun w' => blanks_any dp (by omega) w')
      have hbz := blanksB_size dp
      generalize blanksB dp = BL at *
      have hcat0 : ∀ w', (Op.stringOp .add acc ⟨#[10]⟩).run Tryd.prog w' = .ok (.string (acc ++ ⟨#[10]⟩)) w' := fun w' => run_string_add_sum w' acc ⟨#[10]⟩ (by show acc.size + 1 ≤ _; omega)
      have hcat : ∀ w', (Op.stringOp .add (acc ++ ⟨#[10]⟩) BL).run Tryd.prog w' = .ok (.string (acc ++ ⟨#[10]⟩ ++ BL)) w' := fun w' => run_string_add_sum w' _ BL (by rw [ByteArray.size_append]; show acc.size + 1 + BL.size ≤ _; omega)
      clear hnd hres
      go_enter Tryd.func61, Tryd.ntmps61
      go_wp2_with fail
      obtain ⟨h, hh⟩ : ∃ h, h = w.heap.size := ⟨_, rfl⟩
      rw [← hh]
      refine wp_namedY (fun wy => LayN g h (some ⟨b, off, none⟩) c l ws acc 3 .empty 0 w wy) ⟨HL.out.past (by repeat (first | exact Below.refl _ _ | assumption | apply Below.drew | refine below_drewN ?_ _ | apply Below.setCell _ (by first | omega | (simp; done) | (simp; omega)) | apply Below.alloc _ (by first | omega | (simp; done) | (simp; omega)))), heap_new hh.symm, (by repeat (first | exact Below.refl _ _ | assumption | apply Below.drew | refine below_drewN ?_ _ | apply Below.setCell _ (by first | omega | (simp; done) | (simp; omega)) | apply Below.alloc _ (by first | omega | (simp; done) | (simp; omega)))), by omega⟩ ?_
      clear hh c0 c2 c3 f2 f3 d1 d2 d3
      rintro wy hy
      obtain ⟨c0, c2, c3, f2, f3⟩ := hy.lay.cells
      obtain ⟨y0, y1, y2⟩ := hy.cells
      have HY := Lib.hid hy
      clear hy
      go_region_with (go_at_call 86; refine (HBL.out _).mono ?_; rintro e w1 ⟨rfl, rfl⟩)
      all_goals
        go_wp2
        go_end0
        refine ⟨rfl, HY.out.bel.trans (Below.trans (by first | exact (Below.refl _ _).drew | exact Below.refl _ _) (by first | exact set_belowG _ _ _ _ | exact (set_belowG _ _ _ _).drew)), fun s r he => ?_, fun k he => by cases he⟩
        cases he
        rw [← ByteArray.append_assoc]
        first
          | exact (HY.out.lay.past (Below.refl _ _).drew).text _
          | exact (HY.out.lay.text _).past (Below.refl _ _).drew
          | exact HY.out.lay.text _
    case succ.inr.inr.inr.inl.refl =>
      have hres : (docAt l i).lay dp ws = .ok (⟨#[10]⟩ ++ blanksB dp, ws) := by rw [HD.out.lay0 hi hnd rfl]; rfl
      rw [hres]
      have HBL := Lib.hid (fun w' => blanks_any dp (by omega) w')
      have hbz := blanksB_size dp
      generalize blanksB dp = BL at *
      have hcat0 : ∀ w', (Op.stringOp .add acc ⟨#[10]⟩).run Tryd.prog w' = .ok (.string (acc ++ ⟨#[10]⟩)) w' := fun w' => run_string_add_sum w' acc ⟨#[10]⟩ (by show acc.size + 1 ≤ _; omega)
      have hcat : ∀ w', (Op.stringOp .add (acc ++ ⟨#[10]⟩) BL).run Tryd.prog w' = .ok (.string (acc ++ ⟨#[10]⟩ ++ BL)) w' := fun w' => run_string_add_sum w' _ BL (by rw [ByteArray.size_append]; show acc.size + 1 + BL.size ≤ _; omega)
      clear hnd hres
      go_enter Tryd.func61, Tryd.ntmps61
      go_wp2_with fail
      obtain ⟨h, hh⟩ : ∃ h, h = w.heap.size := ⟨_, rfl⟩
      rw [← hh]
      refine wp_namedY (fun wy => LayN g h (some ⟨b, off, none⟩) c l ws acc 4 .empty 0 w wy) ⟨HL.out.past (by repeat (first | exact Below.refl _ _ | assumption | apply Below.drew | refine below_drewN ?_ _ | apply Below.setCell _ (by first | omega | (simp; done) | (simp; omega)) | apply Below.alloc _ (by first | omega | (simp; done) | (simp; omega)))), heap_new hh.symm, (by repeat (first | exact Below.refl _ _ | assumption | apply Below.drew | refine below_drewN ?_ _ | apply Below.setCell _ (by first | omega | (simp; done) | (simp; omega)) | apply Below.alloc _ (by first | omega | (simp; done) | (simp; omega)))), by omega⟩ ?_
      clear hh c0 c2 c3 f2 f3 d1 d2 d3
      rintro wy hy
      obtain ⟨c0, c2, c3, f2, f3⟩ := hy.lay.cells
      obtain ⟨y0, y1, y2⟩ := hy.cells
      have HY := Lib.hid hy
      clear hy
      go_region_with (go_at_call 86; refine (HBL.out _).mono ?_; rintro e w1 ⟨rfl, rfl⟩)
      all_goals
        go_wp2
        go_end0
        refine ⟨rfl, HY.out.bel.trans (Below.trans (by first | exact (Below.refl _ _).drew | exact Below.refl _ _) (by first | exact set_belowG _ _ _ _ | exact (set_belowG _ _ _ _).drew)), fun s r he => ?_, fun k he => by cases he⟩
        cases he
        rw [← ByteArray.append_assoc]
        first
          | exact (HY.out.lay.past (Below.refl _ _).drew).text _
          | exact (HY.out.lay.text _).past (Below.refl _ _).drew
          | exact HY.out.lay.text _
    case succ.inr.inr.inr.inr.inl.refl =>
      have hres : (docAt l i).lay dp ws = .ok (.empty, ws) := by rw [HD.out.lay0 hi hnd rfl]; rfl
      rw [hres]
      clear hnd hres
      go_enter Tryd.func61, Tryd.ntmps61
      go_wp2
      go_end0
      refine ⟨rfl, (by repeat (first | exact Below.refl _ _ | assumption | apply Below.drew | refine below_drewN ?_ _ | apply Below.setCell _ (by first | omega | (simp; done) | (simp; omega)) | apply Below.alloc _ (by first | omega | (simp; done) | (simp; omega)))), fun s r he => ?_, fun k he => by cases he⟩
      cases he
      rw [ByteArray.append_empty]
      exact HL.out.past (by repeat (first | exact Below.refl _ _ | assumption | apply Below.drew | refine below_drewN ?_ _ | apply Below.setCell _ (by first | omega | (simp; done) | (simp; omega)) | apply Below.alloc _ (by first | omega | (simp; done) | (simp; omega))))
    case succ.inr.inr.inr.inr.inr.inr.inl.refl =>
      obtain ⟨hi1, hsz, hres⟩ := HD.out.lay7 hi hnd
      rw [hres]
      have hc : (dp : Int) + (n' : Int) = ((dp + n' : Nat) : Int) := by omega
      have k2 : IntKind.i64.wrap ((dp : Int) + (n' : Int)) = (dp : Int) + (n' : Int) := IntWalk.i64_in _ (by omega)
      rw [hc]
      clear hnd hres hc
      go_enter Tryd.func61, Tryd.ntmps61
      go_wp2_with (go_at_call 61; refine (HI.out (i + 1) (dp + n') _ _ ws acc _ (by omega) (by omega) hi1 (by omega) (HL.out.past (by repeat (first | exact Below.refl _ _ | assumption | apply Below.drew | refine below_drewN ?_ _ | apply Below.setCell _ (by first | omega | (simp; done) | (simp; omega)) | apply Below.alloc _ (by first | omega | (simp; done) | (simp; omega))))) HBT.out (by omega) (by omega)).mono ?_; rintro e w1 ⟨rfl, hB, h1, h2⟩)
      go_end0
      exact ⟨rfl, Below.trans (by repeat (first | exact Below.refl _ _ | assumption | apply Below.drew | refine below_drewN ?_ _ | apply Below.setCell _ (by first | omega | (simp; done) | (simp; omega)) | apply Below.alloc _ (by first | omega | (simp; done) | (simp; omega)))) hB, h1, h2⟩
    case succ.inr.inr.inr.inr.inr.inl.refl =>
      obtain ⟨q, hi1, hq, hiq, hqe, hsz, hres⟩ := HD.out.lay6 hi hnd
      rw [hres]
      have hce := fun w' hw => endof_doc HD.out (some ⟨b, off, none⟩) c w' hw (i := i + 1) (v := (i : Int) + 1) (by omega) hi1
      rw [hqe] at hce
      have HCE := Lib.hid hce; clear hce hqe
      have hls := fun (s : ByteArray) (r : List Int) h hb => HD.out.lay_sz hi1 (dp := dp) (ws := ws) (r := r) (s := s) h hb
      have hlb := fun (s : ByteArray) (r : List Int) h hb => Doc.lay_bits (l := l) (i := i + 1) (dp := dp) (ws := ws) (r := r) (s := s) h hb
      have HI1 := Lib.hid (HI.out (i + 1) dp ((i : Int) + 1) dp ws acc)
      have HI2 := Lib.hid (fun ws => HI.out q dp (q : Int) dp ws)
      generalize (docAt l (i + 1)).lay dp ws = r1 at *
      cases r1 with
      | error k =>
        clear hls hlb hnd
        go_enter Tryd.func61, Tryd.ntmps61
        go_wp2_with (first
          | (go_at_call 61; (fail_if_success have hz := HE1); refine (HI1.out _ (by omega) rfl hi1 (by omega) (HL.out.past (by repeat (first | exact Below.refl _ _ | assumption | apply Below.drew | refine below_drewN ?_ _ | apply Below.setCell _ (by first | omega | (simp; done) | (simp; omega)) | apply Below.alloc _ (by first | omega | (simp; done) | (simp; omega))))) HBT.out (by omega) (by omega)).mono ?_; rintro e w1 ⟨rfl, hB, h1, h2⟩; have HE1 := Lib.hid (h2 k rfl); obtain ⟨c0, c3⟩ := HE1.out.cells; clear h1 h2)
          | (go_at_call 27; refine (HCE.out _ (HE1.out.nds.upto (by have := HE1.out.lt; omega))).mono ?_; rintro e w2 ⟨rfl, rfl⟩)
          | (go_at_call 61; refine (lay_err HE1.out (i := q) rfl hq _).mono ?_; rintro e w3 ⟨rfl, h3, hB3⟩))
        go_end0
        refine ⟨rfl, (Below.trans (by repeat (first | exact Below.refl _ _ | assumption | apply Below.drew | refine below_drewN ?_ _ | apply Below.setCell _ (by first | omega | (simp; done) | (simp; omega)) | apply Below.alloc _ (by first | omega | (simp; done) | (simp; omega)))) hB).trans (hB3.mono (by have := HE1.out.lt; omega)), fun s r he => ?_, fun k' he => ?_⟩
        · cases he
        · cases he
          exact h3
      | ok p =>
        obtain ⟨s1, ws1⟩ := p
        have hs1 := hls s1 ws1 rfl (by omega)
        obtain ⟨hb1, hl1⟩ := hlb s1 ws1 rfl HBT.out
        have hsa := ByteArray.size_append (a := acc) (b := s1)
        have HI2' := Lib.hid (HI2.out ws1 (acc ++ s1))
        have HLS : Hid (∀ s r, (docAt l q).lay dp ws1 = .ok (s, r) → laySeq (.ok (s1, ws1)) ((docAt l q).lay dp) = .ok (s1 ++ s, r)) := Lib.hid (fun s r h => by simp [laySeq, h])
        have HLE : Hid (∀ k, (docAt l q).lay dp ws1 = .error k → laySeq (.ok (s1, ws1)) ((docAt l q).lay dp) = .error k) := Lib.hid (fun k h => by simp [laySeq, h])
        clear hls hlb hnd HI2
        generalize laySeq (.ok (s1, ws1)) ((docAt l q).lay dp) = rr at *
        generalize (docAt l q).lay dp ws1 = r2 at *
        go_enter Tryd.func61, Tryd.ntmps61
        go_wp2_with (first
          | (go_at_call 61; (fail_if_success have hz := HE1); refine (HI1.out _ (by omega) rfl hi1 (by omega) (HL.out.past (by repeat (first | exact Below.refl _ _ | assumption | apply Below.drew | refine below_drewN ?_ _ | apply Below.setCell _ (by first | omega | (simp; done) | (simp; omega)) | apply Below.alloc _ (by first | omega | (simp; done) | (simp; omega))))) HBT.out (by omega) (by omega)).mono ?_; rintro e w1 ⟨rfl, hB, h1, h2⟩; have HE1 := Lib.hid (h1 s1 ws1 rfl); obtain ⟨c0, -, c3, -, -⟩ := HE1.out.cells; clear h1 h2)
          | (go_at_call 27; refine (HCE.out _ (HE1.out.nds.upto (by have := HE1.out.lt; omega))).mono ?_; rintro e w2 ⟨rfl, rfl⟩)
          | (go_at_call 61; refine (HI2'.out _ (by trivial) (by trivial) hq (by omega) HE1.out hb1 (by omega) (by omega)).mono ?_; rintro e w3 ⟨rfl, hB3, h3, h4⟩))
        go_end0
        refine ⟨rfl, (Below.trans (by repeat (first | exact Below.refl _ _ | assumption | apply Below.drew | refine below_drewN ?_ _ | apply Below.setCell _ (by first | omega | (simp; done) | (simp; omega)) | apply Below.alloc _ (by first | omega | (simp; done) | (simp; omega)))) hB).trans hB3, fun s r he => ?_, fun k' he => ?_⟩
        · cases r2 with
          | error k => rw [HLE.out k rfl] at he; cases he
          | ok p2 =>
            obtain ⟨s2, ws2⟩ := p2
            rw [HLS.out s2 ws2 rfl] at he
            cases he
            rw [← ByteArray.append_assoc]
            exact h3 _ _ rfl
        · cases r2 with
          | error k =>
            rw [HLE.out k rfl] at he
            cases he
            exact h4 _ rfl
          | ok p2 =>
            obtain ⟨s2, ws2⟩ := p2
            rw [HLS.out s2 ws2 rfl] at he
            cases he
    case succ.inr.inr.inr.inr.inr.inr.inr.inr.refl =>
      obtain ⟨q, hi1, hq, hiq, hqe, hsz, hres⟩ := HD.out.lay9 hi hnd
      have hce := fun w' hw => endof_doc HD.out (some ⟨b, off, none⟩) c w' hw (i := i + 1) (v := (i : Int) + 1) (by omega) hi1
      rw [hqe] at hce
      have HCE := Lib.hid hce
      clear hce hqe hnd
      cases ws with
      | nil =>
        rw [(hres dp).1]
        clear hres
        go_enter Tryd.func61, Tryd.ntmps61
        go_wp2_with (go_at_call 87; refine (choose_nil (HL.out.past (by repeat (first | exact Below.refl _ _ | assumption | apply Below.drew | refine below_drewN ?_ _ | apply Below.setCell _ (by first | omega | (simp; done) | (simp; omega)) | apply Below.alloc _ (by first | omega | (simp; done) | (simp; omega)))))).mono ?_; rintro e w1 ⟨rfl, hE, hB⟩; obtain ⟨c0, c3⟩ := hE.cells; have HE := Lib.hid hE; clear hE)
        (try simp only [Exit.inBlock, Exit.then]); refine bodyPost_ret (results_none rfl _ _ _) rfl ?_
        refine ⟨rfl, Below.trans (by repeat (first | exact Below.refl _ _ | assumption | apply Below.drew | refine below_drewN ?_ _ | apply Below.setCell _ (by first | omega | (simp; done) | (simp; omega)) | apply Below.alloc _ (by first | omega | (simp; done) | (simp; omega)))) hB, fun s r he => ?_, fun k' he => ?_⟩
        · cases he
        · cases he
          exact HE.out
      | cons v ws =>
        have hbt : Bits ws := fun z hz => HBT.out z (by simp [hz])
        have HBT2 := Lib.hid hbt
        have h01 : v = 0 ∨ v = 1 := HBT.out v (by simp)
        rcases h01 with rfl | rfl
        · rw [(hres dp).2.1]
          clear hres hbt
          go_enter Tryd.func61, Tryd.ntmps61
          go_wp2_with (first
            | (go_at_call 87; refine (choose_cons (HL.out.past (by repeat (first | exact Below.refl _ _ | assumption | apply Below.drew | refine below_drewN ?_ _ | apply Below.setCell _ (by first | omega | (simp; done) | (simp; omega)) | apply Below.alloc _ (by first | omega | (simp; done) | (simp; omega)))))).mono ?_; rintro e w1 ⟨rfl, hE, hB⟩; obtain ⟨c0, -, c3, -, -⟩ := hE.cells; have HE := Lib.hid hE; clear hE)
            | (go_at_call 61; refine (HI.out (i + 1) dp _ _ ws acc _ (by omega) (by first | trivial | rfl) hi1 (by omega) HE.out HBT2.out (by omega) (by omega)).mono ?_; rintro e w3 ⟨rfl, hB3, h3, h4⟩))
          go_end0
          exact ⟨rfl, (Below.trans (by repeat (first | exact Below.refl _ _ | assumption | apply Below.drew | refine below_drewN ?_ _ | apply Below.setCell _ (by first | omega | (simp; done) | (simp; omega)) | apply Below.alloc _ (by first | omega | (simp; done) | (simp; omega)))) hB).trans hB3, h3, h4⟩
        · rw [(hres dp).2.2]
          clear hres hbt
          go_enter Tryd.func61, Tryd.ntmps61
          go_wp2_with (first
            | (go_at_call 87; refine (choose_cons (HL.out.past (by repeat (first | exact Below.refl _ _ | assumption | apply Below.drew | refine below_drewN ?_ _ | apply Below.setCell _ (by first | omega | (simp; done) | (simp; omega)) | apply Below.alloc _ (by first | omega | (simp; done) | (simp; omega)))))).mono ?_; rintro e w1 ⟨rfl, hE, hB⟩; obtain ⟨c0, -, c3, -, -⟩ := hE.cells; have HE := Lib.hid hE; clear hE)
            | (go_at_call 27; refine (HCE.out _ (HE.out.nds.upto (by have := HE.out.lt; omega))).mono ?_; rintro e w2 ⟨rfl, rfl⟩)
            | (go_at_call 61; refine (HI.out q dp _ _ ws acc _ (by first | trivial | rfl) (by first | trivial | rfl) hq (by omega) HE.out HBT2.out (by omega) (by omega)).mono ?_; rintro e w3 ⟨rfl, hB3, h3, h4⟩))
          go_end0
          exact ⟨rfl, (Below.trans (by repeat (first | exact Below.refl _ _ | assumption | apply Below.drew | refine below_drewN ?_ _ | apply Below.setCell _ (by first | omega | (simp; done) | (simp; omega)) | apply Below.alloc _ (by first | omega | (simp; done) | (simp; omega)))) hB).trans hB3, h3, h4⟩
    case succ.inr.inr.inr.inr.inr.inr.inr.inl.refl =>
      obtain ⟨hi1, hsz, hres⟩ := HD.out.lay8 hi hnd
      have HFO := Lib.hid (fun w' h => flatof_any HD.out (some ⟨b, off, none⟩) c l.length (i + 1) ((i : Int) + 1) w' h (by omega) hi1 (by omega))
      have hfz := flat_size (HD.out.good_at hi1)
      clear hnd
      cases ws with
      | nil =>
        rw [(hres dp).1]
        clear hres
        go_enter Tryd.func61, Tryd.ntmps61
        go_wp2_with (go_at_call 87; refine (choose_nil (HL.out.past (by repeat (first | exact Below.refl _ _ | assumption | apply Below.drew | refine below_drewN ?_ _ | apply Below.setCell _ (by first | omega | (simp; done) | (simp; omega)) | apply Below.alloc _ (by first | omega | (simp; done) | (simp; omega)))))).mono ?_; rintro e w1 ⟨rfl, hE, hB⟩; obtain ⟨c0, c3⟩ := hE.cells; have HE := Lib.hid hE; clear hE)
        (try simp only [Exit.inBlock, Exit.then]); refine bodyPost_ret (results_none rfl _ _ _) rfl ?_
        refine ⟨rfl, Below.trans (by repeat (first | exact Below.refl _ _ | assumption | apply Below.drew | refine below_drewN ?_ _ | apply Below.setCell _ (by first | omega | (simp; done) | (simp; omega)) | apply Below.alloc _ (by first | omega | (simp; done) | (simp; omega)))) hB, fun s r he => ?_, fun k' he => ?_⟩
        · cases he
        · cases he
          exact HE.out
      | cons v ws =>
        have hbt : Bits ws := fun z hz => HBT.out z (by simp [hz])
        have HBT2 := Lib.hid hbt
        have h01 : v = 0 ∨ v = 1 := HBT.out v (by simp)
        rcases h01 with rfl | rfl
        · rw [(hres dp).2.2]
          clear hres hbt
          have hla : lineAt l (i + 1) = lineOf (docAt l (i + 1)).flat := rfl
          rw [hla] at HFO
          clear hla
          generalize (docAt l (i + 1)).flat = fl at *
          cases fl with
          | some s =>
            have hsl := hfz s rfl
            have hcat : ∀ w', (Op.stringOp .add acc s).run Tryd.prog w' = .ok (.string (acc ++ s)) w' := fun w' => run_string_add_sum w' acc s (by omega)
            simp only [lineOf] at HFO ⊢
            clear hfz
            go_enter Tryd.func61, Tryd.ntmps61
            go_wp2_with (first
              | (go_at_call 87; refine (choose_cons (HL.out.past (by repeat (first | exact Below.refl _ _ | assumption | apply Below.drew | refine below_drewN ?_ _ | apply Below.setCell _ (by first | omega | (simp; done) | (simp; omega)) | apply Below.alloc _ (by first | omega | (simp; done) | (simp; omega)))))).mono ?_; rintro e w1 ⟨rfl, hE, hB⟩; obtain ⟨c0, -, c3, -, -⟩ := hE.cells; have HE := Lib.hid hE; clear hE)
              | (go_at_call 88; refine (HFO.out _ (HE.out.nds.upto (by have := HE.out.lt; omega))).mono ?_; rintro e w2 ⟨rfl, hB2⟩; have hF := HE.out.past hB2; obtain ⟨e0, e2, e3, e4, e5⟩ := hF.cells; have HF := Lib.hid hF; clear hF))
            go_end0
            refine ⟨rfl, ((Below.trans (by repeat (first | exact Below.refl _ _ | assumption | apply Below.drew | refine below_drewN ?_ _ | apply Below.setCell _ (by first | omega | (simp; done) | (simp; omega)) | apply Below.alloc _ (by first | omega | (simp; done) | (simp; omega)))) hB).trans (hB2.mono (by have := HE.out.lt; omega))).trans (set_belowG _ _ _ _), fun s r he => ?_, fun k' he => ?_⟩
            · cases he
              exact HF.out.text _
            · cases he
          | none =>
            have hcat : ∀ w', (Op.stringOp .add acc .empty).run Tryd.prog w' = .ok (.string (acc ++ .empty)) w' := fun w' => run_string_add_sum w' acc .empty (by show acc.size + 0 ≤ _; omega)
            simp only [lineOf] at HFO ⊢
            clear hfz
            go_enter Tryd.func61, Tryd.ntmps61
            go_wp2_with (first
              | (go_at_call 87; refine (choose_cons (HL.out.past (by repeat (first | exact Below.refl _ _ | assumption | apply Below.drew | refine below_drewN ?_ _ | apply Below.setCell _ (by first | omega | (simp; done) | (simp; omega)) | apply Below.alloc _ (by first | omega | (simp; done) | (simp; omega)))))).mono ?_; rintro e w1 ⟨rfl, hE, hB⟩; obtain ⟨c0, -, c3, -, -⟩ := hE.cells; have HE := Lib.hid hE; clear hE)
              | (go_at_call 88; refine (HFO.out _ (HE.out.nds.upto (by have := HE.out.lt; omega))).mono ?_; rintro e w2 ⟨rfl, hB2⟩; have hF := HE.out.past hB2; obtain ⟨e0, e2, e3, e4, e5⟩ := hF.cells; have HF := Lib.hid hF; clear hF))
            go_end0
            refine ⟨rfl, (((Below.trans (by repeat (first | exact Below.refl _ _ | assumption | apply Below.drew | refine below_drewN ?_ _ | apply Below.setCell _ (by first | omega | (simp; done) | (simp; omega)) | apply Below.alloc _ (by first | omega | (simp; done) | (simp; omega)))) hB).trans (hB2.mono (by have := HE.out.lt; omega))).trans (set_belowG _ _ _ _)).trans (set_belowG _ _ _ _), fun s r he => ?_, fun k' he => ?_⟩
            · cases he
            · cases he
              exact (HF.out.fault (by decide)).text _
        · rw [(hres dp).2.1]
          clear hres hbt hfz
          go_enter Tryd.func61, Tryd.ntmps61
          go_wp2_with (first
            | (go_at_call 87; refine (choose_cons (HL.out.past (by repeat (first | exact Below.refl _ _ | assumption | apply Below.drew | refine below_drewN ?_ _ | apply Below.setCell _ (by first | omega | (simp; done) | (simp; omega)) | apply Below.alloc _ (by first | omega | (simp; done) | (simp; omega)))))).mono ?_; rintro e w1 ⟨rfl, hE, hB⟩; obtain ⟨c0, -, c3, -, -⟩ := hE.cells; have HE := Lib.hid hE; clear hE)
            | (go_at_call 61; refine (HI.out (i + 1) dp _ _ ws acc _ (by omega) (by first | trivial | rfl) hi1 (by omega) HE.out HBT2.out (by omega) (by omega)).mono ?_; rintro e w3 ⟨rfl, hB3, h3, h4⟩))
          (try simp only [Exit.inBlock, Exit.then]); first | refine bodyPost_ret (results_none rfl _ _ _) rfl ?_ | refine bodyPost_end (results_none rfl _ _ _) rfl ?_
          exact ⟨rfl, (Below.trans (by repeat (first | exact Below.refl _ _ | assumption | apply Below.drew | refine below_drewN ?_ _ | apply Below.setCell _ (by first | omega | (simp; done) | (simp; omega)) | apply Below.alloc _ (by first | omega | (simp; done) | (simp; omega)))) hB).trans hB3, h3, h4⟩
end Go.Proofs.YtddfdmopaeghnabDoor
