/- Walk: doc.Text, the writer's write. Condition: the slice of nodes lies below the call's own blocks. -/
import Derived.Test.YtddfdmopaeghnabDoorBldIn
import Derived.Test.YtddfdmopaeghnabDoorSign
import Derived.Test.YtddfdmopaeghnabDoorEndsW
import Derived.Deep.QuietTactic
import Derived.BigQuiet
namespace Go.Proofs.YtddfdmopaeghnabDoor
open Go.RowKit

/-- The text of a node's first parts. -/
def preT (l : List Nd) (i : Nat) (mid : List UInt8) : Nat → List UInt8
  | 0 => []
  | m + 1 => preT l i mid m ++ ((if 0 < m then mid else []) ++ (docAt l (nextEnd l i m)).text)

theorem sgMid_un {d : Nd} (h : parts d.op ≠ 2) : sgMid d = [] := by
  unfold sgMid
  rw [if_neg]
  intro e
  exact h (by rw [e]; rfl)
theorem Doc.text_parts {l : List Nd} {x : D} (hd : Doc l x) {i : Nat} (hi : i < l.length) : ∃ p : Nat, parts l[i].op = p ∧ p ≤ 2 ∧ nextEnd l i p = endAt l i ∧ (∀ j, j < p → i < nextEnd l i j ∧ nextEnd l i j < l.length) ∧ (docAt l i).text = sgOpen l[i] ++ preT l i (sgMid l[i]) p ++ sgEnd l[i] := by
  rcases hd.parts_ hi with ⟨h1, h2⟩ | ⟨h1, h2, h3⟩ | ⟨h1, h2, h3, h4⟩
  · refine ⟨0, h1, by omega, ?_, fun j hj => absurd hj (by omega), ?_⟩
    · simp [nextEnd, endAt, h2, D.sz]
    · rw [h2]; simp [D.text, preT]
  · refine ⟨1, h1, by omega, ?_, fun j hj => ?_, ?_⟩
    · simp [nextEnd, endAt, h3, D.sz]; omega
    · obtain rfl : j = 0 := by omega
      simp only [nextEnd]; omega
    · rw [h3]; simp [D.text, preT, nextEnd]
  · refine ⟨2, h1, by omega, ?_, fun j hj => ?_, ?_⟩
    · simp [nextEnd, endAt, h4, D.sz]; omega
    · have hj' : j = 0 ∨ j = 1 := by omega
      rcases hj' with rfl | rfl
      · simp only [nextEnd]; omega
      · simp only [nextEnd, endAt]; omega
    · rw [h4]; simp [D.text, preT, nextEnd, endAt]

theorem sg_len {d : Nd} (h : oneF d.op d.text d.n = 0) : (sgOpen d).length ≤ 22 ∧ (sgMid d).length ≤ 1 ∧ (sgEnd d).length ≤ 1 := by
  rcases nd_cases h with ⟨t, rfl, ht⟩ | rfl | rfl | rfl | rfl | rfl | ⟨n, hn, rfl⟩ | rfl | rfl
  case inl =>
    refine ⟨?_, by simp [sgMid], by simp [sgEnd]⟩
    have : t.data.toList.length = t.size := by simp
    simp only [sgOpen, if_true, List.length_cons, List.length_append, this, List.length_nil]
    omega
  all_goals exact ⟨by simp [sgOpen], by simp [sgMid], by simp [sgEnd]⟩
theorem text_len {x : D} (hg : ∀ d ∈ x.enc, oneF d.op d.text d.n = 0) : x.text.length ≤ 25 * x.sz := by
  induction x with
  | leaf d =>
    have h := sg_len (hg d (by simp [D.enc]))
    simp only [D.text, D.sz, List.length_append]
    omega
  | un d a ih =>
    have h := sg_len (hg d (by simp [D.enc]))
    have h2 := ih (fun e he => hg e (by simp [D.enc, he]))
    simp only [D.text, D.sz, List.length_append]
    omega
  | bin d a b ia ib =>
    have h := sg_len (hg d (by simp [D.enc]))
    have h2 := ia (fun e he => hg e (by simp [D.enc, he]))
    have h3 := ib (fun e he => hg e (by simp [D.enc, he]))
    simp only [D.text, D.sz, List.length_append]
    omega
theorem Doc.text_at {l : List Nd} {x : D} (hd : Doc l x) {i : Nat} (hi : i < l.length) : (docAt l i).text.length + 25 * i ≤ 25 * endAt l i := by
  obtain ⟨r, h1, h2⟩ := hd.at_ hi
  have := text_len (x := docAt l i) (fun d h => hd.one d (List.mem_of_mem_drop (i := i) (by rw [h1]; simp [h])))
  unfold endAt
  omega
theorem Doc.pre_len {l : List Nd} {x : D} (hd : Doc l x) {i : Nat} {p : Nat} (hp : ∀ j, j < p → i < nextEnd l i j ∧ nextEnd l i j < l.length) {mid : List UInt8} (hm : mid.length ≤ 1) : ∀ m, m ≤ p → m ≤ 2 → 25 + (preT l i mid m).length + 25 * i ≤ 25 * nextEnd l i m + (m - 1) := by
  intro m
  induction m with
  | zero => intro _ _; simp [preT, nextEnd]; omega
  | succ m ih =>
    intro h h2
    have h1 := ih (by omega) (by omega)
    obtain ⟨h3, h4⟩ := hp m (by omega)
    have h5 := hd.text_at h4
    have h6 := hd.end_le h4
    simp only [preT, nextEnd, List.length_append]
    split
    · omega
    · simp only [List.length_nil]; omega

theorem Nds.under {w w' : World} {B C : Nat} {A : Option Addr} {l : List Nd} (h : Nds w B A l) (hb : Below C w w') (hC : B ≤ C) : Nds w' B A l := ⟨h.1.below hb hC, h.2⟩

theorem then_namedW {K : Act → World → Prop} {Q : Exit → Act → World → Prop} {e : Exit} {a : Act} {w : World} (S : World → Prop) (hS : S w) (h : ∀ w', S w' → Exit.then K Q e a w') : Exit.then K Q e a w := h w hS

/-- The text behind so many parts. -/
def accW (l : List Nd) (i : Nat) (s : ByteArray) (oS mS : List UInt8) (m : Nat) : ByteArray := s ++ sB oS ++ sB (preT l i mS m)
theorem sB_nil (a : ByteArray) : a ++ sB [] = a := by
  apply ByteArray.ext
  simp [sB, ByteArray.data_append]
theorem accW_zero (l : List Nd) (i : Nat) (s : ByteArray) (oS mS : List UInt8) : accW l i s oS mS 0 = s ++ sB oS := sB_nil _
theorem accW_one (l : List Nd) (i : Nat) (s : ByteArray) (oS mS : List UInt8) : accW l i s oS mS (0 + 1) = accW l i s oS mS 0 ++ sB (docAt l (nextEnd l i 0)).text := by
  rw [accW_zero]
  simp [accW, preT]
theorem accW_two (l : List Nd) (i : Nat) (s : ByteArray) (oS mS : List UInt8) : accW l i s oS mS (1 + 1) = accW l i s oS mS 1 ++ sB mS ++ sB (docAt l (nextEnd l i 1)).text := by
  have e : preT l i mS (1 + 1) = preT l i mS 1 ++ (mS ++ (docAt l (nextEnd l i 1)).text) := by simp [preT]
  simp only [accW, e, sB_app, ByteArray.append_assoc]
theorem accW_end {l : List Nd} {i : Nat} {s : ByteArray} {oS mS eS t : List UInt8} {m : Nat} (h : t = oS ++ preT l i mS m ++ eS) : s ++ sB t = accW l i s oS mS m ++ sB eS := by
  simp only [accW, h, sB_app, ByteArray.append_assoc]
theorem accW_size (l : List Nd) (i : Nat) (s : ByteArray) (oS mS : List UInt8) (m : Nat) : (accW l i s oS mS m).size = s.size + oS.length + (preT l i mS m).length := by
  simp only [accW, ByteArray.size_append, sB_size]

def WrSaid (l : List Nd) (A : Option Addr) (c B b f : Nat) : Prop := ∀ (i : Nat) (s : ByteArray) (w : World), i < l.length → l.length ≤ i + f → Wr B b (.slice A l.length c) i s w → Nds w B A l → s.size ≤ 25 * i →
  Calls Tryd.prog 58 #[.pointer (some ⟨b, 0, none⟩)] w fun e w' => e = .returned (.tuple #[]) ∧ Wr B b (.slice A l.length c) (endAt l i) (s ++ sB (docAt l i).text) w' ∧ Below B w w'

set_option maxRecDepth 100000 in
set_option maxHeartbeats 4000000 in
theorem write_any {l : List Nd} {x : D} (hd : Doc l x) (A : Option Addr) (c B b : Nat) : ∀ f, WrSaid l A c B b f := by
  have h400 := hd.len
  have HD := Lib.hid hd; clear hd
  intro f
  induction f with
  | zero => intro i s w hi hf; omega
  | succ f ih =>
    intro i s w hi hf hw hn hs
    obtain ⟨p, hp, hp2, hpe, hpj, htx⟩ := HD.out.text_parts hi
    have hone := HD.out.one _ (List.getElem_mem hi)
    obtain ⟨so, sm, se⟩ := sg_len hone
    have HPL := Lib.hid (HD.out.pre_len hpj sm)
    obtain ⟨ad, off, op, t, n, rfl, hb, hnd, hts, d1, d2, d3⟩ := hn.node (Below.refl _ _) hi
    have HSG : Hid (∀ w', Calls Tryd.prog 85 #[.agg #[.int .i64 op, .string t, .int .i64 n]] w' (Ret w' (.tuple #[.string (sB (sgOpen l[i])), .string (sB (sgMid l[i])), .string (sB (sgEnd l[i]))]))) := Lib.hid (fun w' => by have h := signs_any hone w'; rw [hnd] at h ⊢; exact h)
    rw [hnd] at hp
    simp only at hp
    rw [hpe.symm] 
    generalize sgOpen l[i] = oS at *
    generalize sgMid l[i] = mS at *
    generalize sgEnd l[i] = eS at *
    have HI := Lib.hid ih; have HW := Lib.hid hw; have HN := Lib.hid hn; have HT := Lib.hid htx; have HPE := Lib.hid hpe; have HPJ := Lib.hid hpj
    have x2 := hw.c2
    have x3 := hw.c3
    obtain ⟨hBb, hbl, -⟩ := hw.blk
    have hBs := hw.2
    have x4 := hw.free 3
    clear ih hw hn htx hpe hpj hone hnd
    have k1 : IntKind.i64.wrap ((i : Int) + 1) = ((i + 1 : Nat) : Int) := by rw [IntWalk.i64_in _ (by omega)]; omega
    have k2 : (i : Int) < (l.length : Int) := by omega
    have k3 : decide ((i : Int) < (l.length : Int)) = true := decide_eq_true k2
    have k4 : decide (i < l.length) = true := decide_eq_true hi
    go_enter Tryd.func58, Tryd.ntmps58
    go_wp2_with fail
    have hBa : Below w.heap.size w (w.alloc (.cells #[.int .i64 0, .string .empty, .int .i64 0] 51)) := (Below.refl _ _).alloc (Nat.le_refl _) _
    have a2 := (hBa.cell (p := ⟨b, 2, none⟩) hbl).trans x2
    have a3 := (hBa.cell (p := ⟨b, 3, none⟩) hbl).trans x3
    have hab : ad < w.heap.size := by omega
    have a4 := (hBa.cell (p := ⟨ad, off + i * 3, none⟩) hab).trans d1
    have a5 := (hBa.cell (p := ⟨ad, off + i * 3 + 1, none⟩) hab).trans d2
    have a6 := (hBa.cell (p := ⟨ad, off + i * 3 + 2, none⟩) hab).trans d3
    go_region
    all_goals
      clear a2 a3 a4 a5 a6 hBa d1 d2 d3 x2 x3
      refine then_namedW (fun wy => Wr B b (.slice (some ⟨ad, off, none⟩) l.length c) i s wy ∧ wy.heap[w.heap.size]? = some (.cells #[.int .i64 op, .string t, .int .i64 n] 51 (0, 0)) ∧ Below w.heap.size w wy) ⟨HW.out.past (by repeat (first | exact Below.refl _ _ | assumption | apply Below.drew | refine below_drewN ?_ _ | apply Below.setCell _ (by first | omega | (simp; done) | (simp; omega)) | apply Below.alloc _ (by first | omega | (simp; done) | (simp; omega)))), heap_new rfl, (by repeat (first | exact Below.refl _ _ | assumption | apply Below.drew | refine below_drewN ?_ _ | apply Below.setCell _ (by first | omega | (simp; done) | (simp; omega)) | apply Below.alloc _ (by first | omega | (simp; done) | (simp; omega))))⟩ ?_
      rintro wy ⟨hwy, hny, hBy⟩
      have x3 := hwy.c3
      have x4 := hwy.free 3
      have g0 : wy.cell? ⟨w.heap.size, 0, none⟩ = some (.int .i64 op) := by rw [Lib.cell_of_heap hny]; rfl
      have g1 : wy.cell? ⟨w.heap.size, 1, none⟩ = some (.string t) := by rw [Lib.cell_of_heap hny]; rfl
      have g2 : wy.cell? ⟨w.heap.size, 2, none⟩ = some (.int .i64 n) := by rw [Lib.cell_of_heap hny]; rfl
      have hw2 := hwy.set (i + 1)
      have hny2 : (wy.setCell ⟨b, 3, none⟩ (.int .i64 ((i + 1 : Nat) : Int))).heap[w.heap.size]? = some (.cells #[.int .i64 op, .string t, .int .i64 n] 51 (0, 0)) := (Below.heap_setCell _ _ _ _ (by show w.heap.size ≠ b; omega)).trans hny
      have e0 : (wy.setCell ⟨b, 3, none⟩ (.int .i64 ((i + 1 : Nat) : Int))).cell? ⟨w.heap.size, 0, none⟩ = some (.int .i64 op) := by rw [Lib.cell_of_heap hny2]; rfl
      have e1 : (wy.setCell ⟨b, 3, none⟩ (.int .i64 ((i + 1 : Nat) : Int))).cell? ⟨w.heap.size, 1, none⟩ = some (.string t) := by rw [Lib.cell_of_heap hny2]; rfl
      have e2 : (wy.setCell ⟨b, 3, none⟩ (.int .i64 ((i + 1 : Nat) : Int))).cell? ⟨w.heap.size, 2, none⟩ = some (.int .i64 n) := by rw [Lib.cell_of_heap hny2]; rfl
      have HW2 := Lib.hid hw2; have HNY := Lib.hid hny2; have HBY := Lib.hid (hBy.mono hBs)
      clear hwy hny hBy hw2 hny2
      go_wp2_with (first
        | (go_at_call 85; refine (HSG.out _).mono ?_; rintro e w1 ⟨rfl, hB1⟩; have HW3 := Lib.hid (HW2.out.past hB1); have HN3 := Lib.hid ((hB1.block _ (Array.getElem?_eq_some_iff.1 HNY.out).1).trans HNY.out))
        | (go_at_call 54; refine (wr_write B b _ (i + 1) s (sB oS) _ HW3.out (by rw [sB_size]; omega)).mono ?_; rintro e w2 ⟨rfl, hw4, hB2, hbe, hsz2⟩; have h0 : w2.cell? ⟨w.heap.size, 0, none⟩ = some (.int .i64 op) := (by rw [Lib.cell_of_heap (hbe _ _ HN3.out (by omega) (by intro c fz e; cases e))]; rfl))
        | (go_at_call 57; refine (parts_any _ _).mono ?_; rintro e w3 ⟨rfl, rfl⟩; rw [hp]))
      have hb2 : Below B w w2 := ((HBY.out.setCell (p := ⟨b, 3, none⟩) hBb _).trans (hB1.mono HW2.out.2)).trans hB2
      have HB2 := Lib.hid hb2; have HW4 := Lib.hid hw4
      clear hb2 hw4 hB2 hbe hB1 HW3 HN3 HW2 HNY HBY h0 e0 e1 e2 g0 g1 g2 x3 x4 HSG
      go_loopw [38] (fun k wr => ∃ m : Nat, m ≤ p ∧ k = .int .i64 m ∧ Wr B b (.slice (some ⟨ad, off, none⟩) l.length c) (nextEnd l i m) (accW l i s oS mS m) wr ∧ Below B w wr) (fun k _ => p - (intOf k).toNat)
      case atStart => exact ⟨0, by omega, rfl, by rw [accW_zero]; exact HW4.out, HB2.out⟩
      case round =>
        rename_i wr
        obtain ⟨m, hm, rfl, hwr, hbr⟩ := hrel
        have HWr := Lib.hid hwr; have HBr := Lib.hid hbr
        have hpl := HPL.out m hm (by omega)
        have hsz := accW_size l i s oS mS m
        clear hwr hbr HW4 HB2
        by_cases hlt : m < p
        · obtain ⟨j1, j2⟩ := HPJ.out m hlt
          have HE : Hid (endAt l (nextEnd l i m) = nextEnd l i (m + 1)) := Lib.hid rfl
          have hm01 : m = 0 ∨ m = 1 := by omega
          rcases hm01 with rfl | rfl
          · have HA := Lib.hid (accW_one l i s oS mS)
            go_wp2_with (go_at_call 58; refine (HI.out (nextEnd l i 0) (accW l i s oS mS 0) _ j2 (by omega) HWr.out (HN.out.under HBr.out (Nat.le_refl _)) (by omega)).mono ?_; rintro e w5 ⟨rfl, hw5, hB5⟩; rw [← HA.out, HE.out] at hw5)
            go_roundw
            case measure => simp [intOf]; omega
            case rel => exact ⟨0 + 1, by omega, by go_num, hw5, HBr.out.trans hB5⟩
          · have HA := Lib.hid (accW_two l i s oS mS)
            go_wp2_with (first
              | (go_at_call 54; refine (wr_write B b _ (nextEnd l i 1) (accW l i s oS mS 1) (sB mS) _ HWr.out (by rw [sB_size]; omega)).mono ?_; rintro e w5 ⟨rfl, hw5, hB5, hbe5, hsz5⟩; have HW5 := Lib.hid hw5; have HB5 := Lib.hid (HBr.out.trans hB5); clear hw5 hB5 hbe5)
              | (go_at_call 58; refine (HI.out (nextEnd l i 1) (accW l i s oS mS 1 ++ sB mS) _ j2 (by omega) HW5.out (HN.out.under HB5.out (Nat.le_refl _)) (by rw [ByteArray.size_append, sB_size]; omega)).mono ?_; rintro e w6 ⟨rfl, hw6, hB6⟩; rw [← HA.out, HE.out] at hw6))
            go_roundw
            case measure => simp [intOf]; omega
            case rel => exact ⟨1 + 1, by omega, by go_num, hw6, HB5.out.trans hB6⟩
        · obtain rfl : m = p := by omega
          have hpe2 := HPE.out
          have hle := (HD.out.end_le hi).2
          have HX : Hid (s ++ sB (docAt l i).text = accW l i s oS mS m ++ sB eS) := Lib.hid (accW_end HT.out)
          go_wp2_with (go_at_call 54; refine (wr_write B b _ (nextEnd l i m) (accW l i s oS mS m) (sB eS) _ HWr.out (by rw [sB_size]; omega)).mono ?_; rintro e w5 ⟨rfl, hw5, hB5, hbe5, hsz5⟩; have HW5 := Lib.hid hw5; have HB5 := Lib.hid (HBr.out.trans hB5); clear hw5 hB5 hbe5)
          go_end0
          exact ⟨rfl, by rw [HX.out]; exact HW5.out, HB5.out⟩

set_option maxRecDepth 100000 in
set_option maxHeartbeats 2000000 in
/-- doc.Text of a doc that may not be. -/
theorem text_bad (l : List Nd) (A : Option Addr) (c : Nat) (w : World) (hl : Nds w w.heap.size A l) (he : checkF l ≠ 0) :
    Calls Tryd.prog 26 #[.slice A l.length c] w (Ret w (.tuple #[.string .empty, .iface 24 (.int .i64 (checkF l))])) := by
  have HC := Lib.hid (check_any l A c w hl)
  rw [← errV_pos he] at HC
  generalize checkF l = k at HC ⊢
  clear he hl
  go_enter Tryd.func26, Tryd.ntmps26
  go_wp2_with (go_at_call 24; refine HC.out.mono ?_; rintro e w1 ⟨rfl, hB1⟩)
  go_ret2
  exact ⟨rfl, (by repeat (first | exact Below.refl _ _ | assumption | apply Below.drew | refine below_drewN ?_ _ | apply Below.setCell _ (by first | omega | (simp; done) | (simp; omega)) | apply Below.alloc _ (by first | omega | (simp; done) | (simp; omega))))⟩

theorem text_ne (x : D) (hg : oneF x.hd.op x.hd.text x.hd.n = 0) : (sB x.text).data.toList ≠ [] := by
  have main : ∀ d : Nd, oneF d.op d.text d.n = 0 → ∀ r, sgOpen d ++ r ≠ [] := by
    intro d h r
    rcases nd_cases h with ⟨t, rfl, ht⟩ | rfl | rfl | rfl | rfl | rfl | ⟨n, hn, rfl⟩ | rfl | rfl <;> simp [sgOpen]
  cases x with
  | leaf d => simpa [sB, D.text] using main d hg (sgEnd d)
  | un d a => simpa [sB, D.text] using main d hg (a.text ++ sgEnd d)
  | bin d a b => simpa [sB, D.text] using main d hg (a.text ++ (sgMid d ++ (b.text ++ sgEnd d)))

set_option maxRecDepth 100000 in
set_option maxHeartbeats 2000000 in
/-- doc.Text of a doc that may be. -/
theorem text_good {l : List Nd} {x : D} (hd : Doc l x) (A : Option Addr) (c : Nat) (w : World) (hl : Nds w w.heap.size A l) :
    Calls Tryd.prog 26 #[.slice A l.length c] w (Ret w (.tuple #[.string (sB x.text), .nilIface])) := by
  have HC := Lib.hid (check_any l A c w hl)
  rw [hd.check, ← errV_zero rfl] at HC
  have hpos := hd.pos
  have hne := text_ne x (hd.one _ (by rw [hd.enc]; cases x <;> simp [D.enc, D.hd]))
  have hx : docAt l 0 = x := hd.root
  have HNE := Lib.hid hne; have HX := Lib.hid hx
  have HWS := Lib.hid (fun B b => write_any hd A c B b l.length)
  have HN := Lib.hid hl
  clear hl hd hne hx
  go_enter Tryd.func26, Tryd.ntmps26
  go_wp2_with (first
    | (go_at_call 24; refine HC.out.mono ?_; rintro e w1 ⟨rfl, hB1⟩)
    | (go_at_call 58; refine (HWS.out w1.heap.size w1.heap.size 0 .empty _ hpos (by omega) (Wr.new w1 _) ((HN.out.past hB1).under ((Below.refl _ _).alloc (Nat.le_refl _) _) (Nat.le_refl _)) (by simp)).mono ?_; rintro e w2 ⟨rfl, hw2, hB2⟩; rw [HX.out, ByteArray.empty_append] at hw2)
    | (go_at_call 55; refine (wr_string _ _ _ _ _ _ hw2 HNE.out).mono ?_; rintro e w3 ⟨rfl, hB3⟩))
  go_ret2
  exact ⟨rfl, hB1.trans ((((Below.refl _ _).alloc (Nat.le_refl _) _).trans (hB2.trans hB3)).mono hB1.size)⟩
end Go.Proofs.YtddfdmopaeghnabDoor
