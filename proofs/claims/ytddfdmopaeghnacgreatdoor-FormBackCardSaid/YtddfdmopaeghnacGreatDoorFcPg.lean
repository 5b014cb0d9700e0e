/- Walks and plain laws, laid together. Conditions: the text is not longer than a slice may be; internal/bytealg.MaxLen holds some number; the table of the powers of ten reads as the program's text lays it; the slices lie below the call's own blocks; not more than 10000 nodes; the number has at most six digits; a slice lies below the call's own blocks; EndOf: each node has at most six kids; the slice of nodes lies below the call's own blocks and is a statement that may be; the statements may be. -/
import Derived.Test.YtddfdmopaeghnacGreatDoorFcFi
import Derived.Test.YtddfdmopaeghnacGreatDoorFcBe
import Derived.Test.YtddfdmopaeghnacGreatDoorFcTk
import Derived.Deep.Cut
import Derived.Test.YtddfdmopaeghnacGreatDoorFcSh
import Derived.Deep.RegionLaw
import Derived.RegionDies
import Derived.Test.YtddfdmopaeghnacGreatDoorFcLx
import Derived.Recover
import Derived.Defers
import Derived.Laws.Pointers
import Derived.Test.YtddfdmopaeghnacGreatDoorFcTr
import Derived.BigQuiet
import Derived.Deep.QuietTactic
import Derived.Laws.Closers25
import Derived.Test.YtddfdmopaeghnacGreatDoorRows
import Derived.Test.YtddfdmopaeghnacGreatDoorMem
import Derived.ProofKit
import Derived.Deep.Slices
import Derived.SizedLaws
import Derived.Lib.LaidTab
import Derived.LaidLaws
import Derived.RowKit
import Derived.Lib.TrailingZeros
import Derived.Lib.ItoaNum
import Derived.Deep.DeepHandedRow
import Derived.Shelf.Vars
import Derived.Test.YtddfdmopaeghnacGreatDoorFcPs
import Derived.Test.YtddfdmopaeghnacGreatDoorFcCa
import Derived.Test.YtddfdmopaeghnacGreatDoorFcMk
import Derived.Deep.RegionHeld3
import Derived.Deep.RegionWith
import Derived.Test.YtddfdmopaeghnacGreatDoorFcRm
namespace Go.Proofs.YtddfdmopaeghnacGreatDoor
open Go.RowKit
def wideF (W : Int) : Bool := decide (10 ≤ W) && decide (W ≤ 100)
theorem wide_any (W : Int) (w : World) : Calls Tryz.prog 55 #[.int .i64 W] w fun e w' => e = .returned (.bool (wideF W)) ∧ w = w' := by
  by_cases h1 : 10 ≤ W
  · by_cases h2 : W ≤ 100
    · have hr : wideF W = true := by simp [wideF, h1, h2]
      rw [hr]
      go_enter Tryz.func55, Tryz.ntmps55
      go_wp2
      go_ret
      exact ⟨by first | rfl | (simp; done) | (simp; omega), rfl⟩
    · have hr : wideF W = false := by simp [wideF, h2]
      rw [hr]
      go_enter Tryz.func55, Tryz.ntmps55
      go_wp2
      go_ret
      exact ⟨by first | rfl | (simp; done) | (simp; omega), rfl⟩
  · have hr : wideF W = false := by simp [wideF, h1]
    rw [hr]
    have h3 : decide (W ≥ 10) = false := decide_eq_false h1
    go_enter Tryz.func55, Tryz.ntmps55
    go_wp2
    go_ret
    exact ⟨by first | rfl | (simp; done) | (simp; omega), rfl⟩
theorem wideF_iff {W : Int} : wideF W = true ↔ 10 ≤ W ∧ W ≤ 100 := by simp [wideF]
def noteT (x : ByteArray) (W : Int) : ByteArray := if noteL x = [] then ⟨#[35, 10]⟩ else noteB (fillW (W - 2) (noteL x))
theorem note_few {x : ByteArray} (h1 : treeOne 9 x 0 = 0) {W : Int} (hw : wideF W = true) : Few (W - 2) (noteL x) ∧ checkedF (noteL x) (W - 2) = 0 := by
  have hwf : wordsF (noteL x) = 0 := by
    unfold treeOne at h1
    split at h1
    · cases h1
    · split at h1
      · cases h1
      · simpa using h1
  obtain ⟨h2, h3⟩ := wordsF_facts hwf
  obtain ⟨w1, w2⟩ := wideF_iff.1 hw
  refine ⟨⟨h2, fun t ht => (wordF_facts (h3 t ht)).2.1, by omega, by omega⟩, ?_⟩
  unfold checkedF
  simp only [hwf]
  split
  · rename_i h; exact absurd rfl h
  · split
    · omega
    · rfl
set_option maxRecDepth 100000 in
set_option maxHeartbeats 4000000 in
theorem pnoteT_any {x : ByteArray} {n : Nat} (hn : n = 1) {W : Int} (h1 : treeF [⟨9, x, 0⟩] = 0) (hw : wideF W = true) (A : Option Addr) (c : Nat) (w : World) (hl : Nds w w.heap.size A [⟨9, x, 0⟩]) (hsh : Short [⟨9, x, 0⟩]) (hm : MaxL w) :
    Calls Tryz.prog 56 #[.slice A n c, .int .i64 W] w fun e w' => e = .returned (.tuple #[.string (noteT x W), .nilIface]) ∧ Below w.heap.size w w' := by
  subst hn
  have hone : treeOne 9 x 0 = 0 := (Tr.of_check h1).one ⟨9, x, 0⟩ (by simp)
  obtain ⟨hfew, hck⟩ := note_few hone hw
  obtain ⟨w1, w2⟩ := wideF_iff.1 hw
  have HN := Lib.hid (lnote_cap [⟨9, x, 0⟩] A c w hl hsh hm h1 (n := 0) (t := x) rfl)
  have k1 : IntKind.i64.wrap (W - 2) = W - 2 := IntWalk.i64_in _ (by omega)
  unfold LnToC at HN
  clear hl hsh hm h1 hone hw
  by_cases h0 : noteL x = []
  · have hr : noteT x W = ⟨#[35, 10]⟩ := by rw [noteT, if_pos h0]
    rw [hr]
    rw [h0] at HN
    clear hr hfew hck h0
    go_enter Tryz.func56, Tryz.ntmps56
    go_wp2_with (go_at_call 95; refine HN.out.mono ?_; rintro e w1 ⟨A1, c1, rfl, -, hB1, -⟩; have HB := Lib.hid hB1; clear hB1)
    go_ret2
    exact ⟨rfl, HB.out⟩
  · have hr : noteT x W = noteB (fillW (W - 2) (noteL x)) := by rw [noteT, if_neg h0]
    rw [hr]
    have hfl := hfew.fill_small
    have HF := Lib.hid (fun A1 c1 w' hcap hl' => fill_ok (noteL x) A1 _ c1 rfl hcap (W - 2) w' hl' hfew hck)
    have hlen : ((noteL x).length : Int) ≠ 0 := by
      intro e
      exact h0 (List.eq_nil_of_length_eq_zero (by omega))
    have hlen2 : (((noteL x).length : Int) == 0) = false := by simpa using hlen
    generalize fillW (W - 2) (noteL x) = L at *
    unfold FillTo at HF
    obtain ⟨hl60, hls⟩ := hfl
    have HSTEP := Lib.hid (fun k (hk : k < L.length) => noteB_step hk)
    have HSZ : Hid (∀ k, (noteB (L.take k)).size ≤ 80000) := Lib.hid (fun k => by
      have h := noteB_size (l := L.take k) (fun u hu => hls u (List.mem_of_mem_take hu))
      have h2 := List.length_take_le k L
      have h3 : (L.take k).length ≤ 60 := by rw [List.length_take]; omega
      omega)
    have HE : Hid (∀ k, L.length ≤ k → noteB (L.take k) = noteB L) := Lib.hid (fun k hk => by rw [List.take_of_length_le hk])
    have HLS := Lib.hid hls
    generalize noteB L = Z at *
    clear hr hfew hck h0 hlen hls
    go_enter Tryz.func56, Tryz.ntmps56
    go_wp2_with (first
      | (go_at_call 95; refine HN.out.mono ?_; rintro e w1 ⟨A1, c1, rfl, hT1, hB1, hcap1⟩; have HT := Lib.hid hT1; have HB := Lib.hid hB1; have HCAP := Lib.hid hcap1; have hz1 := hB1.size; clear hB1 hT1 hcap1)
      | (go_at_call 96; refine (HF.out A1 c1 _ HCAP.out HT.out).mono ?_; rintro e w2 ⟨A2, c2, rfl, hT2, hB2⟩; have HT2 := Lib.hid hT2; have HB := Lib.hid (HB.out.trans (hB2.mono hz1)); have hz2 := HB.out.size; clear hB2 hT2))
    have hb1 : Below w2.heap.size w2 (w2.alloc (.cells #[.pointer none, .slice none 0 0] 104)) := (Below.refl _ _).alloc (Nat.le_refl _) _
    have HBD : Hid (Bld w2.heap.size w2.heap.size .empty (w2.alloc (.cells #[.pointer none, .slice none 0 0] 104))) := Lib.hid (Bld.new w2)
    have HB0 := Lib.hid (HB.out.trans (hb1.mono hz2))
    have HT2' := Lib.hid (HT2.out)
    clear hb1
    go_loopw [34] (fun i wr => ∃ k : Nat, k ≤ L.length ∧ i = .int .i64 k ∧ Hid (Bld w2.heap.size w2.heap.size (noteB (L.take k)) wr) ∧ Hid (Below w2.heap.size w2 wr)) (fun i _ => L.length - (intOf i).toNat)
    case atStart => exact ⟨0, by omega, rfl, HBD, Lib.hid ((Below.refl _ _).alloc (Nat.le_refl _) _)⟩
    case round =>
      clear HBD
      obtain ⟨k, hk, rfl, HBD, HBW⟩ := hrel
      by_cases hlt : k < L.length
      · obtain ⟨b, off, u, rfl, hb, hu, hc⟩ := HT2.out.1.one (k := k) hlt
        have hlk : (L.map Value.string)[k]? = some (.string L[k]) := by rw [List.getElem?_map, List.getElem?_eq_getElem hlt]; rfl
        rw [hlk] at hu
        cases hu
        have hc2 : wr.cell? ⟨b, off + k, none⟩ = some (.string L[k]) := (HBW.out.cell (p := ⟨b, off + k, none⟩) hb).trans hc
        have hsz := HLS.out _ (List.getElem_mem hlt)
        have HST := Lib.hid (HSTEP.out k hlt)
        have hks := HSZ.out k
        have hz3 := HBW.out.size
        generalize L[k] = S at *
        have hcat0 : ∀ w', (Op.stringOp .add ⟨#[35, 32]⟩ S).run Tryz.prog w' = .ok (.string (⟨#[35, 32]⟩ ++ S)) w' := fun w' => run_string_add_sum w' _ S (by show 2 + S.size ≤ _; omega)
        have hcat1 : ∀ w', (Op.stringOp .add (⟨#[35, 32]⟩ ++ S) ⟨#[10]⟩).run Tryz.prog w' = .ok (.string (⟨#[35, 32]⟩ ++ S ++ ⟨#[10]⟩)) w' := fun w' => run_string_add_sum w' _ _ (by rw [ByteArray.size_append]; show 2 + S.size + 1 ≤ _; omega)
        have hzc : (⟨#[35, 32]⟩ ++ S ++ ⟨#[10]⟩ : ByteArray).size = 2 + S.size + 1 := by rw [ByteArray.size_append, ByteArray.size_append]; rfl
        generalize noteB (L.take k) = Q at *
        generalize hCAT : (⟨#[35, 32]⟩ ++ S ++ ⟨#[10]⟩ : ByteArray) = C at *
        clear hc hlk hCAT
        go_wp2_with (go_at_call 47; refine (bld_write _ _ Q C _ HBD.out (by omega)).mono ?_; rintro e w4 ⟨rfl, hb5, hB5⟩; have HB5 := Lib.hid hb5; have HB6 := Lib.hid (HBW.out.trans hB5); clear hb5 hB5)
        go_roundw
        case measure => simp [intOf]; omega
        case rel => exact ⟨k + 1, by omega, by go_num, Lib.hid (by rw [HST.out]; exact HB5.out), HB6⟩
      · have HBZ : Hid (Bld w2.heap.size w2.heap.size Z wr) := Lib.hid (by rw [← HE.out k (by omega)]; exact HBD.out)
        clear HBD
        go_wp2_with (go_at_call 49; refine (bld_string _ _ _ _ HBZ.out).mono ?_; rintro e w5 ⟨rfl, hB5⟩; have HB7 := Lib.hid (HB.out.trans ((HBW.out.trans hB5).mono hz2)); clear hB5)
        go_ret2
        exact ⟨rfl, HB7.out⟩
end Go.Proofs.YtddfdmopaeghnacGreatDoor
namespace Go.Proofs.YtddfdmopaeghnacGreatDoor
def LineOk (s : ByteArray) : Prop := (∀ c ∈ s.data.toList, c ≠ 10) ∧ ∃ c, s.data.toList.getLast? = some c ∧ c ≠ 32
theorem noteB_toList (s : ByteArray) (r : List ByteArray) : (noteB (s :: r)).data.toList = 35 :: 32 :: (s.data.toList ++ 10 :: (noteB r).data.toList) := by
  simp only [noteB, ByteArray.data_append, Array.toList_append]
  show [35, 32] ++ s.data.toList ++ [10] ++ _ = _
  simp
theorem rn_note : ∀ {l : List ByteArray}, (∀ s ∈ l, LineOk s) → rn false (noteB l).data.toList = some false
  | [], _ => rfl
  | s :: r, h => by
    obtain ⟨h1, c, h2, h3⟩ := h s (by simp)
    rw [noteB_toList, rn, if_neg (by decide), rn, if_neg (by decide), rn_app, rn_word _ _ h1, h2]
    have e : (c == 32) = false := by simpa using h3
    simp only [e]
    rw [rn, if_pos rfl, if_neg (by decide)]
    exact rn_note (fun s hs => h s (by simp [hs]))
theorem joinE_last : ∀ {ws : List (List UInt8)}, ws ≠ [] → (∀ w ∈ ws, w ≠ [] ∧ ∀ c ∈ w, c ≠ 10 ∧ c ≠ 32) → (∀ c ∈ Lib.join ws [32], c ≠ 10) ∧ ∃ c, (Lib.join ws [32]).getLast? = some c ∧ c ≠ 32
  | [], h, _ => absurd rfl h
  | [w], _, h => by
    obtain ⟨h1, h2⟩ := h w (by simp)
    have e : Lib.join [w] [32] = w := by simp [Lib.join_cons, Lib.joinTail]
    rw [e]
    exact ⟨fun c hc => (h2 c hc).1, _, List.getLast?_eq_some_getLast h1, (h2 _ (List.getLast_mem h1)).2⟩
  | w :: v :: r, _, h => by
    obtain ⟨h1, h2⟩ := h w (by simp)
    obtain ⟨g1, c, g2, g3⟩ := joinE_last (ws := v :: r) (by simp) (fun x hx => h x (by simp at hx ⊢; exact .inr hx))
    have e : Lib.join (w :: v :: r) [32] = w ++ 32 :: Lib.join (v :: r) [32] := by simp [Lib.join_cons, Lib.joinTail]
    rw [e]
    have hne : Lib.join (v :: r) [32] ≠ [] := by intro e2; rw [e2] at g2; cases g2
    refine ⟨fun d hd => ?_, c, ?_, g3⟩
    · rcases List.mem_append.1 hd with hd | hd
      · exact (h2 d hd).1
      · rcases List.mem_cons.1 hd with rfl | hd
        · decide
        · exact g1 d hd
    · rw [last_app (by simp), List.getLast?_cons, g2]; rfl
theorem wordE_ok {w : ByteArray} (h : wordF w = true) : w.data.toList ≠ [] ∧ ∀ c ∈ w.data.toList, c ≠ 10 ∧ c ≠ 32 := by
  obtain ⟨h1, h2, h3⟩ := wordF_facts h
  refine ⟨h1, fun c hc => ?_⟩
  have := h3 c hc
  constructor <;> (rintro rfl; simp at this)
theorem fillJ_ok {l : List ByteArray} (h0 : l ≠ []) (h : ∀ w ∈ l, wordF w = true) : LineOk (fillJ l) := by
  have h1 := joinE_last (ws := l.map (·.data.toList)) (by simpa using h0) (fun w hw => by
    obtain ⟨v, hv, rfl⟩ := List.mem_map.1 hw
    exact wordE_ok (h v hv))
  simpa [LineOk, fillJ] using h1
theorem Few.lines_ok {width : Int} {l : List ByteArray} (h : Few width l) (hw : ∀ w ∈ l, wordF w = true) : ∀ (f i : Nat), ∀ s ∈ linesG width l f i, LineOk s := by
  intro f
  induction f with
  | zero => intro i s hs; cases hs
  | succ f ih =>
    intro i s hs
    rw [linesG] at hs
    split at hs
    · cases hs
    · rename_i hi
      obtain ⟨_, _, h1, h2, _⟩ := h.at_ (i := i) (by omega)
      rcases List.mem_cons.1 hs with rfl | hs
      · refine fillJ_ok ?_ (fun w hm => hw w (List.mem_of_mem_drop (List.mem_of_mem_take hm)))
        intro e
        have := congrArg List.length e
        rw [List.length_take, List.length_drop] at this
        simp at this
        omega
      · exact ih _ s hs
theorem Few.one_line {width : Int} {l : List ByteArray} (h : Few width l) (h0 : 0 < l.length) (hf : longW l ≤ width) : fillW width l = [fillJ l] := by
  obtain ⟨e1, e2, h1, h2, h3, h4⟩ := h.at_ h0
  have hz : costAt width l 0 (0 + l.length) = 0 := by
    rw [costAt, Nat.zero_add, Nat.sub_zero, List.drop_zero, List.take_length, least_end, badW, if_neg (by omega), if_pos (by simp)]; rfl
  have hl := (h.least (i := 0) (by omega)).1
  have hle : leastAt width l 0 ≤ 0 := by
    obtain ⟨_, hs⟩ := h.scan (i := 0) (fun k q1 q2 => (h.cost q1 q2).2.2.1) (l.length - 0) (by omega)
    obtain ⟨_, _, _, _, g5, _⟩ := hs (by omega)
    have := g5 l.length (by omega) (by omega)
    rw [hz] at this
    rw [e1]; exact this
  have hm : manyAt width l 0 = l.length := by
    by_cases hc : manyAt width l 0 = l.length
    · exact hc
    · exact absurd (hz.trans (by omega)) (h4 l.length (by omega) (by omega))
  rw [fillW, h.lines_step h0, hm, List.drop_zero, List.take_length, lines_end (by omega)]
theorem noteB_end : ∀ {l : List ByteArray}, l ≠ [] → (noteB l).data.toList.getLast? = some 10 ∧ 2 ≤ (noteB l).data.toList.length
  | [], h => absurd rfl h
  | [s], _ => by
    rw [noteB_toList]
    refine ⟨?_, by simp⟩
    show (35 :: 32 :: (s.data.toList ++ [10])).getLast? = _
    rw [List.getLast?_cons_cons, List.getLast?_cons, List.getLast?_append]; rfl
  | s :: t :: r, _ => by
    have h := (noteB_end (l := t :: r) (by simp)).1
    rw [noteB_toList]
    refine ⟨?_, by simp⟩
    rw [show 35 :: 32 :: (s.data.toList ++ 10 :: (noteB (t :: r)).data.toList) = (35 :: 32 :: (s.data.toList ++ [10])) ++ (noteB (t :: r)).data.toList by simp, List.getLast?_append, h]; rfl
theorem bytes_eq {a b : ByteArray} (h : a.data.toList = b.data.toList) : a = b := ByteArray.ext (Array.toList_inj.1 h)
theorem noteT_facts {x : ByteArray} (h1 : treeOne 9 x 0 = 0) {W : Int} (hw : wideF W = true) :
    rn false (noteT x W).data.toList = some false ∧ 2 ≤ (noteT x W).data.toList.length ∧ (noteT x W).data.toList.getLast? = some 10 ∧ (((lineL [⟨9, x, 0⟩]).size : Int) ≤ W → noteT x W = lineL [⟨9, x, 0⟩] ++ ⟨#[10]⟩) := by
  have hL : lineL [⟨9, x, 0⟩] = if x.data.toList = [] then ⟨#[35]⟩ else ⟨#[35, 32]⟩ ++ x := rfl
  by_cases h0 : noteL x = []
  · have e : noteT x W = ⟨#[35, 10]⟩ := by rw [noteT, if_pos h0]
    have hx : x.data.toList = [] := by
      have := noteL_data (t := x)
      rw [h0] at this
      split at this
      · assumption
      · obtain ⟨a, b, e2⟩ := spl_ne x.data.toList
        rw [e2] at this
        cases this
    rw [e]
    refine ⟨rfl, by decide, rfl, fun _ => ?_⟩
    rw [hL, if_pos hx]; rfl
  · have e : noteT x W = noteB (fillW (W - 2) (noteL x)) := by rw [noteT, if_neg h0]
    obtain ⟨hfew, _⟩ := note_few h1 hw
    have hwf : wordsF (noteL x) = 0 := by
      unfold treeOne at h1
      split at h1
      · cases h1
      · split at h1
        · cases h1
        · simpa using h1
    have hws := (wordsF_facts hwf).2
    have hpos : 0 < (noteL x).length := List.length_pos_iff.2 h0
    have hne : fillW (W - 2) (noteL x) ≠ [] := by rw [fillW, hfew.lines_step hpos]; simp
    have hx : x.data.toList ≠ [] := by
      intro hx
      rw [noteL, if_pos (by rw [ByteArray.toList_eq]; exact hx)] at h0
      exact h0 rfl
    have hj : fillJ (noteL x) = x := joinW_noteL x
    rw [e]
    refine ⟨rn_note (fun s hs => hfew.lines_ok hws _ _ s hs), (noteB_end hne).2, (noteB_end hne).1, fun hfit => ?_⟩
    rw [hL, if_neg hx] at hfit ⊢
    have hs := fillJ_size _ hpos
    rw [hj] at hs
    have hz : (⟨#[35, 32]⟩ ++ x : ByteArray).size = 2 + x.size := by rw [ByteArray.size_append]; rfl
    rw [hfew.one_line hpos (by omega), hj]
    apply bytes_eq
    rw [noteB_toList]
    simp only [ByteArray.data_append, Array.toList_append]
    show 35 :: 32 :: (x.data.toList ++ [10]) = [35, 32] ++ x.data.toList ++ [10]
    simp
end Go.Proofs.YtddfdmopaeghnacGreatDoor
namespace Go.Proofs.YtddfdmopaeghnacGreatDoor
open Go.RowKit
def noteTx : List Nd → ByteArray
  | d :: _ => d.text
  | [] => .empty
def oneQ (l : List Nd) (W : Int) : Int := if wideF W = false then 1 else if treeF l ≠ 0 then treeF l else if opAt l 0 = 9 then 0 else if 400 < (docL l).length then 3 else 0
def oneX (l : List Nd) (W : Int) : ByteArray := if opAt l 0 = 9 then noteT (noteTx l) W else bT W.toNat (docAt (docL l) 0) ++ ⟨#[10]⟩
set_option maxRecDepth 100000 in
set_option maxHeartbeats 2000000 in
theorem pone_bad (l : List Nd) (W : Int) (A : Option Addr) (c : Nat) (w : World) (hl : Nds w w.heap.size A l) (hsh : Short l) (hm : MaxL w) (hp : PowT w) (h : oneQ l W ≠ 0) :
    Calls Tryz.prog 19 #[.slice A l.length c, .int .i64 W] w (Ret w (.tuple #[.string .empty, .iface 43 (.int .i64 (oneQ l W))])) := by
  have HW := Lib.hid (fun w' => wide_any W w')
  by_cases hw : wideF W = false
  · have hq : oneQ l W = 1 := by rw [oneQ, if_pos hw]
    rw [hq]
    rw [hw] at HW
    clear hl hsh hm hp h hq hw
    go_enter Tryz.func19, Tryz.ntmps19
    go_wp2_with (go_at_call 55; refine (HW.out _).mono ?_; rintro e w1 ⟨rfl, rfl⟩)
    go_ret2
    exact ⟨rfl, Below.refl _ _⟩
  · have hw1 : wideF W = true := by simpa using hw
    rw [hw1] at HW
    by_cases ht : treeF l = 0
    · by_cases h9 : opAt l 0 = 9
      · exact absurd (by rw [oneQ, if_neg hw, if_neg (by simpa using ht), if_pos h9]) h
      · by_cases h4 : 400 < (docL l).length
        · have hq : oneQ l W = 3 := by rw [oneQ, if_neg hw, if_neg (by simpa using ht), if_neg h9, if_pos h4]
          rw [hq]
          have HK := Lib.hid (lcheck_ok l A c w hl hsh hm ht)
          have HD := Lib.hid (fun (w' : World) (hb : Below w.heap.size w w') => (ldoc_good l A c w' (hl.past hb) hsh (hm.past hb) (hp.past hb) ht h9).2 h4)
          have h0 := (Tr.of_check ht).pos0
          obtain ⟨b, off, op, t, n, rfl, hb, ho, hnd, hts, d1, d2⟩ := hl.head0 h0
          have ho9 : (op == 9) = false := by rw [← ho]; simpa using h9
          have hlen := hl.2.1
          unfold maxLen at hlen
          clear hl hsh hm hp h hq hw ho hnd h9 h4
          go_enter Tryz.func19, Tryz.ntmps19
          go_wp2_with (first
            | (go_at_call 55; refine (HW.out _).mono ?_; rintro e w1 ⟨rfl, rfl⟩)
            | (go_at_call 41; refine HK.out.mono ?_; rintro e w2 ⟨rfl, hB2⟩; have e1 := (hB2.cell (p := ⟨b, off, none⟩) hb).trans d1; have HB := Lib.hid hB2; clear hB2)
            | (go_at_call 13; refine (HD.out _ HB.out).mono ?_; rintro e w3 ⟨rfl, hB3⟩; have HB3 := Lib.hid (HB.out.trans (hB3.mono HB.out.size)); clear hB3))
          go_ret2
          exact ⟨rfl, HB3.out⟩
        · exact absurd (by rw [oneQ, if_neg hw, if_neg (by simpa using ht), if_neg h9, if_neg h4]) h
    · have hq : oneQ l W = treeF l := by rw [oneQ, if_neg hw, if_pos ht]
      rw [hq]
      have HK := Lib.hid (lcheck_bad l A c w hl hsh hm ht)
      clear hl hsh hm hp h hq hw
      go_enter Tryz.func19, Tryz.ntmps19
      go_wp2_with (first
        | (go_at_call 55; refine (HW.out _).mono ?_; rintro e w1 ⟨rfl, rfl⟩)
        | (go_at_call 41; refine HK.out.mono ?_; rintro e w2 ⟨rfl, hB2⟩))
      go_ret2
      exact ⟨rfl, hB2⟩
theorem oneQ_zero {l : List Nd} {W : Int} (h : oneQ l W = 0) : wideF W = true ∧ treeF l = 0 ∧ (opAt l 0 ≠ 9 → ¬ 400 < (docL l).length) := by
  unfold oneQ at h
  split at h
  · cases h
  · rename_i hw
    split at h
    · rename_i ht; exact absurd h ht
    · rename_i ht
      split at h
      · rename_i h9; exact ⟨by simpa using hw, by simpa using ht, fun h => absurd h9 h⟩
      · split at h
        · cases h
        · rename_i h4; exact ⟨by simpa using hw, by simpa using ht, fun _ => h4⟩
set_option maxRecDepth 100000 in
set_option maxHeartbeats 2000000 in
theorem pone_ok (hof : OfFromSaid) (l : List Nd) (W : Int) (A : Option Addr) (c : Nat) (w : World) (hl : Nds w w.heap.size A l) (hsh : Short l) (hm : MaxL w) (hp : PowT w) (hd : opAt l 0 ≠ 9 → ∃ x, Doc (docL l) x) (h : oneQ l W = 0) :
    Calls Tryz.prog 19 #[.slice A l.length c, .int .i64 W] w (Ret w (.tuple #[.string (oneX l W), .nilIface])) := by
  obtain ⟨hw, ht, h4⟩ := oneQ_zero h
  have HW := Lib.hid (fun w' => wide_any W w')
  rw [hw] at HW
  have HK := Lib.hid (lcheck_ok l A c w hl hsh hm ht)
  by_cases h9 : opAt l 0 = 9
  · obtain ⟨x, rfl, h1⟩ := tree_note ht h9
    have hx : oneX [⟨9, x, 0⟩] W = noteT x W := by rw [oneX, if_pos h9]; rfl
    rw [hx]
    have HN := Lib.hid (fun (w' : World) (hb : Below w.heap.size w w') => pnoteT_any (n := 1) rfl ht hw A c w' (hl.past hb) hsh (hm.past hb))
    obtain ⟨b, off, op, t, n, rfl, hb, ho, hnd, hts, d1, d2⟩ := hl.head0 (by simp)
    have ho9 : op = 9 := by rw [← ho]; exact h9
    subst ho9
    generalize noteT x W = T at *
    clear hl hsh hm hp h hd ho hnd h9 h4 hx h1 ht d2
    go_enter Tryz.func19, Tryz.ntmps19
    go_wp2_with (first
      | (go_at_call 55; refine (HW.out _).mono ?_; rintro e w1 ⟨rfl, rfl⟩)
      | (go_at_call 41; refine HK.out.mono ?_; rintro e w2 ⟨rfl, hB2⟩; have e1 := (hB2.cell (p := ⟨b, off, none⟩) hb).trans d1; have HB := Lib.hid hB2; clear hB2)
      | (go_at_call 56; refine (HN.out _ HB.out).mono ?_; rintro e w3 ⟨rfl, hB3⟩; have HB3 := Lib.hid (HB.out.trans (hB3.mono HB.out.size)); clear hB3))
    go_ret2
    exact ⟨rfl, HB3.out⟩
  · obtain ⟨x, hx⟩ := hd h9
    obtain ⟨w10, w100⟩ := wideF_iff.1 hw
    have hs := (hx.best_shown W.toNat).size
    have hr : oneX l W = bT W.toNat x ++ ⟨#[10]⟩ := by rw [oneX, if_neg h9, hx.root]
    rw [hr]
    have HD := Lib.hid (fun (w' : World) (hb : Below w.heap.size w w') => (ldoc_good l A c w' (hl.past hb) hsh (hm.past hb) (hp.past hb) ht h9).1 (h4 h9))
    have HB0 := Lib.hid (fun A c w' hw' => best_good hof hx A _ c rfl W.toNat (width := W) (by omega) (by omega) w' hw')
    have h0 := (Tr.of_check ht).pos0
    obtain ⟨b, off, op, t, n, rfl, hb, ho, hnd, hts, d1, d2⟩ := hl.head0 h0
    have ho9 : (op == 9) = false := by rw [← ho]; simpa using h9
    have hlen := hl.2.1
    unfold maxLen at hlen
    unfold BestTo BestIs_ at HB0
    generalize bT W.toNat x = T at *
    have hcat : ∀ w', (Op.stringOp .add T ⟨#[10]⟩).run Tryz.prog w' = .ok (.string (T ++ ⟨#[10]⟩)) w' := fun w' => run_string_add_sum w' _ _ (by show T.size + 1 ≤ _; omega)
    clear hl hsh hm hp h hd ho hnd h9 h4 hx hr ht d2
    go_enter Tryz.func19, Tryz.ntmps19
    go_wp2_with (first
      | (go_at_call 55; refine (HW.out _).mono ?_; rintro e w1 ⟨rfl, rfl⟩)
      | (go_at_call 41; refine HK.out.mono ?_; rintro e w2 ⟨rfl, hB2⟩; have e1 := (hB2.cell (p := ⟨b, off, none⟩) hb).trans d1; have HB := Lib.hid hB2; clear hB2)
      | (go_at_call 13; refine (HD.out _ HB.out).mono ?_; rintro e w3 ⟨A3, c3, rfl, hn, hB3⟩; have HN := Lib.hid hn.1; have HB := Lib.hid (HB.out.trans (hB3.mono HB.out.size)); clear hB3 hn)
      | (go_at_call 57; refine (HB0.out _ _ _ HN.out).mono ?_; rintro e w4 ⟨A4, c4, rfl, -, -, hB4⟩; have HB := Lib.hid (HB.out.trans (hB4.mono HB.out.size)); clear hB4))
    go_ret2
    exact ⟨rfl, HB.out.alloc HB.out.size _⟩
end Go.Proofs.YtddfdmopaeghnacGreatDoor
namespace Go.Proofs.YtddfdmopaeghnacGreatDoor
theorem textL_neF {l : List Nd} (h : treeF l = 0) (_h9 : opAt l 0 ≠ 9) : textL l ≠ .empty := by
  have hT := Tr.of_check h
  have h0 := hT.pos0
  have hoe : opAt l 0 = (l[0]'h0).op := by rw [opAt, getD_at h0]
  have ht := hT.tops h0
  rw [decide_eq_true rfl] at ht
  have h7 : 7 ≤ (l[0]'h0).op := of_decide_eq_true ht
  have hne : (textL l).size ≠ 0 := by
    rw [textL]
    obtain ⟨m, hm⟩ : ∃ m, l.length = m + 1 := ⟨l.length - 1, by omega⟩
    rw [hm, textX, getD_at h0]
    rw [if_neg (by omega), if_neg (by omega), if_neg (by omega), if_neg (by omega), if_neg (by omega), if_neg (by omega)]
    split
    · simp only [ByteArray.size_append]
      show _ + 1 ≠ 0
      omega
    · simp only [ByteArray.size_append]
      show _ + 1 ≠ 0
      omega
  intro e
  rw [e] at hne
  exact hne rfl
structure OneIs (l : List Nd) (W : Int) (S : ByteArray) : Prop where
  two : 2 ≤ S.size
  small : S.size ≤ 1500000
  last : S.data.toList.getLast? = some 10
  rn : rn false S.data.toList = some false
  fits : (lineL l).size ≤ W → S = lineL l ++ ⟨#[10]⟩
theorem noteT_size {x : ByteArray} (h1 : treeOne 9 x 0 = 0) {W : Int} (hw : wideF W = true) : (noteT x W).size ≤ 80000 := by
  by_cases h0 : noteL x = []
  · rw [noteT, if_pos h0]; decide
  · rw [noteT, if_neg h0]
    obtain ⟨hfew, _⟩ := note_few h1 hw
    obtain ⟨f1, f2⟩ := hfew.fill_small
    have := noteB_size f2
    omega
theorem oneX_is {l : List Nd} {W : Int} (h : oneQ l W = 0) (hd : opAt l 0 ≠ 9 → ∃ x, Doc (docL l) x) : OneIs l W (oneX l W) := by
  obtain ⟨hw, ht, h4⟩ := oneQ_zero h
  by_cases h9 : opAt l 0 = 9
  · obtain ⟨x, rfl, h1⟩ := tree_note ht h9
    have hx : oneX [⟨9, x, 0⟩] W = noteT x W := by rw [oneX, if_pos h9]; rfl
    rw [hx]
    obtain ⟨a1, a2, a3, a4⟩ := noteT_facts h1 hw
    have hz := noteT_size h1 hw
    exact ⟨by simpa using a2, by omega, a3, a1, a4⟩
  · obtain ⟨x, hx⟩ := hd h9
    have hr : oneX l W = bT W.toNat x ++ ⟨#[10]⟩ := by rw [oneX, if_neg h9, hx.root]
    obtain ⟨w10, w100⟩ := wideF_iff.1 hw
    obtain ⟨a1, a2, a3⟩ := fit_all ht h9 hx W.toNat
    have hL : lineL l = textL l := by rw [lineL, if_neg h9]; rfl
    have hs := (hx.best_shown W.toNat).size
    have hne : (bT W.toNat x).size ≠ 0 := by
      intro e
      have he : (bT W.toNat x).data.toList = [] := by
        apply List.eq_nil_of_length_eq_zero
        simpa using e
      obtain ⟨z, z1, z2, z3, z4, z5⟩ := docL_flat ht h9
      obtain rfl := hx.same z1 z2
      have := lay_line (by rw [z2]; exact z5) z3 (hx.best_shown W.toNat).lay z1 (by rw [he]; rfl)
      exact textL_neF ht h9 (by rw [← this]; exact bytes_eq (by rw [he]; rfl))
    rw [hr]
    have hz : (bT W.toNat x ++ ⟨#[10]⟩ : ByteArray).size = (bT W.toNat x).size + 1 := by rw [ByteArray.size_append]; rfl
    refine ⟨by omega, by omega, ?_, ?_, fun hf => ?_⟩
    · rw [ByteArray.data_append, Array.toList_append, List.getLast?_append]; rfl
    · rw [ByteArray.data_append, Array.toList_append, rn_app, a1]; rfl
    · rw [a2 (by rw [hL] at hf; omega), hL]
theorem docL_doc {l : List Nd} (h : treeF l = 0) (h9 : opAt l 0 ≠ 9) (h4 : (docL l).length ≤ 400) : ∃ x, Doc (docL l) x := by
  obtain ⟨x, hx, _⟩ := (docL_flat h h9).doc h4
  exact ⟨x, hx⟩
theorem laid_no {l : List Nd} {W : Int} (h : oneQ l W ≠ 0) (ht : treeF l = 0) : (([l].all fun u => decide (opAt u 0 = 9) || decide ((docL u).length ≤ 400)) && wideF W) = false := by
  unfold oneQ at h
  by_cases hw : wideF W = false
  · rw [hw]; simp
  · rw [if_neg hw, if_neg (by simpa using ht)] at h
    by_cases h9 : opAt l 0 = 9
    · rw [if_pos h9] at h; exact absurd rfl h
    · rw [if_neg h9] at h
      by_cases h4 : 400 < (docL l).length
      · simp [h9, show ¬ (docL l).length ≤ 400 by omega]
      · rw [if_neg h4] at h; exact absurd rfl h
end Go.Proofs.YtddfdmopaeghnacGreatDoor
namespace Go.Proofs.YtddfdmopaeghnacGreatDoor
open Go.ChangeShapes Go.WideShapes Go.ChangeAt Go.RowKit Go.Deep
theorem own : ownKnob Tryz.prog.godebug = none := by kernel_rfl
theorem laidOut : laidOutB Tryz.prog = true := by kernel_rfl
section
variable {H : Type} {enc : TypeId × Value → H} {P : Program}
theorem trodAll_stay (hl : laidOutB P = true) {W W' : World} (hb : Below W.heap.size W W') {sp : Nat → Bool} :
    ∀ {ts : List TypeId} {vs : List Value} {ds : List (DataW H)} {p : List MemPlace}, (∀ t ∈ ts, P.readableRec t = true ∧ t < P.types.size) →
      DataW.TrodAll enc P W 0 (fun _ => true) true ts vs ds p → (∀ x ∈ p, x.block < W.heap.size) → (∀ x ∈ p, sp x.block = true) → DataW.TrodAll enc P W' 0 sp true ts vs ds p
  | [], _, _, _, _, h, _, _ => by
    obtain ⟨rfl, rfl, rfl⟩ := trodAll_nil h
    exact h
  | t :: ts, _, _, _, hr, h, hlt, hsp => by
    obtain ⟨v, vs1, d, ds1, a, b, rfl, rfl, rfl, h1, h2⟩ := trodAll_cons h
    obtain ⟨r1, r2⟩ := hr t (by simp)
    exact ⟨a, b, WideElems.Trod_stays hl r1 r2 h1 (fun x hx => hb.same (hlt x (List.mem_append_left _ hx))) (fun x hx => hsp x (List.mem_append_left _ hx)),
      trodAll_stay hl hb (fun t ht => hr t (by simp [ht])) h2 (fun x hx => hlt x (List.mem_append_right _ hx)) (fun x hx => hsp x (List.mem_append_right _ hx)), rfl⟩
theorem law_post {f : Func} {s : ChangeSpec} {W W' : World} {args : Array Value} {ds gs : List (DataW H)} {before : List MemPlace} {t : TypeId}
    (hW : DataW.Whole enc P f.params.toList s.vars false W args.toList ds gs before) (hv : s.vars = [])
    (hfn : s.fn H (ds ++ []) = { results := [.lit (.bool true)], args := ds }) (hres : f.resultTypes = #[t]) (ht : P.underlying t = some .bool)
    (hl : laidOutB P = true) (hr : (f.params.toList.all fun t => P.readableRec t && decide (t < P.types.size)) = true) (hb : Below W.heap.size W W') :
    s.post enc P f false true false false W args (.bool true) W' := by
  have hW0 := hW
  have hlt : ∀ x ∈ before, x.block < W.heap.size := fun x hx => hW.lt x hx
  obtain ⟨p, q, hA, hV, rfl, hfz, hnd⟩ := hW
  rw [hv] at hV
  obtain ⟨rfl, rfl⟩ := trodVars_none hV
  have hr' : ∀ t ∈ f.params.toList, P.readableRec t = true ∧ t < P.types.size := fun t ht => by
    have := List.all_eq_true.1 hr t ht
    simpa using this
  refine ⟨ds, [], p ++ [], [], p, [], hW0, ?_, ?_, ?_, hb.frame _, fun h => by cases h⟩
  · rw [hfn, hres]
    exact trodAll_mk1 (shut_bool ht true)
  · rw [hfn]
    refine trodAll_stay hl hb hr' hA (fun x hx => hlt x (by simpa using hx)) (fun x hx => by simpa using hlt x (by simpa using hx))
  · rw [hfn, hv]
    exact rfl
end
end Go.Proofs.YtddfdmopaeghnacGreatDoor
namespace Go.Proofs.YtddfdmopaeghnacGreatDoor
open Go.RowKit
noncomputable def tabWorld7 (os : Os) : World :=
  let w0 := World.holding Tryz.prog os ⟨#[], #[], []⟩
  let n := w0.heap.size
  { w0 with heap := ((((((((w0.heap.modify 5 fun
      | .cells _ t frozen => .cells (Lib.deBruijn32tab.map fun n : Nat => Value.int .u8 n).toArray t frozen
      | o => o).modify 6 fun
      | .cells _ t frozen => .cells (Lib.deBruijn64tab.map fun n : Nat => Value.int .u8 n).toArray t frozen
      | o => o).modify 2 fun
      | .cells _ t frozen => .cells (Lib.pow10Tab.map fun n : Int => Value.int .u64 n).toArray t frozen
      | o => o).modify 3 fun
      | .cells _ t frozen => .cells (Go.Pinned.utf8FirstZ.map fun n : Nat => Value.int .u8 n).toArray t frozen
      | o => o).modify 4 fun
      | .cells _ t frozen => .cells (([128, 191, 160, 191, 128, 159, 144, 191, 128, 143] ++ List.replicate 22 0).map fun n : Nat => Value.int .u8 n).toArray t frozen
      | o => o).modify 8 fun
      | .cells _ t frozen => .cells #[.iface 326 (.pointer (some ⟨n, 0, none⟩))] t frozen
      | o => o).modify 7 fun
      | .cells _ t frozen => .cells #[.iface 326 (.pointer (some ⟨n + 1, 0, none⟩))] t frozen
      | o => o).push (.cells #[.string ⟨#[118, 97, 108, 117, 101, 32, 111, 117, 116, 32, 111, 102, 32, 114, 97, 110, 103, 101]⟩] 328 (0, 0))).push (.cells #[.string ⟨#[105, 110, 118, 97, 108, 105, 100, 32, 115, 121, 110, 116, 97, 120]⟩] 328 (0, 0)) }
end Go.Proofs.YtddfdmopaeghnacGreatDoor
namespace Go.Proofs.YtddfdmopaeghnacGreatDoor
open Go.ChangeShapes Go.WideShapes Go.ChangeAt Go.RowKit Go.Deep
theorem maxL_of {W : World} (h : W.ShapedOpen Tryz.prog) : MaxL W := by
  obtain ⟨m, hm⟩ := cell_of_shapedOpen_int (P := Tryz.prog) (g := 1) (t := 3) (zero := #[.int .i64 0]) (k := .i64) h (of_decide_eq_true (by kernel_rfl)) (by kernel_rfl) rfl (by kernel_rfl) (by kernel_rfl) Tryz.underlying3
  refine ⟨?_, m, hm⟩
  rcases Nat.lt_or_ge 1 W.heap.size with h1 | h1
  · exact h1
  · unfold World.cell? at hm
    simp [Array.getElem?_eq_none h1] at hm
end Go.Proofs.YtddfdmopaeghnacGreatDoor
namespace Go.Proofs.YtddfdmopaeghnacGreatDoor
open Go.RowKit
def formE (W : Int) : List (List Nd) → Int
  | [] => 0
  | u :: r => if oneQ u W ≠ 0 then oneQ u W else formE W r
def formT (W : Int) : List (List Nd) → ByteArray
  | [] => .empty
  | u :: r => oneX u W ++ formT W r
theorem formT_step (W : Int) {p : List (List Nd)} {k : Nat} {u : List Nd} (hu : p[k]? = some u) : formT W (p.take (k + 1)) = formT W (p.take k) ++ oneX u W := by
  have happ : ∀ a b : List (List Nd), formT W (a ++ b) = formT W a ++ formT W b := fun a b => by
    induction a with
    | nil => simp [formT]
    | cons x r ih => simp [formT, ih, ByteArray.append_assoc]
  rw [List.take_add_one, hu, happ]
  simp [formT]
theorem formE_step (W : Int) {p : List (List Nd)} {k : Nat} {u : List Nd} (hu : p[k]? = some u) (h : formE W (p.drop k) = formE W p) : (oneQ u W ≠ 0 → formE W p = oneQ u W) ∧ (oneQ u W = 0 → formE W (p.drop (k + 1)) = formE W p) := by
  obtain ⟨hk, rfl⟩ := List.getElem?_eq_some_iff.1 hu
  rw [List.drop_eq_getElem_cons hk, formE] at h
  constructor
  · intro hq; rw [if_pos hq] at h; exact h.symm
  · intro hq; rw [if_neg (by simpa using hq)] at h; exact h
def fmtF (s : ByteArray) (W : Int) : Int × Nat × ByteArray :=
  if wideF W = false then (1, 0, .empty)
  else if (parseF s).1 ≠ 0 then ((parseF s).1, (parseF s).2.1, .empty)
  else if formE W (parseF s).2.2 ≠ 0 then (formE W (parseF s).2.2, 0, .empty)
  else (0, 0, formT W (parseF s).2.2)
def FmtTo (T : ByteArray) (k : Nat) (v : Value) (w : World) (e : Ending) (w' : World) : Prop := e = .returned (.tuple #[.string T, .int .i64 (k : Nat), v]) ∧ Below w.heap.size w w'
set_option maxRecDepth 100000 in
set_option maxHeartbeats 4000000 in
theorem fmt_bad (s : ByteArray) (W : Int) (w : World) (hs : s.size ≤ maxLen) (hm : MaxL w) (h : wideF W = false ∨ (parseF s).1 ≠ 0) :
    Calls Tryz.prog 30 #[.string s, .int .i64 W] w (FmtTo .empty (fmtF s W).2.1 (.iface 43 (.int .i64 (fmtF s W).1)) w) := by
  have HW := Lib.hid (fun w' => wide_any W w')
  by_cases hw : wideF W = false
  · have hr : fmtF s W = (1, 0, .empty) := by rw [fmtF, if_pos hw]
    rw [hr]
    rw [hw] at HW
    clear hs hm h hw hr
    go_enter Tryz.func30, Tryz.ntmps30
    go_wp2_with (go_at_call 55; refine (HW.out _).mono ?_; rintro e w1 ⟨rfl, rfl⟩)
    go_ret3
    exact ⟨rfl, Below.refl _ _⟩
  · have hw1 : wideF W = true := by simpa using hw
    have hf : (parseF s).1 ≠ 0 := by
      rcases h with h | h
      · exact absurd h hw
      · exact h
    have hr : fmtF s W = ((parseF s).1, (parseF s).2.1, .empty) := by rw [fmtF, if_neg hw, if_pos hf]
    rw [hr]
    rw [hw1] at HW
    have HP := Lib.hid (parse_bad hf w hs hm)
    generalize parseF s = r at *
    clear hs hm h hw hw1 hr hf
    go_enter Tryz.func30, Tryz.ntmps30
    go_wp2_with (first
      | (go_at_call 55; refine (HW.out _).mono ?_; rintro e w1 ⟨rfl, rfl⟩)
      | (go_at_call 27; refine HP.out.mono ?_; rintro e w2 ⟨A2, c2, rfl, hF, hB⟩; have HB := Lib.hid hB; clear hF hB))
    go_ret3
    exact ⟨rfl, HB.out⟩
set_option maxRecDepth 100000 in
set_option maxHeartbeats 4000000 in
theorem fmt_any (s : ByteArray) (W : Int) (w : World) (hs : s.size ≤ maxLen) (hm : MaxL w) (hp : PowT w) :
    Calls Tryz.prog 30 #[.string s, .int .i64 W] w (FmtTo (fmtF s W).2.2 (fmtF s W).2.1 (errV (fmtF s W).1) w) := by
  by_cases hbad : wideF W = false ∨ (parseF s).1 ≠ 0
  · have h1 := fmt_bad s W w hs hm hbad
    have h2 : (fmtF s W).2.2 = .empty ∧ (fmtF s W).1 ≠ 0 := by
      unfold fmtF
      split
      · exact ⟨rfl, by decide⟩
      · split
        · rename_i hf; exact ⟨rfl, hf⟩
        · rename_i hw hf
          rcases hbad with h | h
          · exact absurd h hw
          · exact absurd h hf
    rw [h2.1, ← errV_pos h2.2]
    exact h1
  · have hw : wideF W = true := by
      cases h : wideF W with
      | true => rfl
      | false => exact absurd (.inl h) hbad
    have hf : (parseF s).1 = 0 := by
      by_cases h : (parseF s).1 = 0
      · exact h
      · exact absurd (.inr h) hbad
    have HW := Lib.hid (fun w' => wide_any W w')
    rw [hw] at HW
    have hR : fmtF s W = if formE W (parseF s).2.2 ≠ 0 then (formE W (parseF s).2.2, 0, .empty) else (0, 0, formT W (parseF s).2.2) := by
      rw [fmtF, if_neg (by simp [hw]), if_neg (by simp [hf])]
    have hP := parse_ok hf w hs hm
    have htr := progF_facts (parsed_words hf).1
    have h20 := htr.1
    have HT := Lib.hid htr.2.1
    rw [hR]
    generalize (parseF s).2.2 = p at *
    generalize (parseF s).2.1 = k0 at *
    have HE0 : Hid (formE W p = 0 → (if formE W p ≠ 0 then (formE W p, 0, ByteArray.empty) else ((0 : Int), (0 : Nat), formT W p)) = (0, 0, formT W p)) := Lib.hid (fun h => by rw [if_neg (by simpa using h)])
    have HE1 : Hid (formE W p ≠ 0 → (if formE W p ≠ 0 then (formE W p, 0, ByteArray.empty) else ((0 : Int), (0 : Nat), formT W p)) = (formE W p, 0, .empty)) := Lib.hid (fun h => by rw [if_pos h])
    have HP := Lib.hid hP
    have HM := Lib.hid hm; have HPW := Lib.hid hp
    have HSZ : Hid (∀ k, k ≤ p.length → (∀ j u, p[j]? = some u → j < k → oneQ u W = 0) → (formT W (p.take k)).size ≤ 1500000 * k) := Lib.hid (fun k => by
      induction k with
      | zero => intro _ _; simp [formT]
      | succ k ih =>
        intro hk h
        have hlt : k < p.length := by omega
        have hu : p[k]? = some p[k] := List.getElem?_eq_getElem hlt
        rw [formT_step W hu, ByteArray.size_append]
        have h1 := ih (by omega) (fun j u hj hjk => h j u hj (by omega))
        have hq := h k p[k] hu (by omega)
        have ht := (oneQ_zero hq).2.1
        have h2 := (oneX_is hq (fun h9 => docL_doc ht h9 (by have := (oneQ_zero hq).2.2 h9; omega))).small
        omega)
    have hend : formE W (p.drop p.length) = formE W p → formE W p = 0 := fun h => by rw [← h, List.drop_length]; rfl
    have HEND := Lib.hid hend
    have HALL : Hid (∀ k, p.length ≤ k → formT W (p.take k) = formT W p) := Lib.hid (fun k hk => by rw [List.take_of_length_le hk])
    clear hs hP hm hp hR htr hend hbad hw hf
    generalize hZ : (if formE W p ≠ 0 then (formE W p, 0, ByteArray.empty) else ((0 : Int), (0 : Nat), formT W p)) = Z at *
    clear hZ
    go_enter Tryz.func30, Tryz.ntmps30
    go_wp2_with (first
      | (go_at_call 55; refine (HW.out _).mono ?_; rintro e w0 ⟨rfl, rfl⟩)
      | (go_at_call 27; refine HP.out.mono ?_; rintro e w1 ⟨P1, c1, rfl, hF, hB1⟩; have HPR := Lib.hid hF.prg; have HB1 := Lib.hid hB1; clear hF hB1))
    have hb1 : Below w1.heap.size w1 (w1.alloc (.cells #[.pointer none, .slice none 0 0] 104)) := (Below.refl _ _).alloc (Nat.le_refl _) _
    have HBD : Hid (Bld w1.heap.size w1.heap.size .empty (w1.alloc (.cells #[.pointer none, .slice none 0 0] 104))) := Lib.hid (Bld.new w1)
    have hz1 := HB1.out.size
    have HB0 := Lib.hid hb1
    clear hb1
    go_loopw [10, 11, 12, 29] (fun _ _ _ i wr => ∃ k : Nat, k ≤ p.length ∧ i = .int .i64 k ∧ Hid (formE W (p.drop k) = formE W p ∧ ∀ j u, p[j]? = some u → j < k → oneQ u W = 0) ∧ Hid (Bld w1.heap.size w1.heap.size (formT W (p.take k)) wr) ∧ Hid (Below w1.heap.size w1 wr)) (fun _ _ _ i _ => p.length - (intOf i).toNat)
    case atStart => exact ⟨0, by omega, rfl, Lib.hid ⟨rfl, fun j u hj hjk => by omega⟩, HBD, HB0⟩
    case round =>
      clear HBD HB0
      obtain ⟨k, hk, rfl, HA, HBD, HB0⟩ := hrel
      by_cases hlt : k < p.length
      · obtain ⟨b, off, Ak, ck, u, rfl, hb, hu, hc, hN, hS⟩ := HPR.out.one HB0.out hlt
        have hmem : u ∈ p := List.mem_of_getElem? hu
        have hut := HT.out u hmem
        have HB01 := Lib.hid (HB1.out.trans (HB0.out.mono hz1))
        obtain ⟨e1, e2⟩ := formE_step W hu HA.out.1
        by_cases hq : oneQ u W = 0
        · have hdc : opAt u 0 ≠ 9 → ∃ x, Doc (docL u) x := fun h9 => docL_doc hut h9 (by have := (oneQ_zero hq).2.2 h9; omega)
          have HONE := Lib.hid (pone_ok (fun l x A c w hl hd => of_from l x A c w hl hd) u W Ak ck wr hN hS (HM.out.past HB01.out) (HPW.out.past HB01.out) hdc hq)
          have hsm := (oneX_is hq hdc).small
          have HST := Lib.hid (formT_step W hu)
          have HA2 : Hid (formE W (p.drop (k + 1)) = formE W p ∧ ∀ j v, p[j]? = some v → j < k + 1 → oneQ v W = 0) := Lib.hid ⟨e2 hq, fun j v hj hjk => by
            by_cases hjk2 : j = k
            · subst hjk2; rw [hu] at hj; cases hj; exact hq
            · exact HA.out.2 j v hj (by omega)⟩
          have hks := HSZ.out k hk HA.out.2
          generalize formT W (p.take k) = Q at *
          generalize oneX u W = T at *
          have hz0 := HB0.out.size
          clear hN hS hu hmem hut e1 e2 hq hdc HA
          go_wp2_with (first
            | (go_at_call 19; refine HONE.out.mono ?_; rintro e w3 ⟨rfl, hB3⟩; have HB3 := Lib.hid (HBD.out.past hB3); have HB4 := Lib.hid (HB0.out.trans (hB3.mono hz0)); clear hB3)
            | (go_at_call 47; refine (bld_write _ _ Q _ _ HB3.out (by omega)).mono ?_; rintro e w4 ⟨rfl, hb5, hB5⟩; have HB5 := Lib.hid hb5; have HB6 := Lib.hid (HB4.out.trans hB5); clear hb5 hB5))
          go_roundw
          case measure => simp [intOf]; omega
          case rel => exact ⟨k + 1, by omega, by go_num, HA2, Lib.hid (by rw [HST.out]; exact HB5.out), HB6⟩
        · have HONE := Lib.hid (pone_bad u W Ak ck wr hN hS (HM.out.past HB01.out) (HPW.out.past HB01.out) hq)
          have hfe := e1 hq
          have hzz := HE1.out (by rw [hfe]; exact hq)
          subst hzz
          have HV := Lib.hid (errV_pos hq)
          rw [hfe]
          generalize oneQ u W = q at *
          clear hN hS hu hmem hut e1 e2 HA
          go_wp2_with (go_at_call 19; refine HONE.out.mono ?_; rintro e w3 ⟨rfl, hB3⟩; have HB4 := Lib.hid (HB01.out.trans (hB3.mono HB01.out.size)); clear hB3)
          go_ret3
          exact ⟨by rw [← HV.out]; rfl, HB4.out⟩
      · have hkp : k = p.length := by omega
        have h0 := HEND.out (by have := HA.out.1; rwa [hkp] at this)
        have hzz := HE0.out h0
        subst hzz
        have HBZ : Hid (Bld w1.heap.size w1.heap.size (formT W p) wr) := Lib.hid (by rw [← HALL.out k (by omega)]; exact HBD.out)
        generalize formT W p = TT at *
        clear HBD
        go_wp2_with (go_at_call 49; refine (bld_string _ _ _ _ HBZ.out).mono ?_; rintro e w5 ⟨rfl, hB5⟩; have HB7 := Lib.hid (HB1.out.trans ((HB0.out.trans hB5).mono hz1)); clear hB5)
        go_ret3
        exact ⟨rfl, HB7.out⟩
end Go.Proofs.YtddfdmopaeghnacGreatDoor
namespace Go.Proofs.YtddfdmopaeghnacGreatDoor
def Bz (h K : Nat) (ns : List Nd) : Prop :=
  ∃ x : D, x.ok ∧ x.enc = ns ∧ (∀ (dp : Int) (w r : List Int) (s : ByteArray), 0 ≤ dp → dp.toNat + 2 * h ≤ 80 → x.lay dp w = .ok (s, r) → s.size ≤ K) ∧ ∀ s, x.flat = some s → s.size ≤ K
theorem Bz.word {h K : Nat} {s : ByteArray} (hs : s.size ≤ K) : Bz h K (wordN s) := by
  refine ⟨.leaf ⟨1, s, 0⟩, rfl, rfl, fun dp w r t _ _ ht => ?_, fun t ht => ?_⟩
  · simp only [D.lay, if_true] at ht
    cases ht; exact hs
  · simp only [D.flat, if_true] at ht
    cases ht; exact hs
theorem line_size (n : Nat) : (⟨#[10]⟩ ++ blanksB n : ByteArray).size = n + 1 := by
  rw [ByteArray.size_append, show (blanksB n).size = n by simp [blanksB, ByteArray.size]]
  show 1 + n = n + 1
  omega
theorem Bz.blank {h : Nat} : Bz h 81 (opN 2) := by
  refine ⟨.leaf ⟨2, .empty, 0⟩, rfl, rfl, fun dp w r t h0 hh ht => ?_, fun t ht => ?_⟩
  · simp only [D.lay, show ¬ (2 : Int) = 1 by decide, show ¬ (2 : Int) = 5 by decide, if_false] at ht
    cases ht
    rw [line_size]; omega
  · simp only [D.flat, show ¬ (2 : Int) = 1 by decide, if_false, if_true] at ht
    cases ht; decide
theorem Bz.soft {h : Nat} : Bz h 81 (opN 3) := by
  refine ⟨.leaf ⟨3, .empty, 0⟩, rfl, rfl, fun dp w r t h0 hh ht => ?_, fun t ht => ?_⟩
  · simp only [D.lay, show ¬ (3 : Int) = 1 by decide, show ¬ (3 : Int) = 5 by decide, if_false] at ht
    cases ht
    rw [line_size]; omega
  · simp only [D.flat, show ¬ (3 : Int) = 1 by decide, show ¬ (3 : Int) = 2 by decide, if_false] at ht
    cases ht; decide
theorem Bz.both {h K1 K2 : Nat} {m n : List Nd} (h1 : Bz h K1 m) (h2 : Bz h K2 n) : Bz h (K1 + K2) (bothN m n) := by
  obtain ⟨x, x1, x2, x3, x4⟩ := h1
  obtain ⟨y, y1, y2, y3, y4⟩ := h2
  refine ⟨.bin ⟨6, .empty, 0⟩ x y, ⟨by decide, x1, y1⟩, by simp [D.enc, bothN, x2, y2], fun dp w r t h0 hh ht => ?_, fun t ht => ?_⟩
  · obtain ⟨s1, w1, s2, g1, g2, rfl⟩ := both_layX ht
    rw [Int.add_zero] at g1 g2
    have := x3 _ _ _ _ h0 hh g1
    have := y3 _ _ _ _ h0 hh g2
    rw [ByteArray.size_append]; omega
  · obtain ⟨s1, s2, g1, g2, rfl⟩ := both_flatX ht
    have := x4 _ g1
    have := y4 _ g2
    rw [ByteArray.size_append]; omega
theorem Bz.group {h K : Nat} {n : List Nd} (hn : Bz h K n) : Bz h K (groupN n) := by
  obtain ⟨x, x1, x2, x3, x4⟩ := hn
  refine ⟨.un ⟨8, .empty, 0⟩ x, ⟨by decide, x1⟩, by simp [D.enc, groupN, x2], fun dp w r s h0 hh hs => ?_, fun s hs => x4 s hs⟩
  simp only [D.lay, show ¬ (8 : Int) = 7 by decide, if_false] at hs
  cases w with
  | nil => cases hs
  | cons c w =>
    simp only at hs
    split at hs
    · cases hf : x.flat with
      | none => rw [hf] at hs; cases hs
      | some u => rw [hf] at hs; cases hs; exact x4 _ hf
    · rw [Int.add_zero] at hs
      exact x3 _ _ _ _ h0 hh hs
theorem Bz.deep {h K : Nat} {n : List Nd} (hn : Bz h K n) : Bz (h + 1) K (deepN n) := by
  obtain ⟨x, x1, x2, x3, x4⟩ := hn
  refine ⟨.un ⟨7, .empty, 2⟩ x, ⟨by decide, x1⟩, by simp [D.enc, deepN, x2], fun dp w r s h0 hh hs => ?_, fun s hs => x4 s hs⟩
  simp only [D.lay, if_true] at hs
  exact x3 _ _ _ _ (by omega) (by omega) hs
theorem Bz.more {h h' K K' : Nat} {n : List Nd} (hn : Bz h K n) (hh : h ≤ h') (hk : K ≤ K') : Bz h' K' n := by
  obtain ⟨x, x1, x2, x3, x4⟩ := hn
  exact ⟨x, x1, x2, fun dp w r s h0 h1 hs => Nat.le_trans (x3 dp w r s h0 (by omega) hs) hk, fun s hs => Nat.le_trans (x4 s hs) hk⟩
theorem Bz.kid {h K : Nat} {po ko : Int} {b : Bool} {n : List Nd} {t : List (List UInt8)} (hn : Bz h (90 * t.length) n) (hk : 90 * (kidK po ko b t).length ≤ K) : Bz h K (kidD po ko b n) := by
  unfold kidK at hk
  unfold kidD
  split
  · rename_i hb
    rw [if_pos hb] at hk
    simp only [List.length_cons, List.length_append, List.length_nil] at hk
    exact ((Bz.word (K := 1) (by decide)).both (hn.both (Bz.word (K := 1) (by decide)))).more (Nat.le_refl _) (by omega)
  · rename_i hb
    rw [if_neg hb] at hk
    exact hn.more (Nat.le_refl _) hk
theorem Bz.kids {l : List Nd} {h : Nat} {g : Nat → List Nd} {t : Nat → List (List UInt8)} : ∀ (m a z : Nat), KidsP l a m z → 0 < m → (∀ b, a ≤ b → b < l.length → Bz h (90 * (t b).length) (g b)) → Bz h (90 * (kidsK t (tEnd l) a m).length) (kidsD g (tEnd l) a m) := by
  intro m
  induction m with
  | zero => intro a z h h0; omega
  | succ m ih =>
    intro a z hz _ hg
    obtain ⟨h1, h2, h3⟩ := hz
    have h4 := hg a (Nat.le_refl _) h1
    rw [kidsD, kidsK]
    split
    · exact h4
    · have h5 := ih _ _ h3 (by omega) (fun b hb hb2 => hg b (by omega) hb2)
      refine ((h4.both (Bz.word (K := 1) (by decide))).both (Bz.blank.both h5)).more (Nat.le_refl _) ?_
      simp only [List.length_append, List.length_cons]
      omega
theorem Bz.listed {h Ko K T : Nat} {o c : ByteArray} {m : Nat} {k : List Nd} (ho : o.size ≤ Ko) (hc : c.size = 1) (hk : 0 < m → Bz h K k) (h0 : m = 0 → Ko + 1 ≤ T) (hT : 0 < m → Ko + (81 + K + (81 + 1)) ≤ T) : Bz (h + 1) T (listD o c m k) := by
  unfold listD
  split
  · rename_i e
    exact Bz.word (by rw [ByteArray.size_append]; have := h0 e; omega)
  · rename_i e
    have hm : 0 < m := by omega
    exact (((Bz.word ho).both ((Bz.deep (Bz.soft.both (hk hm))).both (Bz.soft.both (Bz.word (K := 1) (by omega))))).group).more (Nat.le_refl _) (hT hm)
theorem docT_bz {l : List Nd} (hT : Tr l) : ∀ f i : Nat, l.length ≤ i + f → (hi : i < l.length) → l[i].op ≠ 9 → Bz (l.length - i) (90 * (tokT l f i).length) (docT l f i) := by
  intro f
  induction f with
  | zero => intro i h1 h2; omega
  | succ f ih =>
    intro i h1 h2 h9
    have hk := hT.kidsP h2
    have hm : (manyL l).getD i 0 = (manyF l[i].op l[i].n).toNat := manyL_at h2 rfl
    have hone := hT.one _ (List.getElem_mem h2)
    have hop : 1 ≤ l[i].op ∧ l[i].op ≤ 9 := by
      by_cases hc : l[i].op < 1 ∨ 9 < l[i].op
      · rw [treeOne, if_pos (by rcases hc with h | h; exact .inl h; exact .inr (.inl h))] at hone; cases hone
      · omega
    rw [hm] at hk
    have ihk : ∀ b, i + 1 ≤ b → b < l.length → Bz (l.length - (i + 1)) (90 * (tokT l f b).length) (docT l f b) := fun b hb hl => (ih b (by omega) hl (by have := hT.low hl (by omega); omega)).more (by omega) (Nat.le_refl _)
    have hsucc : l.length - i = l.length - (i + 1) + 1 := by omega
    rw [docT, tokT, getD_at h2]
    generalize l[i].op = op at *
    generalize l[i].n = n at *
    generalize l[i].text = t at *
    have hcs : op = 1 ∨ op = 2 ∨ op = 3 ∨ op = 4 ∨ op = 5 ∨ op = 6 ∨ op = 7 ∨ op = 8 := by omega
    rcases hcs with rfl | rfl | rfl | rfl | rfl | rfl | rfl | rfl
    · obtain ⟨n0, n1⟩ := tone_num hone
      simp only [if_true]
      have hl := itoa_len6 n0 n1
      exact Bz.word (by simp only [ByteArray.size, List.size_toArray, List.length_cons, List.length_nil]; omega)
    · have hnm := tone_word hone rfl (by decide)
      have := (name_facts hnm).2.1
      simp only [show ¬ (2 : Int) = 1 by decide, if_false, if_true]
      exact Bz.word (by simp only [List.length_cons, List.length_nil]; omega)
    · have hnm := tone_word hone rfl (by decide)
      have h8 := (name_facts hnm).2.1
      rw [show manyF 3 n = n from rfl] at hk
      simp only [show ¬ (3 : Int) = 1 by decide, show ¬ (3 : Int) = 2 by decide, if_false, if_true]
      rw [hsucc]
      refine Bz.listed (Ko := 9) ?_ rfl (fun h0 => Bz.kids _ _ _ hk h0 ihk) ?_ ?_
      · rw [ByteArray.size_append]; show t.size + 1 ≤ 9; omega
      · intro _; simp only [List.length_cons, List.length_append, List.length_nil]; omega
      · intro _; simp only [List.length_cons, List.length_append, List.length_nil]; omega
    · rw [show manyF 4 n = n from rfl] at hk
      simp only [show ¬ (4 : Int) = 1 by decide, show ¬ (4 : Int) = 2 by decide, show ¬ (4 : Int) = 3 by decide, if_false, if_true]
      rw [hsucc]
      refine Bz.listed (Ko := 1) (by decide) rfl (fun h0 => Bz.kids _ _ _ hk h0 ihk) ?_ ?_
      · intro _; simp only [List.length_cons, List.length_append, List.length_nil]; omega
      · intro _; simp only [List.length_cons, List.length_append, List.length_nil]; omega
    · obtain ⟨a1, a2, b1, b2, b3⟩ : i + 1 < l.length ∧ i + 1 < tEnd l (i + 1) ∧ tEnd l (i + 1) < l.length ∧ tEnd l (i + 1) < tEnd l (tEnd l (i + 1)) ∧ tEnd l (tEnd l (i + 1)) = tEnd l i := ⟨hk.1, hk.2.1, hk.2.2.1, hk.2.2.2.1, hk.2.2.2.2⟩
      have q1 := ihk _ (Nat.le_refl _) a1
      have q2 := ihk _ (by omega) b1
      simp only [show ¬ (5 : Int) = 1 by decide, show ¬ (5 : Int) = 2 by decide, show ¬ (5 : Int) = 3 by decide, show ¬ (5 : Int) = 4 by decide, if_false, if_true]
      rw [hsucc]
      refine (((q1.kid (po := 5) (ko := opAt l (i + 1)) (b := false) (Nat.le_refl _)).more (Nat.le_succ _) (Nat.le_refl _)).both (Bz.deep (Bz.blank.both ((Bz.word (K := 2) (by decide)).both (q2.kid (po := 5) (ko := opAt l (tEnd l (i + 1))) (b := true) (Nat.le_refl _)))))).group.more (Nat.le_refl _) ?_
      simp only [List.length_append, List.length_cons]
      omega
    · obtain ⟨a1, a2, b1, b2, b3⟩ : i + 1 < l.length ∧ i + 1 < tEnd l (i + 1) ∧ tEnd l (i + 1) < l.length ∧ tEnd l (i + 1) < tEnd l (tEnd l (i + 1)) ∧ tEnd l (tEnd l (i + 1)) = tEnd l i := ⟨hk.1, hk.2.1, hk.2.2.1, hk.2.2.2.1, hk.2.2.2.2⟩
      have q1 := ihk _ (Nat.le_refl _) a1
      have q2 := ihk _ (by omega) b1
      simp only [show ¬ (6 : Int) = 1 by decide, show ¬ (6 : Int) = 2 by decide, show ¬ (6 : Int) = 3 by decide, show ¬ (6 : Int) = 4 by decide, show ¬ (6 : Int) = 5 by decide, if_false, if_true]
      rw [hsucc]
      refine (((q1.kid (po := 6) (ko := opAt l (i + 1)) (b := false) (Nat.le_refl _)).more (Nat.le_succ _) (Nat.le_refl _)).both (Bz.deep (Bz.blank.both ((Bz.word (K := 2) (by decide)).both (q2.kid (po := 6) (ko := opAt l (tEnd l (i + 1))) (b := true) (Nat.le_refl _)))))).group.more (Nat.le_refl _) ?_
      simp only [List.length_append, List.length_cons]
      omega
    · have hnm := tone_word hone rfl (by decide)
      have h8 := (name_facts hnm).2.1
      obtain ⟨a1, a2, b3⟩ : i + 1 < l.length ∧ i + 1 < tEnd l (i + 1) ∧ tEnd l (i + 1) = tEnd l i := ⟨hk.1, hk.2.1, hk.2.2⟩
      have q1 := ihk _ (Nat.le_refl _) a1
      simp only [show ¬ (7 : Int) = 1 by decide, show ¬ (7 : Int) = 2 by decide, show ¬ (7 : Int) = 3 by decide, show ¬ (7 : Int) = 4 by decide, show ¬ (7 : Int) = 5 by decide, show ¬ (7 : Int) = 6 by decide, if_false, if_true]
      rw [hsucc]
      have hw : (⟨#[108, 101, 116, 32]⟩ ++ t ++ ⟨#[32, 61]⟩ : ByteArray).size ≤ 14 := by
        rw [ByteArray.size_append, ByteArray.size_append]; show 4 + t.size + 2 ≤ 14; omega
      refine ((Bz.word hw).both (Bz.deep (Bz.blank.both (q1.both (Bz.word (K := 1) (by decide)))))).group.more (Nat.le_refl _) ?_
      simp only [List.length_append, List.length_cons, List.length_nil]
      omega
    · obtain ⟨a1, a2, b3⟩ : i + 1 < l.length ∧ i + 1 < tEnd l (i + 1) ∧ tEnd l (i + 1) = tEnd l i := ⟨hk.1, hk.2.1, hk.2.2⟩
      have q1 := ihk _ (Nat.le_refl _) a1
      simp only [show ¬ (8 : Int) = 1 by decide, show ¬ (8 : Int) = 2 by decide, show ¬ (8 : Int) = 3 by decide, show ¬ (8 : Int) = 4 by decide, show ¬ (8 : Int) = 5 by decide, show ¬ (8 : Int) = 6 by decide, show ¬ (8 : Int) = 7 by decide, if_false]
      rw [hsucc]
      refine ((q1.more (Nat.le_succ _) (Nat.le_refl _)).both (Bz.word (K := 1) (by decide))).more (Nat.le_refl _) ?_
      simp only [List.length_append, List.length_cons, List.length_nil]
      omega
theorem Few.groups {width : Int} {l : List ByteArray} (h : Few width l) : ∀ (f i : Nat), l.length ≤ i + f → ∃ gs : List (List ByteArray), linesG width l f i = gs.map fillJ ∧ gs.flatten = l.drop i ∧ ∀ g ∈ gs, g ≠ [] := by
  intro f
  induction f with
  | zero => intro i hi; exact ⟨[], rfl, by rw [List.drop_eq_nil_of_le (by omega)]; rfl, by simp⟩
  | succ f ih =>
    intro i hi
    rw [linesG]
    split
    · rename_i hl
      exact ⟨[], rfl, by rw [List.drop_eq_nil_of_le hl]; rfl, by simp⟩
    · rename_i hl
      obtain ⟨_, _, h1, h2, _⟩ := h.at_ (i := i) (by omega)
      obtain ⟨gs, g1, g2, g3⟩ := ih (i + manyAt width l i) (by omega)
      refine ⟨(l.drop i).take (manyAt width l i) :: gs, by rw [g1]; rfl, ?_, fun g hg => ?_⟩
      · rw [List.flatten_cons, g2, ← List.drop_drop, List.take_append_drop]
      · rcases List.mem_cons.1 hg with rfl | hg
        · intro e
          have := congrArg List.length e
          rw [List.length_take, List.length_drop] at this
          simp at this
          omega
        · exact g3 g hg
theorem noteB_lx : ∀ {gs : List (List ByteArray)}, (∀ g ∈ gs, g ≠ []) → (∀ g ∈ gs, ∀ w ∈ g, wordF w = true) → Lx false (gs.map lineK) (noteB (gs.map fillJ)).data.toList
  | [], _, _ => Lx.nil
  | g :: gs, h0, h => by
    have hg := h g (by simp)
    have hj : Lib.join (g.map (·.data.toList)) [32] = (fillJ g).data.toList := by simp [fillJ]
    rw [List.map_cons, List.map_cons, noteB_toList]
    have hlk : lineK g = 35 :: 32 :: (fillJ g).data.toList := by rw [lineK, hj]
    have hb := line_bytes hg
    rw [hlk] at hb ⊢
    have h1 : Lx false [35 :: 32 :: (fillJ g).data.toList] (35 :: (32 :: (fillJ g).data.toList) ++ [10]) := Lx.note (w := 32 :: (fillJ g).data.toList) (fun c hc => by
      have := hb c (by simp only [List.mem_cons] at hc ⊢; exact .inr hc)
      simp only [prB, Bool.and_eq_true, decide_eq_true_eq]; exact this) (trim_line hg (h0 g (by simp)) hj)
    have h2 := h1.app (noteB_lx (gs := gs) (fun x hx => h0 x (by simp [hx])) (fun x hx => h x (by simp [hx]))) (fun e => by cases e)
    have e : 35 :: (32 :: (fillJ g).data.toList) ++ [10] ++ (noteB (gs.map fillJ)).data.toList = 35 :: 32 :: ((fillJ g).data.toList ++ 10 :: (noteB (gs.map fillJ)).data.toList) := by simp
    rw [e] at h2
    exact h2
theorem noteB_len : ∀ {gs : List (List ByteArray)}, (∀ g ∈ gs, g ≠ []) → (∀ g ∈ gs, ∀ w ∈ g, w.size ≤ 20) → (noteB (gs.map fillJ)).size ≤ 23 * gs.flatten.length
  | [], _, _ => by simp [noteB]
  | g :: gs, h0, h => by
    have ih := noteB_len (gs := gs) (fun x hx => h0 x (by simp [hx])) (fun x hx => h x (by simp [hx]))
    have hl := List.length_pos_iff.2 (h0 g (by simp))
    have h1 := fillJ_size g hl
    have h2 := sum_le g (h g (by simp))
    simp only [List.map_cons, noteB, ByteArray.size_append, List.flatten_cons, List.length_append]
    show 2 + (fillJ g).size + 1 + (noteB (gs.map fillJ)).size ≤ _
    unfold longW at h1
    omega
theorem noteT_lx {x : ByteArray} (h1 : treeOne 9 x 0 = 0) {W : Int} (hw : wideF W = true) : (∃ tk, NoteK x tk ∧ Lx false tk (noteT x W).data.toList) ∧ (noteT x W).size ≤ 1500 := by
  by_cases h0 : noteL x = []
  · rw [noteT, if_pos h0]
    exact ⟨⟨[[35]], .inl ⟨h0, rfl⟩, Lx.note (w := []) (by simp) (by decide)⟩, by decide⟩
  · rw [noteT, if_neg h0]
    obtain ⟨hfew, _⟩ := note_few h1 hw
    have hwf : wordsF (noteL x) = 0 := by
      unfold treeOne at h1
      split at h1
      · cases h1
      · split at h1
        · cases h1
        · simpa using h1
    obtain ⟨hlen, hws⟩ := wordsF_facts hwf
    obtain ⟨gs, g1, g2, g3⟩ := hfew.groups (noteL x).length 0 (by omega)
    rw [List.drop_zero] at g2
    have hfill : fillW (W - 2) (noteL x) = gs.map fillJ := by rw [fillW, linesAt, Nat.sub_zero]; exact g1
    have hmem : ∀ g ∈ gs, ∀ w ∈ g, w ∈ noteL x := fun g hg w hw => by rw [← g2]; exact List.mem_flatten.2 ⟨g, hg, hw⟩
    rw [hfill]
    refine ⟨⟨gs.map lineK, .inr ⟨gs, fun e => ?_, g3, g2, rfl⟩, noteB_lx g3 fun g hg w hw => hws w (hmem g hg w hw)⟩, ?_⟩
    · rw [e] at g2; exact h0 g2.symm
    · have := noteB_len g3 (fun g hg w hw => (wordF_facts (hws w (hmem g hg w hw))).2.1)
      rw [g2] at this
      omega
theorem oneX_lx {l : List Nd} {W : Int} (h : oneQ l W = 0) : (∃ tk, PcK l tk ∧ Lx false tk (oneX l W).data.toList) ∧ (oneX l W).size ≤ 90 * nTok l + 1500 := by
  obtain ⟨hw, ht, h4⟩ := oneQ_zero h
  by_cases h9 : opAt l 0 = 9
  · obtain ⟨x, rfl, h1⟩ := tree_note ht h9
    have hx : oneX [⟨9, x, 0⟩] W = noteT x W := by rw [oneX, if_pos h9]; rfl
    rw [hx]
    obtain ⟨⟨tk, t1, t2⟩, hz⟩ := noteT_lx h1 hw
    exact ⟨⟨tk, .inr ⟨x, rfl, t1⟩, t2⟩, by omega⟩
  · obtain ⟨x, hx⟩ := docL_doc ht h9 (by have := h4 h9; omega)
    have hr : oneX l W = bT W.toNat x ++ ⟨#[10]⟩ := by rw [oneX, if_neg h9, hx.root]
    have hlay := (hx.best_shown W.toNat).lay
    have hT := Tr.of_check ht
    have h0 := hT.pos0
    have hoe : opAt l 0 = (l[0]'h0).op := by rw [opAt, getD_at h0]
    rw [hr]
    refine ⟨⟨tokT l l.length 0, .inl ⟨h9, rfl⟩, lx_stmt ht h9 fun y y1 y2 => .inr ⟨0, bU W.toNat x, [], ?_⟩⟩, ?_⟩
    · obtain rfl := hx.same y1 y2
      exact hlay
    · obtain ⟨y, y1, y2, y3, _⟩ := docT_bz hT l.length 0 (by omega) h0 (by rw [← hoe]; exact h9)
      obtain rfl := hx.same y1 y2
      have := y3 _ _ _ _ (by omega) (by have := hT.len; show 0 + 2 * (l.length - 0) ≤ 80; omega) hlay
      rw [nTok, if_neg h9, ByteArray.size_append]
      show _ + 1 ≤ _
      omega
theorem formE_all {W : Int} : ∀ {p : List (List Nd)}, formE W p = 0 → ∀ u ∈ p, oneQ u W = 0
  | [], _, u, hu => by cases hu
  | v :: r, h, u, hu => by
    rw [formE] at h
    split at h
    · rename_i hq; exact absurd h hq
    · rename_i hq
      rcases List.mem_cons.1 hu with rfl | hu
      · simpa using hq
      · exact formE_all h u hu
theorem formE_some {W : Int} : ∀ {p : List (List Nd)}, formE W p ≠ 0 → ∃ u ∈ p, oneQ u W ≠ 0
  | [], h => absurd rfl h
  | v :: r, h => by
    rw [formE] at h
    split at h
    · rename_i hq; exact ⟨v, by simp, hq⟩
    · obtain ⟨u, hu, hq⟩ := formE_some h
      exact ⟨u, by simp [hu], hq⟩
theorem formT_bytes (W : Int) : ∀ p : List (List Nd), (formT W p).data.toList = p.flatMap fun u => (oneX u W).data.toList
  | [] => rfl
  | u :: r => by rw [formT, ByteArray.data_append, Array.toList_append, formT_bytes W r, List.flatMap_cons]
theorem formT_size {W : Int} : ∀ {p : List (List Nd)}, (∀ u ∈ p, oneQ u W = 0) → (formT W p).size ≤ 90 * (p.map nTok).sum + 1500 * p.length
  | [], _ => by simp [formT]
  | u :: r, h => by
    have h1 := (oneX_lx (h u (by simp))).2
    have h2 := formT_size (p := r) (fun v hv => h v (by simp [hv]))
    rw [formT, ByteArray.size_append, List.map_cons, List.sum_cons, List.length_cons]
    omega
theorem parse_form {p : List (List Nd)} {W : Int} (h0 : (progF p).2 = 0) (hn : (p.map nTok).sum ≤ 300) (h : formE W p = 0) : parseF (formT W p) = (0, 0, p) ∧ (formT W p).size ≤ 60000 := by
  have hf := progF_facts h0
  have hq := formE_all h
  obtain ⟨q, q1, q2, q3⟩ := print_lx (fun u => oneX u W) hf.2.1 (fun u hu => (oneX_lx (hq u hu)).1)
  rw [← formT_bytes] at q3
  have hz : (formT W p).size ≤ 60000 := by
    have := formT_size hq
    have := hf.1
    omega
  have h1 := parse_text hz q2 (by rw [q1]; exact h0) q3
  rw [q1, if_neg (by omega)] at h1
  exact ⟨h1, hz⟩
end Go.Proofs.YtddfdmopaeghnacGreatDoor
namespace Go.Proofs.YtddfdmopaeghnacGreatDoor
open Go.RowKit
theorem rwide_any (W : Int) (w : World) : Calls Tryz.prog 36 #[.int .i64 W] w fun e w' => e = .returned (.bool (wideF W)) ∧ w = w' := by
  by_cases h1 : 10 ≤ W
  · by_cases h2 : W ≤ 100
    · have hr : wideF W = true := by simp [wideF, h1, h2]
      rw [hr]
      go_enter Tryz.func36, Tryz.ntmps36
      go_wp2
      go_ret
      exact ⟨by first | rfl | (simp; done) | (simp; omega), rfl⟩
    · have hr : wideF W = false := by simp [wideF, h2]
      rw [hr]
      go_enter Tryz.func36, Tryz.ntmps36
      go_wp2
      go_ret
      exact ⟨by first | rfl | (simp; done) | (simp; omega), rfl⟩
  · have hr : wideF W = false := by simp [wideF, h1]
    rw [hr]
    have h3 : decide (W ≥ 10) = false := decide_eq_false h1
    go_enter Tryz.func36, Tryz.ntmps36
    go_wp2
    go_ret
    exact ⟨by first | rfl | (simp; done) | (simp; omega), rfl⟩
def canF (u : List Nd) : Bool := decide (opAt u 0 = 9) || decide ((docL u).length ≤ 400)
def laidF (p : List (List Nd)) (W : Int) : Bool := p.all canF && wideF W
set_option maxRecDepth 100000 in
set_option maxHeartbeats 4000000 in
theorem laid_any (p : List (List Nd)) (P : Option Addr) (cp : Nat) (W : Int) (w : World) (hp : Prg w w.heap.size P p) (hT : ∀ u ∈ p, treeF u = 0) :
    Calls Tryz.prog 21 #[.slice P p.length cp, .int .i64 W] w (Ret w (.bool (laidF p W))) := by
  have HW := Lib.hid (fun w' => rwide_any W w')
  have HP := Lib.hid hp; have HT := Lib.hid hT
  have hpl := hp.2
  unfold maxLen at hpl
  have HB0 : Hid (Below w.heap.size w w) := Lib.hid (Below.refl _ _)
  have HEND : Hid (∀ k, p.length ≤ k → (p.take k).all canF = true → laidF p W = wideF W) := Lib.hid (fun k hk h => by rw [List.take_of_length_le hk] at h; rw [laidF, h]; rfl)
  have HBAD : Hid (∀ u ∈ p, canF u = false → laidF p W = false) := Lib.hid (fun u hu h => by
    rw [laidF]
    have : p.all canF = false := by
      rw [List.all_eq_false]
      exact ⟨u, hu, by simp [h]⟩
    rw [this]; rfl)
  generalize hZ : laidF p W = Z at *
  clear hp hT hZ
  go_enter Tryz.func21, Tryz.ntmps21
  go_wp2_with (go_at_call 36; refine (HW.out _).mono ?_; rintro e w1 ⟨rfl, rfl⟩)
  go_loopw [6] (fun i wr => ∃ k : Nat, k ≤ p.length ∧ i = .int .i64 k ∧ Hid ((p.take k).all canF = true) ∧ Hid (Below w.heap.size w wr)) (fun i _ => p.length - (intOf i).toNat)
  case atStart => exact ⟨0, by omega, rfl, Lib.hid rfl, HB0⟩
  case round =>
    clear HB0
    obtain ⟨k, hk, rfl, HA, HB0⟩ := hrel
    by_cases hlt : k < p.length
    · obtain ⟨b, off, Ak, ck, u, rfl, hb, hu, hc, hN, hS⟩ := HP.out.one HB0.out hlt
      have hmem : u ∈ p := List.mem_of_getElem? hu
      have hut := HT.out u hmem
      have HBD := Lib.hid (HBAD.out u hmem)
      have HNX : Hid (canF u = true → (p.take (k + 1)).all canF = true) := Lib.hid (fun h => by
        rw [List.take_add_one, hu, List.all_append, HA.out]; simp [h])
      have h0 := (Tr.of_check hut).pos0
      have hzu := (Tr.of_check hut).len
      obtain ⟨b2, off2, op, t, n, rfl, hb2, ho, hnd, hts, d1, d2⟩ := hN.head0 h0
      by_cases h9 : op = 9
      · subst h9
        have hcn : canF u = true := by simp [canF, ho]
        have HNX2 := Lib.hid (HNX.out hcn)
        clear hN hS hu hmem hut ho hnd hts d2 HBD
        go_wp2
        go_roundw
        case measure => simp [intOf]; omega
        case rel => exact ⟨k + 1, by omega, by go_num, HNX2, HB0⟩
      · have h9b : (op == 9) = false := by simpa using h9
        have hoe : opAt u 0 ≠ 9 := by rw [ho]; exact h9
        have HD := Lib.hid (rdoc_any (A := some ⟨b2, off2, none⟩) (c := ck) (Tr.of_check hut) u.length 0 0 wr rfl hN h0 (by omega) hoe)
        rw [show docT u u.length 0 = docL u from rfl] at HD
        have HC : Hid ((docL u).length ≤ 400 → canF u = true) := Lib.hid (fun h => by simp [canF, h])
        have HC2 : Hid (¬ (docL u).length ≤ 400 → canF u = false) := Lib.hid (fun h => by simp only [canF, Bool.or_eq_false_iff, decide_eq_false_iff_not]; exact ⟨hoe, h⟩)
        generalize docL u = d at *
        clear hN hS hu hmem hut ho hnd hts d2 hoe
        by_cases h4 : d.length ≤ 400
        · have HNX2 := Lib.hid (HNX.out (HC.out h4))
          have k4 : decide (400 < (d.length : Int)) = false := decide_eq_false (by omega)
          go_wp2_with (go_at_call 62; refine HD.out.mono ?_; rintro e w3 ⟨A3, c3, rfl, -, hB3⟩; have HB3 := Lib.hid (HB0.out.trans (hB3.mono HB0.out.size)); clear hB3)
          go_roundw
          case measure => simp [intOf]; omega
          case rel => exact ⟨k + 1, by omega, by go_num, HNX2, HB3⟩
        · have hz := HBD.out (HC2.out h4)
          subst hz
          have k4 : decide (400 < (d.length : Int)) = true := decide_eq_true (by omega)
          go_wp2_with (go_at_call 62; refine HD.out.mono ?_; rintro e w3 ⟨A3, c3, rfl, -, hB3⟩; have HB3 := Lib.hid (HB0.out.trans (hB3.mono HB0.out.size)); clear hB3)
          go_ret
          exact ⟨rfl, HB3.out⟩
    · have hz := HEND.out k (by omega) HA.out
      subst hz
      go_wp2
      go_ret
      exact ⟨rfl, HB0.out⟩
end Go.Proofs.YtddfdmopaeghnacGreatDoor
namespace Go.Proofs.YtddfdmopaeghnacGreatDoor
open Go.RowKit
set_option maxHeartbeats 2000000 in
theorem trees_any (a b : List Nd) (n1 n2 : Nat) (e1 : a.length = n1) (e2 : b.length = n2) (A B : Option Addr) (c d : Nat) (w : World) (ha : Nds w w.heap.size A a) (hb : Nds w w.heap.size B b) :
    Calls Tryz.prog 70 #[.slice A n1 c, .slice B n2 d] w (fun e w' => e = .returned (.bool (sameT a b)) ∧ ∃ m, w' = w.drewN m) := by
  have hm := ha.2.1
  have hm2 := hb.2.1
  unfold maxLen at hm hm2
  have HA := Lib.hid ha; clear ha
  have HB := Lib.hid hb; clear hb
  by_cases hl : n1 = n2
  · subst hl
    have HL := Lib.hid (sameT_all (e1.trans e2.symm))
    go_enter Tryz.func70, Tryz.ntmps70
    go_wp2
    go_loopw [5] (fun i wr => ∃ k : Nat, k ≤ n1 ∧ i = .int .i64 k ∧ a.take k = b.take k ∧ ∃ m, wr = w.drewN m) (fun i _ => n1 - (intOf i).toNat)
    case atStart => exact ⟨0, by omega, rfl, rfl, 0, rfl⟩
    case round =>
      obtain ⟨k, hk, rfl, ht, m, rfl⟩ := hrel
      have HT := Lib.hid ht; clear ht
      by_cases hlt : k < n1
      · obtain ⟨b1, off, op, t, n, rfl, hb, hd, hts, d1, d2, d3⟩ := HA.out.node (Below.refl _ _) (k := k) (by omega)
        obtain ⟨b2, off2, op2, t2, n2, rfl, hb2, hd2, hts2, d4, d5, d6⟩ := HB.out.node (Below.refl _ _) (k := k) (by omega)
        have HX := Lib.hid (take_oneT HT.out (k := k) (by omega) (by omega))
        have HY := Lib.hid (sameT_at (a := a) (b := b) (k := k) (by omega) (by omega))
        rw [hd, hd2] at HX HY
        clear hd hd2
        by_cases hop : op = op2
        · subst hop
          by_cases htt : t = t2
          · subst htt
            by_cases hn : n = n2
            · subst hn
              go_wp2
              go_quiet (fail)
              go_wp2
              go_roundw
              case rel => exact ⟨k + 1, by omega, by go_num, HX.out (by trivial), _, by first | rfl | exact World.drewN_drewN _ _ _⟩
              case measure => simp [intOf]; omega
            · have HZ := Lib.hid (HY.out (by simp [hn]))
              have hne : (n == n2) = false := by simpa using hn
              go_wp2
              go_quiet (fail)
              go_wp2
              go_ret
              exact ⟨by rw [HZ.out]; rfl, _, by first | rfl | exact World.drewN_drewN _ _ _⟩
          · have HZ := Lib.hid (HY.out (by simp [htt]))
            have hne : (t.toList == t2.toList) = false := bytes_neT htt
            go_wp2
            go_quiet (fail)
            go_wp2
            go_ret
            exact ⟨by rw [HZ.out]; rfl, _, by first | rfl | exact World.drewN_drewN _ _ _⟩
        · have HZ := Lib.hid (HY.out (by simp [hop]))
          have hne : (op == op2) = false := by simpa using hop
          go_wp2
          go_quiet (fail)
          go_wp2
          go_ret
          exact ⟨by rw [HZ.out]; rfl, _, by first | rfl | exact World.drewN_drewN _ _ _⟩
      · have hz : a.take a.length = b.take a.length := by have := HT.out; rwa [show k = a.length by omega] at this
        have HZ := Lib.hid (HL.out hz); clear hz
        go_wp2
        go_ret
        exact ⟨by rw [HZ.out]; rfl, ⟨_, rfl⟩⟩
  · have HL := Lib.hid (sameT_len (a := a) (b := b) (by omega))
    have hne : ((n1 : Int) != (n2 : Int)) = true := by simp; omega
    go_enter Tryz.func70, Tryz.ntmps70
    go_wp2
    go_ret
    exact ⟨by rw [HL.out]; rfl, 0, rfl⟩
set_option maxHeartbeats 2000000 in
theorem progs_any (a b : List (List Nd)) (n1 n2 : Nat) (e1 : a.length = n1) (e2 : b.length = n2) (A B : Option Addr) (c d : Nat) (w : World) (ha : Prg w w.heap.size A a) (hb : Prg w w.heap.size B b) :
    Calls Tryz.prog 28 #[.slice A n1 c, .slice B n2 d] w (fun e w' => e = .returned (.bool (sameP a b)) ∧ ∃ m, w' = w.drewN m) := by
  have hm := ha.le
  have hm2 := hb.le
  rw [e1] at hm
  rw [e2] at hm2
  unfold maxLen at hm hm2
  have HA := Lib.hid ha; clear ha
  have HB := Lib.hid hb; clear hb
  have HE1 := Lib.hid e1
  have HE2 := Lib.hid e2
  by_cases hl : n1 = n2
  · subst hl
    have HL := Lib.hid (sameP_all (e1.trans e2.symm))
    clear e1 e2
    go_enter Tryz.func28, Tryz.ntmps28
    go_wp2
    go_loopw [5] (fun i wr => ∃ k : Nat, k ≤ n1 ∧ i = .int .i64 k ∧ Hid (a.take k = b.take k) ∧ ∃ m, wr = w.drewN m) (fun i _ => n1 - (intOf i).toNat)
    case atStart => exact ⟨0, by omega, rfl, Lib.hid rfl, 0, rfl⟩
    case round =>
      obtain ⟨k, hk, rfl, HT, m, rfl⟩ := hrel
      by_cases hlt : k < n1
      · obtain ⟨b1, off1, A1, c1, u1, rfl, hb1, hu1, hc1, hN1, -⟩ := HA.out.one (Below.refl _ _) (k := k) (by rw [HE1.out]; exact hlt)
        obtain ⟨b2, off2, A2, c2, u2, rfl, hb2, hu2, hc2, hN2, -⟩ := HB.out.one (Below.refl _ _) (k := k) (by rw [HE2.out]; exact hlt)
        have HC := Lib.hid (fun q => (trees_any u1 u2 _ _ rfl rfl A1 A2 c1 c2 (w.drewN (m + q)) (hN1.past (below_drewN (Below.refl _ _) _)) (hN2.past (below_drewN (Below.refl _ _) _))).mono (fun e w'' (h : _ ∧ _) => (⟨h.1, let ⟨n, hn⟩ := h.2; ⟨q + n, by rw [hn, World.drewN_drewN, Nat.add_assoc]⟩⟩ : e = .returned (.bool (sameT u1 u2)) ∧ ∃ n, w'' = w.drewN (m + n))))
        cases hs : sameT u1 u2 with
        | true =>
          rw [hs] at HC
          have HX := Lib.hid (take_oneP HT.out hu1 hu2 hs)
          clear hu1 hu2 hN1 hN2 hs
          go_wp2
          go_quiet ((go_at_call 70; exact HC.out _))
          go_wp2
          go_roundw
          case rel => exact ⟨k + 1, by omega, by go_num, HX, _, by first | rfl | exact World.drewN_drewN _ _ _⟩
          case measure => simp [intOf]; omega
        | false =>
          rw [hs] at HC
          have HX := Lib.hid (sameP_at hu1 hu2 hs)
          clear hu1 hu2 hN1 hN2 hs
          go_wp2
          go_quiet ((go_at_call 70; exact HC.out _))
          go_wp2
          go_ret
          exact ⟨by rw [HX.out]; rfl, _, by first | rfl | exact World.drewN_drewN _ _ _⟩
      · have hz : a.take a.length = b.take a.length := by have := HT.out; rwa [show k = a.length by rw [HE1.out]; omega] at this
        have HZ := Lib.hid (HL.out hz); clear hz
        go_wp2
        go_ret
        exact ⟨by rw [HZ.out]; rfl, _, rfl⟩
  · have HL := Lib.hid (sameP_len (a := a) (b := b) (by omega))
    clear e1 e2
    have hne : ((n1 : Int) != (n2 : Int)) = true := by simp; omega
    go_enter Tryz.func28, Tryz.ntmps28
    go_wp2
    go_ret
    exact ⟨by rw [HL.out]; rfl, 0, rfl⟩
end Go.Proofs.YtddfdmopaeghnacGreatDoor
namespace Go.Proofs.YtddfdmopaeghnacGreatDoor
open Go.RowKit
def factFI : ByteArray := ⟨#[108, 101, 116, 32, 97, 61, 102, 40, 49, 44, 50, 41, 59]⟩
def factFO : ByteArray := ⟨#[108, 101, 116, 32, 97, 32, 61, 32, 102, 40, 49, 44, 32, 50, 41, 59, 10]⟩
def factFP : List Nd := [⟨7, ⟨#[97]⟩, 0⟩, ⟨3, ⟨#[102]⟩, 2⟩, ⟨1, .empty, 1⟩, ⟨1, .empty, 2⟩]
theorem factF_parse : parseF factFI = (0, 0, [factFP]) := by kernel_rfl
theorem factF_line : lineL factFP ++ ⟨#[10]⟩ = factFO := by kernel_rfl
theorem factF_tree : treeF factFP = 0 := by decide +kernel
theorem factF_is : fmtF factFI 40 = (0, 0, factFO) := by
  have h9 : opAt factFP 0 ≠ 9 := by decide
  have hlen := docL_len factF_tree h9
  rw [show factFP.length = 4 from rfl] at hlen
  have hq : oneQ factFP 40 = 0 := by
    rw [oneQ, if_neg (by decide), if_neg (by rw [factF_tree]; simp), if_neg h9, if_neg (by omega)]
  have hx := (oneX_is hq (fun h => docL_doc factF_tree h (by omega))).fits
  have hz : (lineL factFP ++ ⟨#[10]⟩ : ByteArray).size = (lineL factFP).size + 1 := by rw [ByteArray.size_append]; rfl
  rw [factF_line] at hz
  have hz2 : factFO.size = 17 := by decide
  have hx2 := hx (by omega)
  rw [factF_line] at hx2
  rw [fmtF, if_neg (by decide), factF_parse, if_neg (by simp)]
  have he : formE 40 [factFP] = 0 := by rw [formE, if_neg (by simp [hq])]; rfl
  simp only [he]
  rw [if_neg (by simp), formT, hx2, formT]
  simp
theorem fmt_ok_is {s : ByteArray} {W : Int} {k : Nat} {T : ByteArray} (h : fmtF s W = (0, k, T)) (w : World) (hs : s.size ≤ maxLen) (hm : MaxL w) (hp : PowT w) : Calls Tryz.prog 30 #[.string s, .int .i64 W] w (Ret w (.tuple #[.string T, .int .i64 (k : Nat), .nilIface])) := by
  have := fmt_any s W w hs hm hp
  rw [h] at this
  exact this
theorem fmt_bad_is {s : ByteArray} {W f : Int} {k : Nat} {T : ByteArray} (h : fmtF s W = (f, k, T)) (hf : f ≠ 0) (w : World) (hs : s.size ≤ maxLen) (hm : MaxL w) (hp : PowT w) : Calls Tryz.prog 30 #[.string s, .int .i64 W] w (Ret w (.tuple #[.string T, .int .i64 (k : Nat), .iface 43 (.int .i64 f)])) := by
  have := fmt_any s W w hs hm hp
  rw [h, ← errV_pos hf] at this
  exact this
theorem parse_okB {s : ByteArray} {k n : Nat} {l : List (List Nd)} (h : parseF s = (0, k, l)) (hn : l.length = n) (w : World) (hs : s.size ≤ maxLen) (hm : MaxL w) : Calls Tryz.prog 27 #[.string s] w fun e w' => ∃ A c, e = .returned (.tuple #[.slice A n c, .int .i64 (k : Nat), .nilIface]) ∧ PrgF w.heap.size w' A l ∧ Below w.heap.size w w' := by
  have := parse_ok (s := s) (by rw [h]) w hs hm
  rw [h] at this
  subst hn
  exact this
theorem parse_badB {s : ByteArray} {f : Int} {k n : Nat} {l : List (List Nd)} (h : parseF s = (f, k, l)) (hf : f ≠ 0) (hn : l.length = n) (w : World) (hs : s.size ≤ maxLen) (hm : MaxL w) : Calls Tryz.prog 27 #[.string s] w fun e w' => ∃ A c, e = .returned (.tuple #[.slice A n c, .int .i64 (k : Nat), .iface 43 (.int .i64 f)]) ∧ PrgF w.heap.size w' A l ∧ Below w.heap.size w w' := by
  have := parse_bad (s := s) (by rw [h]; exact hf) w hs hm
  rw [h] at this
  subst hn
  exact this
theorem laidF_no {p : List (List Nd)} {W : Int} (hT : ∀ u ∈ p, treeF u = 0) (h : wideF W = false ∨ formE W p ≠ 0) : laidF p W = false := by
  rw [laidF]
  by_cases hw : wideF W = false
  · rw [hw]; simp
  · have hw1 : wideF W = true := by simpa using hw
    obtain ⟨u, hu, hq⟩ := formE_some (by
      rcases h with h | h
      · exact absurd h hw
      · exact h)
    have h1 := laid_no hq (hT u hu)
    rw [hw1] at h1
    have h2 : canF u = false := by simpa [canF] using h1
    have : p.all canF = false := by
      rw [List.all_eq_false]
      exact ⟨u, hu, by simp [h2]⟩
    rw [this]; rfl
theorem fmt_parts {s : ByteArray} {W : Int} (h : (fmtF s W).1 = 0) : wideF W = true ∧ (parseF s).1 = 0 ∧ formE W (parseF s).2.2 = 0 ∧ fmtF s W = (0, 0, formT W (parseF s).2.2) := by
  unfold fmtF at h ⊢
  split at h
  · cases h
  · rename_i hw
    split at h
    · rename_i hf; exact absurd h hf
    · rename_i hf
      split at h
      · rename_i he; exact absurd h he
      · rename_i he
        rw [if_neg hw, if_neg hf, if_neg he]
        exact ⟨by simpa using hw, by simpa using hf, by simpa using he, rfl⟩
theorem fmt_of {s : ByteArray} {k : Nat} {p : List (List Nd)} (h : parseF s = (0, k, p)) (W : Int) : fmtF s W = if wideF W = false then (1, 0, .empty) else if formE W p ≠ 0 then (formE W p, 0, .empty) else (0, 0, formT W p) := by
  rw [fmtF, h]
  simp
set_option maxRecDepth 100000 in
set_option maxHeartbeats 8000000 in
theorem formBack_bad (s : ByteArray) (W W2 : Int) (w : World) (hs : s.size ≤ maxLen) (hm : MaxL w) (hp : PowT w) (h : (fmtF s W).1 ≠ 0) :
    Calls Tryz.prog 8 #[.string s, .int .i64 W, .int .i64 W2] w (Ret w (.bool true)) := by
  have HM := Lib.hid hm; have HPW := Lib.hid hp; have HS := Lib.hid hs
  have HB : Hid (Below w.heap.size w w) := Lib.hid (Below.refl _ _)
  have HF0 := Lib.hid (fun (w' : World) (hB : Below w.heap.size w w') => fmt_ok_is factF_is w' (by decide) (hm.past hB) (hp.past hB))
  unfold factFI factFO at HF0
  obtain ⟨f, k, T, hf⟩ : ∃ f k T, fmtF s W = (f, k, T) := ⟨_, _, _, rfl⟩
  rw [hf] at h
  have HF1 := Lib.hid (fun (w' : World) (hB : Below w.heap.size w w') => fmt_bad_is hf h w' hs (hm.past hB) (hp.past hB))
  obtain ⟨f2, k2, p, hp2⟩ : ∃ f k x, parseF s = (f, k, x) := ⟨_, _, _, rfl⟩
  obtain ⟨n, hn⟩ : ∃ n, p.length = n := ⟨_, rfl⟩
  by_cases hf2 : f2 = 0
  · subst hf2
    have htr := progF_facts (parsed_words (s := s) (by rw [hp2])).1
    rw [hp2] at htr
    have hno : laidF p W = false := laidF_no htr.2.1 (by
      have h1 := fmt_of hp2 W
      rw [hf] at h1
      by_cases hw : wideF W = false
      · exact .inl hw
      · right
        intro he
        rw [if_neg hw, if_neg (by simp [he])] at h1
        injection h1 with h1
        exact h h1)
    have HP := Lib.hid (fun (w' : World) (hB : Below w.heap.size w w') => parse_okB hp2 hn w' hs (hm.past hB))
    have HLD := Lib.hid (fun (A : Option Addr) (c : Nat) (w' : World) (hF : Prg w' w'.heap.size A p) => (by have := laid_any p A c W w' hF htr.2.1; rw [hno, hn] at this; exact this : Calls Tryz.prog 21 #[.slice A n c, .int .i64 W] w' (Ret w' (.bool false))))
    clear hs hm hp h hf hp2 hn htr hno
    go_enter Tryz.func8, Tryz.ntmps8
    go_wp2_with (first
      | (go_at_call 30; (fail_if_success have z := T0); refine (HF0.out _ HB.out).mono ?_; rintro e w1 ⟨rfl, hB⟩; have HB := Lib.hid (HB.out.trans (hB.mono HB.out.size)); have T0 := Lib.hid True.intro; clear hB)
      | (go_at_call 30; (have z := T0; clear z); (fail_if_success have z := T1); refine (HF1.out _ HB.out).mono ?_; rintro e w2 ⟨rfl, hB⟩; have HB := Lib.hid (HB.out.trans (hB.mono HB.out.size)); have T1 := Lib.hid True.intro; clear hB)
      | (go_at_call 27; (have z := T1; clear z); (fail_if_success have z := T2); refine (HP.out _ HB.out).mono ?_; rintro e w3 ⟨A2, c2, rfl, hF, hB⟩; have HX := Lib.hid hF; have HB := Lib.hid (HB.out.trans (hB.mono HB.out.size)); have T2 := Lib.hid True.intro; clear hF hB)
      | (go_at_call 21; refine (HLD.out _ _ _ HX.out.prg).mono ?_; rintro e w4 ⟨rfl, hB⟩; have HB := Lib.hid (HB.out.trans (hB.mono HB.out.size)); clear hB))
    go_ret
    exact ⟨by first | rfl | (simp; done), HB.out⟩
  · have HP := Lib.hid (fun (w' : World) (hB : Below w.heap.size w w') => parse_badB hp2 hf2 hn w' hs (hm.past hB))
    clear hs hm hp h hf hp2 hn hf2
    go_enter Tryz.func8, Tryz.ntmps8
    go_wp2_with (first
      | (go_at_call 30; (fail_if_success have z := T0); refine (HF0.out _ HB.out).mono ?_; rintro e w1 ⟨rfl, hB⟩; have HB := Lib.hid (HB.out.trans (hB.mono HB.out.size)); have T0 := Lib.hid True.intro; clear hB)
      | (go_at_call 30; (have z := T0; clear z); (fail_if_success have z := T1); refine (HF1.out _ HB.out).mono ?_; rintro e w2 ⟨rfl, hB⟩; have HB := Lib.hid (HB.out.trans (hB.mono HB.out.size)); have T1 := Lib.hid True.intro; clear hB)
      | (go_at_call 27; (have z := T1; clear z); (fail_if_success have z := T2); refine (HP.out _ HB.out).mono ?_; rintro e w3 ⟨A2, c2, rfl, hF, hB⟩; have HX := Lib.hid hF; have HB := Lib.hid (HB.out.trans (hB.mono HB.out.size)); have T2 := Lib.hid True.intro; clear hF hB))
    go_ret
    exact ⟨by first | rfl | (simp; done), HB.out⟩
set_option maxRecDepth 100000 in
set_option maxHeartbeats 8000000 in
theorem formBack_y (s T : ByteArray) (W W2 : Int) (k0 k1 k4 k5 : Nat) (p : List (List Nd)) (w : World) (hs : s.size ≤ maxLen) (ht : T.size ≤ maxLen) (hm : MaxL w) (hp : PowT w) (h0 : fmtF s W = (0, k0, T)) (h1 : parseF s = (0, k1, p)) (h4 : parseF T = (0, k4, p)) (h5 : fmtF T W = (0, k5, T)) (X : ByteArray) (k2 k3 : Nat) (h2 : fmtF s W2 = (0, k2, X)) (h3 : fmtF T W2 = (0, k3, X)) :
    Calls Tryz.prog 8 #[.string s, .int .i64 W, .int .i64 W2] w (Ret w (.bool true)) := by
  have HM := Lib.hid hm; have HPW := Lib.hid hp; have HS := Lib.hid hs
  have HB : Hid (Below w.heap.size w w) := Lib.hid (Below.refl _ _)
  have HF0 := Lib.hid (fun (w' : World) (hB : Below w.heap.size w w') => fmt_ok_is factF_is w' (by decide) (hm.past hB) (hp.past hB))
  unfold factFI factFO at HF0
  have HF1 := Lib.hid (fun (w' : World) (hB : Below w.heap.size w w') => fmt_ok_is h0 w' hs (hm.past hB) (hp.past hB))
  obtain ⟨n, hn⟩ : ∃ n, p.length = n := ⟨_, rfl⟩
  have HP1 := Lib.hid (fun (w' : World) (hB : Below w.heap.size w w') => parse_okB h1 hn w' hs (hm.past hB))
  have HP2 := Lib.hid (fun (w' : World) (hB : Below w.heap.size w w') => parse_okB h4 hn w' ht (hm.past hB))
  have HG := Lib.hid (fun (A B : Option Addr) (c d : Nat) (w' : World) (ha : Prg w' w'.heap.size A p) (hb : Prg w' w'.heap.size B p) => (by have := progs_any p p n n hn hn A B c d w' ha hb; rwa [sameP_iff.2 rfl] at this : Calls Tryz.prog 28 #[.slice A n c, .slice B n d] w' fun e w'' => e = .returned (.bool true) ∧ ∃ m, w'' = w'.drewN m))
  have HF4 := Lib.hid (fun (w' : World) (hB : Below w.heap.size w w') => fmt_ok_is h5 w' ht (hm.past hB) (hp.past hB))
  have HF5 := Lib.hid (fun (w' : World) (hB : Below w.heap.size w w') => fmt_ok_is h2 w' hs (hm.past hB) (hp.past hB))
  have HF6 := Lib.hid (fun (w' : World) (hB : Below w.heap.size w w') => fmt_ok_is h3 w' ht (hm.past hB) (hp.past hB))
  have hb1 : (T.toList == T.toList) = true := by simp
  have hb2 : (T.toList != T.toList) = false := by simp
  have hb3 : (X.toList == X.toList) = true := by simp
  clear hs ht hm hp h0 h1 h4 h5 h2 h3 hn
  go_enter Tryz.func8, Tryz.ntmps8
  go_upto_region 18 with (first
    | (go_at_call 30; (fail_if_success have z := T0); refine (HF0.out _ HB.out).mono ?_; rintro e w1 ⟨rfl, hB⟩; have HB := Lib.hid (HB.out.trans (hB.mono HB.out.size)); have T0 := Lib.hid True.intro; clear hB)
    | (go_at_call 30; (have z := T0; clear z); (fail_if_success have z := T1); refine (HF1.out _ HB.out).mono ?_; rintro e w2 ⟨rfl, hB⟩; have HB := Lib.hid (HB.out.trans (hB.mono HB.out.size)); have T1 := Lib.hid True.intro; clear hB)
    | (go_at_call 27; (have z := T1; clear z); (fail_if_success have z := T2); refine (HP1.out _ HB.out).mono ?_; rintro e w3 ⟨A2, c2, rfl, hF, hB⟩; have HX := Lib.hid hF; have HB := Lib.hid (HB.out.trans (hB.mono HB.out.size)); have T2 := Lib.hid True.intro; clear hF hB)
    | (go_at_call 27; (have z := T2; clear z); (fail_if_success have z := T3); refine (HP2.out _ HB.out).mono ?_; rintro e w4 ⟨A3, c3, rfl, hF, hB⟩; have HX := Lib.hid (HX.out.past hB); have HY := Lib.hid hF; have HB := Lib.hid (HB.out.trans (hB.mono HB.out.size)); have T3 := Lib.hid True.intro; clear hF hB)
    | (go_at_call 28; (have z := T3; clear z); (fail_if_success have z := T4); refine (HG.out A2 A3 c2 c3 _ HX.out.prg HY.out.prg).mono ?_; rintro e w5 ⟨rfl, m5, rfl⟩; have HB := Lib.hid (below_drewN HB.out m5); have T4 := Lib.hid True.intro)
    | (go_at_call 30; (have z := T4; clear z); (fail_if_success have z := T5); refine (HF4.out _ HB.out).mono ?_; rintro e w6 ⟨rfl, hB⟩; have HB := Lib.hid (HB.out.trans (hB.mono HB.out.size)); have T5 := Lib.hid True.intro; clear hB)
    | (go_at_call 30; (have z := T5; clear z); (fail_if_success have z := T6); refine (HF5.out _ HB.out).mono ?_; rintro e w7 ⟨rfl, hB⟩; have HB := Lib.hid (HB.out.trans (hB.mono HB.out.size)); have T6 := Lib.hid True.intro; clear hB)
    | (go_at_call 30; (have z := T6; clear z); (fail_if_success have z := T7); refine (HF6.out _ HB.out).mono ?_; rintro e w8 ⟨rfl, hB⟩; have HB := Lib.hid (HB.out.trans (hB.mono HB.out.size)); have T7 := Lib.hid True.intro; clear hB))
  go_quiet (fail)
  go_wp2
  go_ret
  exact ⟨by first | rfl | (simp; done), below_drewN HB.out _⟩
set_option maxRecDepth 100000 in
set_option maxHeartbeats 8000000 in
theorem formBack_n (s T : ByteArray) (W W2 : Int) (k0 k1 k4 k5 : Nat) (p : List (List Nd)) (w : World) (hs : s.size ≤ maxLen) (ht : T.size ≤ maxLen) (hm : MaxL w) (hp : PowT w) (h0 : fmtF s W = (0, k0, T)) (h1 : parseF s = (0, k1, p)) (h4 : parseF T = (0, k4, p)) (h5 : fmtF T W = (0, k5, T)) (f : Int) (hf : f ≠ 0) (k2 k3 : Nat) (h2 : fmtF s W2 = (f, k2, .empty)) (h3 : fmtF T W2 = (f, k3, .empty)) :
    Calls Tryz.prog 8 #[.string s, .int .i64 W, .int .i64 W2] w (Ret w (.bool true)) := by
  have HM := Lib.hid hm; have HPW := Lib.hid hp; have HS := Lib.hid hs
  have HB : Hid (Below w.heap.size w w) := Lib.hid (Below.refl _ _)
  have HF0 := Lib.hid (fun (w' : World) (hB : Below w.heap.size w w') => fmt_ok_is factF_is w' (by decide) (hm.past hB) (hp.past hB))
  unfold factFI factFO at HF0
  have HF1 := Lib.hid (fun (w' : World) (hB : Below w.heap.size w w') => fmt_ok_is h0 w' hs (hm.past hB) (hp.past hB))
  obtain ⟨n, hn⟩ : ∃ n, p.length = n := ⟨_, rfl⟩
  have HP1 := Lib.hid (fun (w' : World) (hB : Below w.heap.size w w') => parse_okB h1 hn w' hs (hm.past hB))
  have HP2 := Lib.hid (fun (w' : World) (hB : Below w.heap.size w w') => parse_okB h4 hn w' ht (hm.past hB))
  have HG := Lib.hid (fun (A B : Option Addr) (c d : Nat) (w' : World) (ha : Prg w' w'.heap.size A p) (hb : Prg w' w'.heap.size B p) => (by have := progs_any p p n n hn hn A B c d w' ha hb; rwa [sameP_iff.2 rfl] at this : Calls Tryz.prog 28 #[.slice A n c, .slice B n d] w' fun e w'' => e = .returned (.bool true) ∧ ∃ m, w'' = w'.drewN m))
  have HF4 := Lib.hid (fun (w' : World) (hB : Below w.heap.size w w') => fmt_ok_is h5 w' ht (hm.past hB) (hp.past hB))
  have HF5 := Lib.hid (fun (w' : World) (hB : Below w.heap.size w w') => fmt_bad_is h2 hf w' hs (hm.past hB) (hp.past hB))
  have HF6 := Lib.hid (fun (w' : World) (hB : Below w.heap.size w w') => fmt_bad_is h3 hf w' ht (hm.past hB) (hp.past hB))
  have hb1 : (T.toList == T.toList) = true := by simp
  have hb2 : (T.toList != T.toList) = false := by simp
  clear hs ht hm hp h0 h1 h4 h5 h2 h3 hn hf
  go_enter Tryz.func8, Tryz.ntmps8
  go_upto_region 18 with (first
    | (go_at_call 30; (fail_if_success have z := T0); refine (HF0.out _ HB.out).mono ?_; rintro e w1 ⟨rfl, hB⟩; have HB := Lib.hid (HB.out.trans (hB.mono HB.out.size)); have T0 := Lib.hid True.intro; clear hB)
    | (go_at_call 30; (have z := T0; clear z); (fail_if_success have z := T1); refine (HF1.out _ HB.out).mono ?_; rintro e w2 ⟨rfl, hB⟩; have HB := Lib.hid (HB.out.trans (hB.mono HB.out.size)); have T1 := Lib.hid True.intro; clear hB)
    | (go_at_call 27; (have z := T1; clear z); (fail_if_success have z := T2); refine (HP1.out _ HB.out).mono ?_; rintro e w3 ⟨A2, c2, rfl, hF, hB⟩; have HX := Lib.hid hF; have HB := Lib.hid (HB.out.trans (hB.mono HB.out.size)); have T2 := Lib.hid True.intro; clear hF hB)
    | (go_at_call 27; (have z := T2; clear z); (fail_if_success have z := T3); refine (HP2.out _ HB.out).mono ?_; rintro e w4 ⟨A3, c3, rfl, hF, hB⟩; have HX := Lib.hid (HX.out.past hB); have HY := Lib.hid hF; have HB := Lib.hid (HB.out.trans (hB.mono HB.out.size)); have T3 := Lib.hid True.intro; clear hF hB)
    | (go_at_call 28; (have z := T3; clear z); (fail_if_success have z := T4); refine (HG.out A2 A3 c2 c3 _ HX.out.prg HY.out.prg).mono ?_; rintro e w5 ⟨rfl, m5, rfl⟩; have HB := Lib.hid (below_drewN HB.out m5); have T4 := Lib.hid True.intro)
    | (go_at_call 30; (have z := T4; clear z); (fail_if_success have z := T5); refine (HF4.out _ HB.out).mono ?_; rintro e w6 ⟨rfl, hB⟩; have HB := Lib.hid (HB.out.trans (hB.mono HB.out.size)); have T5 := Lib.hid True.intro; clear hB)
    | (go_at_call 30; (have z := T5; clear z); (fail_if_success have z := T6); refine (HF5.out _ HB.out).mono ?_; rintro e w7 ⟨rfl, hB⟩; have HB := Lib.hid (HB.out.trans (hB.mono HB.out.size)); have T6 := Lib.hid True.intro; clear hB)
    | (go_at_call 30; (have z := T6; clear z); (fail_if_success have z := T7); refine (HF6.out _ HB.out).mono ?_; rintro e w8 ⟨rfl, hB⟩; have HB := Lib.hid (HB.out.trans (hB.mono HB.out.size)); have T7 := Lib.hid True.intro; clear hB))
  go_quiet (fail)
  go_wp2
  go_ret
  exact ⟨by first | rfl | (simp; done), below_drewN HB.out _⟩
theorem formBack_any (s : ByteArray) (W W2 : Int) (w : World) (hs : s.size ≤ maxLen) (hm : MaxL w) (hp : PowT w) :
    Calls Tryz.prog 8 #[.string s, .int .i64 W, .int .i64 W2] w (Ret w (.bool true)) := by
  by_cases h : (fmtF s W).1 = 0
  · obtain ⟨h1, h2, h3, h4⟩ := fmt_parts h
    obtain ⟨f, k, p, hs2⟩ : ∃ f k x, parseF s = (f, k, x) := ⟨_, _, _, rfl⟩
    have hw := parsed_words h2
    rw [hs2] at h2 h3 h4 hw
    simp only at h2 h3 h4 hw
    subst h2
    obtain ⟨h5, h6⟩ := parse_form hw.1 hw.2 h3
    have ht : (formT W p).size ≤ maxLen := by simp only [maxLen]; omega
    have h7 := fmt_of h5 W
    rw [if_neg (by simp [h1]), if_neg (by simp [h3])] at h7
    have g1 := fmt_of hs2 W2
    have g2 := fmt_of h5 W2
    by_cases hw2 : wideF W2 = false
    · rw [if_pos hw2] at g1 g2
      exact formBack_n s _ W W2 _ _ _ _ p w hs ht hm hp h4 hs2 h5 h7 1 (by decide) _ _ g1 g2
    · rw [if_neg hw2] at g1 g2
      by_cases he : formE W2 p = 0
      · rw [if_neg (by simp [he])] at g1 g2
        exact formBack_y s _ W W2 _ _ _ _ p w hs ht hm hp h4 hs2 h5 h7 _ _ _ g1 g2
      · rw [if_pos he] at g1 g2
        exact formBack_n s _ W W2 _ _ _ _ p w hs ht hm hp h4 hs2 h5 h7 _ he _ _ g1 g2
  · exact formBack_bad s W W2 w hs hm hp h
end Go.Proofs.YtddfdmopaeghnacGreatDoor
