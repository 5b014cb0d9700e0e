/- Walk of the law LayFlat: it returns true. Conditions: the slices lie below the call's own blocks; the texts are shorter than 4294967281 bytes; internal/bytealg.MaxLen holds some number; the table of the powers of ten reads as the program's text lays it. -/
import Derived.Test.YtddfdmopaeghnacGreatDoorSyAll
import Derived.Test.YtddfdmopaeghnacGreatDoorDense
import Derived.Test.YtddfdmopaeghnacGreatDoorFlatC
import Derived.Test.YtddfdmopaeghnacGreatDoorShowQ
import Derived.Test.YtddfdmopaeghnacGreatDoorOfE
namespace Go.Proofs.YtddfdmopaeghnacGreatDoor
open Go.RowKit

theorem Flt.doc {ns : List Nd} {t : ByteArray} (h : Flt ns t) (hl : ns.length ≤ 400) : ∃ x, Doc ns x ∧ x.flat = some t ∧ ∀ d ∈ x.enc, d.op ≠ 9 := by
  obtain ⟨x, h1, h2, h3, h4, h5⟩ := h
  exact ⟨x, ⟨h1, h2.symm, h4, hl⟩, h3, by rw [h2]; exact h5⟩
/-- The closed fact's statement. -/
def lFact : List Nd := [⟨8, .empty, 0⟩, ⟨4, .empty, 1⟩, ⟨1, .empty, 7⟩]
theorem lFact_ok : treeF lFact = 0 := by decide +kernel
theorem lFact_text : textL lFact = ⟨#[91, 55, 93, 59]⟩ := by
  have h7 : Lib.itoa 7 = [55] := by
    show Lib.decDigits 7 = [55]
    rw [Lib.decDigits_one (by omega)]; rfl
  simp only [textL, lFact, textX, kidsX, List.length_cons, List.length_nil, List.getD_cons_zero, List.getD_cons_succ, show ¬ (8 : Int) = 1 by decide, show ¬ (8 : Int) = 2 by decide, show ¬ (8 : Int) = 3 by decide, show ¬ (8 : Int) = 4 by decide, show ¬ (8 : Int) = 5 by decide, show ¬ (8 : Int) = 6 by decide, show ¬ (8 : Int) = 7 by decide, show ¬ (4 : Int) = 1 by decide, show ¬ (4 : Int) = 2 by decide, show ¬ (4 : Int) = 3 by decide, if_false, if_true, show (1 : Int).toNat = 0 + 1 by rfl, h7]
  decide +kernel
theorem docL_flat {l : List Nd} (h : treeF l = 0) (h9 : opAt l 0 ≠ 9) : Flt (docL l) (textL l) := by
  have hT := Tr.of_check h
  have h0 := hT.pos0
  have hoe : opAt l 0 = (l[0]'h0).op := by rw [opAt, getD_at h0]
  exact docT_flat hT l.length 0 (by omega) hT.pos0 (by rw [← hoe]; exact h9)
theorem docL_len {l : List Nd} (h : treeF l = 0) (h9 : opAt l 0 ≠ 9) : (docL l).length + 9 ≤ 20 * l.length := by
  have hT := Tr.of_check h
  have h0 := hT.pos0
  have hoe : opAt l 0 = (l[0]'h0).op := by rw [opAt, getD_at h0]
  have h1 := docT_len hT l.length 0 (by omega) hT.pos0 (by rw [← hoe]; exact h9)
  have h2 := (tEnd_bd hT.pos0).2
  unfold docL
  omega
theorem lit_trees3 (w : World) (a b c : Nd) (ha : a.text.size ≤ maxLen) (hb : b.text.size ≤ maxLen) (hc : c.text.size ≤ maxLen) :
    Nds (w.alloc (.cells #[.int .i64 a.op, .string a.text, .int .i64 a.n, .int .i64 b.op, .string b.text, .int .i64 b.n, .int .i64 c.op, .string c.text, .int .i64 c.n] 25)) (w.alloc (.cells #[.int .i64 a.op, .string a.text, .int .i64 a.n, .int .i64 b.op, .string b.text, .int .i64 b.n, .int .i64 c.op, .string c.text, .int .i64 c.n] 25)).heap.size (some ⟨w.heap.size, 0, none⟩) [a, b, c] :=
  ⟨.lit w _ _ 3 rfl, by simp [maxLen], by simpa using ⟨ha, hb, hc⟩⟩

/-- What the closed fact's two calls give. -/
def FactD (w : World) : Prop := ∃ d : List Nd, d.length ≤ 400 ∧
  Calls Tryz.prog 13 #[.slice (some ⟨w.heap.size, 0, none⟩) 3 3] (w.alloc (.cells #[.int .i64 8, .string .empty, .int .i64 0, .int .i64 4, .string .empty, .int .i64 1, .int .i64 1, .string .empty, .int .i64 7] 25)) (LdTo d (w.alloc (.cells #[.int .i64 8, .string .empty, .int .i64 0, .int .i64 4, .string .empty, .int .i64 1, .int .i64 1, .string .empty, .int .i64 7] 25))) ∧
  ∀ A c w', Nds w' w'.heap.size A d → Calls Tryz.prog 14 #[.slice A d.length c] w' (Ret w' (.tuple #[.string ⟨#[91, 55, 93, 59]⟩, .bool true, .nilIface]))
theorem factD (w : World) (hm : MaxL w) (hp : PowT w) : FactD w := by
  have h9 : opAt lFact 0 ≠ 9 := by decide
  have hlen := docL_len lFact_ok h9
  rw [show lFact.length = 3 from rfl] at hlen
  have h400 : ¬ 400 < (docL lFact).length := by omega
  have hN := lit_trees3 w ⟨8, .empty, 0⟩ ⟨4, .empty, 1⟩ ⟨1, .empty, 7⟩ (by simp [maxLen]) (by simp [maxLen]) (by simp [maxLen])
  have hal : Below w.heap.size w (w.alloc (.cells #[.int .i64 8, .string .empty, .int .i64 0, .int .i64 4, .string .empty, .int .i64 1, .int .i64 1, .string .empty, .int .i64 7] 25)) := (Below.refl _ _).alloc (Nat.le_refl _) _
  have hsh : Short lFact := by
    intro d hd
    simp only [lFact, List.mem_cons, List.not_mem_nil, or_false] at hd
    rcases hd with rfl | rfl | rfl <;> decide
  have hdoc := (ldoc_good lFact (some ⟨w.heap.size, 0, none⟩) 3 _ hN hsh (hm.past hal) (hp.past hal) lFact_ok h9).1 h400
  obtain ⟨x, hx, hf, _⟩ := (docL_flat lFact_ok h9).doc (by omega)
  rw [lFact_text] at hf
  exact ⟨docL lFact, by omega, hdoc, fun A c w' hw => flat_ok hx (by rw [hf]; rfl) _ rfl A c w' hw⟩

set_option maxRecDepth 100000 in
set_option maxHeartbeats 2000000 in
/-- No doc: true. -/
theorem layFlat_no (l : List Nd) (A : Option Addr) (c : Nat) (M : Option Addr) (m cm : Nat) (w : World) (hl : Nds w w.heap.size A l) (hm : MaxL w) (hp : PowT w) (k : Int)
    (HLD : Hid (∀ w', Below w.heap.size w w' → Calls Tryz.prog 13 #[.slice A l.length c] w' (Ret w' (.tuple #[.slice none 0 0, .iface 43 (.int .i64 k)])))) :
    Calls Tryz.prog 3 #[.slice A l.length c, .slice M m cm] w (Ret w (.bool true)) := by
  obtain ⟨d1, hd1, hdoc, hflat⟩ := factD w hm hp
  have HD1 := Lib.hid hdoc; have HF1 := Lib.hid hflat
  have hml := hl.2.1
  unfold maxLen at hml
  have HAL : Hid (Below w.heap.size w (w.alloc (.cells #[.int .i64 8, .string .empty, .int .i64 0, .int .i64 4, .string .empty, .int .i64 1, .int .i64 1, .string .empty, .int .i64 7] 25))) := Lib.hid ((Below.refl _ _).alloc (Nat.le_refl _) _)
  clear hdoc hflat hm hp hl
  go_enter Tryz.func3, Tryz.ntmps3
  go_wp2_with (first
    | (go_at_call 13; (fail_if_success have z := T0); refine HD1.out.mono ?_; rintro e w1 ⟨A1, c1, rfl, hn, hB⟩; have H1 := Lib.hid hn.1; have HB := Lib.hid (HAL.out.trans (hB.mono (by simp))); have T0 := Lib.hid True.intro; clear hn hB)
    | (go_at_call 14; refine (HF1.out _ _ _ H1.out).mono ?_; rintro e w2 ⟨rfl, hB⟩; have HB := Lib.hid (HB.out.trans (hB.mono HB.out.size)); clear hB)
    | (go_at_call 13; have z := T0; clear z; refine (HLD.out _ HB.out).mono ?_; rintro e w3 ⟨rfl, hB⟩; have HB := Lib.hid (HB.out.trans (hB.mono HB.out.size)); clear hB))
  go_ret
  exact ⟨rfl, HB.out⟩

theorem prg_one {w : World} {A : Option Addr} {c : Nat} {l : List Nd} (h : Nds w w.heap.size A l) (hs : Short l) : Prg (w.alloc (.cells #[.slice A l.length c] 22)) (w.alloc (.cells #[.slice A l.length c] 22)).heap.size (some ⟨w.heap.size, 0, none⟩) [l] := by
  refine ⟨⟨_, .lit w _ _ 1 rfl, fun j v hv => ?_⟩, by simp [maxLen]⟩
  cases j with
  | zero => cases hv; exact ⟨A, c, l, rfl, rfl, h.alloc _, hs⟩
  | succ j => simp at hv
theorem progF_one {l : List Nd} (h : treeF l = 0) : progF [l] = (0, 0) := by
  rw [progF, if_neg (by simp), progK, if_neg (by simp [h])]
  simp [progK]

set_option maxRecDepth 100000 in
set_option maxHeartbeats 4000000 in
theorem layFlat_good (l : List Nd) (A : Option Addr) (c : Nat) (M : Option Addr) (ws : List Int) (cm : Nat) (w : World) (hl : Nds w w.heap.size A l) (hM : NumsI w w.heap.size M ws) (hcm : ws.length ≤ cm) (hsh : Short l) (hm : MaxL w) (hp : PowT w) (h : treeF l = 0) (h9 : opAt l 0 ≠ 9) (h4 : ¬ 400 < (docL l).length) :
    Calls Tryz.prog 3 #[.slice A l.length c, .slice M ws.length cm] w (Ret w (.bool true)) := by
  have hof : OfSaid := fun l x A c w hl hd => of_any l x A c w hl hd
  obtain ⟨d1, hd1, hdoc, hflat⟩ := factD w hm hp
  have HD1 := Lib.hid hdoc; have HF1 := Lib.hid hflat
  have hml := hl.2.1
  unfold maxLen at hml
  have hmw := hM.2
  unfold maxLen at hmw
  have HAL : Hid (Below w.heap.size w (w.alloc (.cells #[.int .i64 8, .string .empty, .int .i64 0, .int .i64 4, .string .empty, .int .i64 1, .int .i64 1, .string .empty, .int .i64 7] 25))) := Lib.hid ((Below.refl _ _).alloc (Nat.le_refl _) _)
  have HLD := Lib.hid (fun (w' : World) (hb : Below w.heap.size w w') => (ldoc_good l A c w' (hl.past hb) hsh (hm.past hb) (hp.past hb) h h9).1 h4)
  obtain ⟨x, hx, hf, hx9⟩ := (docL_flat h h9).doc (by omega)
  have hLS := lineSaid_doc h h9
  have HPR := Lib.hid (fun (w' : World) (hb : Below w.heap.size w w') => sprint_any (fun _ => textL l) [l] (some ⟨w'.heap.size, 0, none⟩) 1 _ (prg_one (c := c) (hl.past hb) hsh) ((hm.past hb).past ((Below.refl _ _).alloc (Nat.le_refl _) _)) ((hp.past hb).past ((Below.refl _ _).alloc (Nat.le_refl _) _)) (progF_one h) (by simpa using hLS))
  have hpt : printL (fun _ => textL l) [l] = textL l ++ ⟨#[10]⟩ := by simp [printL]
  simp only [hpt] at HPR
  have htz := hLS.1
  have HFL := Lib.hid (fun A c w' hw => flat_ok hx (s := textL l) (b := true) (by rw [hf]; rfl) (docL l).length rfl A c w' hw)
  have HM := Lib.hid hM
  have hwsz : ws.length = ws.length := rfl
  clear hdoc hflat hpt hLS
  have HSH : Hid ((∃ q : Int, ∀ A c w', Nds w' w'.heap.size A (docL l) → Below w.heap.size w w' → Calls Tryz.prog 16 #[.slice A (docL l).length c, .slice M ws.length cm] w' (Ret w' (.tuple #[.string .empty, .iface 43 (.int .i64 q)]))) ∨
      (∃ u : ByteArray, u.size ≤ 1000000000 ∧ densB u = densB (textL l) ∧ ∀ A c w', Nds w' w'.heap.size A (docL l) → Below w.heap.size w w' → Calls Tryz.prog 16 #[.slice A (docL l).length c, .slice M ws.length cm] w' (Ret w' (.tuple #[.string u, .nilIface])))) := Lib.hid (by
    cases hs : showF (docL l) ws with
    | error q => exact .inl ⟨q, fun A c w' hw hb => show_no hof hs A _ c rfl M _ cm rfl hcm w' hw (HM.out.past hb)⟩
    | ok u =>
      obtain ⟨y, hy⟩ := showF_ok hs
      have hyx : y = x := by rw [← hy.doc.root, hx.root]
      subst hyx
      refine .inr ⟨u, ?_, ?_, fun A c w' hw hb => show_ok hof hy A _ c rfl M _ cm rfl hcm w' hw (HM.out.past hb)⟩
      · have := hy.size; omega
      · unfold densB
        rw [lay_dens hx9 (fun d hd => hy.doc.one d (by rw [hy.doc.enc]; exact hd)) hf hy.lay hy.doc.ok])
  have hdl : (docL l).length ≤ 400 := by omega
  generalize docL l = d at *
  generalize textL l = T at *
  clear hl hM hsh hm hp h h9 h4 hof hx hf hx9 hwsz
  have hbs : ((T ++ ⟨#[10]⟩ : ByteArray).toList == (T ++ ⟨#[10]⟩ : ByteArray).toList) = true := by simp
  have hbn : ((T ++ ⟨#[10]⟩ : ByteArray).toList != (T ++ ⟨#[10]⟩ : ByteArray).toList) = false := by simp
  rcases HSH.out with ⟨q, hsw⟩ | ⟨u, hu, hde, hsw⟩
  · have HSW := Lib.hid hsw
    clear hsw HSH
    go_enter Tryz.func3, Tryz.ntmps3
    go_wp2_with (first
      | (go_at_call 13; (fail_if_success have z := T0); refine HD1.out.mono ?_; rintro e w1 ⟨A1, c1, rfl, hn, hB⟩; have H1 := Lib.hid hn.1; have HB := Lib.hid (HAL.out.trans (hB.mono (by simp))); have T0 := Lib.hid True.intro; clear hn hB)
      | (go_at_call 14; (fail_if_success have z := T1); refine (HF1.out _ _ _ H1.out).mono ?_; rintro e w2 ⟨rfl, hB⟩; have HB := Lib.hid (HB.out.trans (hB.mono HB.out.size)); clear hB)
      | (go_at_call 13; have z := T0; clear z; refine (HLD.out _ HB.out).mono ?_; rintro e w3 ⟨A3, c3, rfl, hn, hB⟩; have H3 := Lib.hid hn.1; have HB := Lib.hid (HB.out.trans (hB.mono HB.out.size)); have T1 := Lib.hid True.intro; clear hn hB)
      | (go_at_call 14; have z := T1; clear z; refine (HFL.out _ _ _ H3.out).mono ?_; rintro e w4 ⟨rfl, hB⟩; have H3 := Lib.hid (H3.out.past hB); have HB := Lib.hid (HB.out.trans (hB.mono HB.out.size)); have HPP := Lib.hid (HPR.out w4 HB.out); clear hB)
      | (go_at_call 15; refine HPP.out.mono ?_; rintro e w5 ⟨rfl, hB⟩; have hB := Below.trans ((Below.refl w4.heap.size w4).alloc (Nat.le_refl _) _) (hB.mono (by simp)); have H3 := Lib.hid (H3.out.past hB); have HB := Lib.hid (HB.out.trans (hB.mono HB.out.size)); clear hB)
      | (go_at_call 16; refine (HSW.out _ _ _ H3.out HB.out).mono ?_; rintro e w6 ⟨rfl, hB⟩; have HB := Lib.hid (HB.out.trans (hB.mono HB.out.size)); clear hB))
    go_ret
    exact ⟨rfl, HB.out⟩
  · have HSW := Lib.hid hsw
    have HDU := Lib.hid (fun w' => dense_any u hu w')
    have HDT := Lib.hid (fun w' => dense_any T (by omega) w')
    rw [hde] at HDU
    generalize densB T = DT at *
    have hds : (DT.toList == DT.toList) = true := by simp
    clear hsw hde HSH
    go_enter Tryz.func3, Tryz.ntmps3
    go_wp2_with (first
      | (go_at_call 13; (fail_if_success have z := T0); refine HD1.out.mono ?_; rintro e w1 ⟨A1, c1, rfl, hn, hB⟩; have H1 := Lib.hid hn.1; have HB := Lib.hid (HAL.out.trans (hB.mono (by simp))); have T0 := Lib.hid True.intro; clear hn hB)
      | (go_at_call 14; (fail_if_success have z := T1); refine (HF1.out _ _ _ H1.out).mono ?_; rintro e w2 ⟨rfl, hB⟩; have HB := Lib.hid (HB.out.trans (hB.mono HB.out.size)); clear hB)
      | (go_at_call 13; have z := T0; clear z; refine (HLD.out _ HB.out).mono ?_; rintro e w3 ⟨A3, c3, rfl, hn, hB⟩; have H3 := Lib.hid hn.1; have HB := Lib.hid (HB.out.trans (hB.mono HB.out.size)); have T1 := Lib.hid True.intro; clear hn hB)
      | (go_at_call 14; have z := T1; clear z; refine (HFL.out _ _ _ H3.out).mono ?_; rintro e w4 ⟨rfl, hB⟩; have H3 := Lib.hid (H3.out.past hB); have HB := Lib.hid (HB.out.trans (hB.mono HB.out.size)); have HPP := Lib.hid (HPR.out w4 HB.out); clear hB)
      | (go_at_call 15; refine HPP.out.mono ?_; rintro e w5 ⟨rfl, hB⟩; have hB := Below.trans ((Below.refl w4.heap.size w4).alloc (Nat.le_refl _) _) (hB.mono (by simp)); have H3 := Lib.hid (H3.out.past hB); have HB := Lib.hid (HB.out.trans (hB.mono HB.out.size)); clear hB)
      | (go_at_call 16; refine (HSW.out _ _ _ H3.out HB.out).mono ?_; rintro e w6 ⟨rfl, hB⟩; have HB := Lib.hid (HB.out.trans (hB.mono HB.out.size)); clear hB)
      | (go_at_call 17; (fail_if_success have z := T2); refine (HDU.out _).mono ?_; rintro e w7 ⟨rfl, rfl⟩; have T2 := Lib.hid True.intro)
      | (go_at_call 17; have z := T2; clear z; refine (HDT.out _).mono ?_; rintro e w8 ⟨rfl, rfl⟩))
    go_ret
    exact ⟨rfl, HB.out⟩

theorem layFlat_any (l : List Nd) (A : Option Addr) (c : Nat) (M : Option Addr) (ws : List Int) (cm : Nat) (w : World) (hl : Nds w w.heap.size A l) (hM : NumsI w w.heap.size M ws) (hcm : ws.length ≤ cm) (hsh : Short l) (hm : MaxL w) (hp : PowT w) :
    Calls Tryz.prog 3 #[.slice A l.length c, .slice M ws.length cm] w (Ret w (.bool true)) := by
  by_cases h : treeF l = 0
  · by_cases h9 : opAt l 0 = 9
    · exact layFlat_no l A c M _ cm w hl hm hp 2 (Lib.hid (fun w' hb => ldoc_note l A c w' (hl.past hb) hsh (hm.past hb) h h9))
    · by_cases h4 : 400 < (docL l).length
      · exact layFlat_no l A c M _ cm w hl hm hp 3 (Lib.hid (fun w' hb => (ldoc_good l A c w' (hl.past hb) hsh (hm.past hb) (hp.past hb) h h9).2 h4))
      · exact layFlat_good l A c M ws cm w hl hM hcm hsh hm hp h h9 h4
  · exact layFlat_no l A c M _ cm w hl hm hp (treeF l) (Lib.hid (fun w' hb => ldoc_bad l A c w' (hl.past hb) hsh (hm.past hb) h))
end Go.Proofs.YtddfdmopaeghnacGreatDoor
