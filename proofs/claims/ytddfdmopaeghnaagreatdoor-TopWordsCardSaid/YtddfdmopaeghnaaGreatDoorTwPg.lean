/- What every law's row wants: arguments read as before behind a call that leaves old memory as it was; slices of nodes, of texts, of numbers opened. With what it rests on. Conditions: as each theorem states them. -/
import Derived.Test.YtddfdmopaeghnaaGreatDoorRows
import Derived.Test.YtddfdmopaeghnaaGreatDoorMem
import Derived.ProofKit
import Derived.Deep.Slices
import Derived.SizedLaws
import Derived.Lib.LaidTab
import Derived.LaidLaws
import Derived.RowKit
import Derived.Lib.TrailingZeros
import Derived.Lib.ItoaNum
import Derived.Test.YtddfdmopaeghnaaGreatDoorTwSy
import Derived.LaidHandle
import Derived.Test.YtddfdmopaeghnaaGreatDoorTwTr
import Derived.Deep.DeepHandedRow
import Derived.Shelf.Vars
import Derived.Test.YtddfdmopaeghnaaGreatDoorTwPs
import Derived.Test.YtddfdmopaeghnaaGreatDoorTwBe
import Derived.Test.YtddfdmopaeghnaaGreatDoorTwTk
import Derived.Test.YtddfdmopaeghnaaGreatDoorTwLx
import Derived.BigQuiet
import Derived.Deep.QuietTactic
namespace Go.Proofs.YtddfdmopaeghnaaGreatDoor
open Go.ChangeShapes Go.WideShapes Go.ChangeAt Go.RowKit Go.Deep
theorem own : ownKnob Tryz.prog.godebug = none := by kernel_rfl
theorem laidOut : laidOutB Tryz.prog = true := by kernel_rfl
section
variable {H : Type} {enc : TypeId × Value → H} {P : Program}
theorem trodAll_stay (hl : laidOutB P = true) {W W' : World} (hb : Below W.heap.size W W') {sp : Nat → Bool} :
  ∀ {ts : List TypeId} {vs : List Value} {ds : List (DataW H)} {p : List MemPlace}, (∀ t ∈ ts, P.readableRec t = true ∧ t < P.types.size) →
   DataW.TrodAll enc P W 0 (fun _ => true) true ts vs ds p → (∀ x ∈ p, x.block < W.heap.size) → (∀ x ∈ p, sp x.block = true) → DataW.TrodAll enc P W' 0 sp true ts vs ds p
 | [], _, _, _, _, h, _, _ => by
  obtain ⟨rfl, rfl, rfl⟩ := trodAll_nil h
  exact h
 | t :: ts, _, _, _, hr, h, hlt, hsp => by
  obtain ⟨v, vs1, d, ds1, a, b, rfl, rfl, rfl, h1, h2⟩ := trodAll_cons h
  obtain ⟨r1, r2⟩ := hr t (by simp)
  exact ⟨a, b, WideElems.Trod_stays hl r1 r2 h1 (fun x hx => hb.same (hlt x (List.mem_append_left _ hx))) (fun x hx => hsp x (List.mem_append_left _ hx)),
   trodAll_stay hl hb (fun t ht => hr t (by simp [ht])) h2 (fun x hx => hlt x (List.mem_append_right _ hx)) (fun x hx => hsp x (List.mem_append_right _ hx)), rfl⟩
theorem law_post {f : Func} {s : ChangeSpec} {W W' : World} {args : Array Value} {ds gs : List (DataW H)} {before : List MemPlace} {t : TypeId}
  (hW : DataW.Whole enc P f.params.toList s.vars false W args.toList ds gs before) (hv : s.vars = [])
  (hfn : s.fn H (ds ++ []) = { results := [.lit (.bool true)], args := ds }) (hres : f.resultTypes = #[t]) (ht : P.underlying t = some .bool)
  (hl : laidOutB P = true) (hr : (f.params.toList.all fun t => P.readableRec t && decide (t < P.types.size)) = true) (hb : Below W.heap.size W W') :
  s.post enc P f false true false false W args (.bool true) W' := by
 have hW0 := hW
 have hlt : ∀ x ∈ before, x.block < W.heap.size := fun x hx => hW.lt x hx
 obtain ⟨p, q, hA, hV, rfl, hfz, hnd⟩ := hW
 rw [hv] at hV
 obtain ⟨rfl, rfl⟩ := trodVars_none hV
 have hr' : ∀ t ∈ f.params.toList, P.readableRec t = true ∧ t < P.types.size := fun t ht => by
  have := List.all_eq_true.1 hr t ht
  simpa using this
 refine ⟨ds, [], p ++ [], [], p, [], hW0, ?_, ?_, ?_, hb.frame _, fun h => by cases h⟩
 ·rw [hfn, hres]
  exact trodAll_mk1 (shut_bool ht true)
 ·rw [hfn]
  refine trodAll_stay hl hb hr' hA (fun x hx => hlt x (by simpa using hx)) (fun x hx => by simpa using hlt x (by simpa using hx))
 ·rw [hfn, hv]
  exact rfl
end
end Go.Proofs.YtddfdmopaeghnaaGreatDoor
namespace Go.Proofs.YtddfdmopaeghnaaGreatDoor
open Go.RowKit
noncomputable def tabWorld7 (os : Os) : World :=
 let w0 := World.holding Tryz.prog os ⟨#[], #[], []⟩
 let n := w0.heap.size
 { w0 with heap := ((((((((w0.heap.modify 6 fun
   | .cells _ t frozen => .cells (Lib.deBruijn32tab.map fun n : Nat => Value.int .u8 n).toArray t frozen
   | o => o).modify 7 fun
   | .cells _ t frozen => .cells (Lib.deBruijn64tab.map fun n : Nat => Value.int .u8 n).toArray t frozen
   | o => o).modify 3 fun
   | .cells _ t frozen => .cells (Lib.pow10Tab.map fun n : Int => Value.int .u64 n).toArray t frozen
   | o => o).modify 1 fun
   | .cells _ t frozen => .cells (Go.Pinned.utf8FirstZ.map fun n : Nat => Value.int .u8 n).toArray t frozen
   | o => o).modify 2 fun
   | .cells _ t frozen => .cells (([128, 191, 160, 191, 128, 159, 144, 191, 128, 143] ++ List.replicate 22 0).map fun n : Nat => Value.int .u8 n).toArray t frozen
   | o => o).modify 5 fun
   | .cells _ t frozen => .cells #[.iface 216 (.pointer (some ⟨n, 0, none⟩))] t frozen
   | o => o).modify 4 fun
   | .cells _ t frozen => .cells #[.iface 216 (.pointer (some ⟨n + 1, 0, none⟩))] t frozen
   | o => o).push (.cells #[.string ⟨#[118, 97, 108, 117, 101, 32, 111, 117, 116, 32, 111, 102, 32, 114, 97, 110, 103, 101]⟩] 218 (0, 0))).push (.cells #[.string ⟨#[105, 110, 118, 97, 108, 105, 100, 32, 115, 121, 110, 116, 97, 120]⟩] 218 (0, 0)) }
end Go.Proofs.YtddfdmopaeghnaaGreatDoor
namespace Go.Proofs.YtddfdmopaeghnaaGreatDoor
open Go.RowKit
theorem powT_of_third {a b : String × DataW Unit} {rest : List (String × DataW Unit)} {W : World} (h : laidMet Tryz.prog (a :: b :: ("internal/strconv.uint64pow10", Lib.tabData .u64 Lib.pow10Tab) :: rest) W) : PowT W := by
 obtain ⟨ps, ⟨_, _, _, _, _, q1, _, _, _, _, ⟨_, _, _, _, _, q2, _, _, _, _, ⟨g', t', cs, fuel, p, q, hg', ht', hvar, hd, _, _⟩, _⟩, _⟩, _⟩ := h
 have hg : Tryz.prog.globalNamed "internal/strconv.uint64pow10" = some 3 := by kernel_rfl
 obtain rfl := Option.some.inj (hg.symm.trans hg')
 have hty : (Tryz.prog.globals[3]?).map (·.type) = some 197 := by kernel_rfl
 obtain rfl := Option.some.inj (hty.symm.trans ht')
 unfold PowT Lib.TabIs
 rw [hvar, ← Lib.cells_of_tab Tryz.underlying197 Tryz.underlying184 (by kernel_rfl) (by kernel_rfl) hd]
end Go.Proofs.YtddfdmopaeghnaaGreatDoor
namespace Go.Proofs.YtddfdmopaeghnaaGreatDoor
open Go.ChangeShapes Go.WideShapes Go.ChangeAt Go.RowKit Go.Deep
theorem maxL_of {W : World} (h : W.ShapedOpen Tryz.prog) : MaxL W := by
 obtain ⟨m, hm⟩ := cell_of_shapedOpen_int (P := Tryz.prog) (g := 0) (t := 3) (zero := #[.int .i64 0]) (k := .i64) h (of_decide_eq_true (by kernel_rfl)) (by kernel_rfl) rfl (by kernel_rfl) (by kernel_rfl) Tryz.underlying3
 refine ⟨?_, m, hm⟩
 rcases Nat.lt_or_ge 0 W.heap.size with h1 | h1
 ·exact h1
 ·unfold World.cell? at hm
  simp [Array.getElem?_eq_none h1] at hm
end Go.Proofs.YtddfdmopaeghnaaGreatDoor
namespace Go.Proofs.YtddfdmopaeghnaaGreatDoor
open Go.RowKit
def formE (W : Int) : List (List Nd) → Int
 | [] => 0
 | u :: r => if oneQ u W ≠ 0 then oneQ u W else formE W r
def formT (W : Int) : List (List Nd) → ByteArray
 | [] => .empty
 | u :: r => oneX u W ++ formT W r
theorem formT_step (W : Int) {p : List (List Nd)} {k : Nat} {u : List Nd} (hu : p[k]? = some u) : formT W (p.take (k + 1)) = formT W (p.take k) ++ oneX u W := by
 have happ : ∀ a b : List (List Nd), formT W (a ++ b) = formT W a ++ formT W b := fun a b => by
  induction a with
  | nil => simp [formT]
  | cons x r ih => simp [formT, ih, ByteArray.append_assoc]
 rw [List.take_add_one, hu, happ]
 simp [formT]
theorem formE_step (W : Int) {p : List (List Nd)} {k : Nat} {u : List Nd} (hu : p[k]? = some u) (h : formE W (p.drop k) = formE W p) : (oneQ u W ≠ 0 → formE W p = oneQ u W) ∧ (oneQ u W = 0 → formE W (p.drop (k + 1)) = formE W p) := by
 obtain ⟨hk, rfl⟩ := List.getElem?_eq_some_iff.1 hu
 rw [List.drop_eq_getElem_cons hk, formE] at h
 constructor
 ·intro hq; rw [if_pos hq] at h; exact h.symm
 ·intro hq; rw [if_neg (by simpa using hq)] at h; exact h
def fmtF (s : ByteArray) (W : Int) : Int × Nat × ByteArray :=
 if wideF W = false then (1, 0, .empty)
 else if (parseF s).1 ≠ 0 then ((parseF s).1, (parseF s).2.1, .empty)
 else if formE W (parseF s).2.2 ≠ 0 then (formE W (parseF s).2.2, 0, .empty)
 else (0, 0, formT W (parseF s).2.2)
def FmtTo (T : ByteArray) (k : Nat) (v : Value) (w : World) (e : Ending) (w' : World) : Prop := e = .returned (.tuple #[.string T, .int .i64 (k : Nat), v]) ∧ Below w.heap.size w w'
set_option maxRecDepth 100000 in
set_option maxHeartbeats 4000000 in
theorem fmt_bad (s : ByteArray) (W : Int) (w : World) (hs : s.size ≤ maxLen) (hm : MaxL w) (h : wideF W = false ∨ (parseF s).1 ≠ 0) :
  Calls Tryz.prog 5 #[.string s, .int .i64 W] w (FmtTo .empty (fmtF s W).2.1 (.iface 37 (.int .i64 (fmtF s W).1)) w) := by
 have HW := Lib.hid (fun w' => wide_any W w')
 by_cases hw : wideF W = false
 ·have hr : fmtF s W = (1, 0, .empty) := by rw [fmtF, if_pos hw]
  rw [hr]
  rw [hw] at HW
  clear hs hm h hw hr
  go_enter Tryz.func5, Tryz.ntmps5
  go_wp2_with (go_at_call 10; refine (HW.out _).mono ?_; rintro e w1 ⟨rfl, rfl⟩)
  go_ret3
  exact ⟨rfl, Below.refl _ _⟩
 ·have hw1 : wideF W = true := by simpa using hw
  have hf : (parseF s).1 ≠ 0 := by
   rcases h with h | h
   ·exact absurd h hw
   ·exact h
  have hr : fmtF s W = ((parseF s).1, (parseF s).2.1, .empty) := by rw [fmtF, if_neg hw, if_pos hf]
  rw [hr]
  rw [hw1] at HW
  have HP := Lib.hid (parse_bad hf w hs hm)
  generalize parseF s = r at *
  clear hs hm h hw hw1 hr hf
  go_enter Tryz.func5, Tryz.ntmps5
  go_wp2_with (first
   | (go_at_call 10; refine (HW.out _).mono ?_; rintro e w1 ⟨rfl, rfl⟩)
   | (go_at_call 11; refine HP.out.mono ?_; rintro e w2 ⟨A2, c2, rfl, hF, hB⟩; have HB := Lib.hid hB; clear hF hB))
  go_ret3
  exact ⟨rfl, HB.out⟩
set_option maxRecDepth 100000 in
set_option maxHeartbeats 4000000 in
theorem fmt_any (s : ByteArray) (W : Int) (w : World) (hs : s.size ≤ maxLen) (hm : MaxL w) (hp : PowT w) :
  Calls Tryz.prog 5 #[.string s, .int .i64 W] w (FmtTo (fmtF s W).2.2 (fmtF s W).2.1 (errV (fmtF s W).1) w) := by
 by_cases hbad : wideF W = false ∨ (parseF s).1 ≠ 0
 ·have h1 := fmt_bad s W w hs hm hbad
  have h2 : (fmtF s W).2.2 = .empty ∧ (fmtF s W).1 ≠ 0 := by
   unfold fmtF
   split
   ·exact ⟨rfl, by decide⟩
   ·split
    ·rename_i hf; exact ⟨rfl, hf⟩
    ·rename_i hw hf
     rcases hbad with h | h
     ·exact absurd h hw
     ·exact absurd h hf
  rw [h2.1, ← errV_pos h2.2]
  exact h1
 ·have hw : wideF W = true := by
   cases h : wideF W with
   | true => rfl
   | false => exact absurd (.inl h) hbad
  have hf : (parseF s).1 = 0 := by
   by_cases h : (parseF s).1 = 0
   ·exact h
   ·exact absurd (.inr h) hbad
  have HW := Lib.hid (fun w' => wide_any W w')
  rw [hw] at HW
  have hR : fmtF s W = if formE W (parseF s).2.2 ≠ 0 then (formE W (parseF s).2.2, 0, .empty) else (0, 0, formT W (parseF s).2.2) := by
   rw [fmtF, if_neg (by simp [hw]), if_neg (by simp [hf])]
  have hP := parse_ok hf w hs hm
  have htr := progF_facts (parsed_words hf).1
  have h20 := htr.1
  have HT := Lib.hid htr.2.1
  rw [hR]
  generalize (parseF s).2.2 = p at *
  generalize (parseF s).2.1 = k0 at *
  have HE0 : Hid (formE W p = 0 → (if formE W p ≠ 0 then (formE W p, 0, ByteArray.empty) else ((0 : Int), (0 : Nat), formT W p)) = (0, 0, formT W p)) := Lib.hid (fun h => by rw [if_neg (by simpa using h)])
  have HE1 : Hid (formE W p ≠ 0 → (if formE W p ≠ 0 then (formE W p, 0, ByteArray.empty) else ((0 : Int), (0 : Nat), formT W p)) = (formE W p, 0, .empty)) := Lib.hid (fun h => by rw [if_pos h])
  have HP := Lib.hid hP
  have HM := Lib.hid hm; have HPW := Lib.hid hp
  have HSZ : Hid (∀ k, k ≤ p.length → (∀ j u, p[j]? = some u → j < k → oneQ u W = 0) → (formT W (p.take k)).size ≤ 1500000 * k) := Lib.hid (fun k => by
   induction k with
   | zero => intro _ _; simp [formT]
   | succ k ih =>
    intro hk h
    have hlt : k < p.length := by omega
    have hu : p[k]? = some p[k] := List.getElem?_eq_getElem hlt
    rw [formT_step W hu, ByteArray.size_append]
    have h1 := ih (by omega) (fun j u hj hjk => h j u hj (by omega))
    have hq := h k p[k] hu (by omega)
    have ht := (oneQ_zero hq).2.1
    have h2 := (oneX_is hq (fun h9 => docL_doc ht h9 (by have := (oneQ_zero hq).2.2 h9; omega))).small
    omega)
  have hend : formE W (p.drop p.length) = formE W p → formE W p = 0 := fun h => by rw [← h, List.drop_length]; rfl
  have HEND := Lib.hid hend
  have HALL : Hid (∀ k, p.length ≤ k → formT W (p.take k) = formT W p) := Lib.hid (fun k hk => by rw [List.take_of_length_le hk])
  clear hs hP hm hp hR htr hend hbad hw hf
  generalize hZ : (if formE W p ≠ 0 then (formE W p, 0, ByteArray.empty) else ((0 : Int), (0 : Nat), formT W p)) = Z at *
  clear hZ
  go_enter Tryz.func5, Tryz.ntmps5
  go_wp2_with (first
   | (go_at_call 10; refine (HW.out _).mono ?_; rintro e w0 ⟨rfl, rfl⟩)
   | (go_at_call 11; refine HP.out.mono ?_; rintro e w1 ⟨P1, c1, rfl, hF, hB1⟩; have HPR := Lib.hid hF.prg; have HB1 := Lib.hid hB1; clear hF hB1))
  have hb1 : Below w1.heap.size w1 (w1.alloc (.cells #[.pointer none, .slice none 0 0] 44)) := (Below.refl _ _).alloc (Nat.le_refl _) _
  have HBD : Hid (Bld w1.heap.size w1.heap.size .empty (w1.alloc (.cells #[.pointer none, .slice none 0 0] 44))) := Lib.hid (Bld.new w1)
  have hz1 := HB1.out.size
  have HB0 := Lib.hid hb1
  clear hb1
  go_loopw [10, 11, 12, 29] (fun _ _ _ i wr => ∃ k : Nat, k ≤ p.length ∧ i = .int .i64 k ∧ Hid (formE W (p.drop k) = formE W p ∧ ∀ j u, p[j]? = some u → j < k → oneQ u W = 0) ∧ Hid (Bld w1.heap.size w1.heap.size (formT W (p.take k)) wr) ∧ Hid (Below w1.heap.size w1 wr)) (fun _ _ _ i _ => p.length - (intOf i).toNat)
  case atStart => exact ⟨0, by omega, rfl, Lib.hid ⟨rfl, fun j u hj hjk => by omega⟩, HBD, HB0⟩
  case round =>
   clear HBD HB0
   obtain ⟨k, hk, rfl, HA, HBD, HB0⟩ := hrel
   by_cases hlt : k < p.length
   ·obtain ⟨b, off, Ak, ck, u, rfl, hb, hu, hc, hN, hS⟩ := HPR.out.one HB0.out hlt
    have hmem : u ∈ p := List.mem_of_getElem? hu
    have hut := HT.out u hmem
    have HB01 := Lib.hid (HB1.out.trans (HB0.out.mono hz1))
    obtain ⟨e1, e2⟩ := formE_step W hu HA.out.1
    by_cases hq : oneQ u W = 0
    ·have hdc : opAt u 0 ≠ 9 → ∃ x, Doc (docL u) x := fun h9 => docL_doc hut h9 (by have := (oneQ_zero hq).2.2 h9; omega)
     have HONE := Lib.hid (pone_ok (fun l x A c w hl hd => of_from l x A c w hl hd) u W Ak ck wr hN hS (HM.out.past HB01.out) (HPW.out.past HB01.out) hdc hq)
     have hsm := (oneX_is hq hdc).small
     have HST := Lib.hid (formT_step W hu)
     have HA2 : Hid (formE W (p.drop (k + 1)) = formE W p ∧ ∀ j v, p[j]? = some v → j < k + 1 → oneQ v W = 0) := Lib.hid ⟨e2 hq, fun j v hj hjk => by
      by_cases hjk2 : j = k
      ·subst hjk2; rw [hu] at hj; cases hj; exact hq
      ·exact HA.out.2 j v hj (by omega)⟩
     have hks := HSZ.out k hk HA.out.2
     generalize formT W (p.take k) = Q at *
     generalize oneX u W = T at *
     have hz0 := HB0.out.size
     clear hN hS hu hmem hut e1 e2 hq hdc HA
     go_wp2_with (first
      | (go_at_call 12; refine HONE.out.mono ?_; rintro e w3 ⟨rfl, hB3⟩; have HB3 := Lib.hid (HBD.out.past hB3); have HB4 := Lib.hid (HB0.out.trans (hB3.mono hz0)); clear hB3)
      | (go_at_call 13; refine (bld_write _ _ Q _ _ HB3.out (by omega)).mono ?_; rintro e w4 ⟨rfl, hb5, hB5⟩; have HB5 := Lib.hid hb5; have HB6 := Lib.hid (HB4.out.trans hB5); clear hb5 hB5))
     go_roundw
     case measure => simp [intOf]; omega
     case rel => exact ⟨k + 1, by omega, by go_num, HA2, Lib.hid (by rw [HST.out]; exact HB5.out), HB6⟩
    ·have HONE := Lib.hid (pone_bad u W Ak ck wr hN hS (HM.out.past HB01.out) (HPW.out.past HB01.out) hq)
     have hfe := e1 hq
     have hzz := HE1.out (by rw [hfe]; exact hq)
     subst hzz
     have HV := Lib.hid (errV_pos hq)
     rw [hfe]
     generalize oneQ u W = q at *
     clear hN hS hu hmem hut e1 e2 HA
     go_wp2_with (go_at_call 12; refine HONE.out.mono ?_; rintro e w3 ⟨rfl, hB3⟩; have HB4 := Lib.hid (HB01.out.trans (hB3.mono HB01.out.size)); clear hB3)
     go_ret3
     exact ⟨by rw [← HV.out]; rfl, HB4.out⟩
   ·have hkp : k = p.length := by omega
    have h0 := HEND.out (by have := HA.out.1; rwa [hkp] at this)
    have hzz := HE0.out h0
    subst hzz
    have HBZ : Hid (Bld w1.heap.size w1.heap.size (formT W p) wr) := Lib.hid (by rw [← HALL.out k (by omega)]; exact HBD.out)
    generalize formT W p = TT at *
    clear HBD
    go_wp2_with (go_at_call 14; refine (bld_string _ _ _ _ HBZ.out).mono ?_; rintro e w5 ⟨rfl, hB5⟩; have HB7 := Lib.hid (HB1.out.trans ((HB0.out.trans hB5).mono hz1)); clear hB5)
    go_ret3
    exact ⟨rfl, HB7.out⟩
end Go.Proofs.YtddfdmopaeghnaaGreatDoor
namespace Go.Proofs.YtddfdmopaeghnaaGreatDoor
def Bz (h K : Nat) (ns : List Nd) : Prop :=
 ∃ x : D, x.ok ∧ x.enc = ns ∧ (∀ (dp : Int) (w r : List Int) (s : ByteArray), 0 ≤ dp → dp.toNat + 2 * h ≤ 80 → x.lay dp w = .ok (s, r) → s.size ≤ K) ∧ ∀ s, x.flat = some s → s.size ≤ K
theorem Bz.word {h K : Nat} {s : ByteArray} (hs : s.size ≤ K) : Bz h K (wordN s) := by
 refine ⟨.leaf ⟨1, s, 0⟩, rfl, rfl, fun dp w r t _ _ ht => ?_, fun t ht => ?_⟩
 ·simp only [D.lay, if_true] at ht
  cases ht; exact hs
 ·simp only [D.flat, if_true] at ht
  cases ht; exact hs
theorem line_size (n : Nat) : (⟨#[10]⟩ ++ blanksB n : ByteArray).size = n + 1 := by
 rw [ByteArray.size_append, show (blanksB n).size = n by simp [blanksB, ByteArray.size]]
 show 1 + n = n + 1
 omega
theorem Bz.blank {h : Nat} : Bz h 81 (opN 2) := by
 refine ⟨.leaf ⟨2, .empty, 0⟩, rfl, rfl, fun dp w r t h0 hh ht => ?_, fun t ht => ?_⟩
 ·simp only [D.lay, show ¬ (2 : Int) = 1 by decide, show ¬ (2 : Int) = 5 by decide, if_false] at ht
  cases ht
  rw [line_size]; omega
 ·simp only [D.flat, show ¬ (2 : Int) = 1 by decide, if_false, if_true] at ht
  cases ht; decide
theorem Bz.soft {h : Nat} : Bz h 81 (opN 3) := by
 refine ⟨.leaf ⟨3, .empty, 0⟩, rfl, rfl, fun dp w r t h0 hh ht => ?_, fun t ht => ?_⟩
 ·simp only [D.lay, show ¬ (3 : Int) = 1 by decide, show ¬ (3 : Int) = 5 by decide, if_false] at ht
  cases ht
  rw [line_size]; omega
 ·simp only [D.flat, show ¬ (3 : Int) = 1 by decide, show ¬ (3 : Int) = 2 by decide, if_false] at ht
  cases ht; decide
theorem Bz.both {h K1 K2 : Nat} {m n : List Nd} (h1 : Bz h K1 m) (h2 : Bz h K2 n) : Bz h (K1 + K2) (bothN m n) := by
 obtain ⟨x, x1, x2, x3, x4⟩ := h1
 obtain ⟨y, y1, y2, y3, y4⟩ := h2
 refine ⟨.bin ⟨6, .empty, 0⟩ x y, ⟨by decide, x1, y1⟩, by simp [D.enc, bothN, x2, y2], fun dp w r t h0 hh ht => ?_, fun t ht => ?_⟩
 ·obtain ⟨s1, w1, s2, g1, g2, rfl⟩ := both_layX ht
  rw [Int.add_zero] at g1 g2
  have := x3 _ _ _ _ h0 hh g1
  have := y3 _ _ _ _ h0 hh g2
  rw [ByteArray.size_append]; omega
 ·obtain ⟨s1, s2, g1, g2, rfl⟩ := both_flatX ht
  have := x4 _ g1
  have := y4 _ g2
  rw [ByteArray.size_append]; omega
theorem Bz.group {h K : Nat} {n : List Nd} (hn : Bz h K n) : Bz h K (groupN n) := by
 obtain ⟨x, x1, x2, x3, x4⟩ := hn
 refine ⟨.un ⟨8, .empty, 0⟩ x, ⟨by decide, x1⟩, by simp [D.enc, groupN, x2], fun dp w r s h0 hh hs => ?_, fun s hs => x4 s hs⟩
 simp only [D.lay, show ¬ (8 : Int) = 7 by decide, if_false] at hs
 cases w with
 | nil => cases hs
 | cons c w =>
  simp only at hs
  split at hs
  ·cases hf : x.flat with
   | none => rw [hf] at hs; cases hs
   | some u => rw [hf] at hs; cases hs; exact x4 _ hf
  ·rw [Int.add_zero] at hs
   exact x3 _ _ _ _ h0 hh hs
theorem Bz.deep {h K : Nat} {n : List Nd} (hn : Bz h K n) : Bz (h + 1) K (deepN n) := by
 obtain ⟨x, x1, x2, x3, x4⟩ := hn
 refine ⟨.un ⟨7, .empty, 2⟩ x, ⟨by decide, x1⟩, by simp [D.enc, deepN, x2], fun dp w r s h0 hh hs => ?_, fun s hs => x4 s hs⟩
 simp only [D.lay, if_true] at hs
 exact x3 _ _ _ _ (by omega) (by omega) hs
theorem Bz.more {h h' K K' : Nat} {n : List Nd} (hn : Bz h K n) (hh : h ≤ h') (hk : K ≤ K') : Bz h' K' n := by
 obtain ⟨x, x1, x2, x3, x4⟩ := hn
 exact ⟨x, x1, x2, fun dp w r s h0 h1 hs => Nat.le_trans (x3 dp w r s h0 (by omega) hs) hk, fun s hs => Nat.le_trans (x4 s hs) hk⟩
theorem Bz.kid {h K : Nat} {po ko : Int} {b : Bool} {n : List Nd} {t : List (List UInt8)} (hn : Bz h (90 * t.length) n) (hk : 90 * (kidK po ko b t).length ≤ K) : Bz h K (kidD po ko b n) := by
 unfold kidK at hk
 unfold kidD
 split
 ·rename_i hb
  rw [if_pos hb] at hk
  simp only [List.length_cons, List.length_append, List.length_nil] at hk
  exact ((Bz.word (K := 1) (by decide)).both (hn.both (Bz.word (K := 1) (by decide)))).more (Nat.le_refl _) (by omega)
 ·rename_i hb
  rw [if_neg hb] at hk
  exact hn.more (Nat.le_refl _) hk
theorem Bz.kids {l : List Nd} {h : Nat} {g : Nat → List Nd} {t : Nat → List (List UInt8)} : ∀ (m a z : Nat), KidsP l a m z → 0 < m → (∀ b, a ≤ b → b < l.length → Bz h (90 * (t b).length) (g b)) → Bz h (90 * (kidsK t (tEnd l) a m).length) (kidsD g (tEnd l) a m) := by
 intro m
 induction m with
 | zero => intro a z h h0; omega
 | succ m ih =>
  intro a z hz _ hg
  obtain ⟨h1, h2, h3⟩ := hz
  have h4 := hg a (Nat.le_refl _) h1
  rw [kidsD, kidsK]
  split
  ·exact h4
  ·have h5 := ih _ _ h3 (by omega) (fun b hb hb2 => hg b (by omega) hb2)
   refine ((h4.both (Bz.word (K := 1) (by decide))).both (Bz.blank.both h5)).more (Nat.le_refl _) ?_
   simp only [List.length_append, List.length_cons]
   omega
theorem Bz.listed {h Ko K T : Nat} {o c : ByteArray} {m : Nat} {k : List Nd} (ho : o.size ≤ Ko) (hc : c.size = 1) (hk : 0 < m → Bz h K k) (h0 : m = 0 → Ko + 1 ≤ T) (hT : 0 < m → Ko + (81 + K + (81 + 1)) ≤ T) : Bz (h + 1) T (listD o c m k) := by
 unfold listD
 split
 ·rename_i e
  exact Bz.word (by rw [ByteArray.size_append]; have := h0 e; omega)
 ·rename_i e
  have hm : 0 < m := by omega
  exact (((Bz.word ho).both ((Bz.deep (Bz.soft.both (hk hm))).both (Bz.soft.both (Bz.word (K := 1) (by omega))))).group).more (Nat.le_refl _) (hT hm)
theorem docT_bz {l : List Nd} (hT : Tr l) : ∀ f i : Nat, l.length ≤ i + f → (hi : i < l.length) → l[i].op ≠ 9 → Bz (l.length - i) (90 * (tokT l f i).length) (docT l f i) := by
 intro f
 induction f with
 | zero => intro i h1 h2; omega
 | succ f ih =>
  intro i h1 h2 h9
  have hk := hT.kidsP h2
  have hm : (manyL l).getD i 0 = (manyF l[i].op l[i].n).toNat := manyL_at h2 rfl
  have hone := hT.one _ (List.getElem_mem h2)
  have hop : 1 ≤ l[i].op ∧ l[i].op ≤ 9 := by
   by_cases hc : l[i].op < 1 ∨ 9 < l[i].op
   ·rw [treeOne, if_pos (by rcases hc with h | h; exact .inl h; exact .inr (.inl h))] at hone; cases hone
   ·omega
  rw [hm] at hk
  have ihk : ∀ b, i + 1 ≤ b → b < l.length → Bz (l.length - (i + 1)) (90 * (tokT l f b).length) (docT l f b) := fun b hb hl => (ih b (by omega) hl (by have := hT.low hl (by omega); omega)).more (by omega) (Nat.le_refl _)
  have hsucc : l.length - i = l.length - (i + 1) + 1 := by omega
  rw [docT, tokT, getD_at h2]
  generalize l[i].op = op at *
  generalize l[i].n = n at *
  generalize l[i].text = t at *
  have hcs : op = 1 ∨ op = 2 ∨ op = 3 ∨ op = 4 ∨ op = 5 ∨ op = 6 ∨ op = 7 ∨ op = 8 := by omega
  rcases hcs with rfl | rfl | rfl | rfl | rfl | rfl | rfl | rfl
  ·obtain ⟨n0, n1⟩ := tone_num hone
   simp only [if_true]
   have hl := itoa_len6 n0 n1
   exact Bz.word (by simp only [ByteArray.size, List.size_toArray, List.length_cons, List.length_nil]; omega)
  ·have hnm := tone_word hone rfl (by decide)
   have := (name_facts hnm).2.1
   simp only [show ¬ (2 : Int) = 1 by decide, if_false, if_true]
   exact Bz.word (by simp only [List.length_cons, List.length_nil]; omega)
  ·have hnm := tone_word hone rfl (by decide)
   have h8 := (name_facts hnm).2.1
   rw [show manyF 3 n = n from rfl] at hk
   simp only [show ¬ (3 : Int) = 1 by decide, show ¬ (3 : Int) = 2 by decide, if_false, if_true]
   rw [hsucc]
   refine Bz.listed (Ko := 9) ?_ rfl (fun h0 => Bz.kids _ _ _ hk h0 ihk) ?_ ?_
   ·rw [ByteArray.size_append]; show t.size + 1 ≤ 9; omega
   ·intro _; simp only [List.length_cons, List.length_append, List.length_nil]; omega
   ·intro _; simp only [List.length_cons, List.length_append, List.length_nil]; omega
  ·rw [show manyF 4 n = n from rfl] at hk
   simp only [show ¬ (4 : Int) = 1 by decide, show ¬ (4 : Int) = 2 by decide, show ¬ (4 : Int) = 3 by decide, if_false, if_true]
   rw [hsucc]
   refine Bz.listed (Ko := 1) (by decide) rfl (fun h0 => Bz.kids _ _ _ hk h0 ihk) ?_ ?_
   ·intro _; simp only [List.length_cons, List.length_append, List.length_nil]; omega
   ·intro _; simp only [List.length_cons, List.length_append, List.length_nil]; omega
  ·obtain ⟨a1, a2, b1, b2, b3⟩ : i + 1 < l.length ∧ i + 1 < tEnd l (i + 1) ∧ tEnd l (i + 1) < l.length ∧ tEnd l (i + 1) < tEnd l (tEnd l (i + 1)) ∧ tEnd l (tEnd l (i + 1)) = tEnd l i := ⟨hk.1, hk.2.1, hk.2.2.1, hk.2.2.2.1, hk.2.2.2.2⟩
   have q1 := ihk _ (Nat.le_refl _) a1
   have q2 := ihk _ (by omega) b1
   simp only [show ¬ (5 : Int) = 1 by decide, show ¬ (5 : Int) = 2 by decide, show ¬ (5 : Int) = 3 by decide, show ¬ (5 : Int) = 4 by decide, if_false, if_true]
   rw [hsucc]
   refine (((q1.kid (po := 5) (ko := opAt l (i + 1)) (b := false) (Nat.le_refl _)).more (Nat.le_succ _) (Nat.le_refl _)).both (Bz.deep (Bz.blank.both ((Bz.word (K := 2) (by decide)).both (q2.kid (po := 5) (ko := opAt l (tEnd l (i + 1))) (b := true) (Nat.le_refl _)))))).group.more (Nat.le_refl _) ?_
   simp only [List.length_append, List.length_cons]
   omega
  ·obtain ⟨a1, a2, b1, b2, b3⟩ : i + 1 < l.length ∧ i + 1 < tEnd l (i + 1) ∧ tEnd l (i + 1) < l.length ∧ tEnd l (i + 1) < tEnd l (tEnd l (i + 1)) ∧ tEnd l (tEnd l (i + 1)) = tEnd l i := ⟨hk.1, hk.2.1, hk.2.2.1, hk.2.2.2.1, hk.2.2.2.2⟩
   have q1 := ihk _ (Nat.le_refl _) a1
   have q2 := ihk _ (by omega) b1
   simp only [show ¬ (6 : Int) = 1 by decide, show ¬ (6 : Int) = 2 by decide, show ¬ (6 : Int) = 3 by decide, show ¬ (6 : Int) = 4 by decide, show ¬ (6 : Int) = 5 by decide, if_false, if_true]
   rw [hsucc]
   refine (((q1.kid (po := 6) (ko := opAt l (i + 1)) (b := false) (Nat.le_refl _)).more (Nat.le_succ _) (Nat.le_refl _)).both (Bz.deep (Bz.blank.both ((Bz.word (K := 2) (by decide)).both (q2.kid (po := 6) (ko := opAt l (tEnd l (i + 1))) (b := true) (Nat.le_refl _)))))).group.more (Nat.le_refl _) ?_
   simp only [List.length_append, List.length_cons]
   omega
  ·have hnm := tone_word hone rfl (by decide)
   have h8 := (name_facts hnm).2.1
   obtain ⟨a1, a2, b3⟩ : i + 1 < l.length ∧ i + 1 < tEnd l (i + 1) ∧ tEnd l (i + 1) = tEnd l i := ⟨hk.1, hk.2.1, hk.2.2⟩
   have q1 := ihk _ (Nat.le_refl _) a1
   simp only [show ¬ (7 : Int) = 1 by decide, show ¬ (7 : Int) = 2 by decide, show ¬ (7 : Int) = 3 by decide, show ¬ (7 : Int) = 4 by decide, show ¬ (7 : Int) = 5 by decide, show ¬ (7 : Int) = 6 by decide, if_false, if_true]
   rw [hsucc]
   have hw : (⟨#[108, 101, 116, 32]⟩ ++ t ++ ⟨#[32, 61]⟩ : ByteArray).size ≤ 14 := by
    rw [ByteArray.size_append, ByteArray.size_append]; show 4 + t.size + 2 ≤ 14; omega
   refine ((Bz.word hw).both (Bz.deep (Bz.blank.both (q1.both (Bz.word (K := 1) (by decide)))))).group.more (Nat.le_refl _) ?_
   simp only [List.length_append, List.length_cons, List.length_nil]
   omega
  ·obtain ⟨a1, a2, b3⟩ : i + 1 < l.length ∧ i + 1 < tEnd l (i + 1) ∧ tEnd l (i + 1) = tEnd l i := ⟨hk.1, hk.2.1, hk.2.2⟩
   have q1 := ihk _ (Nat.le_refl _) a1
   simp only [show ¬ (8 : Int) = 1 by decide, show ¬ (8 : Int) = 2 by decide, show ¬ (8 : Int) = 3 by decide, show ¬ (8 : Int) = 4 by decide, show ¬ (8 : Int) = 5 by decide, show ¬ (8 : Int) = 6 by decide, show ¬ (8 : Int) = 7 by decide, if_false]
   rw [hsucc]
   refine ((q1.more (Nat.le_succ _) (Nat.le_refl _)).both (Bz.word (K := 1) (by decide))).more (Nat.le_refl _) ?_
   simp only [List.length_append, List.length_cons, List.length_nil]
   omega
theorem Few.groups {width : Int} {l : List ByteArray} (h : Few width l) : ∀ (f i : Nat), l.length ≤ i + f → ∃ gs : List (List ByteArray), linesG width l f i = gs.map fillJ ∧ gs.flatten = l.drop i ∧ ∀ g ∈ gs, g ≠ [] := by
 intro f
 induction f with
 | zero => intro i hi; exact ⟨[], rfl, by rw [List.drop_eq_nil_of_le (by omega)]; rfl, by simp⟩
 | succ f ih =>
  intro i hi
  rw [linesG]
  split
  ·rename_i hl
   exact ⟨[], rfl, by rw [List.drop_eq_nil_of_le hl]; rfl, by simp⟩
  ·rename_i hl
   obtain ⟨_, _, h1, h2, _⟩ := h.at_ (i := i) (by omega)
   obtain ⟨gs, g1, g2, g3⟩ := ih (i + manyAt width l i) (by omega)
   refine ⟨(l.drop i).take (manyAt width l i) :: gs, by rw [g1]; rfl, ?_, fun g hg => ?_⟩
   ·rw [List.flatten_cons, g2, ← List.drop_drop, List.take_append_drop]
   ·rcases List.mem_cons.1 hg with rfl | hg
    ·intro e
     have := congrArg List.length e
     rw [List.length_take, List.length_drop] at this
     simp at this
     omega
    ·exact g3 g hg
theorem noteB_lx : ∀ {gs : List (List ByteArray)}, (∀ g ∈ gs, g ≠ []) → (∀ g ∈ gs, ∀ w ∈ g, wordF w = true) → Lx false (gs.map lineK) (noteB (gs.map fillJ)).data.toList
 | [], _, _ => Lx.nil
 | g :: gs, h0, h => by
  have hg := h g (by simp)
  have hj : Lib.join (g.map (·.data.toList)) [32] = (fillJ g).data.toList := by simp [fillJ]
  rw [List.map_cons, List.map_cons, noteB_toList]
  have hlk : lineK g = 35 :: 32 :: (fillJ g).data.toList := by rw [lineK, hj]
  have hb := line_bytes hg
  rw [hlk] at hb ⊢
  have h1 : Lx false [35 :: 32 :: (fillJ g).data.toList] (35 :: (32 :: (fillJ g).data.toList) ++ [10]) := Lx.note (w := 32 :: (fillJ g).data.toList) (fun c hc => by
   have := hb c (by simp only [List.mem_cons] at hc ⊢; exact .inr hc)
   simp only [prB, Bool.and_eq_true, decide_eq_true_eq]; exact this) (trim_line hg (h0 g (by simp)) hj)
  have h2 := h1.app (noteB_lx (gs := gs) (fun x hx => h0 x (by simp [hx])) (fun x hx => h x (by simp [hx]))) (fun e => by cases e)
  have e : 35 :: (32 :: (fillJ g).data.toList) ++ [10] ++ (noteB (gs.map fillJ)).data.toList = 35 :: 32 :: ((fillJ g).data.toList ++ 10 :: (noteB (gs.map fillJ)).data.toList) := by simp
  rw [e] at h2
  exact h2
theorem noteB_len : ∀ {gs : List (List ByteArray)}, (∀ g ∈ gs, g ≠ []) → (∀ g ∈ gs, ∀ w ∈ g, w.size ≤ 20) → (noteB (gs.map fillJ)).size ≤ 23 * gs.flatten.length
 | [], _, _ => by simp [noteB]
 | g :: gs, h0, h => by
  have ih := noteB_len (gs := gs) (fun x hx => h0 x (by simp [hx])) (fun x hx => h x (by simp [hx]))
  have hl := List.length_pos_iff.2 (h0 g (by simp))
  have h1 := fillJ_size g hl
  have h2 := sum_le g (h g (by simp))
  simp only [List.map_cons, noteB, ByteArray.size_append, List.flatten_cons, List.length_append]
  show 2 + (fillJ g).size + 1 + (noteB (gs.map fillJ)).size ≤ _
  unfold longW at h1
  omega
theorem noteT_lx {x : ByteArray} (h1 : treeOne 9 x 0 = 0) {W : Int} (hw : wideF W = true) : (∃ tk, NoteK x tk ∧ Lx false tk (noteT x W).data.toList) ∧ (noteT x W).size ≤ 1500 := by
 by_cases h0 : noteL x = []
 ·rw [noteT, if_pos h0]
  exact ⟨⟨[[35]], .inl ⟨h0, rfl⟩, Lx.note (w := []) (by simp) (by decide)⟩, by decide⟩
 ·rw [noteT, if_neg h0]
  obtain ⟨hfew, _⟩ := note_few h1 hw
  have hwf : wordsF (noteL x) = 0 := by
   unfold treeOne at h1
   split at h1
   ·cases h1
   ·split at h1
    ·cases h1
    ·simpa using h1
  obtain ⟨hlen, hws⟩ := wordsF_facts hwf
  obtain ⟨gs, g1, g2, g3⟩ := hfew.groups (noteL x).length 0 (by omega)
  rw [List.drop_zero] at g2
  have hfill : fillW (W - 2) (noteL x) = gs.map fillJ := by rw [fillW, linesAt, Nat.sub_zero]; exact g1
  have hmem : ∀ g ∈ gs, ∀ w ∈ g, w ∈ noteL x := fun g hg w hw => by rw [← g2]; exact List.mem_flatten.2 ⟨g, hg, hw⟩
  rw [hfill]
  refine ⟨⟨gs.map lineK, .inr ⟨gs, fun e => ?_, g3, g2, rfl⟩, noteB_lx g3 fun g hg w hw => hws w (hmem g hg w hw)⟩, ?_⟩
  ·rw [e] at g2; exact h0 g2.symm
  ·have := noteB_len g3 (fun g hg w hw => (wordF_facts (hws w (hmem g hg w hw))).2.1)
   rw [g2] at this
   omega
theorem oneX_lx {l : List Nd} {W : Int} (h : oneQ l W = 0) : (∃ tk, PcK l tk ∧ Lx false tk (oneX l W).data.toList) ∧ (oneX l W).size ≤ 90 * nTok l + 1500 := by
 obtain ⟨hw, ht, h4⟩ := oneQ_zero h
 by_cases h9 : opAt l 0 = 9
 ·obtain ⟨x, rfl, h1⟩ := tree_note ht h9
  have hx : oneX [⟨9, x, 0⟩] W = noteT x W := by rw [oneX, if_pos h9]; rfl
  rw [hx]
  obtain ⟨⟨tk, t1, t2⟩, hz⟩ := noteT_lx h1 hw
  exact ⟨⟨tk, .inr ⟨x, rfl, t1⟩, t2⟩, by omega⟩
 ·obtain ⟨x, hx⟩ := docL_doc ht h9 (by have := h4 h9; omega)
  have hr : oneX l W = bT W.toNat x ++ ⟨#[10]⟩ := by rw [oneX, if_neg h9, hx.root]
  have hlay := (hx.best_shown W.toNat).lay
  have hT := Tr.of_check ht
  have h0 := hT.pos0
  have hoe : opAt l 0 = (l[0]'h0).op := by rw [opAt, getD_at h0]
  rw [hr]
  refine ⟨⟨tokT l l.length 0, .inl ⟨h9, rfl⟩, lx_stmt ht h9 fun y y1 y2 => .inr ⟨0, bU W.toNat x, [], ?_⟩⟩, ?_⟩
  ·obtain rfl := hx.same y1 y2
   exact hlay
  ·obtain ⟨y, y1, y2, y3, _⟩ := docT_bz hT l.length 0 (by omega) h0 (by rw [← hoe]; exact h9)
   obtain rfl := hx.same y1 y2
   have := y3 _ _ _ _ (by omega) (by have := hT.len; show 0 + 2 * (l.length - 0) ≤ 80; omega) hlay
   rw [nTok, if_neg h9, ByteArray.size_append]
   show _ + 1 ≤ _
   omega
theorem formE_all {W : Int} : ∀ {p : List (List Nd)}, formE W p = 0 → ∀ u ∈ p, oneQ u W = 0
 | [], _, u, hu => by cases hu
 | v :: r, h, u, hu => by
  rw [formE] at h
  split at h
  ·rename_i hq; exact absurd h hq
  ·rename_i hq
   rcases List.mem_cons.1 hu with rfl | hu
   ·simpa using hq
   ·exact formE_all h u hu
theorem formT_bytes (W : Int) : ∀ p : List (List Nd), (formT W p).data.toList = p.flatMap fun u => (oneX u W).data.toList
 | [] => rfl
 | u :: r => by rw [formT, ByteArray.data_append, Array.toList_append, formT_bytes W r, List.flatMap_cons]
theorem formT_size {W : Int} : ∀ {p : List (List Nd)}, (∀ u ∈ p, oneQ u W = 0) → (formT W p).size ≤ 90 * (p.map nTok).sum + 1500 * p.length
 | [], _ => by simp [formT]
 | u :: r, h => by
  have h1 := (oneX_lx (h u (by simp))).2
  have h2 := formT_size (p := r) (fun v hv => h v (by simp [hv]))
  rw [formT, ByteArray.size_append, List.map_cons, List.sum_cons, List.length_cons]
  omega
theorem parse_form {p : List (List Nd)} {W : Int} (h0 : (progF p).2 = 0) (hn : (p.map nTok).sum ≤ 300) (h : formE W p = 0) : parseF (formT W p) = (0, 0, p) ∧ (formT W p).size ≤ 60000 := by
 have hf := progF_facts h0
 have hq := formE_all h
 obtain ⟨q, q1, q2, q3⟩ := print_lx (fun u => oneX u W) hf.2.1 (fun u hu => (oneX_lx (hq u hu)).1)
 rw [← formT_bytes] at q3
 have hz : (formT W p).size ≤ 60000 := by
  have := formT_size hq
  have := hf.1
  omega
 have h1 := parse_text hz q2 (by rw [q1]; exact h0) q3
 rw [q1, if_neg (by omega)] at h1
 exact ⟨h1, hz⟩
end Go.Proofs.YtddfdmopaeghnaaGreatDoor
namespace Go.Proofs.YtddfdmopaeghnaaGreatDoor
open Go.RowKit
theorem fmt_ok_is {s : ByteArray} {W : Int} {k : Nat} {T : ByteArray} (h : fmtF s W = (0, k, T)) (w : World) (hs : s.size ≤ maxLen) (hm : MaxL w) (hp : PowT w) : Calls Tryz.prog 5 #[.string s, .int .i64 W] w (Ret w (.tuple #[.string T, .int .i64 (k : Nat), .nilIface])) := by
 have := fmt_any s W w hs hm hp
 rw [h] at this
 exact this
theorem fmt_bad_is {s : ByteArray} {W f : Int} {k : Nat} {T : ByteArray} (h : fmtF s W = (f, k, T)) (hf : f ≠ 0) (w : World) (hs : s.size ≤ maxLen) (hm : MaxL w) (hp : PowT w) : Calls Tryz.prog 5 #[.string s, .int .i64 W] w (Ret w (.tuple #[.string T, .int .i64 (k : Nat), .iface 37 (.int .i64 f)])) := by
 have := fmt_any s W w hs hm hp
 rw [h, ← errV_pos hf] at this
 exact this
theorem fmt_parts {s : ByteArray} {W : Int} (h : (fmtF s W).1 = 0) : wideF W = true ∧ (parseF s).1 = 0 ∧ formE W (parseF s).2.2 = 0 ∧ fmtF s W = (0, 0, formT W (parseF s).2.2) := by
 unfold fmtF at h ⊢
 split at h
 ·cases h
 ·rename_i hw
  split at h
  ·rename_i hf; exact absurd h hf
  ·rename_i hf
   split at h
   ·rename_i he; exact absurd h he
   ·rename_i he
    rw [if_neg hw, if_neg hf, if_neg he]
    exact ⟨by simpa using hw, by simpa using hf, by simpa using he, rfl⟩
theorem fmt_of {s : ByteArray} {k : Nat} {p : List (List Nd)} (h : parseF s = (0, k, p)) (W : Int) : fmtF s W = if wideF W = false then (1, 0, .empty) else if formE W p ≠ 0 then (formE W p, 0, .empty) else (0, 0, formT W p) := by
 rw [fmtF, h]
 simp
end Go.Proofs.YtddfdmopaeghnaaGreatDoor
namespace Go.Proofs.YtddfdmopaeghnaaGreatDoor
open Go.RowKit
set_option maxHeartbeats 1000000 in
theorem differs_same (T : ByteArray) (w : World) : Calls Tryz.prog 18 #[.string T, .string T] w (Ret w (.int .i64 (-1))) := by
 have hb1 : (T.toList == T.toList) = true := by simp
 go_enter Tryz.func18, Tryz.ntmps18
 go_wp2
 go_ret
 exact ⟨rfl, Below.refl _ _⟩
set_option maxHeartbeats 2000000 in
theorem check_same {T : ByteArray} {W : Int} {k : Nat} (h : fmtF T W = (0, k, T)) (w : World) (hs : T.size ≤ maxLen) (hm : MaxL w) (hp : PowT w) :
  Calls Tryz.prog 9 #[.string T, .int .i64 W] w (Ret w (.tuple #[.int .i64 (-1), .int .i64 0, .nilIface])) := by
 have HF := Lib.hid (fmt_ok_is h w hs hm hp)
 clear h hs hm hp
 go_enter Tryz.func9, Tryz.ntmps9
 go_wp2_with (first
  | (go_at_call 5; refine HF.out.mono ?_; rintro e w1 ⟨rfl, hB1⟩; have HB1 := Lib.hid hB1; clear hB1)
  | (go_at_call 18; refine (differs_same T _).mono ?_; rintro e w2 ⟨rfl, hB2⟩; have HB2 := Lib.hid (HB1.out.trans (hB2.mono HB1.out.size)); clear hB2))
 go_ret3
 exact ⟨rfl, HB2.out⟩
end Go.Proofs.YtddfdmopaeghnaaGreatDoor
namespace Go.Proofs.YtddfdmopaeghnaaGreatDoor
open Go.RowKit
def factOI : ByteArray := ⟨#[102, 40, 32, 49, 32, 41, 59]⟩
def factOO : ByteArray := ⟨#[102, 40, 49, 41, 59, 10]⟩
def factOP : List Nd := [⟨8, .empty, 0⟩, ⟨3, ⟨#[102]⟩, 1⟩, ⟨1, .empty, 1⟩]
theorem factO_parse : parseF factOI = (0, 0, [factOP]) ∧ parseF factOO = (0, 0, [factOP]) := ⟨by kernel_rfl, by kernel_rfl⟩
theorem factO_one : oneQ factOP 20 = 0 ∧ oneX factOP 20 = factOO := ⟨by kernel_rfl, by kernel_rfl⟩
theorem factO_err : formE 20 [factOP] = 0 := by
 rw [formE, if_neg (by rw [factO_one.1]; simp)]; rfl
theorem factO_text : formT 20 [factOP] = factOO := by
 rw [formT, factO_one.2, formT]; simp
theorem factO_is : fmtF factOI 20 = (0, 0, factOO) := by
 rw [fmt_of factO_parse.1, if_neg (by decide), if_neg (by rw [factO_err]; simp), factO_text]
theorem factO_again : fmtF factOO 20 = (0, 0, factOO) := by
 rw [fmt_of factO_parse.2, if_neg (by decide), if_neg (by rw [factO_err]; simp), factO_text]
set_option maxHeartbeats 2000000 in
theorem topOne_any (w : World) (hm : MaxL w) (hp : PowT w) : Calls Tryz.prog 4 #[] w (Ret w (.bool true)) := by
 have HF := Lib.hid (fmt_ok_is factO_is w (by decide) hm hp)
 have HC := Lib.hid (fun (w' : World) (hB : Below w.heap.size w w') => check_same factO_again w' (by decide) (hm.past hB) (hp.past hB))
 unfold factOI factOO at HF
 unfold factOO at HC
 clear hm hp
 go_enter Tryz.func4, Tryz.ntmps4
 go_wp2_with (first
  | (go_at_call 5; refine HF.out.mono ?_; rintro e w1 ⟨rfl, hB1⟩; have HB1 := Lib.hid hB1; clear hB1)
  | (go_at_call 9; refine (HC.out _ HB1.out).mono ?_; rintro e w2 ⟨rfl, hB2⟩; have HB2 := Lib.hid (HB1.out.trans (hB2.mono HB1.out.size)); clear hB2))
 go_ret
 exact ⟨by first | rfl | (simp; done), HB2.out⟩
theorem parse_lex {s : ByteArray} {k : Nat} {p : List (List Nd)} (h : parseF s = (0, k, p)) : (lexE s).1 = 0 := by
 by_cases he : (lexE s).1 = 0
 ·exact he
 ·have := parseF_lex he
  rw [h] at this
  injection this with h1
  exact absurd h1.symm he
theorem lex_ok_t {s : ByteArray} (h : (lexE s).1 = 0) (w : World) (hs : s.size ≤ maxLen) : Calls Tryz.prog 6 #[.string s] w (LexOk s w) :=
 (lex_any s w hs).mono fun _ _ hh => by
  rcases hh with ⟨h1, _⟩ | ⟨_, h2⟩
  ·exact absurd h h1
  ·exact h2
end Go.Proofs.YtddfdmopaeghnaaGreatDoor
namespace Go.Proofs.YtddfdmopaeghnaaGreatDoor
def plB (w : List UInt8) : Bool := w != [40] && (w != [41] && w.head? != some 35)
def plW (l : List (List UInt8)) : List (List UInt8) := l.filter plB
def segP (ws : List ByteArray) (a b : Nat) : List (List UInt8) := plW (((ws.take b).drop a).map (·.data.toList))
theorem segP_none (ws : List ByteArray) (a : Nat) : segP ws a a = [] := by
 unfold segP
 rw [List.drop_eq_nil_of_le (by rw [List.length_take]; omega)]; rfl
theorem segP_app {ws : List ByteArray} {a b c : Nat} (h1 : a ≤ b) (h2 : b ≤ c) : segP ws a b ++ segP ws b c = segP ws a c := by
 unfold segP plW
 rw [← List.filter_append, ← List.map_append]
 congr 2
 have e : ws.take b = (ws.take c).take b := by rw [List.take_take, Nat.min_eq_left h2]
 rw [e]
 generalize ws.take c = l
 rw [List.drop_take]
 have : l.drop b = (l.drop a).drop (b - a) := by rw [List.drop_drop]; congr 1; omega
 rw [this, List.take_append_drop]
theorem segP_one {ws : List ByteArray} {k : Nat} (hk : k < ws.length) : segP ws k (k + 1) = plW [(wdAt ws k).data.toList] := by
 have e : wdAt ws k = ws[k] := by simp [wdAt, List.getD_eq_getElem?_getD, hk]
 unfold segP
 rw [List.drop_take, List.drop_eq_getElem_cons hk, Nat.add_sub_cancel_left, List.take_succ_cons, List.take_zero, e]
 rfl
theorem segP_isW {ws : List ByteArray} {k : Nat} {c : UInt8} {r : List UInt8} (h : isW ws k (c :: r) = true) : segP ws k (k + 1) = plW [c :: r] := by
 rw [segP_one (isW_lt h)]
 unfold isW at h
 rw [← ByteArray.toList_eq, eq_of_beq h]
theorem segP_step {ws : List ByteArray} {a k : Nat} {t : List (List UInt8)} (h1 : a ≤ k) (h : segP ws k (k + 1) = t) : segP ws a (k + 1) = segP ws a k ++ t := by
 rw [← segP_app h1 (Nat.le_succ k), h]
def joinC : List (List (List UInt8)) → List (List UInt8)
 | [] => []
 | a :: r => if r = [] then a else a ++ [44] :: joinC r
theorem joinC_snoc : ∀ (ks : List (List (List UInt8))) (t : List (List UInt8)), joinC (ks ++ [t]) = if ks = [] then t else joinC ks ++ [44] :: t
 | [], t => by simp [joinC]
 | [a], t => by simp [joinC]
 | a :: b :: r, t => by
  have h := joinC_snoc (b :: r) t
  rw [if_neg (by simp)] at h
  show joinC (a :: ((b :: r) ++ [t])) = _
  rw [joinC, if_neg (by simp), h, if_neg (by simp), show joinC (a :: b :: r) = a ++ [44] :: joinC (b :: r) by rw [joinC, if_neg (by simp)], List.append_assoc]
  rfl
def ownP (op : Int) (t : ByteArray) (n : Int) (ks : List (List (List UInt8))) : List (List UInt8) :=
 if op = 1 then [Lib.itoa n]
 else if op = 2 then [t.data.toList]
 else if op = 3 then t.data.toList :: joinC ks
 else if op = 4 then [91] :: (joinC ks ++ [[93]])
 else if op = 5 then ks.getD 0 [] ++ [43] :: ks.getD 1 []
 else if op = 6 then ks.getD 0 [] ++ [42] :: ks.getD 1 []
 else if op = 7 then [108, 101, 116] :: t.data.toList :: [61] :: (ks.getD 0 [] ++ [[59]])
 else ks.getD 0 [] ++ [[59]]
def plS : List Nd → List (List (List UInt8))
 | [] => []
 | d :: r => ownP d.op d.text d.n ((plS r).take (manyF d.op d.n).toNat) :: (plS r).drop (manyF d.op d.n).toNat
def Px (x : List Nd) (t : List (List UInt8)) : Prop := ∀ r, plS (x ++ r) = t :: plS r
def NmW (ws : List ByteArray) : Prop := ∀ j, digW (wdAt ws j) = true → Lib.itoa (numW (wdAt ws j)) = (wdAt ws j).data.toList
theorem plain_name {s : ByteArray} (h : nameF s = true) : plB s.data.toList = true := by
 unfold plB
 cases hd : s.data.toList with
 | nil =>
  have h1 := (name_facts h).1
  have h2 : s.data.toList.length = s.size := by simp
  rw [hd] at h2; simp at h2; omega
 | cons c r =>
  have := List.all_eq_true.1 (name_facts h).2.2 c (by rw [hd]; simp)
  have hc : 97 ≤ c.toNat ∧ c.toNat ≤ 122 := by simpa [lowC] using this
  have e : ∀ d : UInt8, d.toNat < 97 → c ≠ d := fun d hd he => by subst he; omega
  simp only [List.head?_cons, Bool.and_eq_true, bne_iff_ne, ne_eq]
  exact ⟨fun h => e 40 (by decide) (List.cons.inj h).1, fun h => e 41 (by decide) (List.cons.inj h).1, fun h => e 35 (by decide) (Option.some.inj h)⟩
theorem plain_dig {s : ByteArray} (h : digW s = true) : plB s.data.toList = true := by
 unfold digW at h
 unfold plB
 cases hd : s.data.toList with
 | nil => rw [hd] at h; cases h
 | cons c r =>
  rw [hd] at h
  have hc : 48 ≤ c.toNat ∧ c.toNat ≤ 57 := by simpa [digC] using h
  have e : ∀ d : UInt8, d.toNat < 48 → c ≠ d := fun d hd he => by subst he; omega
  simp only [List.head?_cons, Bool.and_eq_true, bne_iff_ne, ne_eq]
  exact ⟨fun h => e 40 (by decide) (List.cons.inj h).1, fun h => e 41 (by decide) (List.cons.inj h).1, fun h => e 35 (by decide) (Option.some.inj h)⟩
theorem plW_one {w : List UInt8} (h : plB w = true) : plW [w] = [w] := by simp [plW, h]
theorem segP_name {ws : List ByteArray} {k : Nat} (h : nameF (wdAt ws k) = true) : segP ws k (k + 1) = [(wdAt ws k).data.toList] := by
 rw [segP_one (nameW_lt h), plW_one (plain_name h)]
def PrtP (ws : List ByteArray) (part : Nat → PrR) : Prop := ∀ k x k', part k = .ok (x, k') → k ≤ ws.length → k < k' ∧ k' ≤ ws.length ∧ Px x (segP ws k k')
theorem chainP_pl {ws : List ByteArray} {op : Int} {sg : UInt8} {part : Nat → PrR} (ho : (op = 5 ∧ sg = 43) ∨ (op = 6 ∧ sg = 42)) (hp : PrtP ws part) :
  ∀ (f : Nat) (out : List Nd) (k k0 : Nat) (x : List Nd) (k' : Nat), k ≤ ws.length → k0 ≤ k → Px out (segP ws k0 k) → chainP ws op [sg] part f out k = .ok (x, k') → k ≤ k' ∧ k' ≤ ws.length ∧ Px x (segP ws k0 k') := by
 intro f
 induction f with
 | zero => intro out k k0 x k' hk h0 hc e; rw [chainP] at e; cases e; exact ⟨Nat.le_refl _, hk, hc⟩
 | succ f ih =>
  intro out k k0 x k' hk h0 hc e
  rw [chainP] at e
  split at e
  ·rename_i hs
   have hlt := isW_lt hs
   have hsg : segP ws k (k + 1) = [[sg]] := by
    rw [segP_isW hs]
    rcases ho with ⟨_, rfl⟩ | ⟨_, rfl⟩ <;> rfl
   cases hq : part (k + 1) with
   | error e2 => rw [hq] at e; cases e
   | ok r =>
    obtain ⟨y, k2⟩ := r
    rw [hq] at e
    obtain ⟨p1, p2, p3⟩ := hp _ _ _ hq hlt
    have hseg : segP ws k0 k2 = segP ws k0 k ++ [sg] :: segP ws (k + 1) k2 := by
     rw [← segP_app (b := k + 1) (by omega) (by omega), segP_step h0 hsg, List.append_assoc]; rfl
    obtain ⟨g1, g2, g3⟩ := ih (⟨op, .empty, 0⟩ :: (out ++ y)) k2 k0 x k' p2 (by omega) (by
     intro r
     have hm : (manyF op 0).toNat = 2 := by rcases ho with ⟨rfl, _⟩ | ⟨rfl, _⟩ <;> rfl
     rw [List.cons_append, List.append_assoc, plS, hc, p3, hm, hseg]
     rcases ho with ⟨rfl, rfl⟩ | ⟨rfl, rfl⟩ <;> rfl) e
    exact ⟨by omega, g2, g3⟩
  ·cases e; exact ⟨Nat.le_refl _, hk, hc⟩
theorem chainS_pl {ws : List ByteArray} {op : Int} {sg : UInt8} {part : Nat → PrR} (ho : (op = 5 ∧ sg = 43) ∨ (op = 6 ∧ sg = 42)) (hp : PrtP ws part) : PrtP ws (chainS ws op [sg] part) := by
 intro k x k' e hk
 rw [chainS] at e
 cases hq : part k with
 | error e2 => rw [hq] at e; cases e
 | ok r =>
  obtain ⟨y, k2⟩ := r
  rw [hq] at e
  obtain ⟨p1, p2, p3⟩ := hp _ _ _ hq hk
  obtain ⟨g1, g2, g3⟩ := chainP_pl ho hp _ y k2 k x k' p2 (by omega) p3 e
  exact ⟨by omega, g2, g3⟩
theorem manyP_pl {ws : List ByteArray} {ed : UInt8} {sum : Nat → PrR} (hp : PrtP ws sum) : ∀ (f j : Nat) (out : List Nd) (k k0 m : Nat) (x : List Nd) (k' : Nat), k ≤ ws.length → k0 ≤ k →
  (∃ ks : List (List (List UInt8)), (∀ r, plS (out ++ r) = ks ++ plS r) ∧ ks.length = j ∧ joinC ks = segP ws k0 k) → ws.length < k + f → manyP ws [ed] sum f j out k = .ok (m, x, k') →
  ∃ k1, k' = k1 + 1 ∧ k ≤ k1 ∧ k1 < ws.length ∧ isW ws k1 [ed] = true ∧ ∃ ks : List (List (List UInt8)), (∀ r, plS (x ++ r) = ks ++ plS r) ∧ ks.length = m ∧ joinC ks = segP ws k0 k1 := by
 intro f
 induction f with
 | zero => intro j out k k0 m x k' hk h0 hc hf e; omega
 | succ f ih =>
  intro j out k k0 m x k' hk h0 hc hf e
  obtain ⟨ks, c1, c2, c3⟩ := hc
  rw [manyP] at e
  split at e
  ·rename_i hs
   cases e
   exact ⟨k, rfl, Nat.le_refl _, isW_lt hs, hs, ks, c1, c2, c3⟩
  ·split at e
   ·cases e
   ·rename_i hcm
    have hq : ∃ q, (if 0 < j then k + 1 else k) = q ∧ k ≤ q ∧ q ≤ ws.length ∧ segP ws k0 q = segP ws k0 k ++ (if 0 < j then [[44]] else []) := by
     by_cases hj : 0 < j
     ·have hw : isW ws k [44] = true := by
       cases hw : isW ws k [44] with
       | true => rfl
       | false => exact absurd ⟨hj, hw⟩ hcm
      exact ⟨k + 1, by rw [if_pos hj], by omega, isW_lt hw, by rw [if_pos hj]; exact segP_step h0 (by rw [segP_isW hw]; rfl)⟩
     ·exact ⟨k, by rw [if_neg hj], Nat.le_refl _, hk, by rw [if_neg hj]; simp⟩
    obtain ⟨q, hq1, hq2, hq3, hq4⟩ := hq
    rw [hq1] at e
    cases hs : sum q with
    | error e2 => rw [hs] at e; cases e
    | ok r =>
     obtain ⟨y, k2⟩ := r
     rw [hs] at e
     obtain ⟨p1, p2, p3⟩ := hp _ _ _ hs hq3
     obtain ⟨k1, g1, g2, g3, g4, g5⟩ := ih (j + 1) (out ++ y) k2 k0 m x k' p2 (by omega) ⟨ks ++ [segP ws q k2], fun r => by rw [List.append_assoc, c1, p3]; simp, by simp [c2], by
      rw [joinC_snoc, ← segP_app (a := k0) (b := q) (c := k2) (by omega) (by omega), hq4, c3]
      by_cases hj : 0 < j
      ·rw [if_pos hj, if_neg (fun e => by rw [e] at c2; simp at c2; omega)]; simp
      ·have : ks = [] := List.length_eq_zero_iff.1 (by omega)
       rw [if_neg hj, if_pos this]
       rw [this] at c3
       rw [← c3]; rfl⟩ (by omega) e
     exact ⟨k1, g1, by omega, g3, g4, g5⟩
theorem many_nodeP {ks : List (List (List UInt8))} {op : Int} {t : ByteArray} {x : List Nd} {m : Nat} (h3 : op = 3 ∨ op = 4) (c1 : ∀ r, plS (x ++ r) = ks ++ plS r) (c2 : ks.length = m) : Px (⟨op, t, (m : Nat)⟩ :: x) (ownP op t (m : Nat) ks) := by
 intro r
 have hm : (manyF op (m : Nat)).toNat = ks.length := by rw [manyF, if_pos h3, c2]; omega
 rw [List.cons_append, plS, c1, hm, List.take_left, List.drop_left]
theorem pE_pl {ws : List ByteArray} (hn : NmW ws) : ∀ (f lv : Nat), lv ≤ 2 → PrtP ws (pE ws f lv) := by
 intro f
 induction f with
 | zero => intro lv _ k x k' e; rw [pE] at e; cases e
 | succ f ih =>
  intro lv hlv
  have hcs : lv = 0 ∨ lv = 1 ∨ lv = 2 := by omega
  rcases hcs with rfl | rfl | rfl
  ·rw [pE_zero]; exact chainS_pl (.inl ⟨rfl, rfl⟩) (ih 1 (by omega))
  ·rw [pE_one]; exact chainS_pl (.inr ⟨rfl, rfl⟩) (ih 2 (by omega))
  ·rw [pE_two]
   intro k x k' e hk
   have hsum := ih 0 (by omega)
   rw [oneP] at e
   split at e
   ·rename_i h40
    have hlt := isW_lt h40
    cases hs : pE ws f 0 (k + 1) with
    | error e2 => rw [hs] at e; cases e
    | ok r =>
     obtain ⟨y, k2⟩ := r
     rw [hs] at e
     simp only at e
     split at e
     ·rename_i h41
      cases e
      obtain ⟨p1, p2, p3⟩ := hsum _ _ _ hs hlt
      refine ⟨by omega, isW_lt h41, ?_⟩
      have : segP ws k (k2 + 1) = segP ws (k + 1) k2 := by
       rw [segP_step (by omega) (segP_isW h41), ← segP_app (b := k + 1) (by omega) (by omega), segP_isW h40, show plW [[40]] = [] from rfl, show plW [[41]] = [] from rfl]
       simp
      rw [this]; exact p3
     ·cases e
   split at e
   ·rename_i h91
    have hlt := isW_lt h91
    cases hs : manyP ws [93] (pE ws f 0) (ws.length + 1) 0 [] (k + 1) with
    | error e2 => rw [hs] at e; cases e
    | ok r =>
     obtain ⟨m, y, k2⟩ := r
     rw [hs] at e
     cases e
     obtain ⟨k1, rfl, p1, p2, p3, ks, c1, c2, c3⟩ := manyP_pl hsum _ 0 [] (k + 1) (k + 1) m y k' hlt (Nat.le_refl _) ⟨[], fun r => rfl, rfl, (segP_none _ _).symm⟩ (by omega) hs
     refine ⟨by omega, p2, ?_⟩
     have : segP ws k (k1 + 1) = ownP 4 .empty (m : Nat) ks := by
      rw [segP_step (by omega) (segP_isW p3), ← segP_app (b := k + 1) (by omega) (by omega), segP_isW h91, ← c3, show plW [[91]] = [[91]] from rfl, show plW [[93]] = [[93]] from rfl]
      simp [ownP]
     rw [this]; exact many_nodeP (.inr rfl) c1 c2
   split at e
   ·rename_i hd
    have hlt := digW_lt hd
    cases e
    refine ⟨by omega, hlt, fun r => ?_⟩
    rw [segP_one hlt, plW_one (plain_dig hd), ← hn k hd]
    rfl
   split at e
   ·cases e
   rename_i hnm
   have hnm : nameF (wdAt ws k) = true := by
    cases h : nameF (wdAt ws k) with
    | true => rfl
    | false => exact absurd h hnm
   have hlt := nameW_lt hnm
   split at e
   ·rename_i h40
    have hlt2 := isW_lt h40
    cases hs : manyP ws [41] (pE ws f 0) (ws.length + 1) 0 [] (k + 2) with
    | error e2 => rw [hs] at e; cases e
    | ok r =>
     obtain ⟨m, y, k2⟩ := r
     rw [hs] at e
     cases e
     obtain ⟨k1, rfl, p1, p2, p3, ks, c1, c2, c3⟩ := manyP_pl hsum _ 0 [] (k + 2) (k + 2) m y k' hlt2 (Nat.le_refl _) ⟨[], fun r => rfl, rfl, (segP_none _ _).symm⟩ (by omega) hs
     refine ⟨by omega, p2, ?_⟩
     have : segP ws k (k1 + 1) = ownP 3 (wdAt ws k) (m : Nat) ks := by
      rw [segP_step (by omega) (segP_isW p3), ← segP_app (b := k + 2) (by omega) (by omega), ← segP_app (a := k) (b := k + 1) (by omega) (by omega), segP_name hnm, segP_isW h40, ← c3, show plW [[40]] = [] from rfl, show plW [[41]] = [] from rfl]
      simp [ownP]
     rw [this]; exact many_nodeP (.inl rfl) c1 c2
   ·cases e
    refine ⟨by omega, hlt, fun r => ?_⟩
    rw [segP_name hnm]
    rfl
theorem stmt_pl {ws : List ByteArray} (hn : NmW ws) {k k' : Nat} {x : List Nd} (hk : k ≤ ws.length) (e : stmtP ws k = .ok (x, k')) : k < k' ∧ k' ≤ ws.length ∧ plS x = [segP ws k k'] := by
 have hX : PrtP ws (pX ws) := pE_pl hn _ 0 (by omega)
 rw [stmtP] at e
 split at e
 ·rename_i hl
  have l1 := isW_lt hl
  split at e
  ·cases e
  rename_i hnm
  have hnm : nameF (wdAt ws (k + 1)) = true := by
   cases h : nameF (wdAt ws (k + 1)) with
   | true => rfl
   | false => exact absurd h hnm
  split at e
  ·cases e
  rename_i hq
  have hq : isW ws (k + 2) [61] = true := by
   cases h : isW ws (k + 2) [61] with
   | true => rfl
   | false => exact absurd h hq
  have q1 := isW_lt hq
  cases hs : pX ws (k + 3) with
  | error e2 => rw [hs] at e; cases e
  | ok r =>
   obtain ⟨y, k2⟩ := r
   rw [hs] at e
   simp only at e
   split at e
   ·rename_i h59
    cases e
    obtain ⟨p1, p2, p3⟩ := hX _ _ _ hs q1
    have hc := p3 []
    rw [List.append_nil] at hc
    refine ⟨by omega, isW_lt h59, ?_⟩
    have : segP ws k (k2 + 1) = [108, 101, 116] :: (wdAt ws (k + 1)).data.toList :: [61] :: (segP ws (k + 3) k2 ++ [[59]]) := by
     have s1 := segP_isW hl
     have s2 := segP_name hnm
     have s3 : segP ws (k + 2) (k + 3) = [[61]] := by rw [segP_isW hq]; rfl
     rw [segP_step (by omega) (segP_isW h59), ← segP_app (b := k + 3) (by omega) (by omega), ← segP_app (a := k) (b := k + 2) (by omega) (by omega), ← segP_app (a := k) (b := k + 1) (by omega) (by omega), s1, s2, s3, show plW [[108, 101, 116]] = [[108, 101, 116]] from rfl, show plW [[59]] = [[59]] from rfl]
     simp
    rw [this, plS, hc]
    rfl
   ·cases e
 ·cases hs : pX ws k with
  | error e2 => rw [hs] at e; cases e
  | ok r =>
   obtain ⟨y, k2⟩ := r
   rw [hs] at e
   simp only at e
   split at e
   ·rename_i h59
    cases e
    obtain ⟨p1, p2, p3⟩ := hX _ _ _ hs hk
    have hc := p3 []
    rw [List.append_nil] at hc
    refine ⟨by omega, isW_lt h59, ?_⟩
    have : segP ws k (k2 + 1) = segP ws k k2 ++ [[59]] := segP_step (by omega) (by rw [segP_isW h59]; rfl)
    rw [this, plS, hc]
    rfl
   ·cases e
end Go.Proofs.YtddfdmopaeghnaaGreatDoor
namespace Go.Proofs.YtddfdmopaeghnaaGreatDoor
theorem plW_app (a b : List (List UInt8)) : plW (a ++ b) = plW a ++ plW b := List.filter_append ..
theorem plW_cons (w : List UInt8) (b : List (List UInt8)) : plW (w :: b) = plW [w] ++ plW b := plW_app [w] b
theorem joinC_two (a b : List (List UInt8)) (r : List (List (List UInt8))) : joinC (a :: b :: r) = a ++ [44] :: joinC (b :: r) := by rw [joinC, if_neg (by simp)]
theorem kidK_pl (po ko : Int) (b : Bool) (x : List (List UInt8)) : plW (kidK po ko b x) = plW x := by
 unfold kidK
 split
 ·rw [plW_cons, plW_app, show plW [[40]] = [] from rfl, show plW [[41]] = [] from rfl]; simp
 ·rfl
theorem kidsK_pl {l : List Nd} {g : Nat → List (List UInt8)} : ∀ (q : List Nat) (a : Nat), (∀ j x y, q[j]? = some x → q[j + 1]? = some y → y = tEnd l x) → q.head? = some a ∨ q = [] → plW (kidsK g (tEnd l) a q.length) = joinC (q.map fun j => plW (g j)) := by
 intro q
 induction q with
 | nil => intro a _ _; rfl
 | cons x r ih =>
  intro a hs ha
  obtain rfl : x = a := by simpa using ha
  rw [List.length_cons, kidsK]
  cases r with
  | nil => simp [joinC]
  | cons y r =>
   have hy : y = tEnd l x := hs 0 x y rfl rfl
   rw [if_neg (by simp), plW_app, plW_cons, show plW [[44]] = [[44]] from rfl, ← hy, ih y (fun j u v h1 h2 => hs (j + 1) u v h1 h2) (.inl rfl)]
   simp only [List.map_cons, joinC_two]
   rfl
theorem plain_num {n : Int} (n0 : 0 ≤ n) (n1 : n ≤ 999999) : plB (Lib.itoa n) = true := by
 have h2 := (itoa_len6 n0 n1).1
 have h3 := itoa_digs n0
 unfold plB
 cases hd : Lib.itoa n with
 | nil => rw [hd] at h2; simp at h2
 | cons c r =>
  have h4 := h3 c (by rw [hd]; simp)
  have e : ∀ d : UInt8, d.toNat < 48 → c ≠ d := fun d hd he => by subst he; omega
  simp only [List.head?_cons, Bool.and_eq_true, bne_iff_ne, ne_eq]
  exact ⟨fun h => e 40 (by decide) (List.cons.inj h).1, fun h => e 41 (by decide) (List.cons.inj h).1, fun h => e 35 (by decide) (Option.some.inj h)⟩
theorem plS_tok {l : List Nd} (hT : Tr l) (h9 : ∀ i, (hi : i < l.length) → l[i].op ≠ 9) : ∀ n i f, l.length ≤ i + n → l.length ≤ i + f → i ≤ l.length → plS (l.drop i) = (posAt l i).map fun j => plW (tokT l (l.length - j) j) := by
 intro n
 induction n with
 | zero =>
  intro i f h1 h2 h3
  rw [List.drop_eq_nil_of_le (by omega), posAt_ge (by omega)]; rfl
 | succ n ih =>
  intro i f h1 h2 h3
  by_cases hi : i < l.length
  ·have hk := hT.kidsP hi
   have hm : (manyL l).getD i 0 = (manyF l[i].op l[i].n).toNat := manyL_at hi rfl
   have hone := hT.one _ (List.getElem_mem hi)
   have hr := hT.room i hi
   have hlow : ∀ j, (hj : j < l.length) → 0 < j → l[j].op ≤ 6 := fun j hj h0 => hT.low hj h0
   rw [List.drop_eq_getElem_cons hi, plS, ih (i + 1) f (by omega) (by omega) hi, posAt_lt hi, List.map_cons, List.map_drop, ← hm, ← List.map_take]
   rw [show (posAt l (i + 1)).take ((manyL l).getD i 0) = kidsAt l i from rfl]
   congr 1
   obtain ⟨g, hg⟩ : ∃ g, l.length - i = g + 1 := ⟨l.length - i - 1, by omega⟩
   rw [hg, tokT, getD_at hi]
   -- the kids' words, whatever the fuel
   have hfu : ∀ j, i < j → j < l.length → tokT l g j = tokT l (l.length - j) j := fun j h1 h2 => tok_fuel hT h9 g (l.length - j) j (by omega) (by omega) h2
   have hkl : (kidsAt l i).length = (manyL l).getD i 0 := by unfold kidsAt; rw [List.length_take]; omega
   have hkn : ∀ j x y, (kidsAt l i)[j]? = some x → (kidsAt l i)[j + 1]? = some y → y = tEnd l x := fun j x y h1 h2 => by
    unfold kidsAt at h1 h2
    rw [List.getElem?_take] at h1 h2
    split at h1
    ·split at h2
     ·exact posAt_next j x y h1 h2
     ·cases h2
    ·cases h1
   have hkm : ∀ j ∈ kidsAt l i, i < j ∧ j < l.length := fun j hj => by
    have := posAt_bd l (i + 1) j (List.mem_of_mem_take hj)
    omega
   have hkh : (kidsAt l i).head? = some (i + 1) ∨ kidsAt l i = [] := by
    cases hq : kidsAt l i with
    | nil => exact .inr rfl
    | cons x r =>
     left
     have h0 : 0 < (posAt l (i + 1)).length := by rw [hq] at hkl; simp only [List.length_cons] at hkl; omega
     have hh := headN_of (l := l) (k := i + 1) (by omega)
     have : (posAt l (i + 1)).head? = some x := by
      unfold kidsAt at hq
      have := congrArg List.head? hq
      rw [List.head?_take, if_neg (fun hz => by rw [hz, List.take_zero] at hq; cases hq)] at this
      exact this
     unfold headN at hh
     cases hp : posAt l (i + 1) with
     | nil => rw [hp] at h0; simp at h0
     | cons z t =>
      rw [hp] at hh this
      simp at hh this
      rw [← this, hh]; rfl
   have hop : 1 ≤ l[i].op ∧ l[i].op ≤ 9 := by
    by_cases hc : l[i].op < 1 ∨ 9 < l[i].op
    ·rw [treeOne, if_pos (by rcases hc with h | h; exact .inl h; exact .inr (.inl h))] at hone; cases hone
    ·omega
   have h9i := h9 i hi
   rw [hm] at hk hkl
   have hml : plW (kidsK (tokT l g) (tEnd l) (i + 1) (kidsAt l i).length) = joinC ((kidsAt l i).map fun j => plW (tokT l g j)) := kidsK_pl _ _ hkn hkh
   have hmf : ((kidsAt l i).map fun j => plW (tokT l g j)) = (kidsAt l i).map fun j => plW (tokT l (l.length - j) j) := List.map_congr_left fun j hj => by
    obtain ⟨a1, a2⟩ := hkm j hj
    rw [hfu j a1 a2]
   rw [hkl, hmf] at hml
   have hlm : ((kidsAt l i).map fun j => plW (tokT l (l.length - j) j)).length = (manyF l[i].op l[i].n).toNat := by rw [List.length_map, hkl]
   generalize hK : ((kidsAt l i).map fun j => plW (tokT l (l.length - j) j)) = K at *
   have hK1 : ∀ x, 0 < (manyF l[i].op l[i].n).toNat → K[0]? = some x → x = plW (tokT l g (i + 1)) := by
    intro x h0 hx
    rw [← hK, List.getElem?_map] at hx
    rcases hkh with hkh | hkh
    ·rw [List.head?_eq_getElem?] at hkh
     rw [hkh] at hx
     simp at hx
     obtain ⟨a1, a2⟩ := hkm (i + 1) (List.mem_of_getElem? hkh)
     rw [← hx, hfu _ a1 a2]
    ·rw [hkh] at hkl; simp at hkl; omega
   have hK2 : ∀ x, 1 < (manyF l[i].op l[i].n).toNat → K[1]? = some x → x = plW (tokT l g (tEnd l (i + 1))) := by
    intro x h0 hx
    rw [← hK, List.getElem?_map] at hx
    have h1 : 1 < (kidsAt l i).length := by omega
    rcases hkh with hkh | hkh
    ·rw [List.head?_eq_getElem?] at hkh
     have e := hkn 0 (i + 1) _ hkh (List.getElem?_eq_getElem h1)
     rw [List.getElem?_eq_getElem h1] at hx
     simp at hx
     obtain ⟨a1, a2⟩ := hkm _ (List.getElem_mem h1)
     rw [e] at hx a1 a2
     rw [← hx, hfu _ a1 a2]
    ·rw [hkh] at hkl; simp at hkl; omega
   clear hkh hkn hmf hkl hK hr hm
   generalize l[i].op = op at *
   generalize l[i].n = n at *
   generalize l[i].text = t at *
   have hcs : op = 1 ∨ op = 2 ∨ op = 3 ∨ op = 4 ∨ op = 5 ∨ op = 6 ∨ op = 7 ∨ op = 8 := by omega
   rcases hcs with rfl | rfl | rfl | rfl | rfl | rfl | rfl | rfl
   ·obtain ⟨n0, n1⟩ := tone_num hone
    simp only [ownP, if_true]
    exact (plW_one (plain_num n0 n1)).symm
   ·simp only [ownP, show ¬ (2 : Int) = 1 by decide, if_false, if_true]
    exact (plW_one (plain_name (tone_word hone rfl (by decide)))).symm
   ·rw [show manyF 3 n = n from rfl] at hml
    have hw := plW_one (plain_name (tone_word hone rfl (by decide)))
    simp only [ownP, show ¬ (3 : Int) = 1 by decide, show ¬ (3 : Int) = 2 by decide, if_false, if_true]
    rw [plW_cons t.data.toList, plW_cons [40], plW_app, hw, hml, show plW [[40]] = [] from rfl, show plW [[41]] = [] from rfl]
    simp
   ·rw [show manyF 4 n = n from rfl] at hml
    simp only [ownP, show ¬ (4 : Int) = 1 by decide, show ¬ (4 : Int) = 2 by decide, show ¬ (4 : Int) = 3 by decide, if_false, if_true]
    rw [plW_cons [91], plW_app, hml, show plW [[91]] = [[91]] from rfl, show plW [[93]] = [[93]] from rfl]
    simp
   ·rw [show (manyF 5 n).toNat = 2 from rfl] at hlm hK1 hK2
    match K, hlm with
    | [a, b], _ =>
     rw [hK1 a (by omega) rfl, hK2 b (by omega) rfl]
     simp only [ownP, show ¬ (5 : Int) = 1 by decide, show ¬ (5 : Int) = 2 by decide, show ¬ (5 : Int) = 3 by decide, show ¬ (5 : Int) = 4 by decide, if_false, if_true]
     rw [plW_app, plW_cons [43], kidK_pl, kidK_pl, show plW [[43]] = [[43]] from rfl]
     rfl
   ·rw [show (manyF 6 n).toNat = 2 from rfl] at hlm hK1 hK2
    match K, hlm with
    | [a, b], _ =>
     rw [hK1 a (by omega) rfl, hK2 b (by omega) rfl]
     simp only [ownP, show ¬ (6 : Int) = 1 by decide, show ¬ (6 : Int) = 2 by decide, show ¬ (6 : Int) = 3 by decide, show ¬ (6 : Int) = 4 by decide, show ¬ (6 : Int) = 5 by decide, if_false, if_true]
     rw [plW_app, plW_cons [42], kidK_pl, kidK_pl, show plW [[42]] = [[42]] from rfl]
     rfl
   ·rw [show (manyF 7 n).toNat = 1 from rfl] at hlm hK1
    match K, hlm with
    | [a], _ =>
     have hw := plW_one (plain_name (tone_word hone rfl (by decide)))
     rw [hK1 a (by omega) rfl]
     simp only [ownP, show ¬ (7 : Int) = 1 by decide, show ¬ (7 : Int) = 2 by decide, show ¬ (7 : Int) = 3 by decide, show ¬ (7 : Int) = 4 by decide, show ¬ (7 : Int) = 5 by decide, show ¬ (7 : Int) = 6 by decide, if_false, if_true]
     rw [plW_cons [108, 101, 116], plW_cons t.data.toList, plW_cons [61], plW_app, hw, show plW [[108, 101, 116]] = [[108, 101, 116]] from rfl, show plW [[61]] = [[61]] from rfl, show plW [[59]] = [[59]] from rfl]
     rfl
   ·rw [show (manyF 8 n).toNat = 1 from rfl] at hlm hK1
    match K, hlm with
    | [a], _ =>
     rw [hK1 a (by omega) rfl]
     simp only [ownP, show ¬ (8 : Int) = 1 by decide, show ¬ (8 : Int) = 2 by decide, show ¬ (8 : Int) = 3 by decide, show ¬ (8 : Int) = 4 by decide, show ¬ (8 : Int) = 5 by decide, show ¬ (8 : Int) = 6 by decide, show ¬ (8 : Int) = 7 by decide, if_false]
     rw [plW_app, show plW [[59]] = [[59]] from rfl]
     rfl
  ·rw [List.drop_eq_nil_of_le (by omega), posAt_ge (by omega)]; rfl
end Go.Proofs.YtddfdmopaeghnaaGreatDoor
namespace Go.Proofs.YtddfdmopaeghnaaGreatDoor
def valN (w : List UInt8) : Nat := w.foldl (fun n c => n * 10 + (c.toNat - 48)) 0
theorem fold_intT : ∀ (w : List UInt8) (a : Nat), (∀ c ∈ w, digC c = true) → w.foldl (fun (n : Int) c => n * 10 + ((c.toNat : Int) - 48)) (a : Int) = ((w.foldl (fun n c => n * 10 + (c.toNat - 48)) a : Nat) : Int)
 | [], a, _ => rfl
 | c :: r, a, h => by
  have hc : 48 ≤ c.toNat ∧ c.toNat ≤ 57 := by simpa [digC] using h c (by simp)
  rw [List.foldl_cons, List.foldl_cons, ← fold_intT r _ (fun z hz => h z (by simp [hz]))]
  congr 1
  omega
theorem dec_digs : ∀ (n : Nat) (w : List UInt8), w.length = n + 1 → (∀ c ∈ w, digC c = true) → (w.length = 1 ∨ w.head? ≠ some 48) → Lib.decDigits (valN w) = w := by
 intro n
 induction n with
 | zero =>
  intro w hl hd _
  match w, hl with
  | [c], _ =>
   have hc : 48 ≤ c.toNat ∧ c.toNat ≤ 57 := by simpa [digC] using hd c (by simp)
   have hv : valN [c] = c.toNat - 48 := by simp [valN]
   rw [hv, Lib.decDigits_one (by omega), show 48 + (c.toNat - 48) = c.toNat by omega, UInt8.ofNat_toNat]
 | succ n ih =>
  intro w hl hd hh
  have hne : w ≠ [] := fun e => by rw [e] at hl; simp at hl
  have hw := List.dropLast_concat_getLast hne
  generalize w.dropLast = v at *
  generalize w.getLast hne = c at *
  subst hw
  have hvl : v.length = n + 1 := by simpa using hl
  have hvd : ∀ z ∈ v, digC z = true := fun z hz => hd z (by simp [hz])
  have hc : 48 ≤ c.toNat ∧ c.toNat ≤ 57 := by simpa [digC] using hd c (by simp)
  have hvh : v.head? ≠ some 48 := by
   rcases hh with h | h
   ·rw [List.length_append] at h; simp at h; simp [h] at hvl
   ·cases v with
    | nil => simp at hvl
    | cons x r => simpa using h
  have h1 := ih v hvl hvd (.inr hvh)
  have hpos : 0 < valN v := by
   rcases Nat.eq_zero_or_pos (valN v) with h0 | h0
   ·rw [h0, Lib.decDigits_one (by omega)] at h1
    exact absurd (by rw [← h1]; rfl) hvh
   ·exact h0
  have hv : valN (v ++ [c]) = valN v * 10 + (c.toNat - 48) := by simp [valN]
  rw [hv, Lib.decDigits, dif_neg (by omega), show (valN v * 10 + (c.toNat - 48)) / 10 = valN v by omega, show (valN v * 10 + (c.toNat - 48)) % 10 = c.toNat - 48 by omega, h1, show 48 + (c.toNat - 48) = c.toNat by omega, UInt8.ofNat_toNat]
theorem wordOk_zero {w : List UInt8} (h : WordOk w) {c : UInt8} {r : List UInt8} (e : w = c :: r) (hc : digB c = true) : w.length = 1 ∨ w.head? ≠ some 48 := by
 obtain ⟨h1, h2, h3⟩ := dig_nb hc
 have hl := h.lex 0
 subst e
 cases hb : (firstW (c :: r)).2 with
 | false => rw [lexL_bad h1 hb] at hl; simp at hl
 | true =>
  rw [lexL_word h1 hb] at hl
  have hh : trimR ((c :: r).take (firstW (c :: r)).1) = c :: r := by
   have := congrArg (fun x => x.1.head?.map (·.2)) hl
   simpa using this
  have hn : (c :: r).length ≤ (firstW (c :: r)).1 := by
   have a1 := trimR_le ((c :: r).take (firstW (c :: r)).1)
   rw [hh, List.length_take] at a1
   omega
  have hf : firstW (c :: r) = (runB digB (c :: r), decide (runB digB (c :: r) ≤ 6) && (decide (runB digB (c :: r) = 1) || !(c == 48))) := by
   rw [firstW_cons, if_neg (by rw [h3]; decide), if_pos hc]
  rw [hf] at hb hn
  simp only [Bool.and_eq_true, Bool.or_eq_true, decide_eq_true_eq, Bool.not_eq_true', beq_eq_false_iff_ne, ne_eq] at hb
  simp only at hn
  rcases hb.2 with h5 | h5
  ·left
   simp only [List.length_cons] at hn ⊢
   omega
  ·right
   simpa using h5
theorem wordsB_nmW (s : ByteArray) : NmW (wordsB s) := by
 intro j hj
 have hlt := digW_lt hj
 rw [wordsB_len] at hlt
 rw [wordsB_at hlt] at hj ⊢
 have hw := lex_words _ 0 s.data.toList (Nat.le_refl _) _ (List.getElem_mem (l := lexWs s) hlt)
 generalize ((lexWs s)[j]).2 = w at *
 unfold digW at hj
 simp only at hj
 cases w with
 | nil => simp at hj
 | cons c r =>
  simp only at hj
  obtain ⟨g1, g2⟩ := wordOk_dig hw rfl hj
  have g3 := wordOk_zero hw rfl hj
  have g4 : ∀ z ∈ c :: r, digC z = true := fun z hz => List.all_eq_true.1 g1 z hz
  have hnv : numW ⟨(c :: r).toArray⟩ = (valN (c :: r) : Nat) := by
   unfold numW valN
   simp only
   exact fold_intT (c :: r) 0 g4
  rw [hnv, Lib.itoa, if_neg (by omega)]
  simp only [Int.toNat_natCast]
  exact dec_digs r.length _ rfl g4 g3
theorem segP_hash {ws : List ByteArray} {k : Nat} (h : hashW (wdAt ws k) = true) : segP ws k (k + 1) = [] := by
 rw [segP_one (hashW_lt h)]
 unfold hashW at h
 cases hd : (wdAt ws k).data.toList with
 | nil => rw [hd] at h; simp [Lib.hasPrefix] at h
 | cons c r =>
  rw [hd] at h
  have : c = 35 := by have := h; simp [Lib.hasPrefix] at this; exact this.symm
  subst this
  simp [plW, plB]
theorem notes_pl (ws : List ByteArray) : ∀ (f : Nat) (out : List ByteArray) (k : Nat), k ≤ (notesP ws f out k).2 ∧ segP ws k (notesP ws f out k).2 = [] := by
 intro f
 induction f with
 | zero => intro out k; exact ⟨Nat.le_refl _, segP_none _ _⟩
 | succ f ih =>
  intro out k
  rw [notesP]
  split
  ·rename_i hh
   obtain ⟨h1, h2⟩ := ih (out ++ fldW (wdAt ws k)) (k + 1)
   refine ⟨by omega, ?_⟩
   rw [← segP_app (b := k + 1) (by omega) h1, segP_hash hh, h2]; rfl
  ·exact ⟨Nat.le_refl _, segP_none _ _⟩
def plT (t : List Nd) : List (List UInt8) := if opAt t 0 = 9 then [] else plW (tokT t t.length 0)
theorem stmt_plT {ws : List ByteArray} (hn : NmW ws) {k k' : Nat} {x : List Nd} (hk : k ≤ ws.length) (e : stmtP ws k = .ok (x, k')) (h0 : treeF x = 0) : plT x = segP ws k k' ∧ k < k' ∧ k' ≤ ws.length := by
 obtain ⟨g1, g2, c1⟩ := stmt_pl hn hk e
 have hp := tree_pos h0
 have h9 : opAt x 0 ≠ 9 := by
  rw [stmtP] at e
  split at e
  ·split at e
   ·cases e
   split at e
   ·cases e
   split at e
   ·cases e
   ·split at e
    ·cases e; exact (by decide : (7 : Int) ≠ 9)
    ·cases e
  ·split at e
   ·cases e
   ·split at e
    ·cases e; exact (by decide : (8 : Int) ≠ 9)
    ·cases e
 have hT := Tr.of_check h0
 have h9' := h9
 rw [opAt_of hp] at h9'
 have h := plS_tok hT (fun i hi' => by
  by_cases hz : i = 0
  ·subst hz; exact h9'
  ·have := hT.low hi' (by omega); omega) x.length 0 x.length (by omega) (by omega) (by omega)
 rw [List.drop_zero, c1, hT.root] at h
 simp only [List.map_cons, List.map_nil, Nat.sub_zero, List.cons.injEq, and_true] at h
 exact ⟨by rw [plT, if_neg h9, h], g1, g2⟩
theorem progP_pl {ws : List ByteArray} (hn : NmW ws) : ∀ (j k : Nat) (out p : List (List Nd)), k ≤ ws.length → ws.length ≤ k + j → progP ws j out k = .ok p → ∃ q, p = out ++ q ∧ ((∀ t ∈ q, treeF t = 0) → q.flatMap plT = segP ws k ws.length) := by
 intro j
 induction j with
 | zero =>
  intro k out p hk hj e
  rw [progP] at e; cases e
  obtain rfl : k = ws.length := by omega
  exact ⟨[], by simp, fun _ => (segP_none _ _).symm⟩
 | succ j ih =>
  intro k out p hk hj e
  by_cases hlt : k < ws.length
  ·cases hh : hashW (wdAt ws k) with
   | true =>
    rw [progP_note hh] at e
    have hg := note_goes hh
    obtain ⟨q, h1, h2⟩ := ih _ _ _ hg.2 (by omega) e
    refine ⟨(noteP ws k).1 :: q, by rw [h1]; simp, fun hq => ?_⟩
    have h3 := h2 (fun t ht => hq t (by simp [ht]))
    have h4 := (notes_pl ws ws.length [] k).2
    have h5 : plT (noteP ws k).1 = [] := rfl
    rw [List.flatMap_cons, h5, h3, ← segP_app (a := k) (b := (noteP ws k).2) (by omega) hg.2]
    show _ = segP ws k (notesP ws ws.length [] k).2 ++ _
    rw [h4]
   | false =>
    cases hs : stmtP ws k with
    | error x => rw [progP_bad hlt hh hs] at e; cases e
    | ok r =>
     obtain ⟨x, k'⟩ := r
     rw [progP_stmt hlt hh hs] at e
     obtain ⟨g1, g2, _⟩ := stmt_pl hn hk hs
     obtain ⟨q, h1, h2⟩ := ih _ _ _ g2 (by omega) e
     refine ⟨x :: q, by rw [h1]; simp, fun hq => ?_⟩
     have h3 := h2 (fun t ht => hq t (by simp [ht]))
     have h4 := (stmt_plT hn hk hs (hq x (by simp))).1
     rw [List.flatMap_cons, h3, h4, segP_app (by omega) g2]
  ·rw [progP_end (by omega)] at e
   cases e
   obtain rfl : k = ws.length := by omega
   exact ⟨[], by simp, fun _ => (segP_none _ _).symm⟩
def plTx (s : ByteArray) : List (List UInt8) := plW ((wordsB s).map (·.data.toList))
theorem segP_all (ws : List ByteArray) : segP ws 0 ws.length = plW (ws.map (·.data.toList)) := by
 unfold segP
 rw [List.take_length, List.drop_zero]
theorem parsed_pl {s : ByteArray} {k : Nat} {p : List (List Nd)} (h : parseF s = (0, k, p)) : plTx s = p.flatMap plT := by
 have h0 := (parsed_words (s := s) (by rw [h])).1
 rw [h] at h0
 simp only at h0
 by_cases hE : (lexE s).1 = 0
 ·cases hp : progP (wordsB s) (wordsB s).length [] 0 with
  | error x => rw [parseF_bad hE hp] at h; cases h
  | ok l =>
   by_cases hq : (progF l).2 = 0
   ·rw [parseF_ok hE hp hq] at h
    cases h
    obtain ⟨q, e, hc⟩ := progP_pl (wordsB_nmW s) _ _ _ _ (Nat.zero_le _) (by omega) hp
    rw [List.nil_append] at e
    subst e
    rw [hc (progF_facts h0).2.1, segP_all]; rfl
   ·rw [parseF_tree hE hp hq] at h
    injection h with h1
    exact absurd h1 hq
 ·rw [parseF_lex hE] at h
  injection h with h1
  exact absurd h1 hE
theorem plW_hash {tk : List (List UInt8)} (h : ∀ w ∈ tk, w.head? = some 35) : plW tk = [] := by
 unfold plW
 rw [List.filter_eq_nil_iff]
 intro w hw
 have := h w hw
 simp [plB, this]
theorem piece_pl {z : List Nd × List (List UInt8)} (hK : PcK z.1 z.2) : plW z.2 = plT z.1 := by
 rcases hK with ⟨h9, e⟩ | ⟨x, e, hN⟩
 ·rw [plT, if_neg h9, e]
 ·rw [plT, if_pos (by rw [e]; rfl), plW_hash (noteK_ne hN).2]
theorem pieces_pl : ∀ {q : List (List Nd × List (List UInt8))}, (∀ z ∈ q, PcK z.1 z.2) → plW (q.flatMap (·.2)) = (q.map (·.1)).flatMap plT
 | [], _ => rfl
 | z :: q, h => by
  rw [List.flatMap_cons, plW_app, List.map_cons, List.flatMap_cons, piece_pl (h z (by simp)), pieces_pl (q := q) (fun y hy => h y (by simp [hy]))]
theorem form_pl {p : List (List Nd)} {W : Int} (h0 : (progF p).2 = 0) (h : formE W p = 0) : plTx (formT W p) = p.flatMap plT := by
 have hf := progF_facts h0
 have hq := formE_all h
 obtain ⟨q, q1, q2, q3⟩ := print_lx (fun u => oneX u W) hf.2.1 (fun u hu => (oneX_lx (hq u hu)).1)
 rw [← formT_bytes] at q3
 have h1 := wordsB_lx q3
 unfold plTx
 rw [h1, ← q1, ← pieces_pl (fun z hz => (q2 z hz).2)]
 congr 1
 unfold toB
 rw [List.map_map]
 exact List.map_id'' (fun w => rfl) _
end Go.Proofs.YtddfdmopaeghnaaGreatDoor
namespace Go.Proofs.YtddfdmopaeghnaaGreatDoor
open Go.RowKit
def plainS (t : ByteArray) : Bool := plB t.data.toList
theorem bytes_ne (t : ByteArray) (c : List UInt8) : (t.toList != c) = (t.data.toList != c) := by rw [ByteArray.toList_eq]
theorem head_0 {t : ByteArray} (h : 0 < t.size) : t.data.toList.head? = some t[0] := by
 rw [List.head?_eq_getElem?]
 have h1 : 0 < t.data.toList.length := by simpa using h
 rw [List.getElem?_eq_getElem h1]
 rfl
theorem byte_ne (a b : UInt8) : ((a.toNat : Int) != (b.toNat : Int)) = (a != b) := by
 rw [Bool.eq_iff_iff]
 simp only [bne_iff_ne, ne_eq]
 constructor
 ·intro h e; exact h (by rw [e])
 ·intro h e; exact h (UInt8.toNat_inj.1 (by omega))
theorem filter_step {l : List ByteArray} {k : Nat} (hk : k < l.length) : (l.take (k + 1)).filter plainS = (l.take k).filter plainS ++ (if plainS l[k] = true then [l[k]] else []) := by
 rw [List.take_add_one, List.getElem?_eq_getElem hk, List.filter_append]
 congr 1
 cases h : plainS l[k] <;> simp [h]
theorem txs_own {w : World} {B : Nat} {A : Option Addr} {c : Nat} {l : List ByteArray} (h : w.ownsRow B 9 1 (.slice A l.length c) l.length (l.map .string)) (hn : l.length ≤ 60000) (hz : ∀ t ∈ l, t.size ≤ maxLen) : Txs w w.heap.size A l :=
 ⟨Sl.of_own h, by simp only [maxLen]; omega, hz⟩
set_option maxRecDepth 100000 in
set_option maxHeartbeats 4000000 in
theorem plain_any (l : List ByteArray) (n : Nat) (hn : l.length = n) (A : Option Addr) (c : Nat) (w : World) (hl : Txs w w.heap.size A l) (hne : ∀ t ∈ l, 0 < t.size) (hsm : n ≤ 60000) :
  Calls Tryz.prog 7 #[.slice A n c] w (fun e w' => ∃ B d, e = .returned (.slice B (l.filter plainS).length d) ∧ Txs w' w'.heap.size B (l.filter plainS) ∧ Below w.heap.size w w') := by
 have HL := Lib.hid hl; have HNE := Lib.hid hne; have HN := Lib.hid hn
 obtain ⟨iS, hiS, hzS, hzS1, hzS2⟩ := info_parts str_info
 clear hl hne hn
 go_enter Tryz.func7, Tryz.ntmps7
 go_wp2
 go_loopw [3, 4] (fun out i wr => ∃ (k : Nat) (done : List ByteArray), k ≤ n ∧ i = .int .i64 k ∧ Hid (done = (l.take k).filter plainS) ∧ done.length ≤ k ∧ Hid (wr.ownsRow w.heap.size 9 1 out done.length (done.map .string)) ∧ Below w.heap.size w wr) (fun _ i _ => n - (intOf i).toNat)
 case atStart => exact ⟨0, [], by omega, rfl, Lib.hid (by simp), Nat.le_refl _, Lib.hid (World.ownsRow_nil _ _ _ _), Below.refl _ _⟩
 case round =>
  obtain ⟨k, done, hk, rfl, HD, hdl, HW, hB⟩ := hrel
  by_cases hlt : k < n
  ·have hkl : k < l.length := by rw [HN.out]; exact hlt
   obtain ⟨b, off, t, rfl, hb, ht, hts, hc⟩ := HL.out.one hB hkl
   have hpos : 0 < t.size := by rw [← ht]; exact HNE.out _ (List.getElem_mem hkl)
   have HST := Lib.hid (filter_step hkl)
   rw [ht, ← HD.out] at HST
   have hps : plainS t = ((t.toList != [40]) && ((t.toList != [41]) && ((t[0].toNat : Int) != 35))) := by
    rw [bytes_ne, bytes_ne, plainS, plB, head_0 hpos]
    congr 1
    congr 1
    rw [show ((35 : Int)) = (((35 : UInt8).toNat : Nat) : Int) from rfl, byte_ne]
    rw [Bool.eq_iff_iff]
    simp
   have HPS := Lib.hid hps
   clear hps ht hkl
   cases h40 : (t.toList != [40]) with
   | false =>
    have hf : (l.take (k + 1)).filter plainS = done := by rw [HST.out, HPS.out, h40]; simp
    have HF := Lib.hid hf
    have p40 : t.toList = [40] := by simpa using h40
    clear hf h40
    go_wp2
    go_roundw
    case rel => exact ⟨k + 1, done, by omega, by go_num, Lib.hid HF.out.symm, by omega, HW, hB⟩
    case measure => simp [intOf]; omega
   | true =>
    have p40 : ¬ t.toList = [40] := by simpa using h40
    have q40 : (t.toList == [40]) = false := by simpa using h40
    cases h41 : (t.toList != [41]) with
    | false =>
     have hf : (l.take (k + 1)).filter plainS = done := by rw [HST.out, HPS.out, h40, h41]; simp
     have HF := Lib.hid hf
     have p41 : t.toList = [41] := by simpa using h41
     have p40' : ¬ ([41] : List UInt8) = [40] := by decide
     clear hf h40 h41
     go_wp2
     go_roundw
     case rel => exact ⟨k + 1, done, by omega, by go_num, Lib.hid HF.out.symm, by omega, HW, hB⟩
     case measure => simp [intOf]; omega
    | true =>
     have p41 : ¬ t.toList = [41] := by simpa using h41
     have q41 : (t.toList == [41]) = false := by simpa using h41
     cases h35 : ((t[0].toNat : Int) != 35) with
     | false =>
      have hf : (l.take (k + 1)).filter plainS = done := by rw [HST.out, HPS.out, h40, h41, h35]; simp
      have HF := Lib.hid hf
      have p35 : (t[0].toNat : Int) = 35 := by simpa using h35
      have p35n : t[0].toNat = 35 := by omega
      clear hf h40 h41
      go_wp2
      go_roundw
      case rel => exact ⟨k + 1, done, by omega, by go_num, Lib.hid HF.out.symm, by omega, HW, hB⟩
      case measure => simp [intOf]; omega
     | true =>
      have hf : (l.take (k + 1)).filter plainS = done ++ [t] := by rw [HST.out, HPS.out, h40, h41, h35]; simp
      have HF := Lib.hid hf
      have hsz := hB.size
      have p35 : ¬ (t[0].toNat : Int) = 35 := by simpa using h35
      have p35n : ¬ t[0].toNat = 35 := by omega
      clear hf h40 h41
      go_wp2_with (at_builtin; refine wpList_app _ rfl (.tmp 31) (.tmp 36) _ rfl w.heap.size 9 iS (.string .empty) 1 16 Tryz.underlying27 hiS hzS hzS1 hzS2 rfl (by decide) _ done.length _ rfl (HW.out.alloc _) _ _ 1 1 [.string t] rfl (Sl.lit (sz := 1) _ #[.string t] 9 1 rfl) (by simp [Value.oneCell']) (by simp only [maxLen]; omega) (by omega) (by simp; omega) ?_; intro v3 w3 hown3 hgr3 _; have hB3 : Below w.heap.size w w3 := below_app (hB.alloc hsz _) (HW.out.alloc _) hgr3 (hB.alloc hsz _).size (Nat.le_refl _); have HO3 := Lib.hid hown3; clear hown3 hgr3)
      go_roundw
      case measure => simp [intOf]; omega
      case rel =>
       refine ⟨k + 1, done ++ [t], by omega, by go_num, Lib.hid HF.out.symm, by simp; omega, Lib.hid ?_, hB3⟩
       rw [List.length_append, List.map_append]
       exact HO3.out
  ·have hdk : done = l.filter plainS := by rw [HD.out, List.take_of_length_le (by rw [HN.out]; omega)]
   subst hdk
   obtain ⟨A3, c3, rfl⟩ := own_slice HW.out
   have HTX := Lib.hid (txs_own HW.out (by omega) (fun t ht => HL.out.2.2 t (List.mem_filter.1 ht).1))
   go_wp2
   go_ret
   exact ⟨A3, c3, rfl, HTX.out, hB⟩
end Go.Proofs.YtddfdmopaeghnaaGreatDoor
namespace Go.Proofs.YtddfdmopaeghnaaGreatDoor
open Go.RowKit
set_option maxHeartbeats 1000000 in
theorem texts_same (a : List ByteArray) (n : Nat) (e1 : a.length = n) (A B : Option Addr) (c d : Nat) (w : World) (ha : Txs w w.heap.size A a) (hb : Txs w w.heap.size B a) :
  Calls Tryz.prog 8 #[.slice A n c, .slice B n d] w (Ret w (.bool true)) := by
 have hm := ha.2.1
 unfold maxLen at hm
 have HA := Lib.hid ha; clear ha
 have HB := Lib.hid hb; clear hb
 go_enter Tryz.func8, Tryz.ntmps8
 go_wp2
 go_loopw [5] (fun i wr => ∃ k : Nat, k ≤ n ∧ i = .int .i64 k ∧ Below w.heap.size w wr) (fun i _ => n - (intOf i).toNat)
 case atStart => exact ⟨0, by omega, rfl, Below.refl _ _⟩
 case round =>
  obtain ⟨k, hk, rfl, hBw⟩ := hrel
  by_cases hlt : k < n
  ·obtain ⟨b1, off, t, rfl, hb, ht, hts, d1⟩ := HA.out.one hBw (k := k) (by omega)
   obtain ⟨b2, off2, t2, rfl, hb2, ht2, hts2, d4⟩ := HB.out.one hBw (k := k) (by omega)
   obtain rfl : t = t2 := by rw [← ht, ← ht2]
   clear ht ht2
   go_wp2
   go_quiet (fail)
   go_wp2
   go_roundw
   case rel => exact ⟨k + 1, by omega, by go_num, below_drewN hBw _⟩
   case measure => simp [intOf]; omega
  ·go_wp2
   go_ret
   exact ⟨rfl, hBw⟩
end Go.Proofs.YtddfdmopaeghnaaGreatDoor
namespace Go.Proofs.YtddfdmopaeghnaaGreatDoor
open Go.RowKit
theorem plTx_is (s : ByteArray) : plTx s = ((wordsB s).filter plainS).map (·.data.toList) := by
 unfold plTx plW
 rw [List.filter_map]
 rfl
theorem plTx_same {s t : ByteArray} (h : plTx s = plTx t) : (wordBs (lexWs s)).filter plainS = (wordBs (lexWs t)).filter plainS := by
 rw [plTx_is, plTx_is] at h
 have hinj : ∀ a b : ByteArray, a.data.toList = b.data.toList → a = b := fun a b e => ByteArray.ext (Array.toList_inj.1 e)
 have key : ∀ x y : List ByteArray, x.map (·.data.toList) = y.map (·.data.toList) → x = y := by
  intro x
  induction x with
  | nil => intro y e; cases y with
   | nil => rfl
   | cons b y => simp at e
  | cons a x ih => intro y e; cases y with
   | nil => simp at e
   | cons b y =>
    rw [List.map_cons, List.map_cons] at e
    injection e with e1 e2
    rw [hinj a b e1, ih y e2]
 exact key _ _ h
theorem words_pos (s : ByteArray) : ∀ t ∈ wordBs (lexWs s), 0 < t.size := by
 intro t ht
 obtain ⟨p, hp, rfl⟩ := List.mem_map.1 ht
 have := lex_pos _ 0 s.data.toList (Nat.le_refl _) p hp
 simpa [ByteArray.size] using this
set_option maxRecDepth 100000 in
set_option maxHeartbeats 4000000 in
theorem topWords_bad (s : ByteArray) (W : Int) (w : World) (hs : s.size ≤ maxLen) (hm : MaxL w) (hp : PowT w) (h : (fmtF s W).1 ≠ 0) :
  Calls Tryz.prog 3 #[.string s, .int .i64 W] w (Ret w (.bool true)) := by
 have HB : Hid (Below w.heap.size w w) := Lib.hid (Below.refl _ _)
 have HO := Lib.hid (fun (w' : World) (hB : Below w.heap.size w w') => topOne_any w' (hm.past hB) (hp.past hB))
 obtain ⟨f, k, T, hf⟩ : ∃ f k T, fmtF s W = (f, k, T) := ⟨_, _, _, rfl⟩
 rw [hf] at h
 have HF := Lib.hid (fun (w' : World) (hB : Below w.heap.size w w') => fmt_bad_is hf h w' hs (hm.past hB) (hp.past hB))
 clear hs hm hp h hf
 go_enter Tryz.func3, Tryz.ntmps3
 go_wp2_with (first
   | (go_at_call 4; (fail_if_success have z := T0); refine (HO.out _ HB.out).mono ?_; rintro e t0 ⟨rfl, hB⟩; have HB := Lib.hid (HB.out.trans (hB.mono HB.out.size)); clear hB; have T0 := Lib.hid True.intro)
   | (go_at_call 5; (have z := T0; clear z); (fail_if_success have z := T1); refine (HF.out _ HB.out).mono ?_; rintro e t1 ⟨rfl, hB⟩; have HB := Lib.hid (HB.out.trans (hB.mono HB.out.size)); clear hB; have T1 := Lib.hid True.intro))
 go_ret
 exact ⟨by first | rfl | (simp; done), HB.out⟩
set_option maxRecDepth 100000 in
set_option maxHeartbeats 8000000 in
theorem topWords_ok (s T : ByteArray) (W : Int) (k0 : Nat) (w : World) (hs : s.size ≤ maxLen) (hT : T.size ≤ maxLen) (hm : MaxL w) (hp : PowT w) (h0 : fmtF s W = (0, k0, T)) (e1 : (lexE s).1 = 0) (e2 : (lexE T).1 = 0) (he : plTx s = plTx T) :
  Calls Tryz.prog 3 #[.string s, .int .i64 W] w (Ret w (.bool true)) := by
 have HB : Hid (Below w.heap.size w w) := Lib.hid (Below.refl _ _)
 have HO := Lib.hid (fun (w' : World) (hB : Below w.heap.size w w') => topOne_any w' (hm.past hB) (hp.past hB))
 have HF := Lib.hid (fun (w' : World) (hB : Below w.heap.size w w') => fmt_ok_is h0 w' hs (hm.past hB) (hp.past hB))
 have HL1 := Lib.hid (fun (w' : World) (_ : Below w.heap.size w w') => lex_ok_t e1 w' hs)
 have HL2 := Lib.hid (fun (w' : World) (_ : Below w.heap.size w w') => lex_ok_t e2 w' hT)
 have hq := plTx_same he
 have c1 := lexWs_count e1
 have c2 := lexWs_count e2
 have p1 := words_pos s
 have p2 := words_pos T
 have l1 : (wordBs (lexWs s)).length = (lexWs s).length := by simp [wordBs]
 have l2 : (wordBs (lexWs T)).length = (lexWs T).length := by simp [wordBs]
 unfold LexOk at HL1 HL2
 obtain ⟨n1, f1⟩ : ∃ n, (lexWs s).length = n := ⟨_, rfl⟩
 obtain ⟨n2, f2⟩ : ∃ n, (lexWs T).length = n := ⟨_, rfl⟩
 rw [f1] at HL1 c1 l1
 rw [f2] at HL2 c2 l2
 generalize wordBs (lexWs s) = X at *
 generalize wordBs (lexWs T) = Y at *
 have HP1 := Lib.hid (fun (A : Option Addr) (c : Nat) (w' : World) (ht : Txs w' w'.heap.size A X) => plain_any X n1 l1 A c w' ht p1 c1)
 have HP2 := Lib.hid (fun (A : Option Addr) (c : Nat) (w' : World) (ht : Txs w' w'.heap.size A Y) => plain_any Y n2 l2 A c w' ht p2 c2)
 rw [← hq] at HP2
 have HT := Lib.hid (fun (A B : Option Addr) (c d : Nat) (w' : World) (ha : Txs w' w'.heap.size A (X.filter plainS)) (hb : Txs w' w'.heap.size B (X.filter plainS)) => texts_same (X.filter plainS) _ rfl A B c d w' ha hb)
 generalize X.filter plainS = Z at *
 clear hs hT hm hp h0 e1 e2 he hq c1 c2 p1 p2 l1 l2 f1 f2
 go_enter Tryz.func3, Tryz.ntmps3
 go_wp2_with (first
   | (go_at_call 4; (fail_if_success have z := T0); refine (HO.out _ HB.out).mono ?_; rintro e t0 ⟨rfl, hB⟩; have HB := Lib.hid (HB.out.trans (hB.mono HB.out.size)); clear hB; have T0 := Lib.hid True.intro)
   | (go_at_call 5; (have z := T0; clear z); (fail_if_success have z := T1); refine (HF.out _ HB.out).mono ?_; rintro e t1 ⟨rfl, hB⟩; have HB := Lib.hid (HB.out.trans (hB.mono HB.out.size)); clear hB; have T1 := Lib.hid True.intro)
   | (go_at_call 6; (have z := T1; clear z); (fail_if_success have z := T2); refine (HL1.out _ HB.out).mono ?_; rintro e t2 ⟨A1, c1, A2, c2, rfl, ht, -, hB⟩; have HX := Lib.hid ht; clear ht; have HB := Lib.hid (HB.out.trans (hB.mono HB.out.size)); clear hB; have T2 := Lib.hid True.intro)
   | (go_at_call 6; (have z := T2; clear z); (fail_if_success have z := T3); refine (HL2.out _ HB.out).mono ?_; rintro e t3 ⟨A3, c3, A4, c4, rfl, ht, -, hB⟩; have HX := Lib.hid (HX.out.past hB); have HY := Lib.hid ht; clear ht; have HB := Lib.hid (HB.out.trans (hB.mono HB.out.size)); clear hB; have T3 := Lib.hid True.intro)
   | (go_at_call 7; (have z := T3; clear z); (fail_if_success have z := T4); refine (HP1.out _ _ _ HX.out).mono ?_; rintro e t4 ⟨B1, d1, rfl, ht, hB⟩; have HY := Lib.hid (HY.out.past hB); have HZ1 := Lib.hid ht; clear ht; have HB := Lib.hid (HB.out.trans (hB.mono HB.out.size)); clear hB; have T4 := Lib.hid True.intro)
   | (go_at_call 7; (have z := T4; clear z); (fail_if_success have z := T5); refine (HP2.out _ _ _ HY.out).mono ?_; rintro e t5 ⟨B2, d2, rfl, ht, hB⟩; have HZ1 := Lib.hid (HZ1.out.past hB); have HZ2 := Lib.hid ht; clear ht; have HB := Lib.hid (HB.out.trans (hB.mono HB.out.size)); clear hB; have T5 := Lib.hid True.intro)
   | (go_at_call 8; (have z := T5; clear z); (fail_if_success have z := T6); refine (HT.out _ _ _ _ _ HZ1.out HZ2.out).mono ?_; rintro e t6 ⟨rfl, hB⟩; have HB := Lib.hid (HB.out.trans (hB.mono HB.out.size)); clear hB; have T6 := Lib.hid True.intro))
 go_ret
 exact ⟨by first | rfl | (simp; done), HB.out⟩
theorem topWords_any (s : ByteArray) (W : Int) (w : World) (hs : s.size ≤ maxLen) (hm : MaxL w) (hp : PowT w) :
  Calls Tryz.prog 3 #[.string s, .int .i64 W] w (Ret w (.bool true)) := by
 by_cases h : (fmtF s W).1 = 0
 ·obtain ⟨h1, h2, h3, h4⟩ := fmt_parts h
  obtain ⟨f, k, p, hs2⟩ : ∃ f k x, parseF s = (f, k, x) := ⟨_, _, _, rfl⟩
  have hw := parsed_words h2
  rw [hs2] at h2 h3 h4 hw
  simp only at h2 h3 h4 hw
  subst h2
  obtain ⟨h5, h6⟩ := parse_form hw.1 hw.2 h3
  exact topWords_ok s _ W _ w hs (by simp only [maxLen]; omega) hm hp h4 (parse_lex hs2) (parse_lex h5) (by rw [parsed_pl hs2, form_pl hw.1 h3])
 ·exact topWords_bad s W w hs hm hp h
end Go.Proofs.YtddfdmopaeghnaaGreatDoor
