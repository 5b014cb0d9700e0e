/- A desk's map of lines, read and written; each statement's line is its own. With what it rests on. Conditions: as each theorem states them. -/
import Derived.Test.YtddfdmopaeghnadGreatDoorTqPg
import Derived.Test.YtddfdmopaeghnadGreatDoorTqBc
import Derived.Maps.Keyed
import Derived.Deep.RegionHeld3
namespace Go.Proofs.YtddfdmopaeghnadGreatDoor
open Go.RowKit Go.Maps
theorem lineL_inj {u v : List Nd} (hu : treeF u = 0) (hv : treeF v = 0) (nu : nTok u ≤ 300) (nv : nTok v ≤ 300) (h : lineL u = lineL v) : u = v := by
 have one : ∀ x : List Nd, treeF x = 0 → nTok x ≤ 300 → parseF (lineL x ++ ⟨#[10]⟩) = (0, 0, [x]) := fun x hx nx => by
  have h0 : (progF [x]).2 = 0 := by rw [progF, if_neg (by simp), progK, if_neg (by simp [hx])]; simp [progK]
  have h1 := ((parse_print h0).2 (by simpa using nx)).1
  have h2 : printF [x] = lineL x ++ ⟨#[10]⟩ := by simp [printF, printL]
  rwa [h2] at h1
 have h1 := one u hu nu
 rw [h, one v hv nv] at h1
 injection h1 with _ h1
 injection h1 with _ h1
 injection h1 with h1
 exact h1.symm
theorem strLaw : Keyed Tryz.prog 9 := string_keyed Tryz.underlying9
theorem strKey {s : ByteArray} (hs : s.size ≤ maxLen) : ∃ l, keyOf Tryz.prog 9 (.string s) = some l := by
 refine ⟨.string s.data.toList, ?_⟩
 simp [keyOf, mapKey, Tryz.underlying9, hs]
theorem mapType : Tryz.prog.underlying 63 = some (.map 9 9) := by kernel_rfl
theorem strZero (w : World) : (zeroValue 9).run Tryz.prog w = .ok (.string .empty) w := by kernel_rfl
theorem nil_look {s : ByteArray} (hs : s.size ≤ maxLen) (w : World) : (Instr.lookup 63 (.map none) (.string s) true).run Tryz.prog w = .ok (.tuple #[.string .empty, .bool false]) w := by
 obtain ⟨l, hl⟩ := strKey hs
 have hf : (Instr.findKey 9 (.string s) []).run Tryz.prog w = .ok none w := by
  rcases strLaw.find w hl [] (fun e he => by cases he) with ⟨h, _⟩ | ⟨j, e, _, h, _⟩
  ·exact h
  ·simp at h
 simp [Instr.lookup, run_underlying mapType, strLaw.check w true hl, hf, Result.andThen]
 rfl
def KnownF (W : Int) (K : List ByteArray) (f : Value → Option Value) : Prop :=
 (∀ key v, f key = some v → ∃ u, treeF u = 0 ∧ nTok u ≤ 300 ∧ oneQ u W = 0 ∧ key = .string (lineL u) ∧ v = .string (oneX u W) ∧ lineL u ∈ K) ∧ ∀ x ∈ K, (f (.string x)).isSome = true
def KnownM (W : Int) (K : List ByteArray) (mv : Value) (w : World) : Prop :=
 (mv = .map none ∧ K = []) ∨ ∃ b f, mv = .map (some b) ∧ MapF Tryz.prog 9 f b w ∧ KnownF W K f
theorem KnownM.past {W : Int} {K : List ByteArray} {mv : Value} {w w' : World} (h : KnownM W K mv w) (hb : Below w.heap.size w w') : KnownM W K mv w' := by
 rcases h with h | ⟨b, f, h1, h2, h3⟩
 ·exact .inl h
 ·exact .inr ⟨b, f, h1, h2.below hb, h3⟩
theorem KnownF.at {W : Int} {K : List ByteArray} {f : Value → Option Value} (h : KnownF W K f) {u : List Nd} (hu : treeF u = 0) (nu : nTok u ≤ 300) :
  (lineL u ∈ K → f (.string (lineL u)) = some (.string (oneX u W)) ∧ oneQ u W = 0) ∧ (lineL u ∉ K → f (.string (lineL u)) = none) := by
 constructor
 ·intro hk
  cases hf : f (.string (lineL u)) with
  | none => have := h.2 _ hk; rw [hf] at this; cases this
  | some v =>
   obtain ⟨x, x1, x2, x3, x4, x5, x6⟩ := h.1 _ _ hf
   injection x4 with x4
   obtain rfl := lineL_inj hu x1 nu x2 x4
   exact ⟨by rw [x5], x3⟩
 ·intro hk
  cases hf : f (.string (lineL u)) with
  | none => rfl
  | some v =>
   obtain ⟨x, x1, x2, x3, x4, x5, x6⟩ := h.1 _ _ hf
   injection x4 with x4
   rw [x4] at hk
   exact absurd x6 hk
theorem KnownM.look {W : Int} {K : List ByteArray} {mv : Value} {w : World} (h : KnownM W K mv w) {u : List Nd} (hu : treeF u = 0) (nu : nTok u ≤ 300) (hs : (lineL u).size ≤ maxLen) :
  (lineL u ∈ K ∧ oneQ u W = 0 ∧ (Instr.lookup 63 mv (.string (lineL u)) true).run Tryz.prog w = .ok (.tuple #[.string (oneX u W), .bool true]) w) ∨
  (lineL u ∉ K ∧ (Instr.lookup 63 mv (.string (lineL u)) true).run Tryz.prog w = .ok (.tuple #[.string .empty, .bool false]) w) := by
 rcases h with ⟨rfl, rfl⟩ | ⟨b, f, rfl, h2, h3⟩
 ·exact .inr ⟨by simp, nil_look hs w⟩
 ·obtain ⟨l, hl⟩ := strKey hs
  have hlk := h2.look strLaw mapType (strZero w) hl
  obtain ⟨a1, a2⟩ := h3.at hu nu
  by_cases hk : lineL u ∈ K
  ·obtain ⟨b1, b2⟩ := a1 hk
   rw [b1] at hlk
   exact .inl ⟨hk, b2, hlk⟩
  ·rw [a2 hk] at hlk
   exact .inr ⟨hk, hlk⟩
theorem KnownF.put {W : Int} {K : List ByteArray} {f : Value → Option Value} (h : KnownF W K f) {u : List Nd} (hu : treeF u = 0) (nu : nTok u ≤ 300) (hq : oneQ u W = 0) : KnownF W (lineL u :: K) (putF f (.string (lineL u)) (.string (oneX u W))) := by
 refine ⟨fun key v hv => ?_, fun x hx => ?_⟩
 ·rcases putF_some hv with ⟨rfl, rfl⟩ | hv
  ·exact ⟨u, hu, nu, hq, rfl, rfl, by simp⟩
  ·obtain ⟨x, x1, x2, x3, x4, x5, x6⟩ := h.1 _ _ hv
   exact ⟨x, x1, x2, x3, x4, x5, by simp [x6]⟩
 ·by_cases he : x = lineL u
  ·subst he
   rw [putF_same]; rfl
  ·rw [putF_other f _ (by simpa using he)]
   rcases List.mem_cons.1 hx with hx | hx
   ·exact absurd hx he
   ·exact h.2 x hx
theorem KnownF.none_ (W : Int) : KnownF W [] (fun _ => none) := ⟨fun _ _ h => (by cases h), fun x hx => (by cases hx)⟩
open Classical in
noncomputable def newN (K : List ByteArray) : List ByteArray → List (List Nd) → Nat
 | _, [] => 0
 | S, u :: r => if lineL u ∈ S then newN K S r else (if lineL u ∈ K then 0 else 1) + newN K (lineL u :: S) r
open Classical in
noncomputable def seenL : List ByteArray → List (List Nd) → List ByteArray
 | S, [] => S
 | S, u :: r => if lineL u ∈ S then seenL S r else seenL (lineL u :: S) r
theorem seenL_all : ∀ {p : List (List Nd)} {S : List ByteArray}, (∀ x ∈ S, x ∈ seenL S p) ∧ ∀ u ∈ p, lineL u ∈ seenL S p
 | [], S => ⟨fun x hx => hx, fun u hu => by cases hu⟩
 | u :: r, S => by
  rw [seenL]
  split
  ·rename_i h
   obtain ⟨h1, h2⟩ := seenL_all (p := r) (S := S)
   exact ⟨h1, fun v hv => by rcases List.mem_cons.1 hv with rfl | hv; exact h1 _ h; exact h2 v hv⟩
  ·obtain ⟨h1, h2⟩ := seenL_all (p := r) (S := lineL u :: S)
   exact ⟨fun x hx => h1 x (by simp [hx]), fun v hv => by rcases List.mem_cons.1 hv with rfl | hv; exact h1 _ (by simp); exact h2 v hv⟩
end Go.Proofs.YtddfdmopaeghnadGreatDoor
namespace Go.Proofs.YtddfdmopaeghnadGreatDoor
open Go.RowKit Go.Maps
def SheetTo (W : Int) (P : Option Addr) (n c : Nat) (p : List (List Nd)) (K : List ByteArray) (w : World) (e : Ending) (w' : World) : Prop :=
 ∃ b f, e = .returned (.tuple #[.agg #[.int .i64 W, .slice P n c, .map (some b)], .int .i64 (newN K [] p : Nat), .nilIface]) ∧ MapF Tryz.prog 9 f b w' ∧ KnownF W (seenL [] p) f ∧ w.heap.size ≤ b ∧ Below w.heap.size w w'
def SheetNo (q : Int) (w : World) (e : Ending) (w' : World) : Prop :=
 e = .returned (.tuple #[.agg #[.int .i64 0, .slice none 0 0, .map none], .int .i64 0, .iface 24 (.int .i64 q)]) ∧ Below w.heap.size w w'
structure DkAt (W : Int) (p : List (List Nd)) (K : List ByteArray) (k : Nat) (S : List ByteArray) (n : Nat) : Prop where
 cnt : newN K [] p = n + newN K S (p.drop k)
 seen : seenL [] p = seenL S (p.drop k)
 err : formE W p = formE W (p.drop k)
theorem DkAt.start (W : Int) (p : List (List Nd)) (K : List ByteArray) : DkAt W p K 0 [] 0 := ⟨by simp, by simp, by simp⟩
theorem DkAt.old {W : Int} {p : List (List Nd)} {K S : List ByteArray} {k n : Nat} (h : DkAt W p K k S n) {u : List Nd} (hu : p[k]? = some u) (hS : lineL u ∈ S) (hq : oneQ u W = 0) : DkAt W p K (k + 1) S n := by
 obtain ⟨hk, rfl⟩ := List.getElem?_eq_some_iff.1 hu
 obtain ⟨h1, h2, h3⟩ := h
 rw [List.drop_eq_getElem_cons hk] at h1 h2 h3
 rw [newN, if_pos hS] at h1
 rw [seenL, if_pos hS] at h2
 rw [formE, if_neg (by simpa using hq)] at h3
 exact ⟨h1, h2, h3⟩
theorem DkAt.fresh {W : Int} {p : List (List Nd)} {K S : List ByteArray} {k n : Nat} (h : DkAt W p K k S n) {u : List Nd} (hu : p[k]? = some u) (hS : lineL u ∉ S) (hq : oneQ u W = 0) :
  (lineL u ∈ K → DkAt W p K (k + 1) (lineL u :: S) n) ∧ (lineL u ∉ K → DkAt W p K (k + 1) (lineL u :: S) (n + 1)) := by
 obtain ⟨hk, rfl⟩ := List.getElem?_eq_some_iff.1 hu
 obtain ⟨h1, h2, h3⟩ := h
 rw [List.drop_eq_getElem_cons hk] at h1 h2 h3
 rw [newN, if_neg hS] at h1
 rw [seenL, if_neg hS] at h2
 rw [formE, if_neg (by simpa using hq)] at h3
 refine ⟨fun hK => ⟨?_, h2, h3⟩, fun hK => ⟨?_, h2, h3⟩⟩
 ·rw [if_pos hK] at h1; omega
 ·rw [if_neg hK] at h1; omega
theorem DkAt.stop {W : Int} {p : List (List Nd)} {K S : List ByteArray} {k n : Nat} (h : DkAt W p K k S n) {u : List Nd} (hu : p[k]? = some u) (hq : oneQ u W ≠ 0) : formE W p = oneQ u W := by
 obtain ⟨hk, rfl⟩ := List.getElem?_eq_some_iff.1 hu
 rw [h.err, List.drop_eq_getElem_cons hk, formE, if_pos hq]
theorem DkAt.end_ {W : Int} {p : List (List Nd)} {K S : List ByteArray} {k n : Nat} (h : DkAt W p K k S n) (hk : p.length ≤ k) : newN K [] p = n ∧ seenL [] p = S ∧ formE W p = 0 := by
 obtain ⟨h1, h2, h3⟩ := h
 rw [List.drop_eq_nil_of_le hk] at h1 h2 h3
 exact ⟨h1, h2, h3⟩
theorem wp_namedD {P : Program} {c : Code} {Q : Exit → Act → World → Prop} {a : Act} {w : World} (S : World → Prop) (hS : S w) (h : ∀ w', S w' → Code.wp P c Q a w') : Code.wp P c Q a w := h w hS
theorem three_heap (w : World) (a b c : Obj) : Below w.heap.size w (((w.alloc a).alloc b).alloc c) ∧ (((w.alloc a).alloc b).alloc c).heap[w.heap.size]? = some a ∧ (((w.alloc a).alloc b).alloc c).heap[w.heap.size + 1]? = some b ∧ (((w.alloc a).alloc b).alloc c).heap[w.heap.size + 1 + 1]? = some c := by
 refine ⟨(((Below.refl _ _).alloc (Nat.le_refl _) _).alloc (by simp) _).alloc (by simp; omega) _, ?_, ?_, heap_new (by simp)⟩
 ·exact (Below.heap_alloc _ _ _ (by simp; omega)).trans ((Below.heap_alloc _ _ _ (by simp)).trans (heap_new rfl))
 ·exact (Below.heap_alloc _ _ _ (by simp)).trans (heap_new (by simp))
set_option maxRecDepth 100000 in
set_option maxHeartbeats 8000000 in
theorem dlaid_any (W : Int) (p : List (List Nd)) (n : Nat) (hn : p.length = n) (P : Option Addr) (c : Nat) (K : List ByteArray) (mv : Value) (w : World) (hp : Prg w w.heap.size P p) (hT : ∀ u ∈ p, treeF u = 0 ∧ nTok u ≤ 300) (h20 : p.length ≤ 20) (hK : KnownM W K mv w) (hm : MaxL w) (hpw : PowT w) :
  Calls Tryz.prog 26 #[.int .i64 W, .slice P n c, mv] w (fun e w' => (formE W p = 0 → SheetTo W P n c p K w e w') ∧ (formE W p ≠ 0 → SheetNo (formE W p) w e w')) := by
 subst hn
 have HPR := Lib.hid hp; have HT := Lib.hid hT; have HKN := Lib.hid hK; have HM := Lib.hid hm; have HPW := Lib.hid hpw
 clear hp hT hK hm hpw
 have hmm := @run_makeMap Tryz.prog
 go_enter Tryz.func26, Tryz.ntmps26
 go_upto_region 3 with fail
 refine wp_namedD (fun wx => Below w.heap.size w wx ∧ wx.heap[w.heap.size]? = some (.cells #[.int .i64 0, .slice none 0 0, .map none] 65 (0, 0)) ∧ wx.heap[w.heap.size + 1]? = some (.map #[] 0) ∧ wx.heap[w.heap.size + 1 + 1]? = some (.cells #[.int .i64 W, .slice P p.length c, .map (some (w.heap.size + 1))] 65 (0, 0))) (three_heap w _ _ _) ?_
 rintro w0 ⟨hB0, h60, hm0, h90⟩
 have HB0 := Lib.hid hB0; have H60 := Lib.hid h60; have HM0 := Lib.hid hm0; have H90 := Lib.hid h90
 clear hB0 h60 hm0 h90 hmm
 go_wp2_with fail
 go_loopw [10, 12, 13, 14, 15, 16, 17, 18, 19, 26] (fun cnt _ _ _ _ _ _ _ _ i wr => ∃ (k nn : Nat) (S : List ByteArray) (f : Value → Option Value), k ≤ p.length ∧ i = .int .i64 k ∧ cnt = .int .i64 nn ∧ nn ≤ k ∧ Hid (DkAt W p K k S nn) ∧ Hid (KnownF W S f ∧ MapF Tryz.prog 9 f (w.heap.size + 1) wr) ∧ Hid (wr.heap[w.heap.size]? = some (.cells #[.int .i64 0, .slice none 0 0, .map none] 65 (0, 0))) ∧ Hid (wr.heap[w.heap.size + 1 + 1]? = some (.cells #[.int .i64 W, .slice P p.length c, .map (some (w.heap.size + 1))] 65 (0, 0))) ∧ Hid (Below w.heap.size w wr)) (fun _ _ _ _ _ _ _ _ _ i _ => p.length - (intOf i).toNat)
 case atStart => exact ⟨0, 0, [], fun _ => none, by omega, rfl, rfl, Nat.le_refl _, Lib.hid (DkAt.start W p K), Lib.hid ⟨KnownF.none_ W, ⟨#[], 0, HM0.out, by simp, by simp, by simp⟩⟩, H60, H90, HB0⟩
 case round =>
  clear HB0 H60 H90 HM0
  obtain ⟨k, nn, S, f, hk, rfl, rfl, hnk, HA, HF, H6, H9, HB⟩ := hrel
  by_cases hlt : k < p.length
  ·obtain ⟨b, off, Ak, ck, u, rfl, hb, hu, hc, hN, hSh⟩ := HPR.out.one HB.out hlt
   have hmem : u ∈ p := List.mem_of_getElem? hu
   obtain ⟨hut, hnt⟩ := HT.out u hmem
   obtain ⟨hsz, hline⟩ := lineSaid_all hut
   have HLN := Lib.hid (hline Ak ck wr hN (HPW.out.past HB.out))
   have hsm : (lineL u).size ≤ maxLen := by simp only [maxLen]; omega
   have hat := HF.out.1.at hut hnt
   have HU := Lib.hid hu
   have H93 : Hid (∀ w3, Below wr.heap.size wr w3 → w3.cell? ⟨w.heap.size + 1 + 1, 2, none⟩ = some (.map (some (w.heap.size + 1)))) := Lib.hid (fun w3 hB3 => by rw [blk_cell (j := 2) (blk_below H9.out hB3)]; rfl)
   have HLS := Lib.hid (fun w3 (hB3 : Below wr.heap.size wr w3) => KnownM.look (w := w3) (mv := .map (some (w.heap.size + 1))) (.inr ⟨_, f, rfl, HF.out.2.below hB3, HF.out.1⟩) hut hnt hsm)
   have HLK := Lib.hid (fun w3 (hB3 : Below wr.heap.size wr w3) => KnownM.look (w := w3) (mv := mv) ((HKN.out.past HB.out).past hB3) hut hnt hsm)
   obtain ⟨l, hl⟩ := strKey hsm
   have HST := Lib.hid (fun w3 (hB3 : Below wr.heap.size wr w3) => (HF.out.2.below hB3).store strLaw mapType hl (.string (oneX u W)))
   by_cases hS : lineL u ∈ S
   ·have hq := (hat.1 hS).2
    have HA2 := Lib.hid (HA.out.old hu hS hq)
    have HL1 := Lib.hid (fun w3 (hB3 : Below wr.heap.size wr w3) => ((HLS.out w3 hB3).resolve_right (fun x => x.1 hS)).2.2)
    generalize lineL u = LU at *
    generalize oneX u W = X at *
    clear hN hSh hu hmem hut hnt hsz hline hsm hat HLS HLK HST hS hq HU HA hl
    go_wp2_with (go_at_call 36; refine HLN.out.mono ?_; rintro e w3 ⟨rfl, hB3⟩; have e1 := HL1.out w3 hB3; have e2 := H93.out w3 hB3; have HB3 := Lib.hid hB3; clear hB3)
    go_roundw
    case measure => simp [intOf]; omega
    case rel => exact ⟨k + 1, nn, S, f, by omega, by go_num, rfl, by omega, HA2, Lib.hid ⟨HF.out.1, HF.out.2.below HB3.out⟩, Lib.hid (blk_below H6.out HB3.out), Lib.hid (blk_below H9.out HB3.out), Lib.hid (HB.out.trans (HB3.out.mono HB.out.size))⟩
   ·have HL1 := Lib.hid (fun w3 (hB3 : Below wr.heap.size wr w3) => ((HLS.out w3 hB3).resolve_left (fun x => hS x.1)).2)
    by_cases hK2 : lineL u ∈ K
    ·have hq := ((HLK.out wr (Below.refl _ _)).resolve_right (fun x => x.1 hK2)).2.1
     have HA2 := Lib.hid ((HA.out.fresh hu hS hq).1 hK2)
     have HL2 := Lib.hid (fun w3 (hB3 : Below wr.heap.size wr w3) => ((HLK.out w3 hB3).resolve_right (fun x => x.1 hK2)).2.2)
     have HKP := Lib.hid (HF.out.1.put hut hnt hq)
     generalize lineL u = LU at *
     generalize oneX u W = X at *
     clear hN hSh hu hmem hut hnt hsz hline hsm hat HLS HLK hS hq HU HA hl hK2
     go_wp2_with (go_at_call 36; refine HLN.out.mono ?_; rintro e w3 ⟨rfl, hB3⟩; have e1 := HL1.out w3 hB3; have e2 := H93.out w3 hB3; have e4 := HL2.out w3 hB3; obtain ⟨o, ho⟩ := HST.out w3 hB3; obtain ⟨o1, o2, o3⟩ := ho w3 rfl; have O2 := Lib.hid o2; have O3 := Lib.hid o3; have HB3 := Lib.hid hB3; clear hB3 o2 o3 ho)
     go_roundw
     case measure => simp [intOf]; omega
     case rel =>
      have hlt6 := lt_of_heap H6.out
      have hlt9 := lt_of_heap H9.out
      have hz3 := HB3.out.size
      exact ⟨k + 1, nn, LU :: S, _, by omega, by go_num, rfl, by omega, HA2, Lib.hid ⟨HKP.out, O2.out⟩, Lib.hid ((O3.out.block _ (by omega) (by simp)).trans (blk_below H6.out HB3.out)), Lib.hid ((O3.out.block _ (by omega) (by simp)).trans (blk_below H9.out HB3.out)), Lib.hid ((HB.out.trans (HB3.out.mono HB.out.size)).grown O3.out (Nat.le_trans HB.out.size hz3) (fun j e => by injection e with e; omega))⟩
    ·have HL2 := Lib.hid (fun w3 (hB3 : Below wr.heap.size wr w3) => ((HLK.out w3 hB3).resolve_left (fun x => hK2 x.1)).2)
     have H63 : Hid (∀ w3, Below wr.heap.size wr w3 → w3.heap[w.heap.size]? = some (.cells #[.int .i64 0, .slice none 0 0, .map none] 65 (0, 0))) := Lib.hid (fun w3 hB3 => blk_below H6.out hB3)
     by_cases hq : oneQ u W = 0
     ·have HA2 := Lib.hid ((HA.out.fresh hu hS hq).2 hK2)
      have HKP := Lib.hid (HF.out.1.put hut hnt hq)
      have HONE := Lib.hid (fun w3 (hB3 : Below wr.heap.size wr w3) => pone_ok (fun l x A c w hl hd => of_from l x A c w hl hd) u W Ak ck w3 (hN.past hB3) hSh ((HM.out.past HB.out).past hB3) ((HPW.out.past HB.out).past hB3) (fun h9 => docL_doc hut h9 (by have := (oneQ_zero hq).2.2 h9; omega)) hq)
      generalize lineL u = LU at *
      generalize oneX u W = X at *
      clear hN hSh hu hmem hut hnt hsz hline hsm hat HLS HLK hS hq HU HA hl hK2 H63
      go_wp2_with (first
       | (go_at_call 36; refine HLN.out.mono ?_; rintro e w3 ⟨rfl, hB3⟩; have e1 := HL1.out w3 hB3; have e2 := H93.out w3 hB3; have e4 := HL2.out w3 hB3; have HB3 := Lib.hid hB3; clear hB3)
       | (go_at_call 22; refine (HONE.out _ HB3.out).mono ?_; rintro e w5 ⟨rfl, hB5⟩; have HB5 := Lib.hid (HB3.out.trans (hB5.mono HB3.out.size)); have e6 := H93.out w5 HB5.out; obtain ⟨o, ho⟩ := HST.out w5 HB5.out; obtain ⟨o1, o2, o3⟩ := ho w5 rfl; have O2 := Lib.hid o2; have O3 := Lib.hid o3; clear hB5 o2 o3 ho))
      go_roundw
      case measure => simp [intOf]; omega
      case rel =>
       have hlt6 := lt_of_heap H6.out
       have hlt9 := lt_of_heap H9.out
       have hz3 := HB5.out.size
       exact ⟨k + 1, nn + 1, LU :: S, _, by omega, by go_num, by go_num, by omega, HA2, Lib.hid ⟨HKP.out, O2.out⟩, Lib.hid ((O3.out.block _ (by omega) (by simp)).trans (blk_below H6.out HB5.out)), Lib.hid ((O3.out.block _ (by omega) (by simp)).trans (blk_below H9.out HB5.out)), Lib.hid ((HB.out.trans (HB5.out.mono HB.out.size)).grown O3.out (Nat.le_trans HB.out.size hz3) (fun j e => by injection e with e; omega))⟩
     ·have HE := Lib.hid (HA.out.stop hu hq)
      have HONE := Lib.hid (fun w3 (hB3 : Below wr.heap.size wr w3) => pone_bad u W Ak ck w3 (hN.past hB3) hSh ((HM.out.past HB.out).past hB3) ((HPW.out.past HB.out).past hB3) hq)
      have HQ := Lib.hid hq
      generalize lineL u = LU at *
      generalize oneX u W = X at *
      generalize oneQ u W = q at *
      clear hN hSh hu hmem hut hnt hsz hline hsm hat HLS HLK hS hq HU HA hl hK2 HST
      go_wp2_with (first
       | (go_at_call 36; refine HLN.out.mono ?_; rintro e w3 ⟨rfl, hB3⟩; have e1 := HL1.out w3 hB3; have e2 := H93.out w3 hB3; have e4 := HL2.out w3 hB3; have HB3 := Lib.hid hB3; clear hB3)
       | (go_at_call 22; refine (HONE.out _ HB3.out).mono ?_; rintro e w5 ⟨rfl, hB5⟩; have HB5 := Lib.hid (HB3.out.trans (hB5.mono HB3.out.size)); have h6 := H63.out w5 HB5.out; have r0 := blk_cell (j := 0) h6; have r1 := blk_cell (j := 1) h6; have r2 := blk_cell (j := 2) h6; have f0 := blk_free (j := 0) h6; have f1 := blk_free (j := 1) h6; have f2 := blk_free (j := 2) h6; simp at r0 r1 r2; have H65 := Lib.hid h6; clear hB5 h6))
      have b0 := blk_set3 (p := .int .i64 0) (q := .slice none 0 0) (r := .map none) H65.out
      have b1 := blk_cell (j := 0) b0
      have b2 := blk_cell (j := 1) b0
      have b3 := blk_cell (j := 2) b0
      simp at b1 b2 b3
      simp [bodyPost, results, Tryz.results26, go_sem, b1, b2, b3]
      refine ⟨fun h => absurd (HE.out.symm.trans h) HQ.out, fun _ => ⟨by rw [HE.out], ?_⟩⟩
      exact (((HB.out.trans (HB5.out.mono HB.out.size)).setCell (p := ⟨w.heap.size, 0, none⟩) (Nat.le_refl _) _).setCell (p := ⟨w.heap.size, 1, none⟩) (Nat.le_refl _) _).setCell (p := ⟨w.heap.size, 2, none⟩) (Nat.le_refl _) _
  ·obtain ⟨g1, g2, g3⟩ := HA.out.end_ (by omega)
   have h6 := H6.out
   have h9 := H9.out
   have r0 := blk_cell (j := 0) h6
   have r1 := blk_cell (j := 1) h6
   have r2 := blk_cell (j := 2) h6
   have f0 := blk_free (j := 0) h6
   have f1 := blk_free (j := 1) h6
   have f2 := blk_free (j := 2) h6
   have s0 := blk_cell (j := 0) h9
   have s1 := blk_cell (j := 1) h9
   have s2 := blk_cell (j := 2) h9
   simp at r0 r1 r2 s0 s1 s2
   clear h6 h9
   go_wp2_with fail
   have b0 := blk_set3 (p := .int .i64 W) (q := .slice P p.length c) (r := .map (some (w.heap.size + 1))) H6.out
   have b1 := blk_cell (j := 0) b0
   have b2 := blk_cell (j := 1) b0
   have b3 := blk_cell (j := 2) b0
   simp at b1 b2 b3
   simp [bodyPost, results, Tryz.results26, go_sem, b1, b2, b3]
   refine ⟨fun _ => ⟨w.heap.size + 1, f, by rw [g1], ?_, by rw [g2]; exact HF.out.1, by omega, ?_⟩, fun h => absurd g3 h⟩
   ·refine HF.out.2.of_block ?_
    simp [World.setCell, Array.getElem?_modify]
   ·exact ((HB.out.setCell (p := ⟨w.heap.size, 0, none⟩) (Nat.le_refl _) _).setCell (p := ⟨w.heap.size, 1, none⟩) (Nat.le_refl _) _).setCell (p := ⟨w.heap.size, 2, none⟩) (Nat.le_refl _) _
end Go.Proofs.YtddfdmopaeghnadGreatDoor
namespace Go.Proofs.YtddfdmopaeghnadGreatDoor
open Go.RowKit Go.Maps
theorem dnew_ok {W : Int} (hW : wideF W = true) (w : World) : Calls Tryz.prog 8 #[.int .i64 W] w fun e w' => e = .returned (.tuple #[.pointer (some ⟨w.heap.size, 0, none⟩), .nilIface]) ∧ w' = w.alloc (.cells #[.int .i64 W, .slice none 0 0, .map none] 67) := by
 have HW := Lib.hid (fun w' => wide_any W w')
 rw [hW] at HW
 clear hW
 go_enter Tryz.func8, Tryz.ntmps8
 go_wp2_with (go_at_call 23; refine (HW.out _).mono ?_; rintro e w1 ⟨rfl, rfl⟩)
 go_ret2
 exact ⟨rfl, rfl⟩
end Go.Proofs.YtddfdmopaeghnadGreatDoor
namespace Go.Proofs.YtddfdmopaeghnadGreatDoor
open Go.RowKit Go.Maps
structure OnDesk (W : Int) (p : List (List Nd)) : Prop where
 wide : wideF W = true
 few : p.length ≤ 20
 stm : ∀ u ∈ p, treeF u = 0 ∧ nTok u ≤ 300
 fits : formE W p = 0
theorem nTok_le {p : List (List Nd)} (h : (p.map nTok).sum ≤ 300) : ∀ u ∈ p, nTok u ≤ 300 := by
 induction p with
 | nil => intro u hu; cases hu
 | cons v r ih =>
  intro u hu
  rw [List.map_cons, List.sum_cons] at h
  rcases List.mem_cons.1 hu with rfl | hu
  ·omega
  ·exact ih (by omega) u hu
theorem OnDesk.of_parse {s : ByteArray} {k : Nat} {p : List (List Nd)} (h : parseF s = (0, k, p)) {W : Int} (hW : wideF W = true) (hf : formE W p = 0) : OnDesk W p := by
 have hw := parsed_words (s := s) (by rw [h])
 rw [h] at hw
 have hp := progF_facts hw.1
 exact ⟨hW, hp.1, fun u hu => ⟨hp.2.1 u hu, nTok_le hw.2 u hu⟩, hf⟩
theorem OnDesk.nil_ {W : Int} (hW : wideF W = true) : OnDesk W [] := ⟨hW, by simp, by simp, rfl⟩
def DeskK (d : Nat) (W : Int) (p : List (List Nd)) (K : List ByteArray) (w : World) : Prop :=
 ∃ P c mv, w.heap[d]? = some (.cells #[.int .i64 W, .slice P p.length c, mv] 67 (0, 0)) ∧ PrgF (d + 1) w P p ∧ KnownM W K mv w ∧ (∀ u ∈ p, lineL u ∈ K) ∧ (∀ b, mv = .map (some b) → d < b) ∧ OnDesk W p
theorem DeskK.past {d : Nat} {W : Int} {p : List (List Nd)} {K : List ByteArray} {w w' : World} (h : DeskK d W p K w) (hb : Below w.heap.size w w') : DeskK d W p K w' := by
 obtain ⟨P, c, mv, h1, h2, h3, h4, h5, h6⟩ := h
 exact ⟨P, c, mv, blk_below h1 hb, h2.past hb, h3.past hb, h4, h5, h6⟩
theorem DeskK.new {W : Int} (hW : wideF W = true) (w : World) : DeskK w.heap.size W [] [] (w.alloc (.cells #[.int .i64 W, .slice none 0 0, .map none] 67)) :=
 ⟨none, 0, .map none, heap_new rfl, PrgF.nil_ _ _, .inl ⟨rfl, rfl⟩, by simp, fun b h => (by cases h), OnDesk.nil_ hW⟩
end Go.Proofs.YtddfdmopaeghnadGreatDoor
namespace Go.Proofs.YtddfdmopaeghnadGreatDoor
open Go.RowKit Go.Maps
theorem set3_grown {w : World} {d : Nat} (x y z : Value) : w.grownBy (((w.setCell ⟨d, 0, none⟩ x).setCell ⟨d, 1, none⟩ y).setCell ⟨d, 2, none⟩ z) (some d) :=
 ⟨rfl, rfl, rfl, by simp [World.setCell], fun i _ hi => by
  have hne : d ≠ i := fun e => hi (by rw [e])
  simp [World.setCell, Array.getElem?_modify, hne]⟩
end Go.Proofs.YtddfdmopaeghnadGreatDoor
namespace Go.Proofs.YtddfdmopaeghnadGreatDoor
open Go.RowKit Go.Maps
end Go.Proofs.YtddfdmopaeghnadGreatDoor
namespace Go.Proofs.YtddfdmopaeghnadGreatDoor
open Go.RowKit Go.Maps
theorem KnownM.get {W : Int} {K : List ByteArray} {mv : Value} {w : World} (h : KnownM W K mv w) {u : List Nd} (hu : treeF u = 0) (nu : nTok u ≤ 300) (hs : (lineL u).size ≤ maxLen) (hK : lineL u ∈ K) :
  oneQ u W = 0 ∧ (Instr.lookup 63 mv (.string (lineL u)) false).run Tryz.prog w = .ok (.string (oneX u W)) w := by
 rcases h with ⟨rfl, rfl⟩ | ⟨b, f, rfl, h2, h3⟩
 ·cases hK
 ·obtain ⟨l, hl⟩ := strKey hs
  have hlk := h2.get strLaw mapType (strZero w) hl
  obtain ⟨b1, b2⟩ := (h3.at hu nu).1 hK
  rw [b1] at hlk
  exact ⟨b2, hlk⟩
theorem dtext_size {W : Int} {p : List (List Nd)} (h : ∀ u ∈ p, oneQ u W = 0) : ∀ k, k ≤ p.length → (formT W (p.take k)).size ≤ 1500000 * k := by
 intro k
 induction k with
 | zero => intro _; simp [formT]
 | succ k ih =>
  intro hk
  have hlt : k < p.length := by omega
  have hu : p[k]? = some p[k] := List.getElem?_eq_getElem hlt
  rw [formT_step W hu, ByteArray.size_append]
  have h1 := ih (by omega)
  have hq := h p[k] (List.getElem_mem hlt)
  have ht := (oneQ_zero hq).2.1
  have h2 := (oneX_is hq (fun h9 => docL_doc ht h9 (by have := (oneQ_zero hq).2.2 h9; omega))).small
  omega
set_option maxRecDepth 100000 in
set_option maxHeartbeats 4000000 in
theorem dtext_any {d : Nat} {W : Int} {p : List (List Nd)} {K : List ByteArray} {w : World} (h : DeskK d W p K w) (hpw : PowT w) :
  Calls Tryz.prog 15 #[.pointer (some ⟨d, 0, none⟩)] w (Ret w (.string (formT W p))) := by
 obtain ⟨P, c, mv, h1, h2, h3, h4, h5, h6⟩ := h
 have hdl := lt_of_heap h1
 have hb1 : Below w.heap.size w (w.alloc (.cells #[.pointer none, .slice none 0 0] 88)) := (Below.refl _ _).alloc (Nat.le_refl _) _
 have r1 := blk_cell (j := 1) (blk_below h1 hb1)
 simp at r1
 have HBD : Hid (Bld w.heap.size w.heap.size .empty (w.alloc (.cells #[.pointer none, .slice none 0 0] 88))) := Lib.hid (Bld.new w)
 have HB0 := Lib.hid hb1
 have HH : Hid (∀ w', Below w.heap.size w w' → w'.cell? ⟨d, 2, none⟩ = some mv) := Lib.hid (fun w' hB => by rw [blk_cell (j := 2) (blk_below h1 hB)]; rfl)
 have HKM := Lib.hid (fun w' (hB : Below w.heap.size w w') => h3.past hB)
 have HPR := Lib.hid h2.prg; have HT := Lib.hid h6.stm; have HK4 := Lib.hid h4; have HPW := Lib.hid hpw
 have h20 := h6.few
 have hq0 : ∀ u ∈ p, oneQ u W = 0 := fun u hu => (h3.get (h6.stm u hu).1 (h6.stm u hu).2 (by have := (lineSaid_all (h6.stm u hu).1).1; simp only [maxLen]; omega) (h4 u hu)).1
 have HSZ := Lib.hid (dtext_size hq0)
 have HALL : Hid (∀ k, p.length ≤ k → formT W (p.take k) = formT W p) := Lib.hid (fun k hk => by rw [List.take_of_length_le hk])
 clear h1 h2 h3 h4 h5 h6 hpw hq0 hb1
 go_enter Tryz.func15, Tryz.ntmps15
 go_wp2
 go_loopw [5, 12] (fun _ i wr => ∃ k : Nat, k ≤ p.length ∧ i = .int .i64 k ∧ Hid (Bld w.heap.size w.heap.size (formT W (p.take k)) wr) ∧ Hid (Below w.heap.size w wr)) (fun _ i _ => p.length - (intOf i).toNat)
 case atStart => exact ⟨0, by omega, rfl, HBD, HB0⟩
 case round =>
  clear HBD HB0
  obtain ⟨k, hk, rfl, HBD, HB⟩ := hrel
  by_cases hlt : k < p.length
  ·obtain ⟨b, off, Ak, ck, u, rfl, hb, hu, hc, hN, hSh⟩ := HPR.out.one HB.out hlt
   have hmem : u ∈ p := List.mem_of_getElem? hu
   obtain ⟨hut, hnt⟩ := HT.out u hmem
   obtain ⟨hsz, hline⟩ := lineSaid_all hut
   have HLN := Lib.hid (fun (w' : World) (hB : Below wr.heap.size wr w') => hline Ak ck w' (hN.past hB) (HPW.out.past (HB.out.trans (hB.mono HB.out.size))))
   have hsm : (lineL u).size ≤ maxLen := by simp only [maxLen]; omega
   have HL1 := Lib.hid (fun w3 (hB3 : Below wr.heap.size wr w3) => ((HKM.out _ (HB.out.trans (hB3.mono HB.out.size))).get hut hnt hsm (HK4.out u hmem)).2)
   have hq := ((HKM.out _ HB.out).get hut hnt hsm (HK4.out u hmem)).1
   have hxs := (oneX_is hq (fun h9 => docL_doc hut h9 (by have := (oneQ_zero hq).2.2 h9; omega))).small
   have HST := Lib.hid (formT_step W hu)
   have hks := HSZ.out k hk
   have HC2 : Hid (∀ w3, Below wr.heap.size wr w3 → w3.cell? ⟨d, 2, none⟩ = some mv) := Lib.hid (fun w3 hB3 => HH.out _ (HB.out.trans (hB3.mono HB.out.size)))
   have e0 := HH.out _ HB.out
   generalize lineL u = LU at *
   generalize formT W (p.take k) = Q at *
   generalize oneX u W = X at *
   have hz0 := HB.out.size
   clear hN hSh hu hmem hut hnt hsz hline hsm hq
   go_upto_region 5 with fail
   go_region_held3 (fun w' => w'.cell? ⟨d, 2, none⟩ = some mv) (first | exact e0 | exact e2 | exact e3)
    (first
    | (go_at_call 36; refine (HLN.out _ (by repeat (first | exact Below.refl _ _ | assumption | apply Below.drew | refine below_drewN ?_ _ | apply Below.setCell _ (by first | omega | (simp; done) | (simp; omega)) | apply Below.alloc _ (by first | omega | (simp; done) | (simp; omega))))).mono ?_; rintro e w3 ⟨rfl, hB3⟩; have hB3 : Below wr.heap.size wr w3 := (by first | exact hB3 | exact past_drew hB3 | exact past_drewN hB3); have e1 := HL1.out w3 hB3; have e2 := HC2.out w3 hB3; have HB3 := Lib.hid (HBD.out.past hB3); have HB4 := Lib.hid (HB.out.trans (hB3.mono hz0)); clear hB3)
    | (go_at_call 35; refine (bld_write _ _ Q _ _ HB3.out (by omega)).mono ?_; rintro e w4 ⟨rfl, hb5, hB5⟩; have HB5 := Lib.hid hb5; have HB6 := Lib.hid (HB4.out.trans hB5); have e3 := HH.out _ HB6.out; clear hb5 hB5))
   go_wp2
   go_roundw
   case measure => simp [intOf]; omega
   case rel => exact ⟨k + 1, by omega, by go_num, Lib.hid (by rw [HST.out]; exact HB5.out), HB6⟩
  ·have HBZ : Hid (Bld w.heap.size w.heap.size (formT W p) wr) := Lib.hid (by rw [← HALL.out k (by omega)]; exact HBD.out)
   generalize formT W p = TT at *
   clear HBD
   go_wp2_with (go_at_call 37; refine (bld_string _ _ _ _ HBZ.out).mono ?_; rintro e w5 ⟨rfl, hB5⟩; have HB7 := Lib.hid (HB.out.trans hB5); clear hB5)
   go_ret
   exact ⟨rfl, HB7.out⟩
end Go.Proofs.YtddfdmopaeghnadGreatDoor
namespace Go.Proofs.YtddfdmopaeghnadGreatDoor
open Go.RowKit Go.Maps
theorem heap_new_drew (w : World) (o : Obj) : (w.alloc o).drew.heap[w.heap.size]? = some o := heap_new (w := w) rfl
set_option maxRecDepth 100000 in
set_option maxHeartbeats 8000000 in
theorem dset_ok {d : Nat} {W : Int} {p : List (List Nd)} {K : List ByteArray} {w : World} (h : DeskK d W p K w) {s : ByteArray} {k : Nat} {q : List (List Nd)} (hp : parseF s = (0, k, q)) (hs : s.size ≤ maxLen) (hm : MaxL w) (hpw : PowT w) (hq : formE W q = 0) :
  Calls Tryz.prog 14 #[.pointer (some ⟨d, 0, none⟩), .string s] w (fun e w' => e = .returned (.tuple #[.int .i64 (newN K [] q : Nat), .int .i64 0, .nilIface]) ∧ DeskK d W q (seenL [] q) w' ∧ Below d w w') := by
 obtain ⟨P, c, mv, h1, h2, h3, h4, h5, h6⟩ := h
 have hdl := lt_of_heap h1
 have ho := OnDesk.of_parse hp h6.wide hq
 have HO := Lib.hid ho
 have HP := Lib.hid (parse_okB hp rfl w hs hm)
 have HL := Lib.hid (fun (P1 : Option Addr) (c1 : Nat) (w1 : World) (hB : Below w.heap.size w w1) (hF : Prg w1 w1.heap.size P1 q) => dlaid_any W q q.length rfl P1 c1 K mv w1 hF ho.stm ho.few (h3.past hB) (hm.past hB) (hpw.past hB))
 have HQ := Lib.hid hq; have H1 := Lib.hid h1
 clear h2 h3 h4 h5 h6 hm hpw hs hp hq ho h1
 have HC : Hid (∀ w', Below w.heap.size w w' → w'.cell? ⟨d, 0, none⟩ = some (.int .i64 W) ∧ w'.cell? ⟨d, 2, none⟩ = some mv) := Lib.hid (fun w' hB => by rw [blk_cell (j := 0) (blk_below H1.out hB), blk_cell (j := 2) (blk_below H1.out hB)]; exact ⟨rfl, rfl⟩)
 go_enter Tryz.func14, Tryz.ntmps14
 go_upto_region 4 with (go_at_call 21; refine HP.out.mono ?_; rintro e w1 ⟨P1, c1, rfl, hF, hB⟩; have HF1 := Lib.hid hF; clear hF)
 have hz1 := hB.size
 go_region_held3 (fun w' => w'.cell? ⟨d, 0, none⟩ = some (.int .i64 W) ∧ w'.cell? ⟨d, 2, none⟩ = some mv) (first | exact HC.out _ (by repeat (first | exact Below.refl _ _ | assumption | apply Below.drew | refine below_drewN ?_ _ | apply Below.setCell _ (by first | omega | (simp; done) | (simp; omega)) | apply Below.alloc _ (by first | omega | (simp; done) | (simp; omega)))) | exact HC.out _ hB2)
  (first
  | (go_at_call 26; refine (HL.out P1 c1 _ (by repeat (first | exact Below.refl _ _ | assumption | apply Below.drew | refine below_drewN ?_ _ | apply Below.setCell _ (by first | omega | (simp; done) | (simp; omega)) | apply Below.alloc _ (by first | omega | (simp; done) | (simp; omega)))) (HF1.out.past (by repeat (first | exact Below.refl _ _ | assumption | apply Below.drew | refine below_drewN ?_ _ | apply Below.setCell _ (by first | omega | (simp; done) | (simp; omega)) | apply Below.alloc _ (by first | omega | (simp; done) | (simp; omega))))).prg).mono ?_; rintro e w2 ⟨hz, -⟩; obtain ⟨b, f, rfl, hM, hF, hb, hB'⟩ := hz HQ.out; have HMF := Lib.hid hM; have HKF := Lib.hid hF; have hbw : w1.heap.size ≤ b := (by simp at hb; omega); clear hz hM hF; have hB2 : Below w.heap.size w w2 := Below.trans (by repeat (first | exact Below.refl _ _ | assumption | apply Below.drew | refine below_drewN ?_ _ | apply Below.setCell _ (by first | omega | (simp; done) | (simp; omega)) | apply Below.alloc _ (by first | omega | (simp; done) | (simp; omega)))) (hB'.mono (Below.size (by repeat (first | exact Below.refl _ _ | assumption | apply Below.drew | refine below_drewN ?_ _ | apply Below.setCell _ (by first | omega | (simp; done) | (simp; omega)) | apply Below.alloc _ (by first | omega | (simp; done) | (simp; omega)))))); have hz2 := hB2.size; have hB12 : Below w1.heap.size w1 w2 := Below.trans (by repeat (first | exact Below.refl _ _ | assumption | apply Below.drew | refine below_drewN ?_ _ | apply Below.setCell _ (by first | omega | (simp; done) | (simp; omega)) | apply Below.alloc _ (by first | omega | (simp; done) | (simp; omega)))) (hB'.mono (by first | exact Nat.le_refl _ | (simp; done) | (simp; omega))); have hz12 := hB12.size; (try (have hbw2 : w1.heap.size < b := (by simp at hb; omega))); (try (have hx : w2.heap[w1.heap.size]? = some (.cells #[.int .i64 0, .slice none 0 0, .map none] 65 (0, 0)) := blk_below (heap_new_drew _ _) hB'; have f0 := blk_free (j := 0) hx; have f1 := blk_free (j := 1) hx; have f2 := blk_free (j := 2) hx; have x0 := blk_cell (j := 0) hx; have x1 := blk_cell (j := 1) hx; have x2 := blk_cell (j := 2) hx; simp at x0 x1 x2))))
 all_goals
  go_upto_region 7 with fail
 ·clear hB' hb
  refine wp_namedD (fun wx => wx.heap[w2.heap.size]? = some (.cells #[.int .i64 W, .slice P1 q.length c1, .map (some b)] 65 (0, 0)) ∧ Below w.heap.size w wx ∧ Below w1.heap.size w1 wx ∧ MapF Tryz.prog 9 f b wx) ⟨heap_new rfl, (by repeat (first | exact Below.refl _ _ | assumption | apply Below.drew | refine below_drewN ?_ _ | apply Below.setCell _ (by first | omega | (simp; done) | (simp; omega)) | apply Below.alloc _ (by first | omega | (simp; done) | (simp; omega)))), (by repeat (first | exact Below.refl _ _ | assumption | apply Below.drew | refine below_drewN ?_ _ | apply Below.setCell _ (by first | omega | (simp; done) | (simp; omega)) | apply Below.alloc _ (by first | omega | (simp; done) | (simp; omega)))), HMF.out.below ((Below.refl _ _).alloc (Nat.le_refl _) _)⟩ ?_
  rintro wx ⟨hx10, hBx, hB1x, hMx⟩
  have hb10 : d < w2.heap.size := by omega
  have y0 := blk_cell (j := 0) hx10
  have y1 := blk_cell (j := 1) hx10
  have y2 := blk_cell (j := 2) hx10
  have hdx := blk_below H1.out hBx
  have r0 := blk_cell (j := 0) hdx
  have r1 := blk_cell (j := 1) hdx
  have r2 := blk_cell (j := 2) hdx
  have f0 := blk_free (j := 0) hdx
  have f1 := blk_free (j := 1) hdx
  have f2 := blk_free (j := 2) hdx
  simp at y0 y1 y2 r0 r1 r2
  have HDX := Lib.hid hdx
  have HBX := Lib.hid hBx; have HB1X := Lib.hid hB1x; have HMX := Lib.hid hMx; have HX := Lib.hid hx10
  clear hdx hBx hB1x hMx hx10
  go_wp2
  go_ret3
  have hg := set3_grown (w := wx) (d := d) (.int .i64 W) (.slice P1 q.length c1) (.map (some b))
  refine ⟨rfl, ⟨P1, c1, .map (some b), blk_set3 HDX.out, ((HF1.out.past HB1X.out).less (by omega)).grow hg (fun k e => by injection e with e; omega), .inr ⟨b, f, rfl, HMX.out.kept hg (fun e => by injection e with e; omega), HKF.out⟩, fun u hu => seenL_all.2 u hu, fun b' e => by cases e; omega, HO.out⟩, ?_⟩
  have hbd : Below d w wx := HBX.out.mono (by omega)
  exact ((hbd.setCell (p := ⟨d, 0, none⟩) (Nat.le_refl _) _).setCell (p := ⟨d, 1, none⟩) (Nat.le_refl _) _).setCell (p := ⟨d, 2, none⟩) (Nat.le_refl _) _
 ·clear hB' hb f0 f1 f2 x0 x1 x2
  refine wp_namedD (fun wx => wx.heap[w1.heap.size]? = some (.cells #[.int .i64 W, .slice P1 q.length c1, .map (some b)] 65 (0, 0)) ∧ Below w.heap.size w wx ∧ Below w1.heap.size w1 wx ∧ MapF Tryz.prog 9 f b wx) ⟨blk_set3 hx, (by repeat (first | exact Below.refl _ _ | assumption | apply Below.drew | refine below_drewN ?_ _ | apply Below.setCell _ (by first | omega | (simp; done) | (simp; omega)) | apply Below.alloc _ (by first | omega | (simp; done) | (simp; omega)))), (by repeat (first | exact Below.refl _ _ | assumption | apply Below.drew | refine below_drewN ?_ _ | apply Below.setCell _ (by first | omega | (simp; done) | (simp; omega)) | apply Below.alloc _ (by first | omega | (simp; done) | (simp; omega)))), HMF.out.kept (set3_grown _ _ _) (fun e => by injection e with e; omega)⟩ ?_
  rintro wx ⟨hx10, hBx, hB1x, hMx⟩
  have hb10 : d < w1.heap.size := by omega
  have y0 := blk_cell (j := 0) hx10
  have y1 := blk_cell (j := 1) hx10
  have y2 := blk_cell (j := 2) hx10
  have hdx := blk_below H1.out hBx
  have r0 := blk_cell (j := 0) hdx
  have r1 := blk_cell (j := 1) hdx
  have r2 := blk_cell (j := 2) hdx
  have f0 := blk_free (j := 0) hdx
  have f1 := blk_free (j := 1) hdx
  have f2 := blk_free (j := 2) hdx
  simp at y0 y1 y2 r0 r1 r2
  have HDX := Lib.hid hdx
  have HBX := Lib.hid hBx; have HB1X := Lib.hid hB1x; have HMX := Lib.hid hMx; have HX := Lib.hid hx10
  clear hdx hBx hB1x hMx hx10
  go_wp2
  go_ret3
  have hg := set3_grown (w := wx) (d := d) (.int .i64 W) (.slice P1 q.length c1) (.map (some b))
  refine ⟨rfl, ⟨P1, c1, .map (some b), blk_set3 HDX.out, ((HF1.out.past HB1X.out).less (by omega)).grow hg (fun k e => by injection e with e; omega), .inr ⟨b, f, rfl, HMX.out.kept hg (fun e => by injection e with e; omega), HKF.out⟩, fun u hu => seenL_all.2 u hu, fun b' e => by cases e; omega, HO.out⟩, ?_⟩
  have hbd : Below d w wx := HBX.out.mono (by omega)
  exact ((hbd.setCell (p := ⟨d, 0, none⟩) (Nat.le_refl _) _).setCell (p := ⟨d, 1, none⟩) (Nat.le_refl _) _).setCell (p := ⟨d, 2, none⟩) (Nat.le_refl _) _
end Go.Proofs.YtddfdmopaeghnadGreatDoor
namespace Go.Proofs.YtddfdmopaeghnadGreatDoor
open Go.RowKit Go.Maps
def DkS (w0 : World) (d : Nat) (W : Int) (p : List (List Nd)) (K : List ByteArray) (w : World) : Prop := DeskK d W p K w ∧ w0.heap.size ≤ d ∧ Below w0.heap.size w0 w
theorem DkS.past {w0 w w' : World} {d : Nat} {W : Int} {p : List (List Nd)} {K : List ByteArray} (h : DkS w0 d W p K w) (hb : Below w.heap.size w w') : DkS w0 d W p K w' := ⟨h.1.past hb, h.2.1, h.2.2.trans (hb.mono h.2.2.size)⟩
theorem DkS.moved {w0 w w' : World} {d : Nat} {W V : Int} {p q : List (List Nd)} {K L : List ByteArray} (h : DkS w0 d W p K w) (hk : DeskK d V q L w') (hb : Below d w w') : DkS w0 d V q L w' := ⟨hk, h.2.1, h.2.2.trans (hb.mono h.2.1)⟩
theorem dk_new {W : Int} (hW : wideF W = true) {w0 w : World} (hB : Below w0.heap.size w0 w) : Calls Tryz.prog 8 #[.int .i64 W] w fun e w' => ∃ d, e = .returned (.tuple #[.pointer (some ⟨d, 0, none⟩), .nilIface]) ∧ DkS w0 d W [] [] w' :=
 (dnew_ok hW w).mono fun e w' ⟨h1, h2⟩ => by
  subst h2
  exact ⟨w.heap.size, h1, DeskK.new hW w, hB.size, hB.alloc hB.size _⟩
theorem dk_text {w0 w : World} {d : Nat} {W : Int} {p : List (List Nd)} {K : List ByteArray} (h : DkS w0 d W p K w) (hpw : PowT w0) :
  Calls Tryz.prog 15 #[.pointer (some ⟨d, 0, none⟩)] w fun e w' => e = .returned (.string (formT W p)) ∧ DkS w0 d W p K w' :=
 (dtext_any h.1 (hpw.past h.2.2)).mono fun _ _ ⟨h1, h2⟩ => ⟨h1, h.past h2⟩
theorem dk_set_ok {w0 w : World} {d : Nat} {W : Int} {p : List (List Nd)} {K : List ByteArray} (h : DkS w0 d W p K w) (hm : MaxL w0) (hpw : PowT w0) {s : ByteArray} (hs : s.size ≤ maxLen) {k : Nat} {q : List (List Nd)} (hp : parseF s = (0, k, q)) (hq : formE W q = 0) :
  Calls Tryz.prog 14 #[.pointer (some ⟨d, 0, none⟩), .string s] w fun e w' => e = .returned (.tuple #[.int .i64 (newN K [] q : Nat), .int .i64 0, .nilIface]) ∧ DkS w0 d W q (seenL [] q) w' :=
 (dset_ok h.1 hp hs (hm.past h.2.2) (hpw.past h.2.2) hq).mono fun _ _ ⟨h1, h2, h3⟩ => ⟨h1, h.moved h2 h3⟩
end Go.Proofs.YtddfdmopaeghnadGreatDoor
namespace Go.Proofs.YtddfdmopaeghnadGreatDoor
open Go.RowKit Go.Maps
theorem fmt_some (s : ByteArray) (W : Int) (w : World) (hs : s.size ≤ maxLen) (hm : MaxL w) (hp : PowT w) :
  Calls Tryz.prog 20 #[.string s, .int .i64 W] w (fun e w' => (∃ x y z, e = .returned (.tuple #[x, y, z])) ∧ Below w.heap.size w w') :=
 (fmt_any s W w hs hm hp).mono fun _ _ h => ⟨⟨_, _, _, h.1⟩, h.2⟩
theorem prg_head {w : World} {A : Option Addr} {l : List (List Nd)} (h : Prg w w.heap.size A l) (hT : ∀ u ∈ l, treeF u = 0) {k : Nat} (hk : k < l.length) :
  ∃ (b off b2 off2 m c : Nat) (op : Int), A = some ⟨b, off, none⟩ ∧ 0 < m ∧ (∀ u, l[k]? = some u → isNote u = decide (op = 9)) ∧ ∀ w', Below w.heap.size w w' → w'.cell? ⟨b, off + k, none⟩ = some (.slice (some ⟨b2, off2, none⟩) m c) ∧ w'.cell? ⟨b2, off2, none⟩ = some (.int .i64 op) := by
 obtain ⟨b, off, Ak, ck, u, rfl, hb, hu, hc, hN, hSh⟩ := h.one (Below.refl _ _) hk
 have hut := hT u (List.mem_of_getElem? hu)
 have h0 := (Tr.of_check hut).pos0
 obtain ⟨b2, off2, op, t, n, rfl, hb2, hx, hts, c1, c2, c3⟩ := hN.node (Below.refl _ _) h0
 refine ⟨b, off, b2, off2, u.length, ck, op, rfl, h0, fun v hv => ?_, fun w' hB => ⟨(hB.cell (p := ⟨b, off + k, none⟩) hb).trans hc, ?_⟩⟩
 ·rw [hu] at hv
  injection hv with hv
  subst hv
  have hi : isNote u = decide ((u[0]'h0).op = 9) := by
   cases u with
   | nil => simp at h0
   | cons y r => rfl
  rw [hi, hx]
 ·have := (hB.cell (p := ⟨b2, off2 + 0 * 3, none⟩) hb2).trans c1
  simpa using this
set_option maxRecDepth 100000 in
set_option maxHeartbeats 4000000 in
theorem topParts_bad1 (s t : ByteArray) (W : Int) (w : World) (hs : s.size ≤ maxLen) (ht : t.size ≤ maxLen) (hm : MaxL w) (hp : PowT w) {f : Int} {k : Nat} {T : ByteArray} (h : fmtF s W = (f, k, T)) (hf : f ≠ 0) :
  Calls Tryz.prog 6 #[.string s, .string t, .int .i64 W] w (Ret w (.bool true)) := by
 have HB : Hid (Below w.heap.size w w) := Lib.hid (Below.refl _ _)
 have HO := Lib.hid (fun (w' : World) (hB : Below w.heap.size w w') => topOne_any w' (hm.past hB) (hp.past hB))
 have HF1 := Lib.hid (fun (w' : World) (hB : Below w.heap.size w w') => fmt_bad_is h hf w' hs (hm.past hB) (hp.past hB))
 have HF2 := Lib.hid (fun (w' : World) (hB : Below w.heap.size w w') => fmt_some t W w' ht (hm.past hB) (hp.past hB))
 clear hs ht hm hp h hf
 go_enter Tryz.func6, Tryz.ntmps6
 go_wp2_with (first
   | (go_at_call 19; (fail_if_success have z := T0); refine (HO.out _ HB.out).mono ?_; rintro e t0 ⟨rfl, hB⟩; have HB := Lib.hid (HB.out.trans (hB.mono HB.out.size)); clear hB; have T0 := Lib.hid True.intro)
   | (go_at_call 20; (have z := T0; clear z); (fail_if_success have z := T1); refine (HF1.out _ HB.out).mono ?_; rintro e t1 ⟨rfl, hB⟩; have HB := Lib.hid (HB.out.trans (hB.mono HB.out.size)); clear hB; have T1 := Lib.hid True.intro)
   | (go_at_call 20; (have z := T1; clear z); (fail_if_success have z := T2); refine (HF2.out _ HB.out).mono ?_; rintro e t2 ⟨⟨x, y, z, rfl⟩, hB⟩; have HB := Lib.hid (HB.out.trans (hB.mono HB.out.size)); clear hB; have T2 := Lib.hid True.intro))
 go_ret
 exact ⟨by first | rfl | (simp; done), HB.out⟩
set_option maxRecDepth 100000 in
set_option maxHeartbeats 4000000 in
theorem topParts_bad2 (s t : ByteArray) (W : Int) (w : World) (hs : s.size ≤ maxLen) (ht : t.size ≤ maxLen) (hm : MaxL w) (hp : PowT w) {f : Int} {k j : Nat} {S T : ByteArray} (h1 : fmtF s W = (0, j, S)) (h : fmtF t W = (f, k, T)) (hf : f ≠ 0) :
  Calls Tryz.prog 6 #[.string s, .string t, .int .i64 W] w (Ret w (.bool true)) := by
 have HB : Hid (Below w.heap.size w w) := Lib.hid (Below.refl _ _)
 have HO := Lib.hid (fun (w' : World) (hB : Below w.heap.size w w') => topOne_any w' (hm.past hB) (hp.past hB))
 have HF1 := Lib.hid (fun (w' : World) (hB : Below w.heap.size w w') => fmt_ok_is h1 w' hs (hm.past hB) (hp.past hB))
 have HF2 := Lib.hid (fun (w' : World) (hB : Below w.heap.size w w') => fmt_bad_is h hf w' ht (hm.past hB) (hp.past hB))
 clear hs ht hm hp h1 h hf
 go_enter Tryz.func6, Tryz.ntmps6
 go_wp2_with (first
   | (go_at_call 19; (fail_if_success have z := T0); refine (HO.out _ HB.out).mono ?_; rintro e t0 ⟨rfl, hB⟩; have HB := Lib.hid (HB.out.trans (hB.mono HB.out.size)); clear hB; have T0 := Lib.hid True.intro)
   | (go_at_call 20; (have z := T0; clear z); (fail_if_success have z := T1); refine (HF1.out _ HB.out).mono ?_; rintro e t1 ⟨rfl, hB⟩; have HB := Lib.hid (HB.out.trans (hB.mono HB.out.size)); clear hB; have T1 := Lib.hid True.intro)
   | (go_at_call 20; (have z := T1; clear z); (fail_if_success have z := T2); refine (HF2.out _ HB.out).mono ?_; rintro e t2 ⟨rfl, hB⟩; have HB := Lib.hid (HB.out.trans (hB.mono HB.out.size)); clear hB; have T2 := Lib.hid True.intro))
 go_ret
 exact ⟨by first | rfl | (simp; done), HB.out⟩
set_option maxRecDepth 100000 in
set_option maxHeartbeats 32000000 in
theorem topParts_main (s t : ByteArray) (W : Int) (w : World) (hs : s.size ≤ maxLen) (ht : t.size ≤ maxLen) (hm : MaxL w) (hp : PowT w) (hg : ErrT w) (hgs0 : 0 + 1 ≤ w.heap.size) (hW : wideF W = true) {k1 k2 : Nat} {p q : List (List Nd)} (h1 : parseF s = (0, k1, p)) (h2 : parseF t = (0, k2, q)) (q1 : formE W p = 0) (q2 : formE W q = 0)
  (y1 : (formT W p).size ≤ 60000) (y2 : (formT W q).size ≤ 60000) (hsz : (formT W p ++ formT W q : ByteArray).size ≤ maxLen) (hbo : ((∃ u, p.getLast? = some u ∧ isNote u = false) ∨ ∃ v r, q = v :: r ∧ isNote v = false) → 0 < q.length → p.length + q.length ≤ 20 → (∃ kb, fmtF (formT W p ++ formT W q) W = (0, kb, formT W p ++ formT W q)) ∨ ∃ kb, fmtF (formT W p ++ formT W q) W = (3, kb, .empty)) :
  Calls Tryz.prog 6 #[.string s, .string t, .int .i64 W] w (Ret w (.bool true)) := by
 have HB : Hid (Below w.heap.size w w) := Lib.hid (Below.refl _ _)
 have HO := Lib.hid (fun (w' : World) (hB : Below w.heap.size w w') => topOne_any w' (hm.past hB) (hp.past hB))
 have f1 := fmt_of h1 W
 rw [if_neg (by simp [hW]), if_neg (by simp [q1])] at f1
 have f2 := fmt_of h2 W
 rw [if_neg (by simp [hW]), if_neg (by simp [q2])] at f2
 have HF1 := Lib.hid (fun (w' : World) (hB : Below w.heap.size w w') => fmt_ok_is f1 w' hs (hm.past hB) (hp.past hB))
 have HF2 := Lib.hid (fun (w' : World) (hB : Below w.heap.size w w') => fmt_ok_is f2 w' ht (hm.past hB) (hp.past hB))
 have hw1 := parsed_words (s := s) (by rw [h1])
 rw [h1] at hw1
 have hw2 := parsed_words (s := t) (by rw [h2])
 rw [h2] at hw2
 have hp1 := progF_facts hw1.1
 have hp2 := progF_facts hw2.1
 obtain ⟨n1, e1⟩ : ∃ n, p.length = n := ⟨_, rfl⟩
 obtain ⟨n2, e2⟩ : ∃ n, q.length = n := ⟨_, rfl⟩
 have HP1 := Lib.hid (fun (w' : World) (hB : Below w.heap.size w w') => parse_okB h1 e1 w' hs (hm.past hB))
 have HP2 := Lib.hid (fun (w' : World) (hB : Below w.heap.size w w') => parse_okB h2 e2 w' ht (hm.past hB))
 have HT1 := Lib.hid hp1.2.1; have HT2 := Lib.hid hp2.2.1
 have l1 : n1 ≤ 20 := by rw [← e1]; exact hp1.1
 have l2 : n2 ≤ 20 := by rw [← e2]; exact hp2.1
 rw [e1, e2] at hbo
 have hq0 : ∀ u ∈ p, oneQ u W = 0 := formE_all q1
 have HQ0 := Lib.hid hq0; have HZ := Lib.hid (dtext_size hq0)
 have N1 := Lib.hid e1; have N2 := Lib.hid e2; have HBO := Lib.hid hbo; have HSZ := Lib.hid hsz
 have HM0 := Lib.hid hm; have HPW0 := Lib.hid hp; have HG0 := Lib.hid hg; have H1 := Lib.hid h1; have H2 := Lib.hid h2; have Q1 := Lib.hid q1; have Q2 := Lib.hid q2; have HW := Lib.hid hW; have HS := Lib.hid hs; have HT := Lib.hid ht
 clear hs ht hm hp hg h1 h2 q1 q2 hW hsz hbo f1 f2 hw1 hw2 hp1 hp2 e1 e2 hq0
 go_enter Tryz.func6, Tryz.ntmps6
 go_wp2_with (first
   | (go_at_call 19; (fail_if_success have z := T0); refine (HO.out _ HB.out).mono ?_; rintro e t0 ⟨rfl, hB⟩; have HB := Lib.hid (HB.out.trans (hB.mono HB.out.size)); clear hB; have T0 := Lib.hid True.intro)
   | (go_at_call 20; (have z := T0; clear z); (fail_if_success have z := T1); refine (HF1.out _ HB.out).mono ?_; rintro e t1 ⟨rfl, hB⟩; have HB := Lib.hid (HB.out.trans (hB.mono HB.out.size)); clear hB; have T1 := Lib.hid True.intro)
   | (go_at_call 20; (have z := T1; clear z); (fail_if_success have z := T2); refine (HF2.out _ HB.out).mono ?_; rintro e t2 ⟨rfl, hB⟩; have HB := Lib.hid (HB.out.trans (hB.mono HB.out.size)); clear hB; have T2 := Lib.hid True.intro)
   | (go_at_call 21; (have z := T2; clear z); (fail_if_success have z := T3); refine (HP1.out _ HB.out).mono ?_; rintro e t3 ⟨A1, c1, rfl, hF, hB⟩; have HPG := Lib.hid hF.prg; have HB := Lib.hid (HB.out.trans (hB.mono HB.out.size)); clear hB hF; have T3 := Lib.hid True.intro)
   | (go_at_call 21; (have z := T3; clear z); (fail_if_success have z := T4); refine (HP2.out _ HB.out).mono ?_; rintro e t4 ⟨A2, c2, rfl, hF, hB⟩; have HPG := Lib.hid (HPG.out.past hB); have HQG := Lib.hid hF.prg; have HB := Lib.hid (HB.out.trans (hB.mono HB.out.size)); clear hB hF; have T4 := Lib.hid True.intro))
 clear HO HF1 HF2 HP1 HP2
 have HBW := HB
 have hgs : 0 + 1 ≤ t4.heap.size := Nat.le_trans hgs0 HB.out.size
 have HM := Lib.hid (HM0.out.past HB.out); have HPW := Lib.hid (HPW0.out.past HB.out); have HG := Lib.hid (HG0.out.past hgs0 HB.out)
 clear HB HM0 HPW0 HG0
 have HN := Lib.hid (fun (w' : World) (hB : Below t4.heap.size t4 w') => dk_new HW.out hB)
 have HS2 := Lib.hid (fun (w' : World) (d : Nat) (hD : DkS t4 d W [] [] w') => dk_set_ok hD HM.out HPW.out HT.out H2.out Q2.out)
 have HS1 := Lib.hid (fun (w' : World) (d : Nat) (hD : DkS t4 d W q (seenL [] q) w') => dk_set_ok hD HM.out HPW.out HS.out H1.out Q1.out)
 have HTX := Lib.hid (fun (w' : World) (d : Nat) (hD : DkS t4 d W p (seenL [] p) w') => dk_text hD HPW.out)
 go_loopw [18, 19, 20, 21] (fun x i _ _ wr => ∃ k : Nat, k ≤ n1 ∧ i = .int .i64 k ∧ x = .string (formT W (p.take k)) ∧ Hid (Below t4.heap.size t4 wr)) (fun _ i _ _ _ => n1 - (intOf i).toNat)
 case atStart => exact ⟨0, by omega, rfl, by rw [List.take_zero, formT]; rfl, Lib.hid (Below.refl _ _)⟩
 case round =>
  obtain ⟨k, hk, rfl, rfl, HB⟩ := hrel
  by_cases hlt : k < n1
  ·obtain ⟨b, off, Ak, ck, u, rfl, hb, hu, hc, hN, hSh⟩ := HPG.out.one HB.out (k := k) (by rw [N1.out]; exact hlt)
   have hmem : u ∈ p := List.mem_of_getElem? hu
   have hut := HT1.out u hmem
   have hq := HQ0.out u hmem
   have hdc : opAt u 0 ≠ 9 → ∃ x, Doc (docL u) x := fun h9 => docL_doc hut h9 (by have := (oneQ_zero hq).2.2 h9; omega)
   have HONE := Lib.hid (pone_ok (fun l x A c w hl hd => of_from l x A c w hl hd) u W Ak ck wr hN hSh (HM.out.past HB.out) (HPW.out.past HB.out) hdc hq)
   have hxs := (oneX_is hq hdc).small
   have hks := HZ.out k (by rw [N1.out]; exact hk)
   have HST := Lib.hid (formT_step W hu)
   clear hN hSh hu hmem hut hq hdc HN HS1 HS2 HTX HBO
   generalize formT W (p.take k) = Q at *
   generalize oneX u W = X at *
   go_wp2_with (go_at_call 22; refine HONE.out.mono ?_; rintro e v1 ⟨rfl, hB⟩; have HB2 := Lib.hid (HB.out.trans (hB.mono HB.out.size)); clear hB)
   go_roundw
   case rel => exact ⟨k + 1, by omega, by go_num, by rw [HST.out], HB2⟩
   case measure => simp [intOf]; omega
  ·clear HQ0 HZ
   have hxk : formT W (p.take k) = formT W p := by rw [List.take_of_length_le (by rw [N1.out]; omega)]
   rw [hxk] at *
   by_cases z1 : n1 = 0
   ·have k1 : ((n1 : Int) == 0) = true := by simp; omega
    clear HBO
    generalize formT W p = S at *
    generalize formT W q = T at *
    have hb1 : (S.toList == S.toList) = true := by simp
    have hb2 : (S.toList != S.toList) = false := by simp
    go_wp2_with (first
      | (go_at_call 8; (fail_if_success have z := R0); refine (HN.out _ HB.out).mono ?_; rintro e r0 ⟨dd, rfl, hD⟩; have HD := Lib.hid hD; have HB := Lib.hid hD.2.2; clear hD; have R0 := Lib.hid True.intro)
      | (go_at_call 14; (have z := R0; clear z); (fail_if_success have z := R1); refine (HS2.out _ _ HD.out).mono ?_; rintro e r1 ⟨rfl, hD⟩; have HD := Lib.hid hD; have HB := Lib.hid hD.2.2; clear hD; have R1 := Lib.hid True.intro)
      | (go_at_call 14; (have z := R1; clear z); (fail_if_success have z := R2); refine (HS1.out _ _ HD.out).mono ?_; rintro e r2 ⟨rfl, hD⟩; have HD := Lib.hid hD; have HB := Lib.hid hD.2.2; clear hD; have R2 := Lib.hid True.intro)
      | (go_at_call 15; (have z := R2; clear z); (fail_if_success have z := R3); refine (HTX.out _ _ HD.out).mono ?_; rintro e r3 ⟨rfl, hD⟩; have HD := Lib.hid hD; have HB := Lib.hid hD.2.2; clear hD; have R3 := Lib.hid True.intro))
    go_ret
    exact ⟨by first | rfl | (simp; done), (HBW.out.trans (HB.out.mono HBW.out.size))⟩
   ·have k1 : ((n1 : Int) == 0) = false := by simp; omega
    by_cases z2 : n2 = 0
    ·have k2 : ((n2 : Int) == 0) = true := by simp; omega
     clear HBO
     generalize formT W p = S at *
     generalize formT W q = T at *
     have hb1 : (S.toList == S.toList) = true := by simp
     have hb2 : (S.toList != S.toList) = false := by simp
     go_wp2_with (first
       | (go_at_call 8; (fail_if_success have z := R0); refine (HN.out _ HB.out).mono ?_; rintro e r0 ⟨dd, rfl, hD⟩; have HD := Lib.hid hD; have HB := Lib.hid hD.2.2; clear hD; have R0 := Lib.hid True.intro)
       | (go_at_call 14; (have z := R0; clear z); (fail_if_success have z := R1); refine (HS2.out _ _ HD.out).mono ?_; rintro e r1 ⟨rfl, hD⟩; have HD := Lib.hid hD; have HB := Lib.hid hD.2.2; clear hD; have R1 := Lib.hid True.intro)
       | (go_at_call 14; (have z := R1; clear z); (fail_if_success have z := R2); refine (HS1.out _ _ HD.out).mono ?_; rintro e r2 ⟨rfl, hD⟩; have HD := Lib.hid hD; have HB := Lib.hid hD.2.2; clear hD; have R2 := Lib.hid True.intro)
       | (go_at_call 15; (have z := R2; clear z); (fail_if_success have z := R3); refine (HTX.out _ _ HD.out).mono ?_; rintro e r3 ⟨rfl, hD⟩; have HD := Lib.hid hD; have HB := Lib.hid hD.2.2; clear hD; have R3 := Lib.hid True.intro))
     go_ret
     exact ⟨by first | rfl | (simp; done), (HBW.out.trans (HB.out.mono HBW.out.size))⟩
    ·have k2 : ((n2 : Int) == 0) = false := by simp; omega
     by_cases z3 : 20 < n1 + n2
     ·have k5 : decide (20 < (n1 : Int) + (n2 : Int)) = true := by simp; omega
      have k6 : IntKind.i64.wrap ((n1 : Int) + (n2 : Int)) = (n1 : Int) + (n2 : Int) := IntWalk.i64_in _ (by omega)
      clear HBO
      generalize formT W p = S at *
      generalize formT W q = T at *
      have hb1 : (S.toList == S.toList) = true := by simp
      have hb2 : (S.toList != S.toList) = false := by simp
      go_wp2_with (first
        | (go_at_call 8; (fail_if_success have z := R0); refine (HN.out _ HB.out).mono ?_; rintro e r0 ⟨dd, rfl, hD⟩; have HD := Lib.hid hD; have HB := Lib.hid hD.2.2; clear hD; have R0 := Lib.hid True.intro)
        | (go_at_call 14; (have z := R0; clear z); (fail_if_success have z := R1); refine (HS2.out _ _ HD.out).mono ?_; rintro e r1 ⟨rfl, hD⟩; have HD := Lib.hid hD; have HB := Lib.hid hD.2.2; clear hD; have R1 := Lib.hid True.intro)
        | (go_at_call 14; (have z := R1; clear z); (fail_if_success have z := R2); refine (HS1.out _ _ HD.out).mono ?_; rintro e r2 ⟨rfl, hD⟩; have HD := Lib.hid hD; have HB := Lib.hid hD.2.2; clear hD; have R2 := Lib.hid True.intro)
        | (go_at_call 15; (have z := R2; clear z); (fail_if_success have z := R3); refine (HTX.out _ _ HD.out).mono ?_; rintro e r3 ⟨rfl, hD⟩; have HD := Lib.hid hD; have HB := Lib.hid hD.2.2; clear hD; have R3 := Lib.hid True.intro))
      go_ret
      exact ⟨by first | rfl | (simp; done), (HBW.out.trans (HB.out.mono HBW.out.size))⟩
     ·have k5 : decide (20 < (n1 : Int) + (n2 : Int)) = false := by simp; omega
      have k6 : IntKind.i64.wrap ((n1 : Int) + (n2 : Int)) = (n1 : Int) + (n2 : Int) := IntWalk.i64_in _ (by omega)
      have k7 : IntKind.i64.wrap ((n1 : Int) - 1) = (n1 : Int) - 1 := IntWalk.i64_in _ (by omega)
      have k8 : ((n1 : Int) - 1).toNat = n1 - 1 := by omega
      have k9 : decide ((n1 : Int) - 1 < 0) = false := by simp; omega
      have k10 : decide (n1 ≤ n1 - 1) = false := by simp; omega
      have k11 : decide (n1 - 1 < n1) = true := by simp; omega
      obtain ⟨b, off, b2, off2, m, c, op, rfl, hm0, hop, hcp⟩ := prg_head HPG.out HT1.out (k := n1 - 1) (by rw [N1.out]; omega)
      obtain ⟨qb, qoff, qb2, qoff2, qm, qc, qop, rfl, hqm0, hqop, hcq⟩ := prg_head HQG.out HT2.out (k := 0) (by rw [N2.out]; omega)
      have HCP := Lib.hid hcp; have HCQ := Lib.hid hcq
      have k12 : decide (m = 0) = false := by simp; omega
      have k13 : decide (qm = 0) = false := by simp; omega
      clear hcp hcq
      rw [Nat.add_zero] at HCQ
      by_cases o1 : op = 9
      ·have e1 : decide (op = 9) = true := by simpa using o1
       have e1' : (op == 9) = true := by simpa using o1
       by_cases o2 : qop = 9
       ·have e2' : (qop == 9) = true := by simpa using o2
        clear HBO hop hqop
        generalize formT W p = S at *
        generalize formT W q = T at *
        have hb1 : (S.toList == S.toList) = true := by simp
        have hb2 : (S.toList != S.toList) = false := by simp
        go_wp2_with (first
          | (go_at_call 8; (fail_if_success have z := R0); refine (HN.out _ HB.out).mono ?_; rintro e r0 ⟨dd, rfl, hD⟩; have HD := Lib.hid hD; have HB := Lib.hid hD.2.2; clear hD; have R0 := Lib.hid True.intro)
          | (go_at_call 14; (have z := R0; clear z); (fail_if_success have z := R1); refine (HS2.out _ _ HD.out).mono ?_; rintro e r1 ⟨rfl, hD⟩; have HD := Lib.hid hD; have HB := Lib.hid hD.2.2; clear hD; have R1 := Lib.hid True.intro)
          | (go_at_call 14; (have z := R1; clear z); (fail_if_success have z := R2); refine (HS1.out _ _ HD.out).mono ?_; rintro e r2 ⟨rfl, hD⟩; have HD := Lib.hid hD; have HB := Lib.hid hD.2.2; clear hD; have R2 := Lib.hid True.intro)
          | (go_at_call 15; (have z := R2; clear z); (fail_if_success have z := R3); refine (HTX.out _ _ HD.out).mono ?_; rintro e r3 ⟨rfl, hD⟩; have HD := Lib.hid hD; have HB := Lib.hid hD.2.2; clear hD; obtain ⟨pc1, pc2⟩ := HCP.out _ HB.out; obtain ⟨qc1, qc2⟩ := HCQ.out _ HB.out; have R3 := Lib.hid True.intro))
        go_ret
        exact ⟨by first | rfl | (simp; done), (HBW.out.trans (HB.out.mono HBW.out.size))⟩
       ·have e2' : (qop == 9) = false := by simpa using o2
        have hnn : (∃ u, p.getLast? = some u ∧ isNote u = false) ∨ ∃ v r, q = v :: r ∧ isNote v = false := by
         refine .inr ?_
         cases q with
         | nil => rw [List.length_nil] at N2; have := N2.out; omega
         | cons v r => exact ⟨v, r, rfl, by rw [hqop v rfl]; simpa using o2⟩
        rcases HBO.out hnn (by omega) (by omega) with ⟨kb, hb⟩ | ⟨kb, hb⟩
        ·have HFB := Lib.hid (fun (w' : World) (hB : Below t4.heap.size t4 w') => fmt_ok_is hb w' HSZ.out (HM.out.past hB) (HPW.out.past hB))
         have HE0 : Hid (∀ w', Below t4.heap.size t4 w' → Calls Tryz.prog 9 #[.nilIface, .int .i64 3] w' (Ret w' (.bool false))) := Lib.hid (fun w' hB => same_error 0 3 w' (HG.out.past hgs hB) (Nat.le_trans hgs hB.size))
         clear hnn hb HBO hop hqop
         generalize formT W p = S at *
         generalize formT W q = T at *
         have hb1 : (S.toList == S.toList) = true := by simp
         have hb2 : (S.toList != S.toList) = false := by simp
         have hb3 : ((S ++ T).toList == (S ++ T).toList) = true := by simp
         go_wp2_with (first
           | (go_at_call 8; (fail_if_success have z := R0); refine (HN.out _ HB.out).mono ?_; rintro e r0 ⟨dd, rfl, hD⟩; have HD := Lib.hid hD; have HB := Lib.hid hD.2.2; clear hD; have R0 := Lib.hid True.intro)
           | (go_at_call 14; (have z := R0; clear z); (fail_if_success have z := R1); refine (HS2.out _ _ HD.out).mono ?_; rintro e r1 ⟨rfl, hD⟩; have HD := Lib.hid hD; have HB := Lib.hid hD.2.2; clear hD; have R1 := Lib.hid True.intro)
           | (go_at_call 14; (have z := R1; clear z); (fail_if_success have z := R2); refine (HS1.out _ _ HD.out).mono ?_; rintro e r2 ⟨rfl, hD⟩; have HD := Lib.hid hD; have HB := Lib.hid hD.2.2; clear hD; have R2 := Lib.hid True.intro)
           | (go_at_call 15; (have z := R2; clear z); (fail_if_success have z := R3); refine (HTX.out _ _ HD.out).mono ?_; rintro e r3 ⟨rfl, hD⟩; have HD := Lib.hid hD; have HB := Lib.hid hD.2.2; clear hD; obtain ⟨pc1, pc2⟩ := HCP.out _ HB.out; obtain ⟨qc1, qc2⟩ := HCQ.out _ HB.out; have R3 := Lib.hid True.intro)
           | (go_at_call 20; (have z := R3; clear z); (fail_if_success have z := R4); refine (HFB.out _ HB.out).mono ?_; rintro e r4 ⟨rfl, hB⟩; have HB := Lib.hid (HB.out.trans (hB.mono HB.out.size)); clear hB; have R4 := Lib.hid True.intro)
           | (go_at_call 9; (have z := R4; clear z); (fail_if_success have z := R5); refine (HE0.out _ HB.out).mono ?_; rintro e r5 ⟨rfl, hB⟩; have HB := Lib.hid (HB.out.trans (hB.mono HB.out.size)); clear hB; have R5 := Lib.hid True.intro))
         go_ret
         exact ⟨by first | rfl | (simp; done), (HBW.out.trans (HB.out.mono HBW.out.size))⟩
        ·have HFB := Lib.hid (fun (w' : World) (hB : Below t4.heap.size t4 w') => fmt_bad_is hb (by decide) w' HSZ.out (HM.out.past hB) (HPW.out.past hB))
         have HE3 : Hid (∀ w', Below t4.heap.size t4 w' → Calls Tryz.prog 9 #[.iface 24 (.int .i64 3), .int .i64 3] w' (Ret w' (.bool true))) := Lib.hid (fun w' hB => error_same 3 (by decide) w' (HG.out.past hgs hB) (Nat.le_trans hgs hB.size))
         clear hnn hb HBO hop hqop
         generalize formT W p = S at *
         generalize formT W q = T at *
         have hb1 : (S.toList == S.toList) = true := by simp
         have hb2 : (S.toList != S.toList) = false := by simp
         go_wp2_with (first
           | (go_at_call 8; (fail_if_success have z := R0); refine (HN.out _ HB.out).mono ?_; rintro e r0 ⟨dd, rfl, hD⟩; have HD := Lib.hid hD; have HB := Lib.hid hD.2.2; clear hD; have R0 := Lib.hid True.intro)
           | (go_at_call 14; (have z := R0; clear z); (fail_if_success have z := R1); refine (HS2.out _ _ HD.out).mono ?_; rintro e r1 ⟨rfl, hD⟩; have HD := Lib.hid hD; have HB := Lib.hid hD.2.2; clear hD; have R1 := Lib.hid True.intro)
           | (go_at_call 14; (have z := R1; clear z); (fail_if_success have z := R2); refine (HS1.out _ _ HD.out).mono ?_; rintro e r2 ⟨rfl, hD⟩; have HD := Lib.hid hD; have HB := Lib.hid hD.2.2; clear hD; have R2 := Lib.hid True.intro)
           | (go_at_call 15; (have z := R2; clear z); (fail_if_success have z := R3); refine (HTX.out _ _ HD.out).mono ?_; rintro e r3 ⟨rfl, hD⟩; have HD := Lib.hid hD; have HB := Lib.hid hD.2.2; clear hD; obtain ⟨pc1, pc2⟩ := HCP.out _ HB.out; obtain ⟨qc1, qc2⟩ := HCQ.out _ HB.out; have R3 := Lib.hid True.intro)
           | (go_at_call 20; (have z := R3; clear z); (fail_if_success have z := R4); refine (HFB.out _ HB.out).mono ?_; rintro e r4 ⟨rfl, hB⟩; have HB := Lib.hid (HB.out.trans (hB.mono HB.out.size)); clear hB; have R4 := Lib.hid True.intro)
           | (go_at_call 9; (have z := R4; clear z); (fail_if_success have z := R5); refine (HE3.out _ HB.out).mono ?_; rintro e r5 ⟨rfl, hB⟩; have HB := Lib.hid (HB.out.trans (hB.mono HB.out.size)); clear hB; have R5 := Lib.hid True.intro))
         go_ret
         exact ⟨by first | rfl | (simp; done), (HBW.out.trans (HB.out.mono HBW.out.size))⟩
      ·have e1' : (op == 9) = false := by simpa using o1
       have hnn : (∃ u, p.getLast? = some u ∧ isNote u = false) ∨ ∃ v r, q = v :: r ∧ isNote v = false := by
        refine .inl ?_
        have hlt : n1 - 1 < p.length := by rw [N1.out]; omega
        refine ⟨p[n1 - 1], ?_, by rw [hop _ (List.getElem?_eq_getElem hlt)]; simpa using o1⟩
        rw [List.getLast?_eq_getElem?, N1.out]
        exact List.getElem?_eq_getElem hlt
       rcases HBO.out hnn (by omega) (by omega) with ⟨kb, hb⟩ | ⟨kb, hb⟩
       ·have HFB := Lib.hid (fun (w' : World) (hB : Below t4.heap.size t4 w') => fmt_ok_is hb w' HSZ.out (HM.out.past hB) (HPW.out.past hB))
        have HE0 : Hid (∀ w', Below t4.heap.size t4 w' → Calls Tryz.prog 9 #[.nilIface, .int .i64 3] w' (Ret w' (.bool false))) := Lib.hid (fun w' hB => same_error 0 3 w' (HG.out.past hgs hB) (Nat.le_trans hgs hB.size))
        clear hnn hb HBO hop hqop
        generalize formT W p = S at *
        generalize formT W q = T at *
        have hb1 : (S.toList == S.toList) = true := by simp
        have hb2 : (S.toList != S.toList) = false := by simp
        have hb3 : ((S ++ T).toList == (S ++ T).toList) = true := by simp
        go_wp2_with (first
          | (go_at_call 8; (fail_if_success have z := R0); refine (HN.out _ HB.out).mono ?_; rintro e r0 ⟨dd, rfl, hD⟩; have HD := Lib.hid hD; have HB := Lib.hid hD.2.2; clear hD; have R0 := Lib.hid True.intro)
          | (go_at_call 14; (have z := R0; clear z); (fail_if_success have z := R1); refine (HS2.out _ _ HD.out).mono ?_; rintro e r1 ⟨rfl, hD⟩; have HD := Lib.hid hD; have HB := Lib.hid hD.2.2; clear hD; have R1 := Lib.hid True.intro)
          | (go_at_call 14; (have z := R1; clear z); (fail_if_success have z := R2); refine (HS1.out _ _ HD.out).mono ?_; rintro e r2 ⟨rfl, hD⟩; have HD := Lib.hid hD; have HB := Lib.hid hD.2.2; clear hD; have R2 := Lib.hid True.intro)
          | (go_at_call 15; (have z := R2; clear z); (fail_if_success have z := R3); refine (HTX.out _ _ HD.out).mono ?_; rintro e r3 ⟨rfl, hD⟩; have HD := Lib.hid hD; have HB := Lib.hid hD.2.2; clear hD; obtain ⟨pc1, pc2⟩ := HCP.out _ HB.out; have R3 := Lib.hid True.intro)
          | (go_at_call 20; (have z := R3; clear z); (fail_if_success have z := R4); refine (HFB.out _ HB.out).mono ?_; rintro e r4 ⟨rfl, hB⟩; have HB := Lib.hid (HB.out.trans (hB.mono HB.out.size)); clear hB; have R4 := Lib.hid True.intro)
          | (go_at_call 9; (have z := R4; clear z); (fail_if_success have z := R5); refine (HE0.out _ HB.out).mono ?_; rintro e r5 ⟨rfl, hB⟩; have HB := Lib.hid (HB.out.trans (hB.mono HB.out.size)); clear hB; have R5 := Lib.hid True.intro))
        go_ret
        exact ⟨by first | rfl | (simp; done), (HBW.out.trans (HB.out.mono HBW.out.size))⟩
       ·have HFB := Lib.hid (fun (w' : World) (hB : Below t4.heap.size t4 w') => fmt_bad_is hb (by decide) w' HSZ.out (HM.out.past hB) (HPW.out.past hB))
        have HE3 : Hid (∀ w', Below t4.heap.size t4 w' → Calls Tryz.prog 9 #[.iface 24 (.int .i64 3), .int .i64 3] w' (Ret w' (.bool true))) := Lib.hid (fun w' hB => error_same 3 (by decide) w' (HG.out.past hgs hB) (Nat.le_trans hgs hB.size))
        clear hnn hb HBO hop hqop
        generalize formT W p = S at *
        generalize formT W q = T at *
        have hb1 : (S.toList == S.toList) = true := by simp
        have hb2 : (S.toList != S.toList) = false := by simp
        go_wp2_with (first
          | (go_at_call 8; (fail_if_success have z := R0); refine (HN.out _ HB.out).mono ?_; rintro e r0 ⟨dd, rfl, hD⟩; have HD := Lib.hid hD; have HB := Lib.hid hD.2.2; clear hD; have R0 := Lib.hid True.intro)
          | (go_at_call 14; (have z := R0; clear z); (fail_if_success have z := R1); refine (HS2.out _ _ HD.out).mono ?_; rintro e r1 ⟨rfl, hD⟩; have HD := Lib.hid hD; have HB := Lib.hid hD.2.2; clear hD; have R1 := Lib.hid True.intro)
          | (go_at_call 14; (have z := R1; clear z); (fail_if_success have z := R2); refine (HS1.out _ _ HD.out).mono ?_; rintro e r2 ⟨rfl, hD⟩; have HD := Lib.hid hD; have HB := Lib.hid hD.2.2; clear hD; have R2 := Lib.hid True.intro)
          | (go_at_call 15; (have z := R2; clear z); (fail_if_success have z := R3); refine (HTX.out _ _ HD.out).mono ?_; rintro e r3 ⟨rfl, hD⟩; have HD := Lib.hid hD; have HB := Lib.hid hD.2.2; clear hD; obtain ⟨pc1, pc2⟩ := HCP.out _ HB.out; have R3 := Lib.hid True.intro)
          | (go_at_call 20; (have z := R3; clear z); (fail_if_success have z := R4); refine (HFB.out _ HB.out).mono ?_; rintro e r4 ⟨rfl, hB⟩; have HB := Lib.hid (HB.out.trans (hB.mono HB.out.size)); clear hB; have R4 := Lib.hid True.intro)
          | (go_at_call 9; (have z := R4; clear z); (fail_if_success have z := R5); refine (HE3.out _ HB.out).mono ?_; rintro e r5 ⟨rfl, hB⟩; have HB := Lib.hid (HB.out.trans (hB.mono HB.out.size)); clear hB; have R5 := Lib.hid True.intro))
        go_ret
        exact ⟨by first | rfl | (simp; done), (HBW.out.trans (HB.out.mono HBW.out.size))⟩
theorem topParts_any (s t : ByteArray) (W : Int) (w : World) (hs : s.size ≤ maxLen) (ht : t.size ≤ maxLen) (hm : MaxL w) (hp : PowT w) (hg : ErrT w) (hgs : 0 + 1 ≤ w.heap.size) :
  Calls Tryz.prog 6 #[.string s, .string t, .int .i64 W] w (Ret w (.bool true)) := by
 obtain ⟨f1, j1, S, h1⟩ : ∃ f k T, fmtF s W = (f, k, T) := ⟨_, _, _, rfl⟩
 by_cases hf1 : f1 ≠ 0
 ·exact topParts_bad1 s t W w hs ht hm hp h1 hf1
 have hf1 : f1 = 0 := by simpa using hf1
 subst hf1
 obtain ⟨f2, j2, T, h2⟩ : ∃ f k T, fmtF t W = (f, k, T) := ⟨_, _, _, rfl⟩
 by_cases hf2 : f2 ≠ 0
 ·exact topParts_bad2 s t W w hs ht hm hp h1 h2 hf2
 have hf2 : f2 = 0 := by simpa using hf2
 subst hf2
 obtain ⟨a1, a2, a3, -⟩ := fmt_parts (s := s) (W := W) (by rw [h1])
 obtain ⟨b1, b2, b3, -⟩ := fmt_parts (s := t) (W := W) (by rw [h2])
 obtain ⟨g1, k1, p, e1⟩ : ∃ f k x, parseF s = (f, k, x) := ⟨_, _, _, rfl⟩
 obtain ⟨g2, k2, q, e2⟩ : ∃ f k x, parseF t = (f, k, x) := ⟨_, _, _, rfl⟩
 have w1 := parsed_words a2
 have w2 := parsed_words b2
 rw [e1] at a2 a3 w1
 rw [e2] at b2 b3 w2
 simp only at a2 a3 w1 b2 b3 w2
 subst a2 b2
 have z1 := (parse_form w1.1 w1.2 a3).2
 have z2 := (parse_form w2.1 w2.2 b3).2
 refine topParts_main s t W w hs ht hm hp hg hgs a1 e1 e2 a3 b3 z1 z2 (by rw [ByteArray.size_append]; simp only [maxLen]; omega) (fun hn hq0 hl => ?_)
 have hpr := progF_app w1.1 w2.1 hl hn (fun e => by rw [e] at hq0; simp at hq0)
 have he := formE_app a3 b3
 rw [← formT_app]
 by_cases h3 : 300 < ((p ++ q).map nTok).sum
 ·right
  have hb := parse_form_full hpr h3 he
  exact ⟨(fmtF (formT W (p ++ q)) W).2.1, by rw [fmtF, if_neg (by simp [a1]), if_pos (by rw [hb]; decide), hb]⟩
 ·left
  have hb := (parse_form hpr (by omega) he).1
  have h7 := fmt_of hb W
  rw [if_neg (by simp [a1]), if_neg (by simp [he])] at h7
  exact ⟨_, h7⟩
end Go.Proofs.YtddfdmopaeghnadGreatDoor
