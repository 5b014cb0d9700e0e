/- A desk's map of lines, read and written; each statement's line is its own. With what it rests on. Conditions: as each theorem states them. -/
import Derived.Test.YtddfdmopaeghnacGreatDoorDkPg
import Derived.Test.YtddfdmopaeghnacGreatDoorDkBc
import Derived.Maps.Keyed
import Derived.Deep.RegionHeld3
namespace Go.Proofs.YtddfdmopaeghnacGreatDoor
open Go.RowKit Go.Maps
theorem lineL_inj {u v : List Nd} (hu : treeF u = 0) (hv : treeF v = 0) (nu : nTok u ≤ 300) (nv : nTok v ≤ 300) (h : lineL u = lineL v) : u = v := by
 have one : ∀ x : List Nd, treeF x = 0 → nTok x ≤ 300 → parseF (lineL x ++ ⟨#[10]⟩) = (0, 0, [x]) := fun x hx nx => by
  have h0 : (progF [x]).2 = 0 := by rw [progF, if_neg (by simp), progK, if_neg (by simp [hx])]; simp [progK]
  have h1 := ((parse_print h0).2 (by simpa using nx)).1
  have h2 : printF [x] = lineL x ++ ⟨#[10]⟩ := by simp [printF, printL]
  rwa [h2] at h1
 have h1 := one u hu nu
 rw [h, one v hv nv] at h1
 injection h1 with _ h1
 injection h1 with _ h1
 injection h1 with h1
 exact h1.symm
theorem strLaw : Keyed Tryz.prog 9 := string_keyed Tryz.underlying9
theorem strKey {s : ByteArray} (hs : s.size ≤ maxLen) : ∃ l, keyOf Tryz.prog 9 (.string s) = some l := by
 refine ⟨.string s.data.toList, ?_⟩
 simp [keyOf, mapKey, Tryz.underlying9, hs]
theorem mapType : Tryz.prog.underlying 138 = some (.map 9 9) := by kernel_rfl
theorem strZero (w : World) : (zeroValue 9).run Tryz.prog w = .ok (.string .empty) w := by kernel_rfl
theorem nil_look {s : ByteArray} (hs : s.size ≤ maxLen) (w : World) : (Instr.lookup 138 (.map none) (.string s) true).run Tryz.prog w = .ok (.tuple #[.string .empty, .bool false]) w := by
 obtain ⟨l, hl⟩ := strKey hs
 have hf : (Instr.findKey 9 (.string s) []).run Tryz.prog w = .ok none w := by
  rcases strLaw.find w hl [] (fun e he => by cases he) with ⟨h, _⟩ | ⟨j, e, _, h, _⟩
  ·exact h
  ·simp at h
 simp [Instr.lookup, run_underlying mapType, strLaw.check w true hl, hf, Result.andThen]
 rfl
def KnownF (W : Int) (K : List ByteArray) (f : Value → Option Value) : Prop :=
 (∀ key v, f key = some v → ∃ u, treeF u = 0 ∧ nTok u ≤ 300 ∧ oneQ u W = 0 ∧ key = .string (lineL u) ∧ v = .string (oneX u W) ∧ lineL u ∈ K) ∧ ∀ x ∈ K, (f (.string x)).isSome = true
def KnownM (W : Int) (K : List ByteArray) (mv : Value) (w : World) : Prop :=
 (mv = .map none ∧ K = []) ∨ ∃ b f, mv = .map (some b) ∧ MapF Tryz.prog 9 f b w ∧ KnownF W K f
theorem KnownM.past {W : Int} {K : List ByteArray} {mv : Value} {w w' : World} (h : KnownM W K mv w) (hb : Below w.heap.size w w') : KnownM W K mv w' := by
 rcases h with h | ⟨b, f, h1, h2, h3⟩
 ·exact .inl h
 ·exact .inr ⟨b, f, h1, h2.below hb, h3⟩
theorem KnownF.at {W : Int} {K : List ByteArray} {f : Value → Option Value} (h : KnownF W K f) {u : List Nd} (hu : treeF u = 0) (nu : nTok u ≤ 300) :
  (lineL u ∈ K → f (.string (lineL u)) = some (.string (oneX u W)) ∧ oneQ u W = 0) ∧ (lineL u ∉ K → f (.string (lineL u)) = none) := by
 constructor
 ·intro hk
  cases hf : f (.string (lineL u)) with
  | none => have := h.2 _ hk; rw [hf] at this; cases this
  | some v =>
   obtain ⟨x, x1, x2, x3, x4, x5, x6⟩ := h.1 _ _ hf
   injection x4 with x4
   obtain rfl := lineL_inj hu x1 nu x2 x4
   exact ⟨by rw [x5], x3⟩
 ·intro hk
  cases hf : f (.string (lineL u)) with
  | none => rfl
  | some v =>
   obtain ⟨x, x1, x2, x3, x4, x5, x6⟩ := h.1 _ _ hf
   injection x4 with x4
   rw [x4] at hk
   exact absurd x6 hk
theorem KnownM.look {W : Int} {K : List ByteArray} {mv : Value} {w : World} (h : KnownM W K mv w) {u : List Nd} (hu : treeF u = 0) (nu : nTok u ≤ 300) (hs : (lineL u).size ≤ maxLen) :
  (lineL u ∈ K ∧ oneQ u W = 0 ∧ (Instr.lookup 138 mv (.string (lineL u)) true).run Tryz.prog w = .ok (.tuple #[.string (oneX u W), .bool true]) w) ∨
  (lineL u ∉ K ∧ (Instr.lookup 138 mv (.string (lineL u)) true).run Tryz.prog w = .ok (.tuple #[.string .empty, .bool false]) w) := by
 rcases h with ⟨rfl, rfl⟩ | ⟨b, f, rfl, h2, h3⟩
 ·exact .inr ⟨by simp, nil_look hs w⟩
 ·obtain ⟨l, hl⟩ := strKey hs
  have hlk := h2.look strLaw mapType (strZero w) hl
  obtain ⟨a1, a2⟩ := h3.at hu nu
  by_cases hk : lineL u ∈ K
  ·obtain ⟨b1, b2⟩ := a1 hk
   rw [b1] at hlk
   exact .inl ⟨hk, b2, hlk⟩
  ·rw [a2 hk] at hlk
   exact .inr ⟨hk, hlk⟩
theorem KnownF.put {W : Int} {K : List ByteArray} {f : Value → Option Value} (h : KnownF W K f) {u : List Nd} (hu : treeF u = 0) (nu : nTok u ≤ 300) (hq : oneQ u W = 0) : KnownF W (lineL u :: K) (putF f (.string (lineL u)) (.string (oneX u W))) := by
 refine ⟨fun key v hv => ?_, fun x hx => ?_⟩
 ·rcases putF_some hv with ⟨rfl, rfl⟩ | hv
  ·exact ⟨u, hu, nu, hq, rfl, rfl, by simp⟩
  ·obtain ⟨x, x1, x2, x3, x4, x5, x6⟩ := h.1 _ _ hv
   exact ⟨x, x1, x2, x3, x4, x5, by simp [x6]⟩
 ·by_cases he : x = lineL u
  ·subst he
   rw [putF_same]; rfl
  ·rw [putF_other f _ (by simpa using he)]
   rcases List.mem_cons.1 hx with hx | hx
   ·exact absurd hx he
   ·exact h.2 x hx
theorem KnownF.none_ (W : Int) : KnownF W [] (fun _ => none) := ⟨fun _ _ h => (by cases h), fun x hx => (by cases hx)⟩
open Classical in
noncomputable def newN (K : List ByteArray) : List ByteArray → List (List Nd) → Nat
 | _, [] => 0
 | S, u :: r => if lineL u ∈ S then newN K S r else (if lineL u ∈ K then 0 else 1) + newN K (lineL u :: S) r
open Classical in
noncomputable def seenL : List ByteArray → List (List Nd) → List ByteArray
 | S, [] => S
 | S, u :: r => if lineL u ∈ S then seenL S r else seenL (lineL u :: S) r
theorem seenL_all : ∀ {p : List (List Nd)} {S : List ByteArray}, (∀ x ∈ S, x ∈ seenL S p) ∧ ∀ u ∈ p, lineL u ∈ seenL S p
 | [], S => ⟨fun x hx => hx, fun u hu => by cases hu⟩
 | u :: r, S => by
  rw [seenL]
  split
  ·rename_i h
   obtain ⟨h1, h2⟩ := seenL_all (p := r) (S := S)
   exact ⟨h1, fun v hv => by rcases List.mem_cons.1 hv with rfl | hv; exact h1 _ h; exact h2 v hv⟩
  ·obtain ⟨h1, h2⟩ := seenL_all (p := r) (S := lineL u :: S)
   exact ⟨fun x hx => h1 x (by simp [hx]), fun v hv => by rcases List.mem_cons.1 hv with rfl | hv; exact h1 _ (by simp); exact h2 v hv⟩
theorem newN_none {K : List ByteArray} : ∀ {p : List (List Nd)} {S : List ByteArray}, (∀ u ∈ p, lineL u ∈ K) → newN K S p = 0
 | [], _, _ => rfl
 | u :: r, S, h => by
  rw [newN]
  split
  ·exact newN_none fun v hv => h v (by simp [hv])
  ·rw [if_pos (h u (by simp)), newN_none fun v hv => h v (by simp [hv])]
end Go.Proofs.YtddfdmopaeghnacGreatDoor
namespace Go.Proofs.YtddfdmopaeghnacGreatDoor
open Go.RowKit Go.Maps
def SheetTo (W : Int) (P : Option Addr) (n c : Nat) (p : List (List Nd)) (K : List ByteArray) (w : World) (e : Ending) (w' : World) : Prop :=
 ∃ b f, e = .returned (.tuple #[.agg #[.int .i64 W, .slice P n c, .map (some b)], .int .i64 (newN K [] p : Nat), .nilIface]) ∧ MapF Tryz.prog 9 f b w' ∧ KnownF W (seenL [] p) f ∧ w.heap.size ≤ b ∧ Below w.heap.size w w'
def SheetNo (q : Int) (w : World) (e : Ending) (w' : World) : Prop :=
 e = .returned (.tuple #[.agg #[.int .i64 0, .slice none 0 0, .map none], .int .i64 0, .iface 43 (.int .i64 q)]) ∧ Below w.heap.size w w'
structure DkAt (W : Int) (p : List (List Nd)) (K : List ByteArray) (k : Nat) (S : List ByteArray) (n : Nat) : Prop where
 cnt : newN K [] p = n + newN K S (p.drop k)
 seen : seenL [] p = seenL S (p.drop k)
 err : formE W p = formE W (p.drop k)
theorem DkAt.start (W : Int) (p : List (List Nd)) (K : List ByteArray) : DkAt W p K 0 [] 0 := ⟨by simp, by simp, by simp⟩
theorem DkAt.old {W : Int} {p : List (List Nd)} {K S : List ByteArray} {k n : Nat} (h : DkAt W p K k S n) {u : List Nd} (hu : p[k]? = some u) (hS : lineL u ∈ S) (hq : oneQ u W = 0) : DkAt W p K (k + 1) S n := by
 obtain ⟨hk, rfl⟩ := List.getElem?_eq_some_iff.1 hu
 obtain ⟨h1, h2, h3⟩ := h
 rw [List.drop_eq_getElem_cons hk] at h1 h2 h3
 rw [newN, if_pos hS] at h1
 rw [seenL, if_pos hS] at h2
 rw [formE, if_neg (by simpa using hq)] at h3
 exact ⟨h1, h2, h3⟩
theorem DkAt.fresh {W : Int} {p : List (List Nd)} {K S : List ByteArray} {k n : Nat} (h : DkAt W p K k S n) {u : List Nd} (hu : p[k]? = some u) (hS : lineL u ∉ S) (hq : oneQ u W = 0) :
  (lineL u ∈ K → DkAt W p K (k + 1) (lineL u :: S) n) ∧ (lineL u ∉ K → DkAt W p K (k + 1) (lineL u :: S) (n + 1)) := by
 obtain ⟨hk, rfl⟩ := List.getElem?_eq_some_iff.1 hu
 obtain ⟨h1, h2, h3⟩ := h
 rw [List.drop_eq_getElem_cons hk] at h1 h2 h3
 rw [newN, if_neg hS] at h1
 rw [seenL, if_neg hS] at h2
 rw [formE, if_neg (by simpa using hq)] at h3
 refine ⟨fun hK => ⟨?_, h2, h3⟩, fun hK => ⟨?_, h2, h3⟩⟩
 ·rw [if_pos hK] at h1; omega
 ·rw [if_neg hK] at h1; omega
theorem DkAt.stop {W : Int} {p : List (List Nd)} {K S : List ByteArray} {k n : Nat} (h : DkAt W p K k S n) {u : List Nd} (hu : p[k]? = some u) (hq : oneQ u W ≠ 0) : formE W p = oneQ u W := by
 obtain ⟨hk, rfl⟩ := List.getElem?_eq_some_iff.1 hu
 rw [h.err, List.drop_eq_getElem_cons hk, formE, if_pos hq]
theorem DkAt.end_ {W : Int} {p : List (List Nd)} {K S : List ByteArray} {k n : Nat} (h : DkAt W p K k S n) (hk : p.length ≤ k) : newN K [] p = n ∧ seenL [] p = S ∧ formE W p = 0 := by
 obtain ⟨h1, h2, h3⟩ := h
 rw [List.drop_eq_nil_of_le hk] at h1 h2 h3
 exact ⟨h1, h2, h3⟩
theorem wp_namedD {P : Program} {c : Code} {Q : Exit → Act → World → Prop} {a : Act} {w : World} (S : World → Prop) (hS : S w) (h : ∀ w', S w' → Code.wp P c Q a w') : Code.wp P c Q a w := h w hS
theorem three_heap (w : World) (a b c : Obj) : Below w.heap.size w (((w.alloc a).alloc b).alloc c) ∧ (((w.alloc a).alloc b).alloc c).heap[w.heap.size]? = some a ∧ (((w.alloc a).alloc b).alloc c).heap[w.heap.size + 1]? = some b ∧ (((w.alloc a).alloc b).alloc c).heap[w.heap.size + 1 + 1]? = some c := by
 refine ⟨(((Below.refl _ _).alloc (Nat.le_refl _) _).alloc (by simp) _).alloc (by simp; omega) _, ?_, ?_, heap_new (by simp)⟩
 ·exact (Below.heap_alloc _ _ _ (by simp; omega)).trans ((Below.heap_alloc _ _ _ (by simp)).trans (heap_new rfl))
 ·exact (Below.heap_alloc _ _ _ (by simp)).trans (heap_new (by simp))
set_option maxRecDepth 100000 in
set_option maxHeartbeats 8000000 in
theorem dlaid_any (W : Int) (p : List (List Nd)) (n : Nat) (hn : p.length = n) (P : Option Addr) (c : Nat) (K : List ByteArray) (mv : Value) (w : World) (hp : Prg w w.heap.size P p) (hT : ∀ u ∈ p, treeF u = 0 ∧ nTok u ≤ 300) (h20 : p.length ≤ 20) (hK : KnownM W K mv w) (hm : MaxL w) (hpw : PowT w) :
  Calls Tryz.prog 74 #[.int .i64 W, .slice P n c, mv] w (fun e w' => (formE W p = 0 → SheetTo W P n c p K w e w') ∧ (formE W p ≠ 0 → SheetNo (formE W p) w e w')) := by
 subst hn
 have HPR := Lib.hid hp; have HT := Lib.hid hT; have HKN := Lib.hid hK; have HM := Lib.hid hm; have HPW := Lib.hid hpw
 clear hp hT hK hm hpw
 have hmm := @run_makeMap Tryz.prog
 go_enter Tryz.func74, Tryz.ntmps74
 go_upto_region 3 with fail
 refine wp_namedD (fun wx => Below w.heap.size w wx ∧ wx.heap[w.heap.size]? = some (.cells #[.int .i64 0, .slice none 0 0, .map none] 140 (0, 0)) ∧ wx.heap[w.heap.size + 1]? = some (.map #[] 0) ∧ wx.heap[w.heap.size + 1 + 1]? = some (.cells #[.int .i64 W, .slice P p.length c, .map (some (w.heap.size + 1))] 140 (0, 0))) (three_heap w _ _ _) ?_
 rintro w0 ⟨hB0, h60, hm0, h90⟩
 have HB0 := Lib.hid hB0; have H60 := Lib.hid h60; have HM0 := Lib.hid hm0; have H90 := Lib.hid h90
 clear hB0 h60 hm0 h90 hmm
 go_wp2_with fail
 go_loopw [10, 12, 13, 14, 15, 16, 17, 18, 19, 26] (fun cnt _ _ _ _ _ _ _ _ i wr => ∃ (k nn : Nat) (S : List ByteArray) (f : Value → Option Value), k ≤ p.length ∧ i = .int .i64 k ∧ cnt = .int .i64 nn ∧ nn ≤ k ∧ Hid (DkAt W p K k S nn) ∧ Hid (KnownF W S f ∧ MapF Tryz.prog 9 f (w.heap.size + 1) wr) ∧ Hid (wr.heap[w.heap.size]? = some (.cells #[.int .i64 0, .slice none 0 0, .map none] 140 (0, 0))) ∧ Hid (wr.heap[w.heap.size + 1 + 1]? = some (.cells #[.int .i64 W, .slice P p.length c, .map (some (w.heap.size + 1))] 140 (0, 0))) ∧ Hid (Below w.heap.size w wr)) (fun _ _ _ _ _ _ _ _ _ i _ => p.length - (intOf i).toNat)
 case atStart => exact ⟨0, 0, [], fun _ => none, by omega, rfl, rfl, Nat.le_refl _, Lib.hid (DkAt.start W p K), Lib.hid ⟨KnownF.none_ W, ⟨#[], 0, HM0.out, by simp, by simp, by simp⟩⟩, H60, H90, HB0⟩
 case round =>
  clear HB0 H60 H90 HM0
  obtain ⟨k, nn, S, f, hk, rfl, rfl, hnk, HA, HF, H6, H9, HB⟩ := hrel
  by_cases hlt : k < p.length
  ·obtain ⟨b, off, Ak, ck, u, rfl, hb, hu, hc, hN, hSh⟩ := HPR.out.one HB.out hlt
   have hmem : u ∈ p := List.mem_of_getElem? hu
   obtain ⟨hut, hnt⟩ := HT.out u hmem
   obtain ⟨hsz, hline⟩ := lineSaid_all hut
   have HLN := Lib.hid (hline Ak ck wr hN (HPW.out.past HB.out))
   have hsm : (lineL u).size ≤ maxLen := by simp only [maxLen]; omega
   have hat := HF.out.1.at hut hnt
   have HU := Lib.hid hu
   have H93 : Hid (∀ w3, Below wr.heap.size wr w3 → w3.cell? ⟨w.heap.size + 1 + 1, 2, none⟩ = some (.map (some (w.heap.size + 1)))) := Lib.hid (fun w3 hB3 => by rw [blk_cell (j := 2) (blk_below H9.out hB3)]; rfl)
   have HLS := Lib.hid (fun w3 (hB3 : Below wr.heap.size wr w3) => KnownM.look (w := w3) (mv := .map (some (w.heap.size + 1))) (.inr ⟨_, f, rfl, HF.out.2.below hB3, HF.out.1⟩) hut hnt hsm)
   have HLK := Lib.hid (fun w3 (hB3 : Below wr.heap.size wr w3) => KnownM.look (w := w3) (mv := mv) ((HKN.out.past HB.out).past hB3) hut hnt hsm)
   obtain ⟨l, hl⟩ := strKey hsm
   have HST := Lib.hid (fun w3 (hB3 : Below wr.heap.size wr w3) => (HF.out.2.below hB3).store strLaw mapType hl (.string (oneX u W)))
   by_cases hS : lineL u ∈ S
   ·have hq := (hat.1 hS).2
    have HA2 := Lib.hid (HA.out.old hu hS hq)
    have HL1 := Lib.hid (fun w3 (hB3 : Below wr.heap.size wr w3) => ((HLS.out w3 hB3).resolve_right (fun x => x.1 hS)).2.2)
    generalize lineL u = LU at *
    generalize oneX u W = X at *
    clear hN hSh hu hmem hut hnt hsz hline hsm hat HLS HLK HST hS hq HU HA hl
    go_wp2_with (go_at_call 48; refine HLN.out.mono ?_; rintro e w3 ⟨rfl, hB3⟩; have e1 := HL1.out w3 hB3; have e2 := H93.out w3 hB3; have HB3 := Lib.hid hB3; clear hB3)
    go_roundw
    case measure => simp [intOf]; omega
    case rel => exact ⟨k + 1, nn, S, f, by omega, by go_num, rfl, by omega, HA2, Lib.hid ⟨HF.out.1, HF.out.2.below HB3.out⟩, Lib.hid (blk_below H6.out HB3.out), Lib.hid (blk_below H9.out HB3.out), Lib.hid (HB.out.trans (HB3.out.mono HB.out.size))⟩
   ·have HL1 := Lib.hid (fun w3 (hB3 : Below wr.heap.size wr w3) => ((HLS.out w3 hB3).resolve_left (fun x => hS x.1)).2)
    by_cases hK2 : lineL u ∈ K
    ·have hq := ((HLK.out wr (Below.refl _ _)).resolve_right (fun x => x.1 hK2)).2.1
     have HA2 := Lib.hid ((HA.out.fresh hu hS hq).1 hK2)
     have HL2 := Lib.hid (fun w3 (hB3 : Below wr.heap.size wr w3) => ((HLK.out w3 hB3).resolve_right (fun x => x.1 hK2)).2.2)
     have HKP := Lib.hid (HF.out.1.put hut hnt hq)
     generalize lineL u = LU at *
     generalize oneX u W = X at *
     clear hN hSh hu hmem hut hnt hsz hline hsm hat HLS HLK hS hq HU HA hl hK2
     go_wp2_with (go_at_call 48; refine HLN.out.mono ?_; rintro e w3 ⟨rfl, hB3⟩; have e1 := HL1.out w3 hB3; have e2 := H93.out w3 hB3; have e4 := HL2.out w3 hB3; obtain ⟨o, ho⟩ := HST.out w3 hB3; obtain ⟨o1, o2, o3⟩ := ho w3 rfl; have O2 := Lib.hid o2; have O3 := Lib.hid o3; have HB3 := Lib.hid hB3; clear hB3 o2 o3 ho)
     go_roundw
     case measure => simp [intOf]; omega
     case rel =>
      have hlt6 := lt_of_heap H6.out
      have hlt9 := lt_of_heap H9.out
      have hz3 := HB3.out.size
      exact ⟨k + 1, nn, LU :: S, _, by omega, by go_num, rfl, by omega, HA2, Lib.hid ⟨HKP.out, O2.out⟩, Lib.hid ((O3.out.block _ (by omega) (by simp)).trans (blk_below H6.out HB3.out)), Lib.hid ((O3.out.block _ (by omega) (by simp)).trans (blk_below H9.out HB3.out)), Lib.hid ((HB.out.trans (HB3.out.mono HB.out.size)).grown O3.out (Nat.le_trans HB.out.size hz3) (fun j e => by injection e with e; omega))⟩
    ·have HL2 := Lib.hid (fun w3 (hB3 : Below wr.heap.size wr w3) => ((HLK.out w3 hB3).resolve_left (fun x => hK2 x.1)).2)
     have H63 : Hid (∀ w3, Below wr.heap.size wr w3 → w3.heap[w.heap.size]? = some (.cells #[.int .i64 0, .slice none 0 0, .map none] 140 (0, 0))) := Lib.hid (fun w3 hB3 => blk_below H6.out hB3)
     by_cases hq : oneQ u W = 0
     ·have HA2 := Lib.hid ((HA.out.fresh hu hS hq).2 hK2)
      have HKP := Lib.hid (HF.out.1.put hut hnt hq)
      have HONE := Lib.hid (fun w3 (hB3 : Below wr.heap.size wr w3) => pone_ok (fun l x A c w hl hd => of_from l x A c w hl hd) u W Ak ck w3 (hN.past hB3) hSh ((HM.out.past HB.out).past hB3) ((HPW.out.past HB.out).past hB3) (fun h9 => docL_doc hut h9 (by have := (oneQ_zero hq).2.2 h9; omega)) hq)
      generalize lineL u = LU at *
      generalize oneX u W = X at *
      clear hN hSh hu hmem hut hnt hsz hline hsm hat HLS HLK hS hq HU HA hl hK2 H63
      go_wp2_with (first
       | (go_at_call 48; refine HLN.out.mono ?_; rintro e w3 ⟨rfl, hB3⟩; have e1 := HL1.out w3 hB3; have e2 := H93.out w3 hB3; have e4 := HL2.out w3 hB3; have HB3 := Lib.hid hB3; clear hB3)
       | (go_at_call 19; refine (HONE.out _ HB3.out).mono ?_; rintro e w5 ⟨rfl, hB5⟩; have HB5 := Lib.hid (HB3.out.trans (hB5.mono HB3.out.size)); have e6 := H93.out w5 HB5.out; obtain ⟨o, ho⟩ := HST.out w5 HB5.out; obtain ⟨o1, o2, o3⟩ := ho w5 rfl; have O2 := Lib.hid o2; have O3 := Lib.hid o3; clear hB5 o2 o3 ho))
      go_roundw
      case measure => simp [intOf]; omega
      case rel =>
       have hlt6 := lt_of_heap H6.out
       have hlt9 := lt_of_heap H9.out
       have hz3 := HB5.out.size
       exact ⟨k + 1, nn + 1, LU :: S, _, by omega, by go_num, by go_num, by omega, HA2, Lib.hid ⟨HKP.out, O2.out⟩, Lib.hid ((O3.out.block _ (by omega) (by simp)).trans (blk_below H6.out HB5.out)), Lib.hid ((O3.out.block _ (by omega) (by simp)).trans (blk_below H9.out HB5.out)), Lib.hid ((HB.out.trans (HB5.out.mono HB.out.size)).grown O3.out (Nat.le_trans HB.out.size hz3) (fun j e => by injection e with e; omega))⟩
     ·have HE := Lib.hid (HA.out.stop hu hq)
      have HONE := Lib.hid (fun w3 (hB3 : Below wr.heap.size wr w3) => pone_bad u W Ak ck w3 (hN.past hB3) hSh ((HM.out.past HB.out).past hB3) ((HPW.out.past HB.out).past hB3) hq)
      have HQ := Lib.hid hq
      generalize lineL u = LU at *
      generalize oneX u W = X at *
      generalize oneQ u W = q at *
      clear hN hSh hu hmem hut hnt hsz hline hsm hat HLS HLK hS hq HU HA hl hK2 HST
      go_wp2_with (first
       | (go_at_call 48; refine HLN.out.mono ?_; rintro e w3 ⟨rfl, hB3⟩; have e1 := HL1.out w3 hB3; have e2 := H93.out w3 hB3; have e4 := HL2.out w3 hB3; have HB3 := Lib.hid hB3; clear hB3)
       | (go_at_call 19; refine (HONE.out _ HB3.out).mono ?_; rintro e w5 ⟨rfl, hB5⟩; have HB5 := Lib.hid (HB3.out.trans (hB5.mono HB3.out.size)); have h6 := H63.out w5 HB5.out; have r0 := blk_cell (j := 0) h6; have r1 := blk_cell (j := 1) h6; have r2 := blk_cell (j := 2) h6; have f0 := blk_free (j := 0) h6; have f1 := blk_free (j := 1) h6; have f2 := blk_free (j := 2) h6; simp at r0 r1 r2; have H65 := Lib.hid h6; clear hB5 h6))
      have b0 := blk_set3 (p := .int .i64 0) (q := .slice none 0 0) (r := .map none) H65.out
      have b1 := blk_cell (j := 0) b0
      have b2 := blk_cell (j := 1) b0
      have b3 := blk_cell (j := 2) b0
      simp at b1 b2 b3
      simp [bodyPost, results, Tryz.results74, go_sem, b1, b2, b3]
      refine ⟨fun h => absurd (HE.out.symm.trans h) HQ.out, fun _ => ⟨by rw [HE.out], ?_⟩⟩
      exact (((HB.out.trans (HB5.out.mono HB.out.size)).setCell (p := ⟨w.heap.size, 0, none⟩) (Nat.le_refl _) _).setCell (p := ⟨w.heap.size, 1, none⟩) (Nat.le_refl _) _).setCell (p := ⟨w.heap.size, 2, none⟩) (Nat.le_refl _) _
  ·obtain ⟨g1, g2, g3⟩ := HA.out.end_ (by omega)
   have h6 := H6.out
   have h9 := H9.out
   have r0 := blk_cell (j := 0) h6
   have r1 := blk_cell (j := 1) h6
   have r2 := blk_cell (j := 2) h6
   have f0 := blk_free (j := 0) h6
   have f1 := blk_free (j := 1) h6
   have f2 := blk_free (j := 2) h6
   have s0 := blk_cell (j := 0) h9
   have s1 := blk_cell (j := 1) h9
   have s2 := blk_cell (j := 2) h9
   simp at r0 r1 r2 s0 s1 s2
   clear h6 h9
   go_wp2_with fail
   have b0 := blk_set3 (p := .int .i64 W) (q := .slice P p.length c) (r := .map (some (w.heap.size + 1))) H6.out
   have b1 := blk_cell (j := 0) b0
   have b2 := blk_cell (j := 1) b0
   have b3 := blk_cell (j := 2) b0
   simp at b1 b2 b3
   simp [bodyPost, results, Tryz.results74, go_sem, b1, b2, b3]
   refine ⟨fun _ => ⟨w.heap.size + 1, f, by rw [g1], ?_, by rw [g2]; exact HF.out.1, by omega, ?_⟩, fun h => absurd g3 h⟩
   ·refine HF.out.2.of_block ?_
    simp [World.setCell, Array.getElem?_modify]
   ·exact ((HB.out.setCell (p := ⟨w.heap.size, 0, none⟩) (Nat.le_refl _) _).setCell (p := ⟨w.heap.size, 1, none⟩) (Nat.le_refl _) _).setCell (p := ⟨w.heap.size, 2, none⟩) (Nat.le_refl _) _
end Go.Proofs.YtddfdmopaeghnacGreatDoor
namespace Go.Proofs.YtddfdmopaeghnacGreatDoor
open Go.RowKit Go.Maps
theorem dnew_bad {W : Int} (hW : wideF W = false) (w : World) : Calls Tryz.prog 31 #[.int .i64 W] w (Ret w (.tuple #[.pointer none, .iface 43 (.int .i64 1)])) := by
 have HW := Lib.hid (fun w' => wide_any W w')
 rw [hW] at HW
 clear hW
 go_enter Tryz.func31, Tryz.ntmps31
 go_wp2_with (go_at_call 55; refine (HW.out _).mono ?_; rintro e w1 ⟨rfl, rfl⟩)
 go_ret2
 exact ⟨rfl, Below.refl _ _⟩
theorem dnew_ok {W : Int} (hW : wideF W = true) (w : World) : Calls Tryz.prog 31 #[.int .i64 W] w fun e w' => e = .returned (.tuple #[.pointer (some ⟨w.heap.size, 0, none⟩), .nilIface]) ∧ w' = w.alloc (.cells #[.int .i64 W, .slice none 0 0, .map none] 142) := by
 have HW := Lib.hid (fun w' => wide_any W w')
 rw [hW] at HW
 clear hW
 go_enter Tryz.func31, Tryz.ntmps31
 go_wp2_with (go_at_call 55; refine (HW.out _).mono ?_; rintro e w1 ⟨rfl, rfl⟩)
 go_ret2
 exact ⟨rfl, rfl⟩
theorem dwidth_any {d : Nat} {W : Int} {x y : Value} (w : World) (h : w.heap[d]? = some (.cells #[.int .i64 W, x, y] 142 (0, 0))) : Calls Tryz.prog 35 #[.pointer (some ⟨d, 0, none⟩)] w fun e w' => e = .returned (.int .i64 W) ∧ w' = w := by
 have r0 := blk_cell (j := 0) h
 simp at r0
 clear h
 go_enter Tryz.func35, Tryz.ntmps35
 go_wp2
 go_ret
 exact ⟨rfl, rfl⟩
end Go.Proofs.YtddfdmopaeghnacGreatDoor
namespace Go.Proofs.YtddfdmopaeghnacGreatDoor
open Go.RowKit Go.Maps
structure OnDesk (W : Int) (p : List (List Nd)) : Prop where
 wide : wideF W = true
 few : p.length ≤ 20
 stm : ∀ u ∈ p, treeF u = 0 ∧ nTok u ≤ 300
 fits : formE W p = 0
theorem nTok_le {p : List (List Nd)} (h : (p.map nTok).sum ≤ 300) : ∀ u ∈ p, nTok u ≤ 300 := by
 induction p with
 | nil => intro u hu; cases hu
 | cons v r ih =>
  intro u hu
  rw [List.map_cons, List.sum_cons] at h
  rcases List.mem_cons.1 hu with rfl | hu
  ·omega
  ·exact ih (by omega) u hu
theorem OnDesk.of_parse {s : ByteArray} {k : Nat} {p : List (List Nd)} (h : parseF s = (0, k, p)) {W : Int} (hW : wideF W = true) (hf : formE W p = 0) : OnDesk W p := by
 have hw := parsed_words (s := s) (by rw [h])
 rw [h] at hw
 have hp := progF_facts hw.1
 exact ⟨hW, hp.1, fun u hu => ⟨hp.2.1 u hu, nTok_le hw.2 u hu⟩, hf⟩
theorem OnDesk.nil_ {W : Int} (hW : wideF W = true) : OnDesk W [] := ⟨hW, by simp, by simp, rfl⟩
def DeskK (d : Nat) (W : Int) (p : List (List Nd)) (K : List ByteArray) (w : World) : Prop :=
 ∃ P c mv, w.heap[d]? = some (.cells #[.int .i64 W, .slice P p.length c, mv] 142 (0, 0)) ∧ PrgF (d + 1) w P p ∧ KnownM W K mv w ∧ (∀ u ∈ p, lineL u ∈ K) ∧ (∀ b, mv = .map (some b) → d < b) ∧ OnDesk W p
theorem DeskK.past {d : Nat} {W : Int} {p : List (List Nd)} {K : List ByteArray} {w w' : World} (h : DeskK d W p K w) (hb : Below w.heap.size w w') : DeskK d W p K w' := by
 obtain ⟨P, c, mv, h1, h2, h3, h4, h5, h6⟩ := h
 exact ⟨P, c, mv, blk_below h1 hb, h2.past hb, h3.past hb, h4, h5, h6⟩
theorem DeskK.new {W : Int} (hW : wideF W = true) (w : World) : DeskK w.heap.size W [] [] (w.alloc (.cells #[.int .i64 W, .slice none 0 0, .map none] 142)) :=
 ⟨none, 0, .map none, heap_new rfl, PrgF.nil_ _ _, .inl ⟨rfl, rfl⟩, by simp, fun b h => (by cases h), OnDesk.nil_ hW⟩
theorem DeskK.onDesk {d : Nat} {W : Int} {p : List (List Nd)} {K : List ByteArray} {w : World} (h : DeskK d W p K w) : OnDesk W p ∧ (∀ u ∈ p, lineL u ∈ K) ∧ d < w.heap.size := by
 obtain ⟨P, c, mv, h1, h2, h3, h4, h5, h6⟩ := h
 exact ⟨h6, h4, lt_of_heap h1⟩
end Go.Proofs.YtddfdmopaeghnacGreatDoor
namespace Go.Proofs.YtddfdmopaeghnacGreatDoor
open Go.RowKit Go.Maps
set_option maxHeartbeats 2000000 in
theorem dwide_no {d : Nat} {V : Int} {w : World} (hV : wideF V = false) :
  Calls Tryz.prog 34 #[.pointer (some ⟨d, 0, none⟩), .int .i64 V] w (Ret w (.iface 43 (.int .i64 1))) := by
 have HW := Lib.hid (fun w' => wide_any V w')
 rw [hV] at HW
 clear hV
 go_enter Tryz.func34, Tryz.ntmps34
 go_wp2_with (go_at_call 55; refine (HW.out _).mono ?_; rintro e w1 ⟨rfl, rfl⟩)
 go_ret
 exact ⟨rfl, Below.refl _ _⟩
set_option maxRecDepth 100000 in
set_option maxHeartbeats 4000000 in
theorem dwide_full {d : Nat} {W V : Int} {p : List (List Nd)} {K : List ByteArray} {w : World} (h : DeskK d W p K w) (hV : wideF V = true) (hm : MaxL w) (hpw : PowT w) (hq : formE V p ≠ 0) :
  Calls Tryz.prog 34 #[.pointer (some ⟨d, 0, none⟩), .int .i64 V] w (Ret w (.iface 43 (.int .i64 (formE V p)))) := by
 have HW := Lib.hid (fun w' => wide_any V w')
 rw [hV] at HW
 obtain ⟨P, c, mv, h1, h2, h3, h4, h5, h6⟩ := h
 have r1 := blk_cell (j := 1) h1
 simp at r1
 have HL := Lib.hid (dlaid_any V p p.length rfl P c [] (.map none) w h2.prg h6.stm h6.few (.inl ⟨rfl, rfl⟩) hm hpw)
 have HQ := Lib.hid hq
 generalize formE V p = q at *
 clear hV hm hpw h1 h2 h3 h4 h5 h6 hq
 go_enter Tryz.func34, Tryz.ntmps34
 go_wp2_with (first
  | (go_at_call 55; refine (HW.out _).mono ?_; rintro e w1 ⟨rfl, rfl⟩)
  | (go_at_call 74; refine HL.out.mono ?_; rintro e w2 ⟨-, hz⟩; obtain ⟨rfl, hB⟩ := hz HQ.out; have HB := Lib.hid hB; clear hz hB))
 go_ret
 exact ⟨rfl, HB.out.alloc HB.out.size _⟩
theorem set3_grown {w : World} {d : Nat} (x y z : Value) : w.grownBy (((w.setCell ⟨d, 0, none⟩ x).setCell ⟨d, 1, none⟩ y).setCell ⟨d, 2, none⟩ z) (some d) :=
 ⟨rfl, rfl, rfl, by simp [World.setCell], fun i _ hi => by
  have hne : d ≠ i := fun e => hi (by rw [e])
  simp [World.setCell, Array.getElem?_modify, hne]⟩
set_option maxRecDepth 100000 in
set_option maxHeartbeats 4000000 in
theorem dwide_ok {d : Nat} {W V : Int} {p : List (List Nd)} {K : List ByteArray} {w : World} (h : DeskK d W p K w) (hV : wideF V = true) (hm : MaxL w) (hpw : PowT w) (hq : formE V p = 0) :
  Calls Tryz.prog 34 #[.pointer (some ⟨d, 0, none⟩), .int .i64 V] w (fun e w' => e = .returned .nilIface ∧ DeskK d V p (seenL [] p) w' ∧ Below d w w') := by
 have HW := Lib.hid (fun w' => wide_any V w')
 rw [hV] at HW
 obtain ⟨P, c, mv, h1, h2, h3, h4, h5, h6⟩ := h
 have hdl := lt_of_heap h1
 have r1 := blk_cell (j := 1) h1
 simp at r1
 have HL := Lib.hid (dlaid_any V p p.length rfl P c [] (.map none) w h2.prg h6.stm h6.few (.inl ⟨rfl, rfl⟩) hm hpw)
 have HQ := Lib.hid hq; have H1 := Lib.hid h1; have H2 := Lib.hid h2
 have HO : Hid (OnDesk V p) := Lib.hid ⟨hV, h6.few, h6.stm, hq⟩
 clear hV hm hpw h1 h2 h3 h4 h5 h6 hq
 go_enter Tryz.func34, Tryz.ntmps34
 go_wp2_with (first
  | (go_at_call 55; refine (HW.out _).mono ?_; rintro e w1 ⟨rfl, rfl⟩)
  | (go_at_call 74; refine HL.out.mono ?_; rintro e w2 ⟨hz, -⟩; obtain ⟨b, f, rfl, hM, hF, hb, hB⟩ := hz HQ.out; have HB := Lib.hid hB; have HMF := Lib.hid hM; have HKF := Lib.hid hF; have hd2 := blk_below H1.out hB; have hda : ∀ o, (w2.alloc o).heap[d]? = some (.cells #[.int .i64 W, .slice P p.length c, mv] 142 (0, 0)) := (fun o => (Below.heap_alloc _ _ _ (lt_of_heap hd2)).trans hd2); have f0 : ∀ o, (w2.alloc o).frozen? ⟨d, 0, none⟩ = false := (fun o => blk_free (j := 0) (hda o)); have f1 : ∀ o, (w2.alloc o).frozen? ⟨d, 1, none⟩ = false := (fun o => blk_free (j := 1) (hda o)); have f2 : ∀ o, (w2.alloc o).frozen? ⟨d, 2, none⟩ = false := (fun o => blk_free (j := 2) (hda o)); have c0 : ∀ o, (w2.alloc o).cell? ⟨d, 0, none⟩ = some (.int .i64 W) := (fun o => by rw [blk_cell (j := 0) (hda o)]; rfl); have c1 : ∀ o, (w2.alloc o).cell? ⟨d, 1, none⟩ = some (.slice P p.length c) := (fun o => by rw [blk_cell (j := 1) (hda o)]; rfl); have c2 : ∀ o, (w2.alloc o).cell? ⟨d, 2, none⟩ = some mv := (fun o => by rw [blk_cell (j := 2) (hda o)]; rfl); clear hda; have HD2 := Lib.hid hd2; clear hz hB hM hF hd2))
 go_ret
 have hz := HB.out.size
 have hba : Below w2.heap.size w2 (w2.alloc (.cells #[.int .i64 V, .slice P p.length c, .map (some b)] 140)) := (Below.refl _ _).alloc (Nat.le_refl _) _
 have hg := set3_grown (w := w2.alloc (.cells #[.int .i64 V, .slice P p.length c, .map (some b)] 140)) (d := d) (.int .i64 V) (.slice P p.length c) (.map (some b))
 refine ⟨rfl, ⟨P, c, .map (some b), blk_set3 (blk_below HD2.out hba), ((H2.out.past HB.out).past hba).grow hg (fun k e => by injection e with e; omega), .inr ⟨b, f, rfl, (HMF.out.below hba).kept hg (fun e => by injection e with e; omega), HKF.out⟩, fun u hu => seenL_all.2 u hu, fun b' e => by cases e; omega, HO.out⟩, ?_⟩
 have hbd : Below d w w2 := HB.out.mono (by omega)
 have hdz : d ≤ w2.heap.size := by omega
 exact (((hbd.alloc hdz _).setCell (p := ⟨d, 0, none⟩) (Nat.le_refl _) _).setCell (p := ⟨d, 1, none⟩) (Nat.le_refl _) _).setCell (p := ⟨d, 2, none⟩) (Nat.le_refl _) _
end Go.Proofs.YtddfdmopaeghnacGreatDoor
namespace Go.Proofs.YtddfdmopaeghnacGreatDoor
open Go.RowKit Go.Maps
set_option maxHeartbeats 2000000 in
theorem dset_no {d : Nat} {s : ByteArray} {f : Int} {k : Nat} {q : List (List Nd)} (h : parseF s = (f, k, q)) (hf : f ≠ 0) (w : World) (hs : s.size ≤ maxLen) (hm : MaxL w) :
  Calls Tryz.prog 32 #[.pointer (some ⟨d, 0, none⟩), .string s] w (Ret w (.tuple #[.int .i64 0, .int .i64 (k : Nat), .iface 43 (.int .i64 f)])) := by
 have HP := Lib.hid (parse_badB h hf rfl w hs hm)
 clear h hf hs hm
 go_enter Tryz.func32, Tryz.ntmps32
 go_wp2_with (go_at_call 27; refine HP.out.mono ?_; rintro e w1 ⟨A1, c1, rfl, -, hB⟩)
 go_ret3
 exact ⟨rfl, hB⟩
end Go.Proofs.YtddfdmopaeghnacGreatDoor
namespace Go.Proofs.YtddfdmopaeghnacGreatDoor
open Go.RowKit Go.Maps
theorem KnownM.get {W : Int} {K : List ByteArray} {mv : Value} {w : World} (h : KnownM W K mv w) {u : List Nd} (hu : treeF u = 0) (nu : nTok u ≤ 300) (hs : (lineL u).size ≤ maxLen) (hK : lineL u ∈ K) :
  oneQ u W = 0 ∧ (Instr.lookup 138 mv (.string (lineL u)) false).run Tryz.prog w = .ok (.string (oneX u W)) w := by
 rcases h with ⟨rfl, rfl⟩ | ⟨b, f, rfl, h2, h3⟩
 ·cases hK
 ·obtain ⟨l, hl⟩ := strKey hs
  have hlk := h2.get strLaw mapType (strZero w) hl
  obtain ⟨b1, b2⟩ := (h3.at hu nu).1 hK
  rw [b1] at hlk
  exact ⟨b2, hlk⟩
theorem dtext_size {W : Int} {p : List (List Nd)} (h : ∀ u ∈ p, oneQ u W = 0) : ∀ k, k ≤ p.length → (formT W (p.take k)).size ≤ 1500000 * k := by
 intro k
 induction k with
 | zero => intro _; simp [formT]
 | succ k ih =>
  intro hk
  have hlt : k < p.length := by omega
  have hu : p[k]? = some p[k] := List.getElem?_eq_getElem hlt
  rw [formT_step W hu, ByteArray.size_append]
  have h1 := ih (by omega)
  have hq := h p[k] (List.getElem_mem hlt)
  have ht := (oneQ_zero hq).2.1
  have h2 := (oneX_is hq (fun h9 => docL_doc ht h9 (by have := (oneQ_zero hq).2.2 h9; omega))).small
  omega
set_option maxRecDepth 100000 in
set_option maxHeartbeats 4000000 in
theorem dtext_any {d : Nat} {W : Int} {p : List (List Nd)} {K : List ByteArray} {w : World} (h : DeskK d W p K w) (hpw : PowT w) :
  Calls Tryz.prog 33 #[.pointer (some ⟨d, 0, none⟩)] w (Ret w (.string (formT W p))) := by
 obtain ⟨P, c, mv, h1, h2, h3, h4, h5, h6⟩ := h
 have hdl := lt_of_heap h1
 have hb1 : Below w.heap.size w (w.alloc (.cells #[.pointer none, .slice none 0 0] 104)) := (Below.refl _ _).alloc (Nat.le_refl _) _
 have r1 := blk_cell (j := 1) (blk_below h1 hb1)
 simp at r1
 have HBD : Hid (Bld w.heap.size w.heap.size .empty (w.alloc (.cells #[.pointer none, .slice none 0 0] 104))) := Lib.hid (Bld.new w)
 have HB0 := Lib.hid hb1
 have HH : Hid (∀ w', Below w.heap.size w w' → w'.cell? ⟨d, 2, none⟩ = some mv) := Lib.hid (fun w' hB => by rw [blk_cell (j := 2) (blk_below h1 hB)]; rfl)
 have HKM := Lib.hid (fun w' (hB : Below w.heap.size w w') => h3.past hB)
 have HPR := Lib.hid h2.prg; have HT := Lib.hid h6.stm; have HK4 := Lib.hid h4; have HPW := Lib.hid hpw
 have h20 := h6.few
 have hq0 : ∀ u ∈ p, oneQ u W = 0 := fun u hu => (h3.get (h6.stm u hu).1 (h6.stm u hu).2 (by have := (lineSaid_all (h6.stm u hu).1).1; simp only [maxLen]; omega) (h4 u hu)).1
 have HSZ := Lib.hid (dtext_size hq0)
 have HALL : Hid (∀ k, p.length ≤ k → formT W (p.take k) = formT W p) := Lib.hid (fun k hk => by rw [List.take_of_length_le hk])
 clear h1 h2 h3 h4 h5 h6 hpw hq0 hb1
 go_enter Tryz.func33, Tryz.ntmps33
 go_wp2
 go_loopw [5, 12] (fun _ i wr => ∃ k : Nat, k ≤ p.length ∧ i = .int .i64 k ∧ Hid (Bld w.heap.size w.heap.size (formT W (p.take k)) wr) ∧ Hid (Below w.heap.size w wr)) (fun _ i _ => p.length - (intOf i).toNat)
 case atStart => exact ⟨0, by omega, rfl, HBD, HB0⟩
 case round =>
  clear HBD HB0
  obtain ⟨k, hk, rfl, HBD, HB⟩ := hrel
  by_cases hlt : k < p.length
  ·obtain ⟨b, off, Ak, ck, u, rfl, hb, hu, hc, hN, hSh⟩ := HPR.out.one HB.out hlt
   have hmem : u ∈ p := List.mem_of_getElem? hu
   obtain ⟨hut, hnt⟩ := HT.out u hmem
   obtain ⟨hsz, hline⟩ := lineSaid_all hut
   have HLN := Lib.hid (fun (w' : World) (hB : Below wr.heap.size wr w') => hline Ak ck w' (hN.past hB) (HPW.out.past (HB.out.trans (hB.mono HB.out.size))))
   have hsm : (lineL u).size ≤ maxLen := by simp only [maxLen]; omega
   have HL1 := Lib.hid (fun w3 (hB3 : Below wr.heap.size wr w3) => ((HKM.out _ (HB.out.trans (hB3.mono HB.out.size))).get hut hnt hsm (HK4.out u hmem)).2)
   have hq := ((HKM.out _ HB.out).get hut hnt hsm (HK4.out u hmem)).1
   have hxs := (oneX_is hq (fun h9 => docL_doc hut h9 (by have := (oneQ_zero hq).2.2 h9; omega))).small
   have HST := Lib.hid (formT_step W hu)
   have hks := HSZ.out k hk
   have HC2 : Hid (∀ w3, Below wr.heap.size wr w3 → w3.cell? ⟨d, 2, none⟩ = some mv) := Lib.hid (fun w3 hB3 => HH.out _ (HB.out.trans (hB3.mono HB.out.size)))
   have e0 := HH.out _ HB.out
   generalize lineL u = LU at *
   generalize formT W (p.take k) = Q at *
   generalize oneX u W = X at *
   have hz0 := HB.out.size
   clear hN hSh hu hmem hut hnt hsz hline hsm hq
   go_upto_region 5 with fail
   go_region_held3 (fun w' => w'.cell? ⟨d, 2, none⟩ = some mv) (first | exact e0 | exact e2 | exact e3)
    (first
    | (go_at_call 48; refine (HLN.out _ (by repeat (first | exact Below.refl _ _ | assumption | apply Below.drew | refine below_drewN ?_ _ | apply Below.setCell _ (by first | omega | (simp; done) | (simp; omega)) | apply Below.alloc _ (by first | omega | (simp; done) | (simp; omega))))).mono ?_; rintro e w3 ⟨rfl, hB3⟩; have hB3 : Below wr.heap.size wr w3 := (by first | exact hB3 | exact past_drew hB3 | exact past_drewN hB3); have e1 := HL1.out w3 hB3; have e2 := HC2.out w3 hB3; have HB3 := Lib.hid (HBD.out.past hB3); have HB4 := Lib.hid (HB.out.trans (hB3.mono hz0)); clear hB3)
    | (go_at_call 47; refine (bld_write _ _ Q _ _ HB3.out (by omega)).mono ?_; rintro e w4 ⟨rfl, hb5, hB5⟩; have HB5 := Lib.hid hb5; have HB6 := Lib.hid (HB4.out.trans hB5); have e3 := HH.out _ HB6.out; clear hb5 hB5))
   go_wp2
   go_roundw
   case measure => simp [intOf]; omega
   case rel => exact ⟨k + 1, by omega, by go_num, Lib.hid (by rw [HST.out]; exact HB5.out), HB6⟩
  ·have HBZ : Hid (Bld w.heap.size w.heap.size (formT W p) wr) := Lib.hid (by rw [← HALL.out k (by omega)]; exact HBD.out)
   generalize formT W p = TT at *
   clear HBD
   go_wp2_with (go_at_call 49; refine (bld_string _ _ _ _ HBZ.out).mono ?_; rintro e w5 ⟨rfl, hB5⟩; have HB7 := Lib.hid (HB.out.trans hB5); clear hB5)
   go_ret
   exact ⟨rfl, HB7.out⟩
end Go.Proofs.YtddfdmopaeghnacGreatDoor
namespace Go.Proofs.YtddfdmopaeghnacGreatDoor
open Go.RowKit Go.Maps
theorem heap_new_drew (w : World) (o : Obj) : (w.alloc o).drew.heap[w.heap.size]? = some o := heap_new (w := w) rfl
set_option maxRecDepth 100000 in
set_option maxHeartbeats 4000000 in
theorem dset_full {d : Nat} {W : Int} {p : List (List Nd)} {K : List ByteArray} {w : World} (h : DeskK d W p K w) {s : ByteArray} {k : Nat} {q : List (List Nd)} (hp : parseF s = (0, k, q)) (hs : s.size ≤ maxLen) (hm : MaxL w) (hpw : PowT w) (hq : formE W q ≠ 0) :
  Calls Tryz.prog 32 #[.pointer (some ⟨d, 0, none⟩), .string s] w (Ret w (.tuple #[.int .i64 0, .int .i64 0, .iface 43 (.int .i64 (formE W q))])) := by
 obtain ⟨P, c, mv, h1, h2, h3, h4, h5, h6⟩ := h
 have hw := parsed_words (s := s) (by rw [hp])
 rw [hp] at hw
 have hpf := progF_facts hw.1
 have HP := Lib.hid (parse_okB hp rfl w hs hm)
 have HL := Lib.hid (fun (P1 : Option Addr) (c1 : Nat) (w1 : World) (hB : Below w.heap.size w w1) (hF : Prg w1 w1.heap.size P1 q) => dlaid_any W q q.length rfl P1 c1 K mv w1 hF (fun u hu => ⟨hpf.2.1 u hu, nTok_le hw.2 u hu⟩) hpf.1 (h3.past hB) (hm.past hB) (hpw.past hB))
 have HQ := Lib.hid hq; have H1 := Lib.hid h1
 generalize formE W q = f at *
 clear h2 h3 h4 h5 h6 hm hpw hs hp hq h1 hw hpf
 have HC : Hid (∀ w', Below w.heap.size w w' → w'.cell? ⟨d, 0, none⟩ = some (.int .i64 W) ∧ w'.cell? ⟨d, 2, none⟩ = some mv) := Lib.hid (fun w' hB => by rw [blk_cell (j := 0) (blk_below H1.out hB), blk_cell (j := 2) (blk_below H1.out hB)]; exact ⟨rfl, rfl⟩)
 go_enter Tryz.func32, Tryz.ntmps32
 go_upto_region 4 with (go_at_call 27; refine HP.out.mono ?_; rintro e w1 ⟨P1, c1, rfl, hF, hB⟩; have HF1 := Lib.hid hF; clear hF)
 have hz1 := hB.size
 go_region_held3 (fun w' => w'.cell? ⟨d, 0, none⟩ = some (.int .i64 W) ∧ w'.cell? ⟨d, 2, none⟩ = some mv) (first | exact HC.out _ (by repeat (first | exact Below.refl _ _ | assumption | apply Below.drew | refine below_drewN ?_ _ | apply Below.setCell _ (by first | omega | (simp; done) | (simp; omega)) | apply Below.alloc _ (by first | omega | (simp; done) | (simp; omega)))) | exact HC.out _ hB2)
  (first
  | (go_at_call 74; refine (HL.out P1 c1 _ (by repeat (first | exact Below.refl _ _ | assumption | apply Below.drew | refine below_drewN ?_ _ | apply Below.setCell _ (by first | omega | (simp; done) | (simp; omega)) | apply Below.alloc _ (by first | omega | (simp; done) | (simp; omega)))) (HF1.out.past (by repeat (first | exact Below.refl _ _ | assumption | apply Below.drew | refine below_drewN ?_ _ | apply Below.setCell _ (by first | omega | (simp; done) | (simp; omega)) | apply Below.alloc _ (by first | omega | (simp; done) | (simp; omega))))).prg).mono ?_; rintro e w2 ⟨-, hz⟩; obtain ⟨rfl, hB'⟩ := hz HQ.out; have hB2 : Below w.heap.size w w2 := Below.trans (by repeat (first | exact Below.refl _ _ | assumption | apply Below.drew | refine below_drewN ?_ _ | apply Below.setCell _ (by first | omega | (simp; done) | (simp; omega)) | apply Below.alloc _ (by first | omega | (simp; done) | (simp; omega)))) (hB'.mono (Below.size (by repeat (first | exact Below.refl _ _ | assumption | apply Below.drew | refine below_drewN ?_ _ | apply Below.setCell _ (by first | omega | (simp; done) | (simp; omega)) | apply Below.alloc _ (by first | omega | (simp; done) | (simp; omega)))))); have hz2 := hB2.size; (try (have hx : w2.heap[w1.heap.size]? = some (.cells #[.int .i64 0, .slice none 0 0, .map none] 140 (0, 0)) := blk_below (heap_new_drew _ _) hB'; have f0 := blk_free (j := 0) hx; have f1 := blk_free (j := 1) hx; have f2 := blk_free (j := 2) hx; have x0 := blk_cell (j := 0) hx; have x1 := blk_cell (j := 1) hx; have x2 := blk_cell (j := 2) hx; simp at x0 x1 x2))))
 all_goals
  go_wp2
  go_ret3
  exact ⟨rfl, (by repeat (first | exact Below.refl _ _ | assumption | apply Below.drew | refine below_drewN ?_ _ | apply Below.setCell _ (by first | omega | (simp; done) | (simp; omega)) | apply Below.alloc _ (by first | omega | (simp; done) | (simp; omega))))⟩
set_option maxRecDepth 100000 in
set_option maxHeartbeats 8000000 in
theorem dset_ok {d : Nat} {W : Int} {p : List (List Nd)} {K : List ByteArray} {w : World} (h : DeskK d W p K w) {s : ByteArray} {k : Nat} {q : List (List Nd)} (hp : parseF s = (0, k, q)) (hs : s.size ≤ maxLen) (hm : MaxL w) (hpw : PowT w) (hq : formE W q = 0) :
  Calls Tryz.prog 32 #[.pointer (some ⟨d, 0, none⟩), .string s] w (fun e w' => e = .returned (.tuple #[.int .i64 (newN K [] q : Nat), .int .i64 0, .nilIface]) ∧ DeskK d W q (seenL [] q) w' ∧ Below d w w') := by
 obtain ⟨P, c, mv, h1, h2, h3, h4, h5, h6⟩ := h
 have hdl := lt_of_heap h1
 have ho := OnDesk.of_parse hp h6.wide hq
 have HO := Lib.hid ho
 have HP := Lib.hid (parse_okB hp rfl w hs hm)
 have HL := Lib.hid (fun (P1 : Option Addr) (c1 : Nat) (w1 : World) (hB : Below w.heap.size w w1) (hF : Prg w1 w1.heap.size P1 q) => dlaid_any W q q.length rfl P1 c1 K mv w1 hF ho.stm ho.few (h3.past hB) (hm.past hB) (hpw.past hB))
 have HQ := Lib.hid hq; have H1 := Lib.hid h1
 clear h2 h3 h4 h5 h6 hm hpw hs hp hq ho h1
 have HC : Hid (∀ w', Below w.heap.size w w' → w'.cell? ⟨d, 0, none⟩ = some (.int .i64 W) ∧ w'.cell? ⟨d, 2, none⟩ = some mv) := Lib.hid (fun w' hB => by rw [blk_cell (j := 0) (blk_below H1.out hB), blk_cell (j := 2) (blk_below H1.out hB)]; exact ⟨rfl, rfl⟩)
 go_enter Tryz.func32, Tryz.ntmps32
 go_upto_region 4 with (go_at_call 27; refine HP.out.mono ?_; rintro e w1 ⟨P1, c1, rfl, hF, hB⟩; have HF1 := Lib.hid hF; clear hF)
 have hz1 := hB.size
 go_region_held3 (fun w' => w'.cell? ⟨d, 0, none⟩ = some (.int .i64 W) ∧ w'.cell? ⟨d, 2, none⟩ = some mv) (first | exact HC.out _ (by repeat (first | exact Below.refl _ _ | assumption | apply Below.drew | refine below_drewN ?_ _ | apply Below.setCell _ (by first | omega | (simp; done) | (simp; omega)) | apply Below.alloc _ (by first | omega | (simp; done) | (simp; omega)))) | exact HC.out _ hB2)
  (first
  | (go_at_call 74; refine (HL.out P1 c1 _ (by repeat (first | exact Below.refl _ _ | assumption | apply Below.drew | refine below_drewN ?_ _ | apply Below.setCell _ (by first | omega | (simp; done) | (simp; omega)) | apply Below.alloc _ (by first | omega | (simp; done) | (simp; omega)))) (HF1.out.past (by repeat (first | exact Below.refl _ _ | assumption | apply Below.drew | refine below_drewN ?_ _ | apply Below.setCell _ (by first | omega | (simp; done) | (simp; omega)) | apply Below.alloc _ (by first | omega | (simp; done) | (simp; omega))))).prg).mono ?_; rintro e w2 ⟨hz, -⟩; obtain ⟨b, f, rfl, hM, hF, hb, hB'⟩ := hz HQ.out; have HMF := Lib.hid hM; have HKF := Lib.hid hF; have hbw : w1.heap.size ≤ b := (by simp at hb; omega); clear hz hM hF; have hB2 : Below w.heap.size w w2 := Below.trans (by repeat (first | exact Below.refl _ _ | assumption | apply Below.drew | refine below_drewN ?_ _ | apply Below.setCell _ (by first | omega | (simp; done) | (simp; omega)) | apply Below.alloc _ (by first | omega | (simp; done) | (simp; omega)))) (hB'.mono (Below.size (by repeat (first | exact Below.refl _ _ | assumption | apply Below.drew | refine below_drewN ?_ _ | apply Below.setCell _ (by first | omega | (simp; done) | (simp; omega)) | apply Below.alloc _ (by first | omega | (simp; done) | (simp; omega)))))); have hz2 := hB2.size; have hB12 : Below w1.heap.size w1 w2 := Below.trans (by repeat (first | exact Below.refl _ _ | assumption | apply Below.drew | refine below_drewN ?_ _ | apply Below.setCell _ (by first | omega | (simp; done) | (simp; omega)) | apply Below.alloc _ (by first | omega | (simp; done) | (simp; omega)))) (hB'.mono (by first | exact Nat.le_refl _ | (simp; done) | (simp; omega))); have hz12 := hB12.size; (try (have hbw2 : w1.heap.size < b := (by simp at hb; omega))); (try (have hx : w2.heap[w1.heap.size]? = some (.cells #[.int .i64 0, .slice none 0 0, .map none] 140 (0, 0)) := blk_below (heap_new_drew _ _) hB'; have f0 := blk_free (j := 0) hx; have f1 := blk_free (j := 1) hx; have f2 := blk_free (j := 2) hx; have x0 := blk_cell (j := 0) hx; have x1 := blk_cell (j := 1) hx; have x2 := blk_cell (j := 2) hx; simp at x0 x1 x2))))
 all_goals
  go_upto_region 7 with fail
 ·clear hB' hb
  refine wp_namedD (fun wx => wx.heap[w2.heap.size]? = some (.cells #[.int .i64 W, .slice P1 q.length c1, .map (some b)] 140 (0, 0)) ∧ Below w.heap.size w wx ∧ Below w1.heap.size w1 wx ∧ MapF Tryz.prog 9 f b wx) ⟨heap_new rfl, (by repeat (first | exact Below.refl _ _ | assumption | apply Below.drew | refine below_drewN ?_ _ | apply Below.setCell _ (by first | omega | (simp; done) | (simp; omega)) | apply Below.alloc _ (by first | omega | (simp; done) | (simp; omega)))), (by repeat (first | exact Below.refl _ _ | assumption | apply Below.drew | refine below_drewN ?_ _ | apply Below.setCell _ (by first | omega | (simp; done) | (simp; omega)) | apply Below.alloc _ (by first | omega | (simp; done) | (simp; omega)))), HMF.out.below ((Below.refl _ _).alloc (Nat.le_refl _) _)⟩ ?_
  rintro wx ⟨hx10, hBx, hB1x, hMx⟩
  have hb10 : d < w2.heap.size := by omega
  have y0 := blk_cell (j := 0) hx10
  have y1 := blk_cell (j := 1) hx10
  have y2 := blk_cell (j := 2) hx10
  have hdx := blk_below H1.out hBx
  have r0 := blk_cell (j := 0) hdx
  have r1 := blk_cell (j := 1) hdx
  have r2 := blk_cell (j := 2) hdx
  have f0 := blk_free (j := 0) hdx
  have f1 := blk_free (j := 1) hdx
  have f2 := blk_free (j := 2) hdx
  simp at y0 y1 y2 r0 r1 r2
  have HDX := Lib.hid hdx
  have HBX := Lib.hid hBx; have HB1X := Lib.hid hB1x; have HMX := Lib.hid hMx; have HX := Lib.hid hx10
  clear hdx hBx hB1x hMx hx10
  go_wp2
  go_ret3
  have hg := set3_grown (w := wx) (d := d) (.int .i64 W) (.slice P1 q.length c1) (.map (some b))
  refine ⟨rfl, ⟨P1, c1, .map (some b), blk_set3 HDX.out, ((HF1.out.past HB1X.out).less (by omega)).grow hg (fun k e => by injection e with e; omega), .inr ⟨b, f, rfl, HMX.out.kept hg (fun e => by injection e with e; omega), HKF.out⟩, fun u hu => seenL_all.2 u hu, fun b' e => by cases e; omega, HO.out⟩, ?_⟩
  have hbd : Below d w wx := HBX.out.mono (by omega)
  exact ((hbd.setCell (p := ⟨d, 0, none⟩) (Nat.le_refl _) _).setCell (p := ⟨d, 1, none⟩) (Nat.le_refl _) _).setCell (p := ⟨d, 2, none⟩) (Nat.le_refl _) _
 ·clear hB' hb f0 f1 f2 x0 x1 x2
  refine wp_namedD (fun wx => wx.heap[w1.heap.size]? = some (.cells #[.int .i64 W, .slice P1 q.length c1, .map (some b)] 140 (0, 0)) ∧ Below w.heap.size w wx ∧ Below w1.heap.size w1 wx ∧ MapF Tryz.prog 9 f b wx) ⟨blk_set3 hx, (by repeat (first | exact Below.refl _ _ | assumption | apply Below.drew | refine below_drewN ?_ _ | apply Below.setCell _ (by first | omega | (simp; done) | (simp; omega)) | apply Below.alloc _ (by first | omega | (simp; done) | (simp; omega)))), (by repeat (first | exact Below.refl _ _ | assumption | apply Below.drew | refine below_drewN ?_ _ | apply Below.setCell _ (by first | omega | (simp; done) | (simp; omega)) | apply Below.alloc _ (by first | omega | (simp; done) | (simp; omega)))), HMF.out.kept (set3_grown _ _ _) (fun e => by injection e with e; omega)⟩ ?_
  rintro wx ⟨hx10, hBx, hB1x, hMx⟩
  have hb10 : d < w1.heap.size := by omega
  have y0 := blk_cell (j := 0) hx10
  have y1 := blk_cell (j := 1) hx10
  have y2 := blk_cell (j := 2) hx10
  have hdx := blk_below H1.out hBx
  have r0 := blk_cell (j := 0) hdx
  have r1 := blk_cell (j := 1) hdx
  have r2 := blk_cell (j := 2) hdx
  have f0 := blk_free (j := 0) hdx
  have f1 := blk_free (j := 1) hdx
  have f2 := blk_free (j := 2) hdx
  simp at y0 y1 y2 r0 r1 r2
  have HDX := Lib.hid hdx
  have HBX := Lib.hid hBx; have HB1X := Lib.hid hB1x; have HMX := Lib.hid hMx; have HX := Lib.hid hx10
  clear hdx hBx hB1x hMx hx10
  go_wp2
  go_ret3
  have hg := set3_grown (w := wx) (d := d) (.int .i64 W) (.slice P1 q.length c1) (.map (some b))
  refine ⟨rfl, ⟨P1, c1, .map (some b), blk_set3 HDX.out, ((HF1.out.past HB1X.out).less (by omega)).grow hg (fun k e => by injection e with e; omega), .inr ⟨b, f, rfl, HMX.out.kept hg (fun e => by injection e with e; omega), HKF.out⟩, fun u hu => seenL_all.2 u hu, fun b' e => by cases e; omega, HO.out⟩, ?_⟩
  have hbd : Below d w wx := HBX.out.mono (by omega)
  exact ((hbd.setCell (p := ⟨d, 0, none⟩) (Nat.le_refl _) _).setCell (p := ⟨d, 1, none⟩) (Nat.le_refl _) _).setCell (p := ⟨d, 2, none⟩) (Nat.le_refl _) _
end Go.Proofs.YtddfdmopaeghnacGreatDoor
namespace Go.Proofs.YtddfdmopaeghnacGreatDoor
open Go.RowKit Go.Maps
def DkS (w0 : World) (d : Nat) (W : Int) (p : List (List Nd)) (K : List ByteArray) (w : World) : Prop := DeskK d W p K w ∧ w0.heap.size ≤ d ∧ Below w0.heap.size w0 w
theorem DkS.past {w0 w w' : World} {d : Nat} {W : Int} {p : List (List Nd)} {K : List ByteArray} (h : DkS w0 d W p K w) (hb : Below w.heap.size w w') : DkS w0 d W p K w' := ⟨h.1.past hb, h.2.1, h.2.2.trans (hb.mono h.2.2.size)⟩
theorem DkS.moved {w0 w w' : World} {d : Nat} {W V : Int} {p q : List (List Nd)} {K L : List ByteArray} (h : DkS w0 d W p K w) (hk : DeskK d V q L w') (hb : Below d w w') : DkS w0 d V q L w' := ⟨hk, h.2.1, h.2.2.trans (hb.mono h.2.1)⟩
theorem dk_new {W : Int} (hW : wideF W = true) {w0 w : World} (hB : Below w0.heap.size w0 w) : Calls Tryz.prog 31 #[.int .i64 W] w fun e w' => ∃ d, e = .returned (.tuple #[.pointer (some ⟨d, 0, none⟩), .nilIface]) ∧ DkS w0 d W [] [] w' :=
 (dnew_ok hW w).mono fun e w' ⟨h1, h2⟩ => by
  subst h2
  exact ⟨w.heap.size, h1, DeskK.new hW w, hB.size, hB.alloc hB.size _⟩
theorem dk_text {w0 w : World} {d : Nat} {W : Int} {p : List (List Nd)} {K : List ByteArray} (h : DkS w0 d W p K w) (hpw : PowT w0) :
  Calls Tryz.prog 33 #[.pointer (some ⟨d, 0, none⟩)] w fun e w' => e = .returned (.string (formT W p)) ∧ DkS w0 d W p K w' :=
 (dtext_any h.1 (hpw.past h.2.2)).mono fun _ _ ⟨h1, h2⟩ => ⟨h1, h.past h2⟩
theorem dk_width {w0 w : World} {d : Nat} {W : Int} {p : List (List Nd)} {K : List ByteArray} (h : DkS w0 d W p K w) :
  Calls Tryz.prog 35 #[.pointer (some ⟨d, 0, none⟩)] w fun e w' => e = .returned (.int .i64 W) ∧ DkS w0 d W p K w' := by
 obtain ⟨P, c, mv, h1, -⟩ := h.1
 exact (dwidth_any w h1).mono fun e w' ⟨h1, h2⟩ => ⟨h1, by rw [h2]; exact h⟩
theorem dk_wide_no {w0 w : World} {d : Nat} {W V : Int} {p : List (List Nd)} {K : List ByteArray} (h : DkS w0 d W p K w) (hm : MaxL w0) (hpw : PowT w0) (hV : wideF V = false ∨ formE V p ≠ 0) :
  Calls Tryz.prog 34 #[.pointer (some ⟨d, 0, none⟩), .int .i64 V] w fun e w' => (∃ f : Int, e = .returned (.iface 43 (.int .i64 f))) ∧ DkS w0 d W p K w' := by
 by_cases hw : wideF V = false
 ·exact (dwide_no hw).mono fun e w' ⟨h1, h2⟩ => ⟨⟨_, h1⟩, h.past h2⟩
 ·have hq : formE V p ≠ 0 := hV.resolve_left hw
  exact (dwide_full h.1 (by simpa using hw) (hm.past h.2.2) (hpw.past h.2.2) hq).mono fun e w' ⟨h1, h2⟩ => ⟨⟨_, h1⟩, h.past h2⟩
theorem dk_wide_ok {w0 w : World} {d : Nat} {W V : Int} {p : List (List Nd)} {K : List ByteArray} (h : DkS w0 d W p K w) (hm : MaxL w0) (hpw : PowT w0) (hV : wideF V = true) (hq : formE V p = 0) :
  Calls Tryz.prog 34 #[.pointer (some ⟨d, 0, none⟩), .int .i64 V] w fun e w' => e = .returned .nilIface ∧ DkS w0 d V p (seenL [] p) w' :=
 (dwide_ok h.1 hV (hm.past h.2.2) (hpw.past h.2.2) hq).mono fun _ _ ⟨h1, h2, h3⟩ => ⟨h1, h.moved h2 h3⟩
theorem dk_wide_any {w0 w : World} {d : Nat} {W V : Int} {p : List (List Nd)} {K : List ByteArray} (h : DkS w0 d W p K w) (hm : MaxL w0) (hpw : PowT w0) :
  Calls Tryz.prog 34 #[.pointer (some ⟨d, 0, none⟩), .int .i64 V] w fun e w' => (∃ v, e = .returned v) ∧ ∃ U q L, DkS w0 d U q L w' := by
 by_cases hV : wideF V = false ∨ formE V p ≠ 0
 ·exact (dk_wide_no h hm hpw hV).mono fun e w' ⟨⟨f, h1⟩, h2⟩ => ⟨⟨_, h1⟩, _, _, _, h2⟩
 ·have h1 : wideF V = true := by
   cases hx : wideF V with
   | true => rfl
   | false => exact absurd (.inl hx) hV
  have h2 : formE V p = 0 := by
   by_cases hx : formE V p = 0
   ·exact hx
   ·exact absurd (.inr hx) hV
  exact (dk_wide_ok h hm hpw h1 h2).mono fun e w' ⟨h1, h2⟩ => ⟨⟨_, h1⟩, _, _, _, h2⟩
theorem dk_set_no {w0 w : World} {d : Nat} {W : Int} {p : List (List Nd)} {K : List ByteArray} (h : DkS w0 d W p K w) (hm : MaxL w0) (hpw : PowT w0) {s : ByteArray} (hs : s.size ≤ maxLen) (hq : (parseF s).1 ≠ 0 ∨ formE W (parseF s).2.2 ≠ 0) :
  Calls Tryz.prog 32 #[.pointer (some ⟨d, 0, none⟩), .string s] w fun e w' => (∃ (k : Nat) (f : Int), e = .returned (.tuple #[.int .i64 0, .int .i64 (k : Nat), .iface 43 (.int .i64 f)])) ∧ DkS w0 d W p K w' := by
 obtain ⟨f, k, q, he⟩ : ∃ f k q, parseF s = (f, k, q) := ⟨_, _, _, rfl⟩
 by_cases hf : f ≠ 0
 ·exact (dset_no he hf w hs (hm.past h.2.2)).mono fun e w' ⟨h1, h2⟩ => ⟨⟨_, _, h1⟩, h.past h2⟩
 ·have hf0 : f = 0 := by simpa using hf
  subst hf0
  rw [he] at hq
  have hq2 : formE W q ≠ 0 := hq.resolve_left (by simp)
  exact (dset_full h.1 he hs (hm.past h.2.2) (hpw.past h.2.2) hq2).mono fun e w' ⟨h1, h2⟩ => ⟨⟨0, _, h1⟩, h.past h2⟩
theorem dk_set_ok {w0 w : World} {d : Nat} {W : Int} {p : List (List Nd)} {K : List ByteArray} (h : DkS w0 d W p K w) (hm : MaxL w0) (hpw : PowT w0) {s : ByteArray} (hs : s.size ≤ maxLen) {k : Nat} {q : List (List Nd)} (hp : parseF s = (0, k, q)) (hq : formE W q = 0) :
  Calls Tryz.prog 32 #[.pointer (some ⟨d, 0, none⟩), .string s] w fun e w' => e = .returned (.tuple #[.int .i64 (newN K [] q : Nat), .int .i64 0, .nilIface]) ∧ DkS w0 d W q (seenL [] q) w' :=
 (dset_ok h.1 hp hs (hm.past h.2.2) (hpw.past h.2.2) hq).mono fun _ _ ⟨h1, h2, h3⟩ => ⟨h1, h.moved h2 h3⟩
theorem dk_set_any {w0 w : World} {d : Nat} {W : Int} {p : List (List Nd)} {K : List ByteArray} (h : DkS w0 d W p K w) (hm : MaxL w0) (hpw : PowT w0) {s : ByteArray} (hs : s.size ≤ maxLen) :
  Calls Tryz.prog 32 #[.pointer (some ⟨d, 0, none⟩), .string s] w fun e w' => (∃ a b c, e = .returned (.tuple #[a, b, c])) ∧ ∃ U q L, DkS w0 d U q L w' := by
 by_cases hV : (parseF s).1 ≠ 0 ∨ formE W (parseF s).2.2 ≠ 0
 ·exact (dk_set_no h hm hpw hs hV).mono fun e w' ⟨⟨k, f, h1⟩, h2⟩ => ⟨⟨_, _, _, h1⟩, _, _, _, h2⟩
 ·obtain ⟨f, k, q, he⟩ : ∃ f k q, parseF s = (f, k, q) := ⟨_, _, _, rfl⟩
  rw [he] at hV
  have h1 : f = 0 := by
   by_cases hx : f = 0
   ·exact hx
   ·exact absurd (.inl hx) hV
  subst h1
  have h2 : formE W q = 0 := by
   by_cases hx : formE W q = 0
   ·exact hx
   ·exact absurd (.inr hx) hV
  exact (dk_set_ok h hm hpw hs he h2).mono fun e w' ⟨h1, h2⟩ => ⟨⟨_, _, _, h1⟩, _, _, _, h2⟩
end Go.Proofs.YtddfdmopaeghnacGreatDoor
namespace Go.Proofs.YtddfdmopaeghnacGreatDoor
open Go.RowKit
def deskWI : ByteArray := ⟨#[97, 97, 97, 97, 43, 98, 98, 98, 98, 59]⟩
def deskWO : ByteArray := ⟨#[97, 97, 97, 97, 10, 32, 32, 43, 32, 98, 98, 98, 98, 59, 10]⟩
def deskWP : List Nd := [⟨8, .empty, 0⟩, ⟨5, .empty, 0⟩, ⟨2, ⟨#[97, 97, 97, 97]⟩, 0⟩, ⟨2, ⟨#[98, 98, 98, 98]⟩, 0⟩]
theorem deskW_parse : parseF deskWI = (0, 0, [deskWP]) := by kernel_rfl
theorem deskW_one : oneQ deskWP 10 = 0 ∧ oneX deskWP 10 = deskWO := ⟨by kernel_rfl, by kernel_rfl⟩
theorem deskW_err : formE 10 [deskWP] = 0 := by
 rw [formE, if_neg (by rw [deskW_one.1]; simp)]; rfl
theorem deskW_text : formT 10 [deskWP] = deskWO := by
 rw [formT, deskW_one.2, formT]; simp
theorem deskW_new : newN [] [] [deskWP] = 1 := by
 rw [newN, if_neg (by simp), if_neg (by simp), newN]
def deskSI : ByteArray := ⟨#[97, 59, 98, 59, 97, 59]⟩
def deskSO : ByteArray := ⟨#[97, 59, 10, 98, 59, 10, 97, 59, 10]⟩
def deskSA : List Nd := [⟨8, .empty, 0⟩, ⟨2, ⟨#[97]⟩, 0⟩]
def deskSB : List Nd := [⟨8, .empty, 0⟩, ⟨2, ⟨#[98]⟩, 0⟩]
theorem deskS_parse : parseF deskSI = (0, 0, [deskSA, deskSB, deskSA]) := by kernel_rfl
theorem deskS_one : oneQ deskSA 40 = 0 ∧ oneQ deskSB 40 = 0 ∧ oneX deskSA 40 = ⟨#[97, 59, 10]⟩ ∧ oneX deskSB 40 = ⟨#[98, 59, 10]⟩ := ⟨by kernel_rfl, by kernel_rfl, by kernel_rfl, by kernel_rfl⟩
theorem deskS_err : formE 40 [deskSA, deskSB, deskSA] = 0 := by
 obtain ⟨h1, h2, -⟩ := deskS_one
 rw [formE, if_neg (by rw [h1]; simp), formE, if_neg (by rw [h2]; simp), formE, if_neg (by rw [h1]; simp)]; rfl
theorem deskS_text : formT 40 [deskSA, deskSB, deskSA] = deskSO := by
 obtain ⟨-, -, h1, h2⟩ := deskS_one
 rw [formT, h1, formT, h2, formT, h1, formT]; rfl
theorem deskS_line : lineL deskSA = ⟨#[97, 59]⟩ ∧ lineL deskSB = ⟨#[98, 59]⟩ := ⟨by kernel_rfl, by kernel_rfl⟩
theorem deskS_ne : lineL deskSB ≠ lineL deskSA := by
 rw [deskS_line.1, deskS_line.2]
 intro h
 injection h with h
 simp at h
theorem deskS_new : newN [] [] [deskSA, deskSB, deskSA] = 2 := by
 rw [newN, if_neg (by simp), if_neg (by simp), newN, if_neg (by simp [deskS_ne]), if_neg (by simp), newN, if_pos (by simp), newN]
end Go.Proofs.YtddfdmopaeghnacGreatDoor
namespace Go.Proofs.YtddfdmopaeghnacGreatDoor
open Go.RowKit Go.Maps
theorem dk_textx {w0 w : World} {d : Nat} {W : Int} {p : List (List Nd)} {K : List ByteArray} (h : DkS w0 d W p K w) (hpw : PowT w0) {T : ByteArray} (hT : formT W p = T) :
  Calls Tryz.prog 33 #[.pointer (some ⟨d, 0, none⟩)] w fun e w' => e = .returned (.string T) ∧ DkS w0 d W p K w' := by
 subst hT
 exact dk_text h hpw
theorem deskW_set {w0 w : World} {d : Nat} (h : DkS w0 d 10 [] [] w) (hm : MaxL w0) (hpw : PowT w0) :
  Calls Tryz.prog 32 #[.pointer (some ⟨d, 0, none⟩), .string deskWI] w fun e w' => e = .returned (.tuple #[.int .i64 1, .int .i64 0, .nilIface]) ∧ DkS w0 d 10 [deskWP] (seenL [] [deskWP]) w' := by
 have := dk_set_ok h hm hpw (by decide) deskW_parse deskW_err
 rw [deskW_new] at this
 exact this
set_option maxRecDepth 100000 in
set_option maxHeartbeats 8000000 in
theorem deskWide_new (W : Int) (s : ByteArray) (V : Int) (w : World) (hm : MaxL w) (hp : PowT w) (hW : wideF W = false) :
  Calls Tryz.prog 10 #[.int .i64 W, .string s, .int .i64 V] w (Ret w (.bool true)) := by
 have HB : Hid (Below w.heap.size w w) := Lib.hid (Below.refl _ _)
 have HN0 := Lib.hid (fun (w' : World) (hB : Below w.heap.size w w') => dk_new (W := 10) rfl hB)
 have HS0 := Lib.hid (fun (w' : World) (d : Nat) (hD : DkS w d 10 [] [] w') => deskW_set hD hm hp)
 have HT0 := Lib.hid (fun (w' : World) (d : Nat) (hD : DkS w d 10 [deskWP] (seenL [] [deskWP]) w') => dk_textx hD hp deskW_text)
 unfold deskWI at HS0
 unfold deskWO at HT0
 have HN1 := Lib.hid (fun w' => dnew_bad hW w')
 clear hm hp hW
 go_enter Tryz.func10, Tryz.ntmps10
 go_wp2_with (first
   | (go_at_call 31; (fail_if_success have z := T0); refine (HN0.out _ HB.out).mono ?_; rintro e w1 ⟨z, rfl, hD⟩; have HZ := Lib.hid hD; have HB := Lib.hid hD.2.2; clear hD; have T0 := Lib.hid True.intro)
   | (go_at_call 32; (have z := T0; clear z); (fail_if_success have z := T1); refine (HS0.out _ _ HZ.out).mono ?_; rintro e w2 ⟨rfl, hD⟩; have HZ := Lib.hid hD; have HB := Lib.hid hD.2.2; clear hD; have T1 := Lib.hid True.intro)
   | (go_at_call 33; (have z := T1; clear z); (fail_if_success have z := T2); refine (HT0.out _ _ HZ.out).mono ?_; rintro e w3 ⟨rfl, hD⟩; have HZ := Lib.hid hD; have HB := Lib.hid hD.2.2; clear hD; have T2 := Lib.hid True.intro)
   | (go_at_call 31; (have z := T2; clear z); (fail_if_success have z := T3); refine (HN1.out _).mono ?_; rintro e w4 ⟨rfl, hB⟩; have HB := Lib.hid (HB.out.trans (hB.mono HB.out.size)); clear hB; have T3 := Lib.hid True.intro))
 go_ret
 exact ⟨by first | rfl | (simp; done), HB.out⟩
set_option maxRecDepth 100000 in
set_option maxHeartbeats 8000000 in
theorem deskWide_set (W : Int) (s : ByteArray) (V : Int) (w : World) (hs : s.size ≤ maxLen) (hm : MaxL w) (hp : PowT w) (hW : wideF W = true) (hq : (parseF s).1 ≠ 0 ∨ formE W (parseF s).2.2 ≠ 0) :
  Calls Tryz.prog 10 #[.int .i64 W, .string s, .int .i64 V] w (Ret w (.bool true)) := by
 have HB : Hid (Below w.heap.size w w) := Lib.hid (Below.refl _ _)
 have HN0 := Lib.hid (fun (w' : World) (hB : Below w.heap.size w w') => dk_new (W := 10) rfl hB)
 have HS0 := Lib.hid (fun (w' : World) (d : Nat) (hD : DkS w d 10 [] [] w') => deskW_set hD hm hp)
 have HT0 := Lib.hid (fun (w' : World) (d : Nat) (hD : DkS w d 10 [deskWP] (seenL [] [deskWP]) w') => dk_textx hD hp deskW_text)
 unfold deskWI at HS0
 unfold deskWO at HT0
 have HN1 := Lib.hid (fun (w' : World) (hB : Below w.heap.size w w') => dk_new hW hB)
 have HS1 := Lib.hid (fun (w' : World) (d : Nat) (hD : DkS w d W [] [] w') => dk_set_no hD hm hp hs hq)
 have HT1 := Lib.hid (fun (w' : World) (d : Nat) (hD : DkS w d W [] [] w') => dk_textx (T := .empty) hD hp (by rw [formT]))
 clear hs hm hp hW hq
 go_enter Tryz.func10, Tryz.ntmps10
 go_wp2_with (first
   | (go_at_call 31; (fail_if_success have z := T0); refine (HN0.out _ HB.out).mono ?_; rintro e w1 ⟨z, rfl, hD⟩; have HZ := Lib.hid hD; have HB := Lib.hid hD.2.2; clear hD; have T0 := Lib.hid True.intro)
   | (go_at_call 32; (have z := T0; clear z); (fail_if_success have z := T1); refine (HS0.out _ _ HZ.out).mono ?_; rintro e w2 ⟨rfl, hD⟩; have HZ := Lib.hid hD; have HB := Lib.hid hD.2.2; clear hD; have T1 := Lib.hid True.intro)
   | (go_at_call 33; (have z := T1; clear z); (fail_if_success have z := T2); refine (HT0.out _ _ HZ.out).mono ?_; rintro e w3 ⟨rfl, hD⟩; have HZ := Lib.hid hD; have HB := Lib.hid hD.2.2; clear hD; have T2 := Lib.hid True.intro)
   | (go_at_call 31; (have z := T2; clear z); (fail_if_success have z := T3); refine (HN1.out _ HB.out).mono ?_; rintro e w4 ⟨dd, rfl, hD⟩; have HD := Lib.hid hD; have HB := Lib.hid hD.2.2; clear hD; have T3 := Lib.hid True.intro)
   | (go_at_call 32; (have z := T3; clear z); (fail_if_success have z := T4); refine (HS1.out _ _ HD.out).mono ?_; rintro e w5 ⟨⟨k, f, rfl⟩, hD⟩; have HD := Lib.hid hD; have HB := Lib.hid hD.2.2; clear hD; have T4 := Lib.hid True.intro)
   | (go_at_call 33; (have z := T4; clear z); (fail_if_success have z := T5); refine (HT1.out _ _ HD.out).mono ?_; rintro e w6 ⟨rfl, hD⟩; have HD := Lib.hid hD; have HB := Lib.hid hD.2.2; clear hD; have T5 := Lib.hid True.intro))
 go_ret
 exact ⟨by first | rfl | (simp; done), HB.out⟩
set_option maxRecDepth 100000 in
set_option maxHeartbeats 8000000 in
theorem deskWide_no (W : Int) (s : ByteArray) (V : Int) (w : World) (hs : s.size ≤ maxLen) (hm : MaxL w) (hp : PowT w) (hW : wideF W = true) {k : Nat} {q : List (List Nd)} (hk : parseF s = (0, k, q)) (hq : formE W q = 0) (hV : wideF V = false ∨ formE V q ≠ 0) :
  Calls Tryz.prog 10 #[.int .i64 W, .string s, .int .i64 V] w (Ret w (.bool true)) := by
 have HB : Hid (Below w.heap.size w w) := Lib.hid (Below.refl _ _)
 have HN0 := Lib.hid (fun (w' : World) (hB : Below w.heap.size w w') => dk_new (W := 10) rfl hB)
 have HS0 := Lib.hid (fun (w' : World) (d : Nat) (hD : DkS w d 10 [] [] w') => deskW_set hD hm hp)
 have HT0 := Lib.hid (fun (w' : World) (d : Nat) (hD : DkS w d 10 [deskWP] (seenL [] [deskWP]) w') => dk_textx hD hp deskW_text)
 unfold deskWI at HS0
 unfold deskWO at HT0
 have HN1 := Lib.hid (fun (w' : World) (hB : Below w.heap.size w w') => dk_new hW hB)
 have HS1 := Lib.hid (fun (w' : World) (d : Nat) (hD : DkS w d W [] [] w') => dk_set_ok hD hm hp hs hk hq)
 have HT1 := Lib.hid (fun (w' : World) (d : Nat) (hD : DkS w d W q (seenL [] q) w') => dk_text hD hp)
 have HV := Lib.hid (fun (w' : World) (d : Nat) (hD : DkS w d W q (seenL [] q) w') => dk_wide_no hD hm hp hV)
 have HWD := Lib.hid (fun (w' : World) (d : Nat) (hD : DkS w d W q (seenL [] q) w') => dk_width hD)
 generalize formT W q = T at *
 have hb1 : (T.toList == T.toList) = true := by simp
 have hb2 : (T.toList != T.toList) = false := by simp
 clear hs hm hp hW hk hq hV
 go_enter Tryz.func10, Tryz.ntmps10
 go_wp2_with (first
   | (go_at_call 31; (fail_if_success have z := T0); refine (HN0.out _ HB.out).mono ?_; rintro e w1 ⟨z, rfl, hD⟩; have HZ := Lib.hid hD; have HB := Lib.hid hD.2.2; clear hD; have T0 := Lib.hid True.intro)
   | (go_at_call 32; (have z := T0; clear z); (fail_if_success have z := T1); refine (HS0.out _ _ HZ.out).mono ?_; rintro e w2 ⟨rfl, hD⟩; have HZ := Lib.hid hD; have HB := Lib.hid hD.2.2; clear hD; have T1 := Lib.hid True.intro)
   | (go_at_call 33; (have z := T1; clear z); (fail_if_success have z := T2); refine (HT0.out _ _ HZ.out).mono ?_; rintro e w3 ⟨rfl, hD⟩; have HZ := Lib.hid hD; have HB := Lib.hid hD.2.2; clear hD; have T2 := Lib.hid True.intro)
   | (go_at_call 31; (have z := T2; clear z); (fail_if_success have z := T3); refine (HN1.out _ HB.out).mono ?_; rintro e w4 ⟨dd, rfl, hD⟩; have HD := Lib.hid hD; have HB := Lib.hid hD.2.2; clear hD; have T3 := Lib.hid True.intro)
   | (go_at_call 32; (have z := T3; clear z); (fail_if_success have z := T4); refine (HS1.out _ _ HD.out).mono ?_; rintro e w5 ⟨rfl, hD⟩; have HD := Lib.hid hD; have HB := Lib.hid hD.2.2; clear hD; have T4 := Lib.hid True.intro)
   | (go_at_call 33; (have z := T4; clear z); (fail_if_success have z := T5); refine (HT1.out _ _ HD.out).mono ?_; rintro e w6 ⟨rfl, hD⟩; have HD := Lib.hid hD; have HB := Lib.hid hD.2.2; clear hD; have T5 := Lib.hid True.intro)
   | (go_at_call 34; (have z := T5; clear z); (fail_if_success have z := T6); refine (HV.out _ _ HD.out).mono ?_; rintro e w7 ⟨⟨f, rfl⟩, hD⟩; have HD := Lib.hid hD; have HB := Lib.hid hD.2.2; clear hD; have T6 := Lib.hid True.intro)
   | (go_at_call 33; (have z := T6; clear z); (fail_if_success have z := T7); refine (HT1.out _ _ HD.out).mono ?_; rintro e w8 ⟨rfl, hD⟩; have HD := Lib.hid hD; have HB := Lib.hid hD.2.2; clear hD; have T7 := Lib.hid True.intro)
   | (go_at_call 35; (have z := T7; clear z); (fail_if_success have z := T8); refine (HWD.out _ _ HD.out).mono ?_; rintro e w9 ⟨rfl, hD⟩; have HD := Lib.hid hD; have HB := Lib.hid hD.2.2; clear hD; have T8 := Lib.hid True.intro))
 go_ret
 exact ⟨by first | rfl | (simp; done), HB.out⟩
set_option maxRecDepth 100000 in
set_option maxHeartbeats 8000000 in
theorem deskWide_ok (W : Int) (s : ByteArray) (V : Int) (w : World) (hs : s.size ≤ maxLen) (hm : MaxL w) (hp : PowT w) (hW : wideF W = true) {k : Nat} {q : List (List Nd)} (hk : parseF s = (0, k, q)) (hq : formE W q = 0) (hV : wideF V = true) (hqV : formE V q = 0) :
  Calls Tryz.prog 10 #[.int .i64 W, .string s, .int .i64 V] w (Ret w (.bool true)) := by
 have HB : Hid (Below w.heap.size w w) := Lib.hid (Below.refl _ _)
 have HN0 := Lib.hid (fun (w' : World) (hB : Below w.heap.size w w') => dk_new (W := 10) rfl hB)
 have HS0 := Lib.hid (fun (w' : World) (d : Nat) (hD : DkS w d 10 [] [] w') => deskW_set hD hm hp)
 have HT0 := Lib.hid (fun (w' : World) (d : Nat) (hD : DkS w d 10 [deskWP] (seenL [] [deskWP]) w') => dk_textx hD hp deskW_text)
 unfold deskWI at HS0
 unfold deskWO at HT0
 have HN1 := Lib.hid (fun (w' : World) (hB : Below w.heap.size w w') => dk_new hW hB)
 have HS1 := Lib.hid (fun (w' : World) (d : Nat) (hD : DkS w d W [] [] w') => dk_set_ok hD hm hp hs hk hq)
 have HT1 := Lib.hid (fun (w' : World) (d : Nat) (hD : DkS w d W q (seenL [] q) w') => dk_text hD hp)
 have HV := Lib.hid (fun (w' : World) (d : Nat) (hD : DkS w d W q (seenL [] q) w') => dk_wide_ok hD hm hp hV hqV)
 have HTV := Lib.hid (fun (w' : World) (d : Nat) (hD : DkS w d V q (seenL [] q) w') => dk_text hD hp)
 have HWD := Lib.hid (fun (w' : World) (d : Nat) (hD : DkS w d V q (seenL [] q) w') => dk_width hD)
 have HVB := Lib.hid (fun (w' : World) (d : Nat) (hD : DkS w d V q (seenL [] q) w') => dk_wide_ok hD hm hp hW hq)
 have h7 := fmt_of hk V
 rw [if_neg (by simp [hV]), if_neg (by simp [hqV])] at h7
 have HF := Lib.hid (fun (w' : World) (hB : Below w.heap.size w w') => fmt_ok_is h7 w' hs (hm.past hB) (hp.past hB))
 clear h7
 generalize formT W q = T at *
 generalize formT V q = X at *
 have hb1 : (T.toList == T.toList) = true := by simp
 have hb2 : (T.toList != T.toList) = false := by simp
 have hb3 : (X.toList == X.toList) = true := by simp
 have hb4 : (X.toList != X.toList) = false := by simp
 clear hs hm hp hW hk hq hV hqV
 go_enter Tryz.func10, Tryz.ntmps10
 go_wp2_with (first
   | (go_at_call 31; (fail_if_success have z := T0); refine (HN0.out _ HB.out).mono ?_; rintro e w1 ⟨z, rfl, hD⟩; have HZ := Lib.hid hD; have HB := Lib.hid hD.2.2; clear hD; have T0 := Lib.hid True.intro)
   | (go_at_call 32; (have z := T0; clear z); (fail_if_success have z := T1); refine (HS0.out _ _ HZ.out).mono ?_; rintro e w2 ⟨rfl, hD⟩; have HZ := Lib.hid hD; have HB := Lib.hid hD.2.2; clear hD; have T1 := Lib.hid True.intro)
   | (go_at_call 33; (have z := T1; clear z); (fail_if_success have z := T2); refine (HT0.out _ _ HZ.out).mono ?_; rintro e w3 ⟨rfl, hD⟩; have HZ := Lib.hid hD; have HB := Lib.hid hD.2.2; clear hD; have T2 := Lib.hid True.intro)
   | (go_at_call 31; (have z := T2; clear z); (fail_if_success have z := T3); refine (HN1.out _ HB.out).mono ?_; rintro e w4 ⟨dd, rfl, hD⟩; have HD := Lib.hid hD; have HB := Lib.hid hD.2.2; clear hD; have T3 := Lib.hid True.intro)
   | (go_at_call 32; (have z := T3; clear z); (fail_if_success have z := T4); refine (HS1.out _ _ HD.out).mono ?_; rintro e w5 ⟨rfl, hD⟩; have HD := Lib.hid hD; have HB := Lib.hid hD.2.2; clear hD; have T4 := Lib.hid True.intro)
   | (go_at_call 33; (have z := T4; clear z); (fail_if_success have z := T5); refine (HT1.out _ _ HD.out).mono ?_; rintro e w6 ⟨rfl, hD⟩; have HD := Lib.hid hD; have HB := Lib.hid hD.2.2; clear hD; have T5 := Lib.hid True.intro)
   | (go_at_call 34; (have z := T5; clear z); (fail_if_success have z := T6); refine (HV.out _ _ HD.out).mono ?_; rintro e w7 ⟨rfl, hD⟩; have HD := Lib.hid hD; have HB := Lib.hid hD.2.2; clear hD; have T6 := Lib.hid True.intro)
   | (go_at_call 30; (have z := T6; clear z); (fail_if_success have z := T7); refine (HF.out _ HB.out).mono ?_; rintro e w8 ⟨rfl, hB⟩; have HD := Lib.hid (HD.out.past hB); have HB := Lib.hid (HB.out.trans (hB.mono HB.out.size)); clear hB; have T7 := Lib.hid True.intro)
   | (go_at_call 33; (have z := T7; clear z); (fail_if_success have z := T8); refine (HTV.out _ _ HD.out).mono ?_; rintro e w9 ⟨rfl, hD⟩; have HD := Lib.hid hD; have HB := Lib.hid hD.2.2; clear hD; have T8 := Lib.hid True.intro)
   | (go_at_call 35; (have z := T8; clear z); (fail_if_success have z := T9); refine (HWD.out _ _ HD.out).mono ?_; rintro e w10 ⟨rfl, hD⟩; have HD := Lib.hid hD; have HB := Lib.hid hD.2.2; clear hD; have T9 := Lib.hid True.intro)
   | (go_at_call 34; (have z := T9; clear z); (fail_if_success have z := T10); refine (HVB.out _ _ HD.out).mono ?_; rintro e w11 ⟨rfl, hD⟩; have HD := Lib.hid hD; have HB := Lib.hid hD.2.2; clear hD; have T10 := Lib.hid True.intro)
   | (go_at_call 33; (have z := T10; clear z); (fail_if_success have z := T11); refine (HT1.out _ _ HD.out).mono ?_; rintro e w12 ⟨rfl, hD⟩; have HD := Lib.hid hD; have HB := Lib.hid hD.2.2; clear hD; have T11 := Lib.hid True.intro))
 go_ret
 exact ⟨by first | rfl | (simp; done), HB.out⟩
theorem deskWide_any (W : Int) (s : ByteArray) (V : Int) (w : World) (hs : s.size ≤ maxLen) (hm : MaxL w) (hp : PowT w) :
  Calls Tryz.prog 10 #[.int .i64 W, .string s, .int .i64 V] w (Ret w (.bool true)) := by
 by_cases hW : wideF W = false
 ·exact deskWide_new W s V w hm hp hW
 ·have hW : wideF W = true := by simpa using hW
  by_cases hq : (parseF s).1 ≠ 0 ∨ formE W (parseF s).2.2 ≠ 0
  ·exact deskWide_set W s V w hs hm hp hW hq
  ·obtain ⟨f, k, q, he⟩ : ∃ f k q, parseF s = (f, k, q) := ⟨_, _, _, rfl⟩
   rw [he] at hq
   have h1 : f = 0 := by
    by_cases hx : f = 0
    ·exact hx
    ·exact absurd (.inl hx) hq
   subst h1
   have h2 : formE W q = 0 := by
    by_cases hx : formE W q = 0
    ·exact hx
    ·exact absurd (.inr hx) hq
   by_cases hV : wideF V = false ∨ formE V q ≠ 0
   ·exact deskWide_no W s V w hs hm hp hW he h2 hV
   ·have h3 : wideF V = true := by
     cases hx : wideF V with
     | true => rfl
     | false => exact absurd (.inl hx) hV
    have h4 : formE V q = 0 := by
     by_cases hx : formE V q = 0
     ·exact hx
     ·exact absurd (.inr hx) hV
    exact deskWide_ok W s V w hs hm hp hW he h2 h3 h4
end Go.Proofs.YtddfdmopaeghnacGreatDoor
