/- Walk of the law TreeIs: it returns true. Conditions: the slices lie below the call's own blocks; the texts are shorter than 4294967281 bytes; errors.errorType reads as the program's text lays it; internal/bytealg.MaxLen holds some number. -/
import Derived.Test.YtddfdmopaeghnabDoorPrgW
import Derived.Test.YtddfdmopaeghnabDoorErrW
namespace Go.Proofs.YtddfdmopaeghnabDoor
open Go.RowKit

theorem error_eq (n : Int) (w : World) (hg : ErrT w) (hs : 0 + 1 ≤ w.heap.size) : Calls Tryd.prog 13 #[errV n, .int .i64 n] w (Ret w (.bool true)) := by
  have h := same_error n n w hg hs
  rwa [beq_self_eq_true] at h

set_option maxHeartbeats 1000000 in
theorem tkids_bad (l : List Nd) (A : Option Addr) (c : Nat) (i : Int) (w : World) (hl : Nds w w.heap.size A l) (hsh : Short l) (hm : MaxL w) (h : treeF l ≠ 0) :
    Calls Tryd.prog 37 #[.slice A l.length c, .int .i64 i] w (Ret w (.tuple #[.slice none 0 0, .iface 24 (.int .i64 (treeF l))])) := by
  have HK := Lib.hid (tcheck_bad l A c w hl hsh hm h)
  clear hl hsh hm h
  go_enter Tryd.func37, Tryd.ntmps37
  go_wp2_with (go_at_call 34; refine HK.out.mono ?_; rintro e w1 ⟨rfl, hB1⟩)
  go_ret2
  exact ⟨rfl, hB1⟩
set_option maxHeartbeats 1000000 in
theorem tkids_out (l : List Nd) (A : Option Addr) (c : Nat) (i : Int) (w : World) (hl : Nds w w.heap.size A l) (hsh : Short l) (hm : MaxL w) (h : treeF l = 0) (hi : i < 0 ∨ (l.length : Int) ≤ i) :
    Calls Tryd.prog 37 #[.slice A l.length c, .int .i64 i] w (Ret w (.tuple #[.slice none 0 0, .iface 24 (.int .i64 1)])) := by
  have hml := hl.2.1
  unfold maxLen at hml
  have HK := Lib.hid (tcheck_ok l A c w hl hsh hm h)
  clear hl hsh hm h
  rcases Int.lt_or_le i 0 with h1 | h1
  · clear hi
    go_enter Tryd.func37, Tryd.ntmps37
    go_wp2_with (go_at_call 34; refine HK.out.mono ?_; rintro e w1 ⟨rfl, hB1⟩)
    go_ret2
    exact ⟨rfl, hB1⟩
  · have h2 : (l.length : Int) ≤ i := by omega
    clear hi
    have h3 : ¬ i < 0 := by omega
    go_enter Tryd.func37, Tryd.ntmps37
    go_wp2_with (go_at_call 34; refine HK.out.mono ?_; rintro e w1 ⟨rfl, hB1⟩)
    go_ret2
    exact ⟨rfl, hB1⟩

/-- Kids as whole numbers. -/
def kI (l : List Nd) (i : Nat) : List Int := (kidsAt l i).map fun j => ((j : Nat) : Int)
theorem kI_V (l : List Nd) (i : Nat) : natV (kidsAt l i) = (kI l i).map (.int .i64) := by simp [natV, kI]
theorem kI_len (l : List Nd) (i : Nat) : (kI l i).length = (kidsAt l i).length := by simp [kI]
theorem Nums.own {w : World} {base n : Nat} {A : Option Addr} {c : Nat} {l : List Int} (h : w.ownsRow base 3 1 (.slice A n c) n (l.map (.int .i64))) (hn : n = l.length) (hm : l.length ≤ maxLen) : Nums w w.heap.size A l := by
  subst hn
  exact ⟨.of_own h, hm⟩
theorem Nums.past {w w' : World} {A : Option Addr} {l : List Int} (h : Nums w w.heap.size A l) (hb : Below w.heap.size w w') : Nums w' w'.heap.size A l := ⟨h.1.past hb, h.2⟩
theorem nums_nil (w : World) (B : Nat) : Nums w B none [] := ⟨⟨by simp, fun h => by simp at h⟩, by simp⟩

set_option maxRecDepth 100000 in
set_option maxHeartbeats 4000000 in
theorem treeIs_any (l : List Nd) (i : Int) (p : List (List Nd)) (A : Option Addr) (c : Nat) (P : Option Addr) (cp : Nat) (w : World) (hl : Nds w w.heap.size A l) (hsh : Short l) (hp : Prg w w.heap.size P p)
    (hm : MaxL w) (ht : ErrT w) (hg : 0 + 1 ≤ w.heap.size) :
    Calls Tryd.prog 9 #[.slice A l.length c, .int .i64 i, .slice P p.length cp] w (Ret w (.bool true)) := by
  have hml := hl.2.1
  unfold maxLen at hml
  have HT : Hid (∀ w' : World, Below w.heap.size w w' → ErrT w' ∧ 0 + 1 ≤ w'.heap.size) := Lib.hid (fun w' hb => ⟨ht.past hg hb, Nat.le_trans hg hb.size⟩)
  have HM : Hid (∀ w' : World, Below w.heap.size w w' → MaxL w') := Lib.hid (fun w' hb => hm.past hb)
  have HB : Hid (Below w.heap.size w w) := Lib.hid (Below.refl _ _)
  have HPF : Hid (∃ (pk : Nat) (pe : Int), (∀ w' : World, Below w.heap.size w w' → Calls Tryd.prog 38 #[.slice P p.length cp] w' fun e w'' => e = .returned (.tuple #[.int .i64 pk, .int .i64 pe]) ∧ Below w'.heap.size w' w'') ∧
      (∀ w' : World, Below w.heap.size w w' → Calls Tryd.prog 39 #[.slice P p.length cp] w' fun e w'' => e = .returned (.tuple #[.int .i64 pk, errV pe]) ∧ Below w'.heap.size w' w'')) :=
    Lib.hid ⟨(progF p).1, (progF p).2, fun w' hb => progfault_any p P cp w' (hp.past hb), fun w' hb => all_any p P cp w' (hp.past hb) (hm.past hb)⟩
  obtain ⟨pk, pe, hpf, hal⟩ := HPF.out
  have HPR := Lib.hid hpf; have HAL := Lib.hid hal
  clear hpf hal HPF hp ht
  have HTF := Lib.hid (fun (w' : World) (hb : Below w.heap.size w w') => treefault_any l A c w' (hl.past hb) hsh)
  have HCK := Lib.hid (fun (w' : World) (hb : Below w.heap.size w w') => tcheck_any l A c w' (hl.past hb) hsh (hm.past hb))
  have HI0 := Lib.hid (fun (w' : World) => ints_any [] [] 0 0 rfl rfl none none 0 0 w' (nums_nil w' _) (nums_nil w' _))
  by_cases h0 : treeF l = 0
  · rw [h0] at HTF HCK
    by_cases hi : i < 0 ∨ (l.length : Int) ≤ i
    · have HKD := Lib.hid (fun (w' : World) (hb : Below w.heap.size w w') => tkids_out l A c i w' (hl.past hb) hsh (hm.past hb) h0 hi)
      clear hl hsh hm h0
      rcases Int.lt_or_le i 0 with h1 | h1
      · clear hi
        go_enter Tryd.func9, Tryd.ntmps9
        go_wp2_with (first
          | (go_at_call 33; refine (HTF.out _ HB.out).mono ?_; rintro e w1 ⟨rfl, hB1⟩; have HB := Lib.hid (HB.out.trans (hB1.mono HB.out.size)); clear hB1)
          | (go_at_call 34; refine (HCK.out _ HB.out).mono ?_; rintro e w2 ⟨rfl, hB1⟩; have HB := Lib.hid (HB.out.trans (hB1.mono HB.out.size)); clear hB1)
          | (go_at_call 13; (fail_if_success have z := KD); refine (error_eq 0 _ (HT.out _ HB.out).1 (HT.out _ HB.out).2).mono ?_; rintro e w3 ⟨rfl, hB1⟩; have HB := Lib.hid (HB.out.trans (hB1.mono HB.out.size)); clear hB1)
          | (go_at_call 13; have z := AL; clear z; refine (error_eq pe _ (HT.out _ HB.out).1 (HT.out _ HB.out).2).mono ?_; rintro e w3 ⟨rfl, hB1⟩; have HB := Lib.hid (HB.out.trans (hB1.mono HB.out.size)); clear hB1)
          | (go_at_call 13; have z := KD; clear z; refine (error_same 1 (by decide) _ (HT.out _ HB.out).1 (HT.out _ HB.out).2).mono ?_; rintro e w4 ⟨rfl, hB1⟩; have HB := Lib.hid (HB.out.trans (hB1.mono HB.out.size)); clear hB1)
          | (go_at_call 37; refine (HKD.out _ HB.out).mono ?_; rintro e w5 ⟨rfl, hB1⟩; have HB := Lib.hid (HB.out.trans (hB1.mono HB.out.size)); have KD := Lib.hid True.intro; clear hB1)
          | (go_at_call 20; refine (HI0.out _).mono ?_; rintro e w6 ⟨rfl, hB1⟩; have HB := Lib.hid (HB.out.trans (hB1.mono HB.out.size)); clear hB1)
          | (go_at_call 38; refine (HPR.out _ HB.out).mono ?_; rintro e w7 ⟨rfl, hB1⟩; have HB := Lib.hid (HB.out.trans (hB1.mono HB.out.size)); clear hB1)
          | (go_at_call 39; refine (HAL.out _ HB.out).mono ?_; rintro e w8 ⟨rfl, hB1⟩; have HB := Lib.hid (HB.out.trans (hB1.mono HB.out.size)); have AL := Lib.hid True.intro; clear hB1))
        go_ret
        exact ⟨rfl, HB.out⟩
      · have h2 : (l.length : Int) ≤ i := by omega
        have h3 : ¬ i < 0 := by omega
        clear hi
        go_enter Tryd.func9, Tryd.ntmps9
        go_wp2_with (first
          | (go_at_call 33; refine (HTF.out _ HB.out).mono ?_; rintro e w1 ⟨rfl, hB1⟩; have HB := Lib.hid (HB.out.trans (hB1.mono HB.out.size)); clear hB1)
          | (go_at_call 34; refine (HCK.out _ HB.out).mono ?_; rintro e w2 ⟨rfl, hB1⟩; have HB := Lib.hid (HB.out.trans (hB1.mono HB.out.size)); clear hB1)
          | (go_at_call 13; (fail_if_success have z := KD); refine (error_eq 0 _ (HT.out _ HB.out).1 (HT.out _ HB.out).2).mono ?_; rintro e w3 ⟨rfl, hB1⟩; have HB := Lib.hid (HB.out.trans (hB1.mono HB.out.size)); clear hB1)
          | (go_at_call 13; have z := AL; clear z; refine (error_eq pe _ (HT.out _ HB.out).1 (HT.out _ HB.out).2).mono ?_; rintro e w3 ⟨rfl, hB1⟩; have HB := Lib.hid (HB.out.trans (hB1.mono HB.out.size)); clear hB1)
          | (go_at_call 13; have z := KD; clear z; refine (error_same 1 (by decide) _ (HT.out _ HB.out).1 (HT.out _ HB.out).2).mono ?_; rintro e w4 ⟨rfl, hB1⟩; have HB := Lib.hid (HB.out.trans (hB1.mono HB.out.size)); clear hB1)
          | (go_at_call 37; refine (HKD.out _ HB.out).mono ?_; rintro e w5 ⟨rfl, hB1⟩; have HB := Lib.hid (HB.out.trans (hB1.mono HB.out.size)); have KD := Lib.hid True.intro; clear hB1)
          | (go_at_call 20; refine (HI0.out _).mono ?_; rintro e w6 ⟨rfl, hB1⟩; have HB := Lib.hid (HB.out.trans (hB1.mono HB.out.size)); clear hB1)
          | (go_at_call 38; refine (HPR.out _ HB.out).mono ?_; rintro e w7 ⟨rfl, hB1⟩; have HB := Lib.hid (HB.out.trans (hB1.mono HB.out.size)); clear hB1)
          | (go_at_call 39; refine (HAL.out _ HB.out).mono ?_; rintro e w8 ⟨rfl, hB1⟩; have HB := Lib.hid (HB.out.trans (hB1.mono HB.out.size)); have AL := Lib.hid True.intro; clear hB1))
        go_ret
        exact ⟨rfl, HB.out⟩
    · obtain ⟨m, rfl⟩ : ∃ m : Nat, i = m := ⟨i.toNat, by omega⟩
      have hmi : m < l.length := by omega
      have hT := Tr.of_check h0
      have h40 := hT.len
      obtain ⟨i0, hi0, hz0, hz1, hz2⟩ := info_parts int_info
      have HKD := Lib.hid (fun (w' : World) (hb : Below w.heap.size w w') => tkids_any l hT A c m w' (hl.past hb) hsh (hm.past hb) hmi)
      have hroom := hT.room m hmi
      have hklen := hT.kids_len hmi
      have hh0 : headN l ((posAt l (m + 1)).drop 0) = m + 1 := by rw [List.drop_zero]; exact headN_of (by omega)
      obtain ⟨b, off, op, t, n, rfl, hb, hd, hts, d1, d2, d3⟩ := hl.node (Below.refl _ _) hmi
      have hone : treeOne op t n = 0 := by have h := hT.one _ (List.getElem_mem hmi); rw [hd] at h; exact h
      have hbd := manyF_bd hone
      have hma := manyL_at hmi hd
      have hm6 : (manyL l).getD m 0 ≤ 6 := by omega
      have hmany : ((manyL l).getD m 0 : Int) = manyF op n := by omega
      have hga : ∀ d ∈ l, treeOne d.op d.text d.n = 0 := hT.one
      have HKR := Lib.hid (kidsR_any op n t)
      rw [← hmany] at HKR
      have HKV := Lib.hid (kI_V l m)
      have hkI := kI_len l m
      have HEN := Lib.hid (fun (a : Nat) (w' : World) (hw : Nds w' w'.heap.size (some ⟨b, off, none⟩) l) (ha : a < l.length) => endT_any l (some ⟨b, off, none⟩) c hga (l.length - a) a w' hw (by omega) (by omega))
      have HTE := Lib.hid (fun (a : Nat) (ha : a < l.length) => hT.endOf ha)
      have HKA : Hid (kidsAt l m = (posAt l (m + 1)).take ((manyL l).getD m 0)) := Lib.hid rfl
      have hki2 := kI_len l m
      have HIN := Lib.hid (fun (A1 A2 : Option Addr) (c1 c2 : Nat) (w' : World) h1 h2 => ints_any (kI l m) (kI l m) _ _ (hkI.trans hklen) (hkI.trans hklen) A1 A2 c1 c2 w' h1 h2)
      rw [decide_eq_true rfl] at HIN
      generalize hq : (manyL l).getD m 0 = q at *
      have HN := Lib.hid hl; have H0 := Lib.hid hh0; have HQ := Lib.hid hq; have HKL := Lib.hid hklen; have HKI := Lib.hid (hkI.trans hklen)
      clear hl hT hd hmany hh0 hq hsh hm hklen hkI hki2 hma hbd hone h0 hga hi
      have h1 : decide ((m : Int) < 0) = false := decide_eq_false (by omega)
      have h2 : decide ((l.length : Int) ≤ (m : Int)) = false := decide_eq_false (by omega)
      have h2' : decide (l.length ≤ m) = false := decide_eq_false (by omega)
      have hb0 := hb
      go_enter Tryd.func9, Tryd.ntmps9
      go_wp2_with (first
        | (go_at_call 33; refine (HTF.out _ HB.out).mono ?_; rintro e w1 ⟨rfl, hB1⟩; have HB := Lib.hid (HB.out.trans (hB1.mono HB.out.size)); clear hB1)
        | (go_at_call 34; refine (HCK.out _ HB.out).mono ?_; rintro e w2 ⟨rfl, hB1⟩; have HB := Lib.hid (HB.out.trans (hB1.mono HB.out.size)); clear hB1)
        | (go_at_call 13; (fail_if_success have z := KD); refine (error_eq 0 _ (HT.out _ HB.out).1 (HT.out _ HB.out).2).mono ?_; rintro e w3 ⟨rfl, hB1⟩; have HB := Lib.hid (HB.out.trans (hB1.mono HB.out.size)); clear hB1)
        | (go_at_call 13; have z := AL; clear z; refine (error_eq pe _ (HT.out _ HB.out).1 (HT.out _ HB.out).2).mono ?_; rintro e w3 ⟨rfl, hB1⟩; have HB := Lib.hid (HB.out.trans (hB1.mono HB.out.size)); clear hB1))
      have HBz := Lib.hid HB.out
      go_loopw [9, 10, 11] (fun out at' j wr => ∃ (k : Nat) (v : Value), k ≤ q ∧ j = .int .i64 k ∧ out = v ∧ at' = .int .i64 (headN l ((posAt l (m + 1)).drop k) : Nat) ∧ wr.ownsRow w.heap.size 3 1 v k (natV ((posAt l (m + 1)).take k)) ∧ Below w.heap.size w wr) (fun _ _ j _ => q - (intOf j).toNat)
      case atStart => exact ⟨0, _, by omega, rfl, rfl, by rw [H0.out]; go_num, World.ownsRow_nil _ _ _ _, HBz.out⟩
      case round =>
        obtain ⟨k, v, hk, rfl, rfl, rfl, hown, hB⟩ := hrel
        have HO := Lib.hid hown; clear hown
        have e1 := (hB.cell (p := ⟨b, off + m * 3, none⟩) hb).trans d1
        have e2 := (hB.cell (p := ⟨b, off + m * 3 + 1, none⟩) hb).trans d2
        have e3 := (hB.cell (p := ⟨b, off + m * 3 + 2, none⟩) hb).trans d3
        have hsz := hB.size
        by_cases hlt : k < q
        · have hkp : k < (posAt l (m + 1)).length := by omega
          obtain ⟨g1, g2, g3⟩ := kid_next hkp
          have htk : natV ((posAt l (m + 1)).take (k + 1)) = natV ((posAt l (m + 1)).take k) ++ [.int .i64 ((posAt l (m + 1))[k] : Nat)] := by rw [List.take_succ_eq_append_getElem hkp]; unfold natV; rw [List.map_append]; rfl
          rw [g1]
          generalize (posAt l (m + 1))[k] = a at *
          have HG := Lib.hid g3; have HTK := Lib.hid htk; clear g1 g3 htk
          have HEA := Lib.hid (HTE.out a g2)
          go_wp2_with (first
            | (go_at_call 35; refine (HKR.out _).mono ?_; rintro e w2 ⟨rfl, hB2⟩; have HBk := Lib.hid (hB.trans (hB2.mono hsz)); have HOk := Lib.hid (own_below HO.out hB2); have hsz2 := HBk.out.size)
            | (at_builtin; refine wpList_app _ rfl (.tmp 50) (.tmp 52) _ rfl w.heap.size 3 i0 (.int .i64 0) 1 8 Tryd.underlying38 hi0 hz0 hz1 hz2 rfl (by decide) _ k _ rfl (HOk.out.alloc _) _ _ 1 1 [.int .i64 (a : Nat)] rfl (Sl.lit (sz := 1) _ #[.int .i64 (a : Nat)] 3 1 rfl) (by simp [Value.oneCell']) (by simp only [maxLen]; omega) (by omega) (by simp; omega) ?_; intro v3 w3 hown3 hgr3 _; have hB3 : Below w.heap.size w w3 := below_app (HBk.out.alloc hsz2 _) (HOk.out.alloc _) hgr3 (by simp; omega) (Nat.le_refl _); have HO3 := Lib.hid hown3; clear hown3 hgr3)
            | (go_at_call 36; refine (HEN.out a _ (HN.out.past hB3) g2).mono ?_; rw [HEA.out]; rintro e w4 ⟨rfl, hB4⟩))
          go_roundw
          case measure => simp [intOf]; omega
          case rel => exact ⟨k + 1, v3, by omega, by go_num, rfl, by rw [HG.out], by rw [HTK.out]; exact own_below HO3.out hB4, hB3.trans (hB4.mono hB3.size)⟩
        · obtain rfl : k = q := by omega
          obtain ⟨A3, c3, rfl⟩ := own_slice HO.out
          have hwn : Nums wr wr.heap.size A3 (kI l m) := by
            have h := HO.out
            rw [← HKA.out, HKV.out] at h
            exact Nums.own h HKI.out.symm (by rw [HKI.out]; simp only [maxLen]; omega)
          have HW := Lib.hid hwn; clear hwn
          have HB := Lib.hid hB; clear hB
          go_wp2_with (first
            | (go_at_call 35; refine (HKR.out _).mono ?_; rintro e w2 ⟨rfl, hB1⟩; have HW := Lib.hid (HW.out.past hB1); have HB := Lib.hid (HB.out.trans (hB1.mono HB.out.size)); clear hB1)
            | (go_at_call 37; refine (HKD.out _ HB.out).mono ?_; rintro e w5 ⟨A4, c4, rfl, hx, hB1⟩; rw [HKL.out]; have HW := Lib.hid (HW.out.past hB1); have HX := Lib.hid (Nums.own (l := kI l m) (by rw [HKV.out, HKL.out] at hx; exact hx) HKI.out.symm (by rw [HKI.out]; simp only [maxLen]; omega)); have HB := Lib.hid (HB.out.trans (hB1.mono HB.out.size)); have KD := Lib.hid True.intro; clear hB1 hx)
            | (go_at_call 13; have z := KD; clear z; (fail_if_success have z := AL); refine (error_nil _ (HT.out _ HB.out).1 (HT.out _ HB.out).2).mono ?_; rintro e w6 ⟨rfl, hB1⟩; have HX := Lib.hid (HX.out.past hB1); have HW := Lib.hid (HW.out.past hB1); have HB := Lib.hid (HB.out.trans (hB1.mono HB.out.size)); clear hB1)
            | (go_at_call 20; refine (HIN.out _ _ _ _ _ HX.out HW.out).mono ?_; rintro e w7 ⟨rfl, hB1⟩; have HB := Lib.hid (HB.out.trans (hB1.mono HB.out.size)); clear hB1)
            | (go_at_call 13; (fail_if_success have z := KD); refine (error_eq 0 _ (HT.out _ HB.out).1 (HT.out _ HB.out).2).mono ?_; rintro e w3 ⟨rfl, hB1⟩; have HB := Lib.hid (HB.out.trans (hB1.mono HB.out.size)); clear hB1)
            | (go_at_call 13; have z := AL; clear z; refine (error_eq pe _ (HT.out _ HB.out).1 (HT.out _ HB.out).2).mono ?_; rintro e w3 ⟨rfl, hB1⟩; have HB := Lib.hid (HB.out.trans (hB1.mono HB.out.size)); clear hB1)
            | (go_at_call 38; refine (HPR.out _ HB.out).mono ?_; rintro e w7 ⟨rfl, hB1⟩; have HB := Lib.hid (HB.out.trans (hB1.mono HB.out.size)); clear hB1)
            | (go_at_call 39; refine (HAL.out _ HB.out).mono ?_; rintro e w8 ⟨rfl, hB1⟩; have HB := Lib.hid (HB.out.trans (hB1.mono HB.out.size)); have AL := Lib.hid True.intro; clear hB1))
          go_ret
          exact ⟨rfl, HB.out⟩
  · have HKD := Lib.hid (fun (w' : World) (hb : Below w.heap.size w w') => tkids_bad l A c i w' (hl.past hb) hsh (hm.past hb) h0)
    clear hl hsh hm
    generalize treeF l = q at *
    have hq0 : (q == 0) = false := by simpa using h0
    have HQ0 := Lib.hid h0; clear h0
    go_enter Tryd.func9, Tryd.ntmps9
    go_wp2_with (first
      | (go_at_call 33; refine (HTF.out _ HB.out).mono ?_; rintro e w1 ⟨rfl, hB1⟩; have HB := Lib.hid (HB.out.trans (hB1.mono HB.out.size)); clear hB1)
      | (go_at_call 34; refine (HCK.out _ HB.out).mono ?_; rintro e w2 ⟨rfl, hB1⟩; have HB := Lib.hid (HB.out.trans (hB1.mono HB.out.size)); clear hB1)
      | (go_at_call 13; (fail_if_success have z := KD); refine (error_eq q _ (HT.out _ HB.out).1 (HT.out _ HB.out).2).mono ?_; rintro e w3 ⟨rfl, hB1⟩; have HB := Lib.hid (HB.out.trans (hB1.mono HB.out.size)); clear hB1)
      | (go_at_call 13; have z := AL; clear z; refine (error_eq pe _ (HT.out _ HB.out).1 (HT.out _ HB.out).2).mono ?_; rintro e w3 ⟨rfl, hB1⟩; have HB := Lib.hid (HB.out.trans (hB1.mono HB.out.size)); clear hB1)
      | (go_at_call 13; have z := KD; clear z; refine (error_same q HQ0.out _ (HT.out _ HB.out).1 (HT.out _ HB.out).2).mono ?_; rintro e w4 ⟨rfl, hB1⟩; have HB := Lib.hid (HB.out.trans (hB1.mono HB.out.size)); clear hB1)
      | (go_at_call 37; refine (HKD.out _ HB.out).mono ?_; rintro e w5 ⟨rfl, hB1⟩; have HB := Lib.hid (HB.out.trans (hB1.mono HB.out.size)); have KD := Lib.hid True.intro; clear hB1)
      | (go_at_call 20; refine (HI0.out _).mono ?_; rintro e w6 ⟨rfl, hB1⟩; have HB := Lib.hid (HB.out.trans (hB1.mono HB.out.size)); clear hB1)
      | (go_at_call 38; refine (HPR.out _ HB.out).mono ?_; rintro e w7 ⟨rfl, hB1⟩; have HB := Lib.hid (HB.out.trans (hB1.mono HB.out.size)); clear hB1)
      | (go_at_call 39; refine (HAL.out _ HB.out).mono ?_; rintro e w8 ⟨rfl, hB1⟩; have HB := Lib.hid (HB.out.trans (hB1.mono HB.out.size)); have AL := Lib.hid True.intro; clear hB1))
    go_ret
    exact ⟨rfl, HB.out⟩
end Go.Proofs.YtddfdmopaeghnabDoor
