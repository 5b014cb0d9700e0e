/- Walks: tree.Check, End, Kids; pargetrysame.Ints. Conditions: a slice of nodes lies below the call's own blocks; its texts are shorter than 4294967281 bytes; internal/bytealg.MaxLen holds some number. -/
import Derived.Test.YtddfdmopaeghnabDoorTreeV
import Derived.Laws.ResultCell
namespace Go.Proofs.YtddfdmopaeghnabDoor
open Go.RowKit

/-- Texts that the library may look into. -/
def Short (l : List Nd) : Prop := ∀ d ∈ l, d.text.size < 4294967281

theorem tone_ok (op n : Int) (t : ByteArray) (w : World) (hs : t.size < 4294967281) (hm : MaxL w) (h : treeOne op t n = 0) :
    Calls Tryd.prog 67 #[.agg #[.int .i64 op, .string t, .int .i64 n]] w (Ret w .nilIface) := by rw [errV_zero h]; exact tone_any op n t w hs hm
theorem tone_bad (op n : Int) (t : ByteArray) (w : World) (hs : t.size < 4294967281) (hm : MaxL w) (h : treeOne op t n ≠ 0) :
    Calls Tryd.prog 67 #[.agg #[.int .i64 op, .string t, .int .i64 n]] w (Ret w (.iface 24 (.int .i64 (treeOne op t n)))) := by rw [errV_pos h]; exact tone_any op n t w hs hm

theorem MaxL.below {w wr : World} (h : MaxL w) (hb : Below w.heap.size w wr) (o : Obj) : MaxL (wr.alloc o) := h.past (hb.alloc hb.size o)

set_option maxHeartbeats 4000000 in
theorem tcheck_any (l : List Nd) (A : Option Addr) (c : Nat) (w : World) (hl : Nds w w.heap.size A l) (hsh : Short l) (hm : MaxL w) :
    Calls Tryd.prog 34 #[.slice A l.length c] w (Ret w (errV (treeF l))) := by
  have hml := hl.2.1
  unfold maxLen at hml
  by_cases h40 : 40 < l.length
  · have hF : treeF l = 3 := by rw [treeF, if_pos h40]
    rw [hF]
    go_enter Tryd.func34, Tryd.ntmps34
    go_wp2
    go_ret
    exact ⟨rfl, Below.refl _ _⟩
  · have hF : treeF l = tchk (l.drop 0) (decide (0 = 0)) 1 true := by rw [treeF, if_neg h40]; rfl
    have HF := Lib.hid hF; clear hF
    have HN := Lib.hid hl; clear hl
    have HS := Lib.hid hsh; clear hsh
    have HM := Lib.hid hm; clear hm
    go_enter Tryd.func34, Tryd.ntmps34
    go_wp2
    go_loopw [3, 4, 5, 6, 7, 14] (fun need whole _ _ _ i wr => ∃ (k : Nat) (nd : Int) (wh : Bool), k ≤ l.length ∧ i = .int .i64 k ∧ need = .int .i64 nd ∧ whole = .bool wh ∧ -(k : Int) ≤ nd - 1 ∧ nd - 1 ≤ 6 * k ∧ treeF l = tchk (l.drop k) (decide (k = 0)) nd wh ∧ Below w.heap.size w wr) (fun _ _ _ _ _ i _ => l.length - (intOf i).toNat)
    case atStart => exact ⟨0, 1, true, by omega, rfl, rfl, rfl, by omega, by omega, HF.out, Below.refl _ _⟩
    case round =>
      obtain ⟨k, nd, wh, hk, rfl, rfl, rfl, hb1, hb2, hc, hB⟩ := hrel
      have HC := Lib.hid hc; clear hc
      by_cases hlt : k < l.length
      · obtain ⟨b, off, op, t, n, rfl, hb, hd, hts, d1, d2, d3⟩ := HN.out.node hB hlt
        have hsz := hB.size
        have htz : t.size < 4294967281 := by have := HS.out _ (List.getElem_mem hlt); rw [hd] at this; exact this
        have HT := Lib.hid (tchk_step (nd := nd) (wh := wh) hlt hd)
        clear hd
        by_cases he : treeOne op t n = 0
        · have hmb := manyF_bd he
          have HE := Lib.hid he; clear he
          have key : ∀ wh', (wh && decide (0 < nd) && (decide (7 ≤ op) == decide (k = 0))) = wh' → treeF l = tchk (l.drop (k + 1)) (decide (k + 1 = 0)) (nd + manyF op n - 1) wh' := by
            rintro _ rfl
            rw [HC.out, HT.out, if_neg (by simp [HE.out])]
          have KEY := Lib.hid key; clear key
          have fin : ∀ wh' : Bool, (wh && decide (0 < nd) && (decide (7 ≤ op) == decide (k = 0))) = wh' → ∀ wr' : World, Below w.heap.size w wr' → ∀ wv : Value, wv = .bool wh' → ∃ (k' : Nat) (nd' : Int) (wh'' : Bool), k' ≤ l.length ∧ Value.int .i64 ((k : Int) + 1) = .int .i64 k' ∧ Value.int .i64 (nd + (manyF op n - 1)) = .int .i64 nd' ∧ wv = .bool wh'' ∧ -(k' : Int) ≤ nd' - 1 ∧ nd' - 1 ≤ 6 * k' ∧ treeF l = tchk (l.drop k') (decide (k' = 0)) nd' wh'' ∧ Below w.heap.size w wr' := by
            intro wh' h wr' hB' wv hwv
            exact ⟨k + 1, nd + manyF op n - 1, wh', by omega, by go_num, by rw [show nd + (manyF op n - 1) = nd + manyF op n - 1 by omega], hwv, by omega, by omega, KEY.out _ h, hB'⟩
          have FIN := Lib.hid fin; clear fin
          have hpar : (wh = false) ∨ (wh = true ∧ nd ≤ 0) ∨ (wh = true ∧ 0 < nd) := by cases wh <;> simp; omega
          rcases hpar with rfl | ⟨rfl, hnd⟩ | ⟨rfl, hnd⟩
          · go_wp2_with (first
              | (go_at_call 67; refine (tone_ok op n t _ htz (HM.out.below hB _) HE.out).mono ?_; rintro e w1 ⟨rfl, hB1⟩; have hc0 := hB1.cell (p := ⟨wr.heap.size, 0, none⟩) (by simp); have hc1 := hB1.cell (p := ⟨wr.heap.size, 1, none⟩) (by simp); have hc2 := hB1.cell (p := ⟨wr.heap.size, 2, none⟩) (by simp); have hsz1 := hB1.size)
              | (go_at_call 68; refine (many_any _ _ _ _).mono ?_; rintro e w2 ⟨rfl, hB2⟩))
            go_roundw
            case measure => simp [intOf]; omega
            case rel => exact FIN.out false (by simp) _ (((hB.alloc hsz _).trans (hB1.mono (by simp; omega))).trans (hB2.mono (by simp at hsz1; omega))) _ rfl
          · have hz : decide (0 < nd) = false := by simp; omega
            go_wp2_with (first
              | (go_at_call 67; refine (tone_ok op n t _ htz (HM.out.below hB _) HE.out).mono ?_; rintro e w1 ⟨rfl, hB1⟩; have hc0 := hB1.cell (p := ⟨wr.heap.size, 0, none⟩) (by simp); have hc1 := hB1.cell (p := ⟨wr.heap.size, 1, none⟩) (by simp); have hc2 := hB1.cell (p := ⟨wr.heap.size, 2, none⟩) (by simp); have hsz1 := hB1.size)
              | (go_at_call 68; refine (many_any _ _ _ _).mono ?_; rintro e w2 ⟨rfl, hB2⟩))
            go_roundw
            case measure => simp [intOf]; omega
            case rel => exact FIN.out false (by simp [hz]) _ (((hB.alloc hsz _).trans (hB1.mono (by simp; omega))).trans (hB2.mono (by simp at hsz1; omega))) _ rfl
          · have hz : decide (0 < nd) = true := by simp; omega
            have HZ := Lib.hid hz; clear hz
            by_cases h7 : 7 ≤ op
            · have h7b : decide (7 ≤ op) = true := by simpa using h7
              have H7 := Lib.hid h7b; clear h7b
              by_cases hk0 : k = 0
              · have hkb : ((k : Int) == 0) = true := by simp [hk0]
                have hkd : decide (k = 0) = true := by simpa using hk0
                have HKD := Lib.hid hkd; clear hkd hk0
                go_wp2_with (first
                  | (go_at_call 67; refine (tone_ok op n t _ htz (HM.out.below hB _) HE.out).mono ?_; rintro e w1 ⟨rfl, hB1⟩; have hc0 := hB1.cell (p := ⟨wr.heap.size, 0, none⟩) (by simp); have hc1 := hB1.cell (p := ⟨wr.heap.size, 1, none⟩) (by simp); have hc2 := hB1.cell (p := ⟨wr.heap.size, 2, none⟩) (by simp); have hsz1 := hB1.size)
                  | (go_at_call 68; refine (many_any _ _ _ _).mono ?_; rintro e w2 ⟨rfl, hB2⟩))
                go_roundw
                case measure => simp [intOf]; omega
                case rel => exact FIN.out true (by rw [HZ.out, H7.out, HKD.out]; rfl) _ (((hB.alloc hsz _).trans (hB1.mono (by simp; omega))).trans (hB2.mono (by simp at hsz1; omega))) _ rfl
              · have hkb : ((k : Int) == 0) = false := by simp; omega
                have hkd : decide (k = 0) = false := by simpa using hk0
                have HKD := Lib.hid hkd; clear hkd hk0
                go_wp2_with (first
                  | (go_at_call 67; refine (tone_ok op n t _ htz (HM.out.below hB _) HE.out).mono ?_; rintro e w1 ⟨rfl, hB1⟩; have hc0 := hB1.cell (p := ⟨wr.heap.size, 0, none⟩) (by simp); have hc1 := hB1.cell (p := ⟨wr.heap.size, 1, none⟩) (by simp); have hc2 := hB1.cell (p := ⟨wr.heap.size, 2, none⟩) (by simp); have hsz1 := hB1.size)
                  | (go_at_call 68; refine (many_any _ _ _ _).mono ?_; rintro e w2 ⟨rfl, hB2⟩))
                go_roundw
                case measure => simp [intOf]; omega
                case rel => exact FIN.out false (by rw [HZ.out, H7.out, HKD.out]; rfl) _ (((hB.alloc hsz _).trans (hB1.mono (by simp; omega))).trans (hB2.mono (by simp at hsz1; omega))) _ rfl
            · have h7b : decide (7 ≤ op) = false := by simpa using h7
              have H7 := Lib.hid h7b
              by_cases hk0 : k = 0
              · have hkb : ((k : Int) == 0) = true := by simp [hk0]
                have hkd : decide (k = 0) = true := by simpa using hk0
                have HKD := Lib.hid hkd; clear hkd hk0
                go_wp2_with (first
                  | (go_at_call 67; refine (tone_ok op n t _ htz (HM.out.below hB _) HE.out).mono ?_; rintro e w1 ⟨rfl, hB1⟩; have hc0 := hB1.cell (p := ⟨wr.heap.size, 0, none⟩) (by simp); have hc1 := hB1.cell (p := ⟨wr.heap.size, 1, none⟩) (by simp); have hc2 := hB1.cell (p := ⟨wr.heap.size, 2, none⟩) (by simp); have hsz1 := hB1.size)
                  | (go_at_call 68; refine (many_any _ _ _ _).mono ?_; rintro e w2 ⟨rfl, hB2⟩))
                go_roundw
                case measure => simp [intOf]; omega
                case rel => exact FIN.out false (by rw [HZ.out, H7.out, HKD.out]; rfl) _ (((hB.alloc hsz _).trans (hB1.mono (by simp; omega))).trans (hB2.mono (by simp at hsz1; omega))) _ rfl
              · have hkb : ((k : Int) == 0) = false := by simp; omega
                have hkd : decide (k = 0) = false := by simpa using hk0
                have HKD := Lib.hid hkd; clear hkd hk0
                go_wp2_with (first
                  | (go_at_call 67; refine (tone_ok op n t _ htz (HM.out.below hB _) HE.out).mono ?_; rintro e w1 ⟨rfl, hB1⟩; have hc0 := hB1.cell (p := ⟨wr.heap.size, 0, none⟩) (by simp); have hc1 := hB1.cell (p := ⟨wr.heap.size, 1, none⟩) (by simp); have hc2 := hB1.cell (p := ⟨wr.heap.size, 2, none⟩) (by simp); have hsz1 := hB1.size)
                  | (go_at_call 68; refine (many_any _ _ _ _).mono ?_; rintro e w2 ⟨rfl, hB2⟩))
                go_roundw
                case measure => simp [intOf]; omega
                case rel => exact FIN.out true (by rw [HZ.out, H7.out, HKD.out]; rfl) _ (((hB.alloc hsz _).trans (hB1.mono (by simp; omega))).trans (hB2.mono (by simp at hsz1; omega))) _ rfl
        · have HE := Lib.hid he; clear he
          go_wp2_with (go_at_call 67; refine (tone_bad op n t _ htz (HM.out.below hB _) HE.out).mono ?_; rintro e w1 ⟨rfl, hB1⟩)
          go_ret
          refine ⟨?_, ((hB.alloc hsz _).trans (hB1.mono (by simp; omega)))⟩
          rw [HC.out, HT.out, if_pos HE.out, ← errV_pos HE.out]; rfl
      · have HT := Lib.hid (tchk_end (nd := nd) (wh := wh) (l := l) (k := k) (b := decide (k = 0)) (by omega))
        cases wh with
        | false =>
          go_wp2
          go_ret
          refine ⟨?_, hB⟩
          rw [HC.out, HT.out]; simp [errV]
        | true =>
          by_cases h0 : nd = 0
          · subst h0
            go_wp2
            go_ret
            refine ⟨?_, hB⟩
            rw [HC.out, HT.out]; simp [errV]
          · have h0' : (nd != 0) = true := by simpa using h0
            have H0 := Lib.hid h0; clear h0
            go_wp2
            go_ret
            refine ⟨?_, hB⟩
            rw [HC.out, HT.out, if_neg (fun h => H0.out h.2)]; simp [errV]

set_option maxHeartbeats 2000000 in
theorem tend_any (l : List Nd) (hT : Tr l) (A : Option Addr) (c i : Nat) (w : World) (hl : Nds w w.heap.size A l) (hi : i < l.length) :
    Calls Tryd.prog 69 #[.slice A l.length c, .int .i64 i] w (Ret w (.int .i64 (tEnd l i : Nat))) := by
  have h40 := hT.len
  have HN := Lib.hid hl; clear hl
  have HT := Lib.hid hT; clear hT
  obtain ⟨r, hr⟩ : ∃ r, posAt l i = [i] ++ r := ⟨_, posAt_lt hi⟩
  have hE : tEnd l i = headN l r := by rw [tEnd, hr]; rfl
  have HE := Lib.hid hE; clear hE
  have HR := Lib.hid hr; clear hr
  rw [HE.out]
  go_enter Tryd.func69, Tryd.ntmps69
  go_wp2
  go_loopw [1, 5] (fun at' need wr => ∃ (k m : Nat) (a : List Nat), at' = .int .i64 k ∧ need = .int .i64 m ∧ posAt l k = a ++ r ∧ a.length = m ∧ k ≤ l.length ∧ m ≤ 6 * k + 1 ∧ Below w.heap.size w wr) (fun at' _ _ => l.length - (intOf at').toNat)
  case atStart => exact ⟨i, 1, [i], rfl, rfl, HR.out, rfl, by omega, by omega, Below.refl _ _⟩
  case round =>
    obtain ⟨k, m, a, rfl, rfl, hp, ha, hk, hmb, hB⟩ := hrel
    by_cases hm0 : 0 < m
    · obtain ⟨hkl, a', hp', ha'⟩ := HT.out.step hp ha hm0
      obtain ⟨b, off, op, t, n, rfl, hb, hd, hts, d1, d2, d3⟩ := HN.out.node hB hkl
      have hone := HT.out.one _ (List.getElem_mem hkl)
      rw [hd] at hone
      have hbd := manyF_bd hone
      rw [manyL_at hkl hd] at ha'
      have HP := Lib.hid hp'; have HA := Lib.hid ha'
      clear hp ha hp' ha' hd hone
      have hsz := hB.size
      go_wp2_with (go_at_call 68; refine (many_any _ _ _ _).mono ?_; rintro e w2 ⟨rfl, hB2⟩)
      go_roundw
      case measure => simp [intOf]; omega
      case rel => exact ⟨k + 1, a'.length, a', by go_num, by rw [show (m : Int) + (manyF op n - 1) = (a'.length : Nat) by have := HA.out; omega], HP.out, rfl, by omega, by have := HA.out; omega, hB.trans (hB2.mono hsz)⟩
    · obtain rfl : m = 0 := by omega
      obtain rfl : a = [] := List.eq_nil_of_length_eq_zero ha
      rw [List.nil_append] at hp
      have hq : headN l r = k := by rw [← hp]; exact headN_of hk
      have HQ := Lib.hid hq; clear hq hp ha
      go_wp2
      go_ret
      exact ⟨by rw [HQ.out]; rfl, hB⟩

theorem int_info : (Tryd.prog.info? 3).map (fun i => (i.zero, i.size, i.bytes)) = some (some (.int .i64 0), 1, 8) := by kernel_rfl

def natV (l : List Nat) : List Value := l.map fun j => .int .i64 (j : Nat)
/-- The kids of a node, in memory. -/
def KidsTo (l : List Nd) (i : Nat) (w : World) (e : Ending) (w' : World) : Prop :=
  ∃ A c, e = .returned (.tuple #[.slice A (kidsAt l i).length c, .nilIface]) ∧ w'.ownsRow w.heap.size 3 1 (.slice A (kidsAt l i).length c) (kidsAt l i).length (natV (kidsAt l i)) ∧ Below w.heap.size w w'

theorem own_slice {w : World} {base : Nat} {e : TypeId} {size n : Nat} {v : Value} {xs : List Value} (h : w.ownsRow base e size v n xs) : ∃ A c, v = .slice A n c := by
  rcases h.2 with ⟨rfl, rfl⟩ | ⟨g, cap, cur, rfl, _⟩
  · exact ⟨none, 0, rfl⟩
  · exact ⟨_, cap, rfl⟩

set_option maxHeartbeats 2000000 in
set_option maxRecDepth 100000 in
theorem tkids_any (l : List Nd) (hT : Tr l) (A : Option Addr) (c i : Nat) (w : World) (hl : Nds w w.heap.size A l) (hsh : Short l) (hm : MaxL w) (hi : i < l.length) :
    Calls Tryd.prog 37 #[.slice A l.length c, .int .i64 i] w (KidsTo l i w) := by
  have h40 := hT.len
  obtain ⟨i0, hi0, hz0, hz1, hz2⟩ := info_parts int_info
  have HK := Lib.hid (tcheck_any l A c w hl hsh hm)
  rw [hT.chk, ← errV_zero rfl] at HK
  have hroom := hT.room i hi
  have hklen := hT.kids_len hi
  have hh0 : headN l ((posAt l (i + 1)).drop 0) = i + 1 := by rw [List.drop_zero]; exact headN_of (by omega)
  obtain ⟨b, off, op, t, n, rfl, hb, hd, hts, d1, d2, d3⟩ := hl.node (Below.refl _ _) hi
  have hone : treeOne op t n = 0 := by have h := hT.one _ (List.getElem_mem hi); rw [hd] at h; exact h
  have hbd := manyF_bd hone
  have hma := manyL_at hi hd
  have hm6 : (manyL l).getD i 0 ≤ 6 := by omega
  have hmany : ((manyL l).getD i 0 : Int) = manyF op n := by omega
  clear hma hbd hone
  generalize hq : (manyL l).getD i 0 = q at *
  have HN := Lib.hid hl; have HT := Lib.hid hT; have HD := Lib.hid hd; have HM := Lib.hid hmany; have H0 := Lib.hid hh0; have HQ := Lib.hid hq; have HKL := Lib.hid hklen
  clear hl hT hd hmany hh0 hq hsh hm hklen
  go_enter Tryd.func37, Tryd.ntmps37
  go_wp2_with (first
    | (go_at_call 34; refine HK.out.mono ?_; rintro e w1 ⟨rfl, hB1⟩; have e1 := (hB1.cell (p := ⟨b, off + i * 3, none⟩) hb).trans d1; have e2 := (hB1.cell (p := ⟨b, off + i * 3 + 1, none⟩) hb).trans d2; have e3 := (hB1.cell (p := ⟨b, off + i * 3 + 2, none⟩) hb).trans d3)
    | (go_at_call 68; refine (many_any _ _ _ _).mono ?_; rintro e w2 ⟨rfl, hB2⟩; rw [← HM.out]))
  have hBz : Below w.heap.size w w2 := hB1.trans (hB2.mono hB1.size)
  clear d1 d2 d3 e1 e2 e3
  go_loopw [7, 8, 30] (fun out at' j wr => ∃ (k : Nat) (v : Value), k ≤ q ∧ j = .int .i64 k ∧ out = v ∧ at' = .int .i64 (headN l ((posAt l (i + 1)).drop k) : Nat) ∧ wr.ownsRow w.heap.size 3 1 v k (natV ((posAt l (i + 1)).take k)) ∧ Below w.heap.size w wr) (fun _ _ j _ => q - (intOf j).toNat)
  case atStart => exact ⟨0, _, by omega, rfl, rfl, by rw [H0.out]; go_num, World.ownsRow_nil _ _ _ _, hBz⟩
  case round =>
    obtain ⟨k, v, hk, rfl, rfl, rfl, hown, hB⟩ := hrel
    have HO := Lib.hid hown; clear hown
    by_cases hlt : k < q
    · have hkp : k < (posAt l (i + 1)).length := by omega
      obtain ⟨g1, g2, g3⟩ := kid_next hkp
      have htk : natV ((posAt l (i + 1)).take (k + 1)) = natV ((posAt l (i + 1)).take k) ++ [.int .i64 ((posAt l (i + 1))[k] : Nat)] := by rw [List.take_succ_eq_append_getElem hkp]; unfold natV; rw [List.map_append]; rfl
      rw [g1]
      generalize (posAt l (i + 1))[k] = a at *
      have HG := Lib.hid g3; have HTK := Lib.hid htk; clear g1 g3 htk
      have hsz := hB.size
      go_wp2_with (first
        | (at_builtin; refine wpList_app _ rfl (.tmp 32) (.tmp 34) _ rfl w.heap.size 3 i0 (.int .i64 0) 1 8 Tryd.underlying38 hi0 hz0 hz1 hz2 rfl (by decide) _ k _ rfl (HO.out.alloc _) _ _ 1 1 [.int .i64 (a : Nat)] rfl (Sl.lit (sz := 1) _ #[.int .i64 (a : Nat)] 3 1 rfl) (by simp [Value.oneCell']) (by simp only [maxLen]; omega) (by omega) (by simp; omega) ?_; intro v3 w3 hown3 hgr3 _; have hB3 : Below w.heap.size w w3 := below_app (hB.alloc hsz _) (HO.out.alloc _) hgr3 (by simp; omega) (Nat.le_refl _); have HO3 := Lib.hid hown3; clear hown3 hgr3)
        | (go_at_call 69; refine (tend_any l HT.out _ c a _ (HN.out.past hB3) g2).mono ?_; rintro e w4 ⟨rfl, hB4⟩))
      go_roundw
      case measure => simp [intOf]; omega
      case rel => exact ⟨k + 1, v3, by omega, by go_num, rfl, by rw [HG.out], by rw [HTK.out]; exact own_below HO3.out hB4, hB3.trans (hB4.mono hB3.size)⟩
    · obtain rfl : k = q := by omega
      go_wp2
      obtain ⟨A3, c3, rfl⟩ := own_slice HO.out
      go_ret2
      have hsl := HO.out
      refine ⟨A3, c3, by rw [HKL.out]; rfl, ?_, hB⟩
      rw [HKL.out]
      unfold kidsAt
      rw [HQ.out]
      exact hsl

/-- Two lists of numbers, each in memory. -/
def Nums (w : World) (B : Nat) (A : Option Addr) (l : List Int) : Prop := Sl w B 1 A l.length (l.map (.int .i64)) ∧ l.length ≤ maxLen
theorem Nums.one {w wr : World} {B : Nat} {A : Option Addr} {l : List Int} (h : Nums w B A l) (hB : Below B w wr) {k : Nat} (hk : k < l.length) :
    ∃ b off, A = some ⟨b, off, none⟩ ∧ b < B ∧ wr.cell? ⟨b, off + k, none⟩ = some (.int .i64 l[k]) := by
  obtain ⟨b, off, u, h1, h2, h3, h4⟩ := h.1.one hk
  refine ⟨b, off, h1, h2, ?_⟩
  rw [hB.cell (p := ⟨b, off + k, none⟩) h2, h4]
  simp [hk] at h3
  rw [h3]
theorem ints_no {a b : List Int} (h : a.length ≠ b.length) : decide (a = b) = false := by simp; intro e; exact h (by rw [e])
theorem ints_at {a b : List Int} {k : Nat} (ha : k < a.length) (hb : k < b.length) (h : a[k] ≠ b[k]) : decide (a = b) = false := by simp; intro e; exact h (by simp [e])
theorem ints_more {a b : List Int} {k : Nat} (ht : a.take k = b.take k) (ha : k < a.length) (hb : k < b.length) (h : a[k] = b[k]) : a.take (k + 1) = b.take (k + 1) := by
  rw [List.take_succ_eq_append_getElem ha, List.take_succ_eq_append_getElem hb, ht, h]
theorem ints_yes {a b : List Int} (h : a.length = b.length) (ht : a.take a.length = b.take a.length) : decide (a = b) = true := by
  rw [List.take_length, h, List.take_length] at ht
  simpa using ht

set_option maxHeartbeats 2000000 in
theorem ints_any (a b : List Int) (n1 n2 : Nat) (e1 : a.length = n1) (e2 : b.length = n2) (A B : Option Addr) (c d : Nat) (w : World) (ha : Nums w w.heap.size A a) (hb : Nums w w.heap.size B b) :
    Calls Tryd.prog 20 #[.slice A n1 c, .slice B n2 d] w (Ret w (.bool (decide (a = b)))) := by
  have hm := ha.2
  have hm2 := hb.2
  unfold maxLen at hm hm2
  have HA := Lib.hid ha; clear ha
  have HB := Lib.hid hb; clear hb
  by_cases hl : n1 = n2
  · subst hl
    have HL := Lib.hid (ints_yes (e1.trans e2.symm))
    go_enter Tryd.func20, Tryd.ntmps20
    go_wp2
    go_loopw [5] (fun i wr => ∃ k : Nat, k ≤ n1 ∧ i = .int .i64 k ∧ a.take k = b.take k ∧ Below w.heap.size w wr) (fun i _ => n1 - (intOf i).toNat)
    case atStart => exact ⟨0, by omega, rfl, rfl, Below.refl _ _⟩
    case round =>
      obtain ⟨k, hk, rfl, ht, hBw⟩ := hrel
      have HT := Lib.hid ht; clear ht
      by_cases hlt : k < n1
      · obtain ⟨b1, off, rfl, hb, d1⟩ := HA.out.one hBw (k := k) (by omega)
        obtain ⟨b2, off2, rfl, hb2, d4⟩ := HB.out.one hBw (k := k) (by omega)
        have HX := Lib.hid (ints_more HT.out (k := k) (by omega) (by omega))
        have HY := Lib.hid (ints_at (a := a) (b := b) (k := k) (by omega) (by omega))
        generalize a[k]'(by omega) = x at *
        generalize b[k]'(by omega) = y at *
        by_cases hop : x = y
        · subst hop
          have hxx : (x != x) = false := by simp
          go_wp2
          go_quiet (fail)
          go_wp2
          go_roundw
          case rel => exact ⟨k + 1, by omega, by go_num, HX.out (by trivial), below_drewN hBw _⟩
          case measure => simp [intOf]; omega
        · have HZ := Lib.hid (HY.out hop)
          have hne : (x != y) = true := by simpa using hop
          go_wp2
          go_quiet (fail)
          go_wp2
          go_ret
          exact ⟨by rw [HZ.out]; rfl, below_drewN hBw _⟩
      · have hz : a.take a.length = b.take a.length := by have := HT.out; rwa [show k = a.length by omega] at this
        have HZ := Lib.hid (HL.out hz); clear hz
        go_wp2
        go_ret
        exact ⟨by rw [HZ.out]; rfl, (by repeat (first | exact Below.refl _ _ | assumption | apply Below.drew | refine below_drewN ?_ _ | apply Below.setCell _ (by first | omega | (simp; done) | (simp; omega)) | apply Below.alloc _ (by first | omega | (simp; done) | (simp; omega))))⟩
  · have HL := Lib.hid (ints_no (a := a) (b := b) (by omega))
    have hne : ((n1 : Int) != (n2 : Int)) = true := by simp; omega
    go_enter Tryd.func20, Tryd.ntmps20
    go_wp2
    go_ret
    exact ⟨by rw [HL.out]; rfl, (by repeat (first | exact Below.refl _ _ | assumption | apply Below.drew | refine below_drewN ?_ _ | apply Below.setCell _ (by first | omega | (simp; done) | (simp; omega)) | apply Below.alloc _ (by first | omega | (simp; done) | (simp; omega))))⟩
end Go.Proofs.YtddfdmopaeghnabDoor
