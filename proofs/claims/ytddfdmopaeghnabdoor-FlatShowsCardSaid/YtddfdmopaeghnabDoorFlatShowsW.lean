/- Walk of the law FlatShows: it returns true (over way.Of's contract). Conditions: the slice lies below the call's own blocks; errors.errorType reads as the program's text lays it. -/
import Derived.Test.YtddfdmopaeghnabDoorShowQ
import Derived.Test.YtddfdmopaeghnabDoorFlatC
import Derived.Test.YtddfdmopaeghnabDoorFlatShP
import Derived.Test.YtddfdmopaeghnabDoorErrW
namespace Go.Proofs.YtddfdmopaeghnabDoor
open Go.RowKit

theorem Doc.line_max {l : List Nd} {x : D} (h : Doc l x) {s : ByteArray} {b : Bool} (hs : lineOf x.flat = (s, b)) : s.size ≤ 8000 := by
  have h1 := h.flat_len h.pos
  rw [lineAt, h.root, hs] at h1
  have h2 := h.len
  have h3 := D.len_enc x
  rw [← h.enc] at h3
  simp only at h1
  omega

theorem Nds.lit3 (w : World) (d d' d2 : Nd) (g : Nat) (hg : w.heap.size = g) (hd : d.text.size ≤ maxLen) (hd' : d'.text.size ≤ maxLen) (hd2 : d2.text.size ≤ maxLen) :
    Nds (w.alloc (.cells #[.int .i64 d.op, .string d.text, .int .i64 d.n, .int .i64 d'.op, .string d'.text, .int .i64 d'.n, .int .i64 d2.op, .string d2.text, .int .i64 d2.n] 51)) (w.alloc (.cells #[.int .i64 d.op, .string d.text, .int .i64 d.n, .int .i64 d'.op, .string d'.text, .int .i64 d'.n, .int .i64 d2.op, .string d2.text, .int .i64 d2.n] 51)).heap.size (some ⟨g, 0, none⟩) [d, d', d2] := by
  subst hg
  exact ⟨.lit w _ _ 3 rfl, by simp [maxLen], by simpa using ⟨hd, hd', hd2⟩⟩

set_option maxRecDepth 100000 in
set_option maxHeartbeats 8000000 in
theorem flatShows_any (hof : OfSaid) (a : List Nd) (A : Option Addr) (c : Nat) (w : World) (ha : Nds w w.heap.size A a) (ht : ErrT w) (hs : 0 + 1 ≤ w.heap.size) :
    Calls Tryd.prog 6 #[.slice A a.length c] w (Ret w (.bool true)) := by
  have h1 : ndBo.text.size ≤ maxLen := by decide +kernel
  have h2 : ndWa.text.size ≤ maxLen := by decide +kernel
  have h3 : ndBl.text.size ≤ maxLen := by decide +kernel
  have L1 := Lib.hid (Nds.lit3 w ndBo ndWa ndBl w.heap.size rfl h1 h2 h3)
  clear h1 h2 h3
  have HOF := Lib.hid hof
  have HA := Lib.hid ha
  have HT := Lib.hid ht
  have hla := HA.out.2.1
  unfold maxLen at hla
  clear ha hof ht
  obtain ⟨i0, hi0, hz0, hz1, hz2⟩ := info_parts node_info
  go_enter Tryd.func6, Tryd.ntmps6
  go_wp2_with fail
  refine (flat_ok Doc.factF lineOf_factF 3 rfl _ _ _ L1.out).mono ?_
  rintro e w1 ⟨rfl, hB1⟩
  have hB1' : Below w.heap.size w w1 := ((Below.refl _ _).alloc (Nat.le_refl _) _).trans (hB1.mono (by simp))
  clear hB1 L1
  by_cases ea : checkF a = 0
  · obtain ⟨x, da⟩ := Doc.of_check ea
    obtain ⟨s, p, hsp⟩ : ∃ s p, lineOf x.flat = (s, p) := ⟨_, _, rfl⟩
    have DA := Lib.hid da
    have HSP := Lib.hid hsp
    have h4a := da.len
    have hsl := da.line_max hsp
    clear ea da hsp
    go_wp2_with fail
    refine (flat_ok DA.out HSP.out _ rfl _ _ _ (HA.out.past hB1')).mono ?_
    rintro e w2 ⟨rfl, hB2⟩
    have hB2' := hB1'.trans (hB2.mono hB1'.size)
    clear hB1' hB2
    by_cases hlen : 400 ≤ a.length
    · go_wp2_with fail
      go_ret
      exact ⟨rfl, hB2'⟩
    · have H0 := Lib.hid (World.ownsRow_lit (base := w2.heap.size) (e := 51) (size := 3) w2 #[.int .i64 8, .string .empty, .int .i64 0] 1 (Nat.le_refl _) (by simp [maxLen]) (by simp))
      have HA2 := Lib.hid ((HA.out.past hB2').1.alloc (.cells #[.int .i64 8, .string .empty, .int .i64 0] 51))
      go_upto_region 9 with (at_builtin; refine wpList_app _ rfl (.tmp 47) (.tmp 48) _ rfl w2.heap.size 51 i0 _ 3 32 Tryd.underlying47 hi0 hz0 hz1 hz2 rfl (by omega) _ 1 _ rfl H0.out _ A a.length c _ rfl HA2.out (nd_one a) (by simp only [maxLen]; omega) (by omega) (by simp) ?_; intro v7 w7 hown7 hg7 hat7; clear hat7; obtain ⟨A7, c7, hv7⟩ := own_slice hown7; subst hv7; have H7 := Lib.hid hown7; have HG7 := Lib.hid hg7; clear hown7 hg7)
      have hB7 : Below w.heap.size w w7 := hB2'.trans ((below_app ((Below.refl _ _).alloc (Nat.le_refl _) _) H0.out HG7.out (by simp) (Nat.le_refl _)).mono hB2'.size)
      have N7 := Lib.hid (Nds.own (l := ndGr :: a) (by simpa [ndCells, ndGr] using H7.out) (by simp; omega) (by simp [maxLen]; omega) (by
        intro z hz
        rcases List.mem_cons.1 hz with rfl | hz
        · simp [ndGr, maxLen]
        · exact HA.out.2.2 _ hz))
      clear H0 HA2 H7 HG7 hB2'
      go_wp2_with fail
      have LM := Lib.hid (show NumsI (w7.alloc (.cells #[.int .i64 0] 3)) (w7.alloc (.cells #[.int .i64 0] 3)).heap.size (some ⟨w7.heap.size, 0, none⟩) [0] from ⟨Sl.lit (sz := 1) w7 #[.int .i64 0] 3 1 rfl, by simp [maxLen]⟩)
      have hB8 : Below w.heap.size w (w7.alloc (.cells #[.int .i64 0] 3)) := hB7.alloc hB7.size _
      have N8 := Lib.hid (N7.out.alloc (.cells #[.int .i64 0] 3))
      cases hfl : x.flat with
      | none =>
        have h := HSP.out
        rw [hfl] at h
        simp only [lineOf, Prod.mk.injEq] at h
        obtain ⟨h1, h2⟩ := h
        subst h1 h2
        have HNO := Lib.hid (showF_gr DA.out (by omega) hfl)
        clear hfl HSP
        refine (show_no HOF.out HNO.out _ (1 + a.length) _ (by simp; omega) _ 1 _ rfl (Nat.le_refl _) _ N8.out LM.out).mono ?_
        rintro e w9 ⟨rfl, hB9⟩
        have hB9' := hB8.trans (hB9.mono hB8.size)
        go_wp2_with (go_at_call 13; refine (error_same 4 (by decide) _ (HT.out.past hs hB9') (Nat.le_trans hs hB9'.size)).mono ?_; rintro e w10 ⟨rfl, hB10⟩)
        go_ret
        exact ⟨rfl, hB9'.trans (hB10.mono hB9'.size)⟩
      | some t =>
        have h := HSP.out
        rw [hfl] at h
        simp only [lineOf, Prod.mk.injEq] at h
        obtain ⟨h1, h2⟩ := h
        subst h1 h2
        have HOK := Lib.hid (Shown.gr DA.out (by omega) hfl)
        have HNL := Lib.hid (flat_line DA.out.goodx t hfl)
        clear hfl HSP
        refine (show_ok HOF.out HOK.out _ (1 + a.length) _ (by simp; omega) _ 1 _ rfl (Nat.le_refl _) _ N8.out LM.out).mono ?_
        rintro e w9 ⟨rfl, hB9⟩
        have hB9' := hB8.trans (hB9.mono hB8.size)
        go_wp2_with fail
        go_loop [12] (fun i => ∃ k : Nat, k ≤ t.size ∧ i = .int .i64 k) (fun i => t.size - (intOf i).toNat)
        case atStart => exact ⟨0, Nat.zero_le _, rfl⟩
        case round =>
          obtain ⟨k, hk, rfl⟩ := hrel
          by_cases hlt : k < t.size
          · have q0 : t[k] ≠ 10 := HNL.out _ (Array.getElem_mem_toList hlt)
            have q5 : t[k].toNat ≠ 10 := fun h => q0 (UInt8.toNat_inj.1 h)
            have q6 : decide (t[k].toNat = 10) = false := decide_eq_false q5
            have q7 : decide ((t[k].toNat : Int) = 10) = false := decide_eq_false (by omega)
            clear q0
            go_wp2_with fail
            go_round
            case rel => exact ⟨k + 1, by omega, by go_num⟩
            case measure => simp [intOf]; omega
          · go_wp2_with fail
            go_ret
            exact ⟨rfl, hB9'⟩
  · have EA := Lib.hid ea; clear ea
    go_wp2_with fail
    refine (flat_bad EA.out _ rfl _ _ _ (HA.out.past hB1')).mono ?_
    rintro e w2 ⟨rfl, hB2⟩
    have hB2' := hB1'.trans (hB2.mono hB1'.size)
    go_wp2_with fail
    go_ret
    exact ⟨rfl, hB2'⟩
end Go.Proofs.YtddfdmopaeghnabDoor
