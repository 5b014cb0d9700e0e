/- Walks of the reference's word, two, under, Bound, Dec. Conditions: the slices lie below the call's own blocks; not more than 10000 nodes; the number has at most six digits. Walks of the reference's kidDoc, kidsDoc (printed by wip/genrm.py). Conditions: the slice of nodes lies below the call's own blocks and is a statement that may be. Walks of the reference's kidText, TextOf. Conditions: the slice of nodes lies below the call's own blocks and is a statement that may be. Walks of the reference's TextOf. Conditions: the slice of nodes lies below the call's own blocks and is a statement that may be. Walks of the reference's TextOf at a whole statement, PrintOf. Conditions: the program lies below the call's own blocks, its statements may be. -/
import Derived.Test.YtddfdmopaeghnacGreatDoorSiCa
import Derived.Test.YtddfdmopaeghnacGreatDoorSiMk
import Derived.Deep.Cut
import Derived.Test.YtddfdmopaeghnacGreatDoorSiLo
import Derived.Deep.RegionHeld3
import Derived.Deep.RegionWith
import Derived.Test.YtddfdmopaeghnacGreatDoorSiSy
import Derived.IntWalk
import Derived.Test.YtddfdmopaeghnacGreatDoorSiPs
namespace Go.Proofs.YtddfdmopaeghnacGreatDoor
open Go.RowKit

theorem run_slice_strM {P : Program} (w : World) (t : TypeId) (s : ByteArray) (ht : P.underlying t = some .string) (l h : Int) (h0 : 0 ≤ l) (h1 : l ≤ h) (h2 : h ≤ s.size) :
    (Instr.slice t (.string s) (some (.int .i64 l)) (some (.int .i64 h)) none).run P w = .ok (.string (s.extract l.toNat h.toNat)) w := by
  have eh : (h.toNat : Int) = h := Int.toNat_of_nonneg (by omega)
  simp [Instr.slice, run_underlying ht, Instr.sliceBounds, run_sliceBound, *, (by omega : 0 ≤ h)]

set_option maxHeartbeats 1000000 in
theorem rbound_any (po pn ko kn : Int) (pt kt : ByteArray) (sec : Bool) (w : World) :
    Calls Tryz.prog 155 #[.agg #[.int .i64 po, .string pt, .int .i64 pn], .agg #[.int .i64 ko, .string kt, .int .i64 kn], .bool sec] w (Ret w (.bool (boundF po ko sec))) := by
  by_cases h6 : po = 6
  · subst h6
    by_cases k5 : ko = 5
    · subst k5
      rw [show boundF 6 5 sec = true by cases sec <;> rfl]
      go_enter Tryz.func155, Tryz.ntmps155
      go_wp2
      go_ret
      exact ⟨rfl, (by repeat (first | exact Below.refl _ _ | assumption | apply Below.drew | refine below_drewN ?_ _ | apply Below.setCell _ (by first | omega | (simp; done) | (simp; omega)) | apply Below.alloc _ (by first | omega | (simp; done) | (simp; omega))))⟩
    · have k5b : (ko == 5) = false := by simpa using k5
      by_cases k6 : ko = 6
      · subst k6
        rw [show boundF 6 6 sec = sec by cases sec <;> rfl]
        cases sec
        · go_enter Tryz.func155, Tryz.ntmps155
          go_wp2
          go_ret
          exact ⟨rfl, (by repeat (first | exact Below.refl _ _ | assumption | apply Below.drew | refine below_drewN ?_ _ | apply Below.setCell _ (by first | omega | (simp; done) | (simp; omega)) | apply Below.alloc _ (by first | omega | (simp; done) | (simp; omega))))⟩
        · go_enter Tryz.func155, Tryz.ntmps155
          go_wp2
          go_ret
          exact ⟨rfl, (by repeat (first | exact Below.refl _ _ | assumption | apply Below.drew | refine below_drewN ?_ _ | apply Below.setCell _ (by first | omega | (simp; done) | (simp; omega)) | apply Below.alloc _ (by first | omega | (simp; done) | (simp; omega))))⟩
      · have k6b : (ko == 6) = false := by simpa using k6
        rw [show boundF 6 ko sec = false by simp [boundF, k5, k6]]
        clear k5 k6
        cases sec
        · go_enter Tryz.func155, Tryz.ntmps155
          go_wp2
          go_ret
          exact ⟨rfl, (by repeat (first | exact Below.refl _ _ | assumption | apply Below.drew | refine below_drewN ?_ _ | apply Below.setCell _ (by first | omega | (simp; done) | (simp; omega)) | apply Below.alloc _ (by first | omega | (simp; done) | (simp; omega))))⟩
        · go_enter Tryz.func155, Tryz.ntmps155
          go_wp2
          go_ret
          exact ⟨rfl, (by repeat (first | exact Below.refl _ _ | assumption | apply Below.drew | refine below_drewN ?_ _ | apply Below.setCell _ (by first | omega | (simp; done) | (simp; omega)) | apply Below.alloc _ (by first | omega | (simp; done) | (simp; omega))))⟩
  · by_cases h5 : po = 5
    · subst h5
      by_cases k5 : ko = 5
      · subst k5
        rw [show boundF 5 5 sec = sec by cases sec <;> rfl]
        cases sec
        · go_enter Tryz.func155, Tryz.ntmps155
          go_wp2
          go_ret
          exact ⟨rfl, (by repeat (first | exact Below.refl _ _ | assumption | apply Below.drew | refine below_drewN ?_ _ | apply Below.setCell _ (by first | omega | (simp; done) | (simp; omega)) | apply Below.alloc _ (by first | omega | (simp; done) | (simp; omega))))⟩
        · go_enter Tryz.func155, Tryz.ntmps155
          go_wp2
          go_ret
          exact ⟨rfl, (by repeat (first | exact Below.refl _ _ | assumption | apply Below.drew | refine below_drewN ?_ _ | apply Below.setCell _ (by first | omega | (simp; done) | (simp; omega)) | apply Below.alloc _ (by first | omega | (simp; done) | (simp; omega))))⟩
      · have k5b : (ko == 5) = false := by simpa using k5
        rw [show boundF 5 ko sec = false by simp [boundF, k5]]
        clear k5 h6
        cases sec
        · go_enter Tryz.func155, Tryz.ntmps155
          go_wp2
          go_ret
          exact ⟨rfl, (by repeat (first | exact Below.refl _ _ | assumption | apply Below.drew | refine below_drewN ?_ _ | apply Below.setCell _ (by first | omega | (simp; done) | (simp; omega)) | apply Below.alloc _ (by first | omega | (simp; done) | (simp; omega))))⟩
        · go_enter Tryz.func155, Tryz.ntmps155
          go_wp2
          go_ret
          exact ⟨rfl, (by repeat (first | exact Below.refl _ _ | assumption | apply Below.drew | refine below_drewN ?_ _ | apply Below.setCell _ (by first | omega | (simp; done) | (simp; omega)) | apply Below.alloc _ (by first | omega | (simp; done) | (simp; omega))))⟩
    · have h5b : (po == 5) = false := by simpa using h5
      have h6b : (po == 6) = false := by simpa using h6
      rw [show boundF po ko sec = false by simp [boundF, h5, h6]]
      clear h5 h6
      cases sec
      · go_enter Tryz.func155, Tryz.ntmps155
        go_wp2
        go_ret
        exact ⟨rfl, (by repeat (first | exact Below.refl _ _ | assumption | apply Below.drew | refine below_drewN ?_ _ | apply Below.setCell _ (by first | omega | (simp; done) | (simp; omega)) | apply Below.alloc _ (by first | omega | (simp; done) | (simp; omega))))⟩
      · go_enter Tryz.func155, Tryz.ntmps155
        go_wp2
        go_ret
        exact ⟨rfl, (by repeat (first | exact Below.refl _ _ | assumption | apply Below.drew | refine below_drewN ?_ _ | apply Below.setCell _ (by first | omega | (simp; done) | (simp; omega)) | apply Below.alloc _ (by first | omega | (simp; done) | (simp; omega))))⟩

theorem dec_step {q : Nat} (h : ¬ q < 10) (t : ByteArray) : (⟨(Lib.decDigits q).toArray⟩ : ByteArray) ++ t = ⟨(Lib.decDigits (q / 10)).toArray⟩ ++ (⟨#[UInt8.ofNat (48 + q % 10)]⟩ ++ t) := by
  apply ByteArray.ext
  apply Array.toList_inj.1
  rw [Lib.decDigits, dif_neg h]
  simp [ByteArray.data_append]
theorem dig_ext {d : Nat} (h : d < 10) : (⟨#[48, 49, 50, 51, 52, 53, 54, 55, 56, 57]⟩ : ByteArray).extract d (d + 1) = ⟨#[UInt8.ofNat (48 + d)]⟩ := by
  have : d = 0 ∨ d = 1 ∨ d = 2 ∨ d = 3 ∨ d = 4 ∨ d = 5 ∨ d = 6 ∨ d = 7 ∨ d = 8 ∨ d = 9 := by omega
  rcases this with rfl | rfl | rfl | rfl | rfl | rfl | rfl | rfl | rfl | rfl <;> decide +kernel
theorem dec_size {u q : Nat} (hu : u ≤ 999999) {t : ByteArray} (h : (⟨(Lib.decDigits u).toArray⟩ : ByteArray) = ⟨(Lib.decDigits q).toArray⟩ ++ t) : t.size ≤ 5 := by
  have h1 := congrArg ByteArray.size h
  have h2 := (itoa_len6 (n := (u : Int)) (by omega) (by omega)).2
  rw [Lib.itoa_nonneg] at h2
  have h3 := Lib.nDigits_pos q
  rw [← Lib.decDigits_length] at h3
  rw [ByteArray.size_append] at h1
  simp only [ByteArray.size, List.size_toArray] at h1 ⊢
  omega

set_option maxRecDepth 100000 in
set_option maxHeartbeats 1000000 in
theorem rdec_any (u : Nat) (hu : u ≤ 999999) (w : World) : Calls Tryz.prog 102 #[.int .i64 (u : Nat)] w fun e w' => e = .returned (.string ⟨(Lib.itoa (u : Nat)).toArray⟩) ∧ w = w' := by
  rw [Lib.itoa_nonneg]
  have HSZ := Lib.hid (fun (q : Nat) (t : ByteArray) h => dec_size (u := u) (q := q) (t := t) hu h)
  have H9 : Hid (∀ (d : Nat) (w' : World), d < 10 → (Instr.slice 9 (.string ⟨#[48, 49, 50, 51, 52, 53, 54, 55, 56, 57]⟩) (some (.int .i64 (d : Nat))) (some (.int .i64 ((d : Int) + 1))) none).run Tryz.prog w' = .ok (.string ⟨#[UInt8.ofNat (48 + d)]⟩) w') := Lib.hid (fun d w' hd => by
    have h := run_slice_strM (P := Tryz.prog) w' 9 ⟨#[48, 49, 50, 51, 52, 53, 54, 55, 56, 57]⟩ Tryz.underlying9 (d : Int) ((d : Int) + 1) (by omega) (by omega) (by show (d : Int) + 1 ≤ 10; omega)
    rw [h, show ((d : Int)).toNat = d by omega, show ((d : Int) + 1).toNat = d + 1 by omega, dig_ext hd])
  go_enter Tryz.func102, Tryz.ntmps102
  go_wp2
  go_loop [0, 3] (fun n s => ∃ (q : Nat) (t : ByteArray), n = .int .i64 q ∧ s = .string t ∧ q ≤ 999999 ∧ Hid ((⟨(Lib.decDigits u).toArray⟩ : ByteArray) = ⟨(Lib.decDigits q).toArray⟩ ++ t)) (fun n _ => (intOf n).toNat)
  case atStart => exact ⟨u, .empty, rfl, rfl, hu, Lib.hid (by simp)⟩
  case round =>
    obtain ⟨q, t, rfl, rfl, hq, HQ⟩ := hrel
    have hts := HSZ.out q t HQ.out
    by_cases h10 : q < 10
    · obtain ⟨cc, hcc⟩ : ∃ cc, UInt8.ofNat (48 + q) = cc := ⟨_, rfl⟩
      have hsl := fun w' => H9.out q w' h10
      rw [hcc] at hsl
      have HCC := Lib.hid hcc
      clear hcc
      have hcat : ∀ w', (Op.stringOp .add ⟨#[cc]⟩ t).run Tryz.prog w' = .ok (.string (⟨#[cc]⟩ ++ t)) w' := fun w' => run_string_add_sum w' _ t (by show 1 + t.size ≤ _; omega)
      go_wp2
      go_ret
      refine ⟨?_, rfl⟩
      rw [HQ.out, Lib.decDigits_one h10, HCC.out]; rfl
    · have h9 : 9 < q := by omega
      obtain ⟨d, hd⟩ : ∃ d, q % 10 = d := ⟨_, rfl⟩
      have hd10 : d < 10 := by omega
      have hmod : (q : Int) % 10 = (d : Int) := by omega
      have HST := Lib.hid (dec_step h10 t)
      rw [hd] at HST
      have hsl := fun w' => H9.out d w' hd10
      obtain ⟨cc, hcc⟩ : ∃ cc, UInt8.ofNat (48 + d) = cc := ⟨_, rfl⟩
      rw [hcc] at hsl HST
      clear hcc
      have hcat : ∀ w', (Op.stringOp .add ⟨#[cc]⟩ t).run Tryz.prog w' = .ok (.string (⟨#[cc]⟩ ++ t)) w' := fun w' => run_string_add_sum w' _ t (by show 1 + t.size ≤ _; omega)
      clear hd
      go_wp2
      go_round
      case rel => exact ⟨q / 10, ⟨#[cc]⟩ ++ t, by go_num, rfl, by omega, Lib.hid (by rw [HQ.out, HST.out])⟩
      case measure => simp [intOf]; omega
end Go.Proofs.YtddfdmopaeghnacGreatDoor

namespace Go.Proofs.YtddfdmopaeghnacGreatDoor
open Go.RowKit

theorem rm_named {P : Program} {c : Code} {Q : Exit → Act → World → Prop} {a : Act} {w : World} (S : World → Prop) (hS : S w) (h : ∀ w', S w' → Code.wp P c Q a w') : Code.wp P c Q a w := h w hS
theorem rend_any {l : List Nd} (hT : Tr l) (A : Option Addr) (c : Nat) {i : Nat} (hi : i < l.length) {v : Int} (hv : v = i) (w : World) (hN : Nds w w.heap.size A l) :
    Calls Tryz.prog 61 #[.slice A l.length c, .int .i64 v] w (Ret w (.int .i64 (tEnd l i : Nat))) := by
  subst hv
  have h := endT_any l A c hT.one (l.length - i) i w hN (by omega) (by omega)
  rw [hT.endOf hi] at h
  exact h
theorem rlow_at {l : List Nd} (hT : Tr l) {i : Nat} (hi : i < l.length) (h0 : 0 < i) : opAt l i ≠ 9 := by
  have h1 : opAt l i = l[i].op := by rw [opAt, getD_at hi]
  have := hT.low hi h0
  omega
end Go.Proofs.YtddfdmopaeghnacGreatDoor

namespace Go.Proofs.YtddfdmopaeghnacGreatDoor
open Go.RowKit

def TxSaid (A : Option Addr) (c : Nat) (l : List Nd) (f : Nat) : Prop :=
  ∀ (i : Nat) (v : Int) (w : World), v = i → Nds w w.heap.size A l → i < l.length → l.length ≤ i + f → opAt l i ≠ 9 → Calls Tryz.prog 63 #[.slice A l.length c, .int .i64 v] w (Ret w (.string (textX l f i)))
set_option maxRecDepth 100000 in
set_option maxHeartbeats 4000000 in
theorem rkidt_any {A : Option Addr} {c f : Nat} {l : List Nd} (hT : Tr l) (ih : TxSaid A c l f) (p k : Nat) (vp vk : Int) (sec : Bool) (w : World) (hvp : vp = p) (hvk : vk = k) (hN : Nds w w.heap.size A l) (hp : p < l.length) (hk : k < l.length) (h0 : 0 < k) (hf : l.length ≤ k + f) :
    Calls Tryz.prog 107 #[.slice A l.length c, .int .i64 vp, .int .i64 vk, .bool sec] w (Ret w (.string (kidX (opAt l p) (opAt l k) sec (textX l f k)))) := by
  subst hvp hvk
  have h9 := rlow_at hT hk h0
  have hdl := (text_small hT hf hk h9).2
  have htl := (tEnd_bd hk).2
  have HI := Lib.hid (fun w' hw' => ih k k w' rfl hw' hk hf h9)
  obtain ⟨b, off, po, pt, pn, rfl, hb, hnd, hts, d1, d2, d3⟩ := hN.node (Below.refl _ _) hp
  obtain ⟨b', off', ko, kt, kn, hq, hb', hnk, hts', g1, g2, g3⟩ := hN.node (Below.refl _ _) hk
  cases hq
  have hpe : opAt l p = po := by rw [opAt, getD_at hp, hnd]
  have hke : opAt l k = ko := by rw [opAt, getD_at hk, hnk]
  rw [hpe, hke]
  have hm := hT.len
  generalize textX l f k = d at *
  have hds : d.size ≤ 1000 := by omega
  have HN := Lib.hid hN
  have HBD := Lib.hid (fun w' => rbound_any po pn ko kn pt kt sec w')
  have HC : Hid (∀ w', Below w.heap.size w w' → w'.cell? ⟨b, off + p * 3, none⟩ = some (.int .i64 po) ∧ w'.cell? ⟨b, off + p * 3 + 1, none⟩ = some (.string pt) ∧ w'.cell? ⟨b, off + p * 3 + 2, none⟩ = some (.int .i64 pn) ∧ w'.cell? ⟨b, off + k * 3, none⟩ = some (.int .i64 ko) ∧ w'.cell? ⟨b, off + k * 3 + 1, none⟩ = some (.string kt) ∧ w'.cell? ⟨b, off + k * 3 + 2, none⟩ = some (.int .i64 kn)) := Lib.hid (fun w' hB => ⟨(hB.cell (p := ⟨b, off + p * 3, none⟩) hb).trans d1, (hB.cell (p := ⟨b, off + p * 3 + 1, none⟩) hb).trans d2, (hB.cell (p := ⟨b, off + p * 3 + 2, none⟩) hb).trans d3, (hB.cell (p := ⟨b, off + k * 3, none⟩) hb).trans g1, (hB.cell (p := ⟨b, off + k * 3 + 1, none⟩) hb).trans g2, (hB.cell (p := ⟨b, off + k * 3 + 2, none⟩) hb).trans g3⟩)
  clear hN hnd hnk hpe hke ih hT h9 hf hb' d1 d2 d3 g1 g2 g3 hdl htl
  cases hbd : boundF po ko sec with
  | true =>
    rw [hbd] at HBD
    rw [show kidX po ko sec d = ⟨#[40]⟩ ++ d ++ ⟨#[41]⟩ by simp [kidX, hbd]]
    clear hbd
    go_enter Tryz.func107, Tryz.ntmps107
    go_upto_region 2 with (go_at_call 63; refine (HI.out _ HN.out).mono ?_; rintro e w1 ⟨rfl, hB⟩; have HB := Lib.hid hB; clear hB)
    have e1 := HC.out _ HB.out
    have hB := HB.out
    go_region_held3 (fun w' => w'.cell? ⟨b, off + p * 3, none⟩ = some (.int .i64 po) ∧ w'.cell? ⟨b, off + p * 3 + 1, none⟩ = some (.string pt) ∧ w'.cell? ⟨b, off + p * 3 + 2, none⟩ = some (.int .i64 pn) ∧ w'.cell? ⟨b, off + k * 3, none⟩ = some (.int .i64 ko) ∧ w'.cell? ⟨b, off + k * 3 + 1, none⟩ = some (.string kt) ∧ w'.cell? ⟨b, off + k * 3 + 2, none⟩ = some (.int .i64 kn))
      (first | exact e1 | exact e2)
      (first | (go_at_call 155; refine (HBD.out _).mono ?_; rintro e w2 ⟨rfl, hB2⟩; have hB3 : Below w.heap.size w w2 := Below.trans (by repeat (first | exact Below.refl _ _ | assumption | apply Below.drew | refine below_drewN ?_ _ | apply Below.setCell _ (by first | omega | (simp; done) | (simp; omega)) | apply Below.alloc _ (by first | omega | (simp; done) | (simp; omega)))) (hB2.mono (Below.size (by repeat (first | exact Below.refl _ _ | assumption | apply Below.drew | refine below_drewN ?_ _ | apply Below.setCell _ (by first | omega | (simp; done) | (simp; omega)) | apply Below.alloc _ (by first | omega | (simp; done) | (simp; omega)))))); have e2 := HC.out _ hB3))
    go_wp2
    go_ret
    exact ⟨rfl, hB3⟩
  | false =>
    rw [hbd] at HBD
    rw [show kidX po ko sec d = d by simp [kidX, hbd]]
    clear hbd
    go_enter Tryz.func107, Tryz.ntmps107
    go_upto_region 2 with (go_at_call 63; refine (HI.out _ HN.out).mono ?_; rintro e w1 ⟨rfl, hB⟩; have HB := Lib.hid hB; clear hB)
    have e1 := HC.out _ HB.out
    have hB := HB.out
    go_region_held3 (fun w' => w'.cell? ⟨b, off + p * 3, none⟩ = some (.int .i64 po) ∧ w'.cell? ⟨b, off + p * 3 + 1, none⟩ = some (.string pt) ∧ w'.cell? ⟨b, off + p * 3 + 2, none⟩ = some (.int .i64 pn) ∧ w'.cell? ⟨b, off + k * 3, none⟩ = some (.int .i64 ko) ∧ w'.cell? ⟨b, off + k * 3 + 1, none⟩ = some (.string kt) ∧ w'.cell? ⟨b, off + k * 3 + 2, none⟩ = some (.int .i64 kn))
      (first | exact e1 | exact e2)
      (first | (go_at_call 155; refine (HBD.out _).mono ?_; rintro e w2 ⟨rfl, hB2⟩; have hB3 : Below w.heap.size w w2 := Below.trans (by repeat (first | exact Below.refl _ _ | assumption | apply Below.drew | refine below_drewN ?_ _ | apply Below.setCell _ (by first | omega | (simp; done) | (simp; omega)) | apply Below.alloc _ (by first | omega | (simp; done) | (simp; omega)))) (hB2.mono (Below.size (by repeat (first | exact Below.refl _ _ | assumption | apply Below.drew | refine below_drewN ?_ _ | apply Below.setCell _ (by first | omega | (simp; done) | (simp; omega)) | apply Below.alloc _ (by first | omega | (simp; done) | (simp; omega)))))); have e2 := HC.out _ hB3))
    go_wp2
    go_ret
    exact ⟨rfl, hB3⟩
end Go.Proofs.YtddfdmopaeghnacGreatDoor

namespace Go.Proofs.YtddfdmopaeghnacGreatDoor
open Go.RowKit

theorem blk_cellT {w : World} {g j : Nat} {cs : Array Value} {T : TypeId} {fr : Nat × Nat} (h : w.heap[g]? = some (.cells cs T fr)) : w.cell? ⟨g, j, none⟩ = cs[j]? := cell_of_row w g j cs T fr h
theorem blk_belowT {w w' : World} {g : Nat} {o : Obj} (h : w.heap[g]? = some o) (hb : Below w.heap.size w w') : w'.heap[g]? = some o := (hb.block g (Array.getElem?_eq_some_iff.1 h).1).trans h
/-- What is still to come of a list's kids. -/
def tailX (g : Nat → ByteArray) (e : Nat → Nat) (k a m : Nat) : ByteArray := if m = 0 then .empty else if k = 0 then kidsX g e a m else ⟨#[44, 32]⟩ ++ kidsX g e a m
theorem tailX_end (g : Nat → ByteArray) (e : Nat → Nat) (k a : Nat) : tailX g e k a 0 = .empty := by rw [tailX, if_pos rfl]
theorem tailX_one (g : Nat → ByteArray) (e : Nat → Nat) (a m : Nat) : tailX g e 0 a (m + 1) = g a ++ tailX g e 1 (e a) m := by
  rw [tailX, if_neg (by omega), if_pos rfl, kidsX, tailX]
  split
  · simp
  · rw [if_neg (by omega), ByteArray.append_assoc]
theorem tailX_more (g : Nat → ByteArray) (e : Nat → Nat) {k a m : Nat} (hk : 0 < k) : tailX g e k a (m + 1) = ⟨#[44, 32]⟩ ++ g a ++ tailX g e (k + 1) (e a) m := by
  rw [tailX, if_neg (by omega), if_neg (by omega), kidsX, tailX]
  split
  · simp
  · rw [if_neg (by omega), ByteArray.append_assoc, ByteArray.append_assoc]
theorem kidX_size (po ko : Int) (s : Bool) (x : ByteArray) : (kidX po ko s x).size ≤ x.size + 2 := by
  unfold kidX
  split
  · rw [ByteArray.size_append, ByteArray.size_append]
    show 1 + x.size + 1 ≤ _
    omega
  · omega

theorem rkidsP_room {l : List Nd} : ∀ {m a z : Nat}, KidsP l a m z → m ≤ l.length := by
  intro m
  induction m with
  | zero => intro a z _; omega
  | succ m ih =>
    intro a z h
    have key : ∀ {m a z : Nat}, KidsP l a m z → 0 < m → m + a ≤ l.length := by
      intro m
      induction m with
      | zero => intro a z _ h; omega
      | succ m im =>
        intro a z h _
        obtain ⟨h1, h2, h3⟩ := h
        rcases Nat.eq_zero_or_pos m with h4 | h4
        · omega
        · have := im h3 h4
          omega
    have := key h (by omega)
    omega

set_option maxRecDepth 100000 in
set_option maxHeartbeats 4000000 in
theorem textof_1 {A : Option Addr} {c f : Nat} {l : List Nd} (hT : Tr l) (ih : TxSaid A c l f) (i : Nat) (w : World) (hN : Nds w w.heap.size A l) (hi : i < l.length) (hf : l.length ≤ i + (f + 1)) {t : ByteArray} {n : Int} (hnd : l[i] = ⟨1, t, n⟩) :
    Calls Tryz.prog 63 #[.slice A l.length c, .int .i64 (i : Nat)] w (Ret w (.string (textX l (f + 1) i))) := by
  have h1 : opAt l i = 1 := by rw [opAt, getD_at hi, hnd]
  have hm := hT.len
  have HA : Hid (Below w.heap.size w (w.alloc (.cells #[.int .i64 1, .string t, .int .i64 n] 25))) := Lib.hid ((Below.refl _ _).alloc (Nat.le_refl _) _)
  have hone := hT.one _ (List.getElem_mem hi)
  rw [hnd] at hone
  simp only at hone
  have _ := hf
  have hk := hT.kidsP hi
  have hmk : (manyL l).getD i 0 = (manyF l[i].op l[i].n).toNat := manyL_at hi rfl
  rw [hmk, hnd] at hk
  simp only at hk
  have hX : textX l (f + 1) i = ⟨(Lib.itoa n).toArray⟩ := by
    rw [textX, getD_at hi, hnd]
    simp only [if_true]
  obtain ⟨n0, n1⟩ := tone_num hone
  obtain ⟨u, rfl⟩ : ∃ u : Nat, n = u := ⟨n.toNat, by omega⟩
  have HD := Lib.hid (fun w' => rdec_any u (by omega) w')
  obtain ⟨b, off, op', t', n', rfl, hb, hnd', hts, d1, d2, d3⟩ := hN.node (Below.refl _ _) hi
  rw [hnd] at hnd'
  cases hnd'
  rw [hX]
  clear hk hmk hone h1 hX hnd ih hT hN
  go_enter Tryz.func63, Tryz.ntmps63
  go_wp2_with (go_at_call 102; refine (HD.out _).mono ?_; rintro e w1 ⟨rfl, rfl⟩)
  go_ret
  exact ⟨rfl, HA.out⟩

set_option maxRecDepth 100000 in
set_option maxHeartbeats 4000000 in
theorem textof_2 {A : Option Addr} {c f : Nat} {l : List Nd} (hT : Tr l) (ih : TxSaid A c l f) (i : Nat) (w : World) (hN : Nds w w.heap.size A l) (hi : i < l.length) (hf : l.length ≤ i + (f + 1)) {t : ByteArray} {n : Int} (hnd : l[i] = ⟨2, t, n⟩) :
    Calls Tryz.prog 63 #[.slice A l.length c, .int .i64 (i : Nat)] w (Ret w (.string (textX l (f + 1) i))) := by
  have h1 : opAt l i = 2 := by rw [opAt, getD_at hi, hnd]
  have hm := hT.len
  have HA : Hid (Below w.heap.size w (w.alloc (.cells #[.int .i64 2, .string t, .int .i64 n] 25))) := Lib.hid ((Below.refl _ _).alloc (Nat.le_refl _) _)
  have hone := hT.one _ (List.getElem_mem hi)
  rw [hnd] at hone
  simp only at hone
  have _ := hf
  have hk := hT.kidsP hi
  have hmk : (manyL l).getD i 0 = (manyF l[i].op l[i].n).toNat := manyL_at hi rfl
  rw [hmk, hnd] at hk
  simp only at hk
  have hX : textX l (f + 1) i = t := by
    rw [textX, getD_at hi, hnd]
    simp only [show ¬ (2 : Int) = 1 by decide, if_false, if_true]
  obtain ⟨b, off, op', t', n', rfl, hb, hnd', hts, d1, d2, d3⟩ := hN.node (Below.refl _ _) hi
  rw [hnd] at hnd'
  cases hnd'
  rw [hX]
  clear hk hmk hone h1 hX hnd ih hT hN
  go_enter Tryz.func63, Tryz.ntmps63
  go_wp2
  go_ret
  exact ⟨rfl, HA.out⟩

set_option maxRecDepth 100000 in
set_option maxHeartbeats 4000000 in
theorem textof_5 {A : Option Addr} {c f : Nat} {l : List Nd} (hT : Tr l) (ih : TxSaid A c l f) (i : Nat) (w : World) (hN : Nds w w.heap.size A l) (hi : i < l.length) (hf : l.length ≤ i + (f + 1)) {t : ByteArray} {n : Int} (hnd : l[i] = ⟨5, t, n⟩) :
    Calls Tryz.prog 63 #[.slice A l.length c, .int .i64 (i : Nat)] w (Ret w (.string (textX l (f + 1) i))) := by
  have h1 : opAt l i = 5 := by rw [opAt, getD_at hi, hnd]
  have hm := hT.len
  have HA : Hid (Below w.heap.size w (w.alloc (.cells #[.int .i64 5, .string t, .int .i64 n] 25))) := Lib.hid ((Below.refl _ _).alloc (Nat.le_refl _) _)
  have hone := hT.one _ (List.getElem_mem hi)
  rw [hnd] at hone
  simp only at hone
  have _ := hf
  have hk := hT.kidsP hi
  have hmk : (manyL l).getD i 0 = (manyF l[i].op l[i].n).toNat := manyL_at hi rfl
  rw [hmk, hnd] at hk
  simp only at hk
  have hX : textX l (f + 1) i = kidX 5 (opAt l (i + 1)) false (textX l f (i + 1)) ++ ⟨#[32, 43, 32]⟩ ++ kidX 5 (opAt l (tEnd l (i + 1))) true (textX l f (tEnd l (i + 1))) := by
    rw [textX, getD_at hi, hnd]
    simp only [show ¬ (5 : Int) = 1 by decide, show ¬ (5 : Int) = 2 by decide, show ¬ (5 : Int) = 3 by decide, show ¬ (5 : Int) = 4 by decide, if_false, if_true]
  rw [show (manyF 5 n).toNat = 2 from rfl] at hk
  obtain ⟨a1, a2, b1, b2, b3⟩ : i + 1 < l.length ∧ i + 1 < tEnd l (i + 1) ∧ tEnd l (i + 1) < l.length ∧ tEnd l (i + 1) < tEnd l (tEnd l (i + 1)) ∧ tEnd l (tEnd l (i + 1)) = tEnd l i := ⟨hk.1, hk.2.1, hk.2.2.1, hk.2.2.2.1, hk.2.2.2.2⟩
  have g1 := (text_small hT (f := f) (by omega) a1 (rlow_at hT a1 (by omega))).2
  have g2 := (text_small hT (f := f) (by omega) b1 (rlow_at hT b1 (by omega))).2
  have g3 := (tEnd_bd b1).2
  have HK1 := Lib.hid (fun (w' : World) (hN' : Nds w' w'.heap.size A l) => rkidt_any hT ih i (i + 1) (i : Nat) ((i : Int) + 1) false w' rfl (by push_cast; rfl) hN' hi a1 (by omega) (by omega) (c := c))
  have HE := Lib.hid (fun (w' : World) (hN' : Nds w' w'.heap.size A l) => rend_any hT A c a1 (v := (i : Int) + 1) (by push_cast; rfl) w' hN')
  have HK2 := Lib.hid (fun (w' : World) (hN' : Nds w' w'.heap.size A l) => rkidt_any hT ih i (tEnd l (i + 1)) (i : Nat) (tEnd l (i + 1) : Nat) true w' rfl rfl hN' hi b1 (by omega) (by omega) (c := c))
  rw [h1] at HK1 HK2
  have k1 := kidX_size 5 (opAt l (i + 1)) false (textX l f (i + 1))
  have k2 := kidX_size 5 (opAt l (tEnd l (i + 1))) true (textX l f (tEnd l (i + 1)))
  have HN := Lib.hid hN
  have hlen : l.length ≤ 40 := hm
  have s1 : (kidX 5 (opAt l (i + 1)) false (textX l f (i + 1))).size ≤ 1000 := by omega
  have s2 : (kidX 5 (opAt l (tEnd l (i + 1))) true (textX l f (tEnd l (i + 1)))).size ≤ 1000 := by omega
  have hil : i ≤ 40 := by omega
  obtain ⟨b, off, op', t', n', rfl, hb, hnd', hts, d1, d2, d3⟩ := hN.node (Below.refl _ _) hi
  rw [hnd] at hnd'
  cases hnd'
  rw [hX]
  generalize kidX 5 (opAt l (i + 1)) false (textX l f (i + 1)) = X at *
  generalize kidX 5 (opAt l (tEnd l (i + 1))) true (textX l f (tEnd l (i + 1))) = Y at *
  generalize tEnd l (i + 1) = q at *
  clear hk hmk hone h1 hX hnd ih hT hN g1 g2 g3 k1 k2 a2 b2 b3
  go_enter Tryz.func63, Tryz.ntmps63
  go_wp2_with (first
      | (go_at_call 107; (fail_if_success have z := T0); refine (HK1.out _ (HN.out.past HA.out)).mono ?_; rintro e t0 ⟨rfl, hB⟩; have HB := Lib.hid (HA.out.trans (hB.mono HA.out.size)); clear hB; have T0 := Lib.hid True.intro)
      | (go_at_call 61; (have z := T0; clear z); (fail_if_success have z := T1); refine (HE.out _ (HN.out.past HB.out)).mono ?_; rintro e t1 ⟨rfl, hB⟩; have HB := Lib.hid (HB.out.trans (hB.mono HB.out.size)); clear hB; have T1 := Lib.hid True.intro)
      | (go_at_call 107; (have z := T1; clear z); (fail_if_success have z := T2); refine (HK2.out _ (HN.out.past HB.out)).mono ?_; rintro e t2 ⟨rfl, hB⟩; have HB := Lib.hid (HB.out.trans (hB.mono HB.out.size)); clear hB; have T2 := Lib.hid True.intro))
  go_ret
  exact ⟨rfl, HB.out⟩

set_option maxRecDepth 100000 in
set_option maxHeartbeats 4000000 in
theorem textof_6 {A : Option Addr} {c f : Nat} {l : List Nd} (hT : Tr l) (ih : TxSaid A c l f) (i : Nat) (w : World) (hN : Nds w w.heap.size A l) (hi : i < l.length) (hf : l.length ≤ i + (f + 1)) {t : ByteArray} {n : Int} (hnd : l[i] = ⟨6, t, n⟩) :
    Calls Tryz.prog 63 #[.slice A l.length c, .int .i64 (i : Nat)] w (Ret w (.string (textX l (f + 1) i))) := by
  have h1 : opAt l i = 6 := by rw [opAt, getD_at hi, hnd]
  have hm := hT.len
  have HA : Hid (Below w.heap.size w (w.alloc (.cells #[.int .i64 6, .string t, .int .i64 n] 25))) := Lib.hid ((Below.refl _ _).alloc (Nat.le_refl _) _)
  have hone := hT.one _ (List.getElem_mem hi)
  rw [hnd] at hone
  simp only at hone
  have _ := hf
  have hk := hT.kidsP hi
  have hmk : (manyL l).getD i 0 = (manyF l[i].op l[i].n).toNat := manyL_at hi rfl
  rw [hmk, hnd] at hk
  simp only at hk
  have hX : textX l (f + 1) i = kidX 6 (opAt l (i + 1)) false (textX l f (i + 1)) ++ ⟨#[32, 42, 32]⟩ ++ kidX 6 (opAt l (tEnd l (i + 1))) true (textX l f (tEnd l (i + 1))) := by
    rw [textX, getD_at hi, hnd]
    simp only [show ¬ (6 : Int) = 1 by decide, show ¬ (6 : Int) = 2 by decide, show ¬ (6 : Int) = 3 by decide, show ¬ (6 : Int) = 4 by decide, show ¬ (6 : Int) = 5 by decide, if_false, if_true]
  rw [show (manyF 6 n).toNat = 2 from rfl] at hk
  obtain ⟨a1, a2, b1, b2, b3⟩ : i + 1 < l.length ∧ i + 1 < tEnd l (i + 1) ∧ tEnd l (i + 1) < l.length ∧ tEnd l (i + 1) < tEnd l (tEnd l (i + 1)) ∧ tEnd l (tEnd l (i + 1)) = tEnd l i := ⟨hk.1, hk.2.1, hk.2.2.1, hk.2.2.2.1, hk.2.2.2.2⟩
  have g1 := (text_small hT (f := f) (by omega) a1 (rlow_at hT a1 (by omega))).2
  have g2 := (text_small hT (f := f) (by omega) b1 (rlow_at hT b1 (by omega))).2
  have g3 := (tEnd_bd b1).2
  have HK1 := Lib.hid (fun (w' : World) (hN' : Nds w' w'.heap.size A l) => rkidt_any hT ih i (i + 1) (i : Nat) ((i : Int) + 1) false w' rfl (by push_cast; rfl) hN' hi a1 (by omega) (by omega) (c := c))
  have HE := Lib.hid (fun (w' : World) (hN' : Nds w' w'.heap.size A l) => rend_any hT A c a1 (v := (i : Int) + 1) (by push_cast; rfl) w' hN')
  have HK2 := Lib.hid (fun (w' : World) (hN' : Nds w' w'.heap.size A l) => rkidt_any hT ih i (tEnd l (i + 1)) (i : Nat) (tEnd l (i + 1) : Nat) true w' rfl rfl hN' hi b1 (by omega) (by omega) (c := c))
  rw [h1] at HK1 HK2
  have k1 := kidX_size 6 (opAt l (i + 1)) false (textX l f (i + 1))
  have k2 := kidX_size 6 (opAt l (tEnd l (i + 1))) true (textX l f (tEnd l (i + 1)))
  have HN := Lib.hid hN
  have hlen : l.length ≤ 40 := hm
  have s1 : (kidX 6 (opAt l (i + 1)) false (textX l f (i + 1))).size ≤ 1000 := by omega
  have s2 : (kidX 6 (opAt l (tEnd l (i + 1))) true (textX l f (tEnd l (i + 1)))).size ≤ 1000 := by omega
  have hil : i ≤ 40 := by omega
  obtain ⟨b, off, op', t', n', rfl, hb, hnd', hts, d1, d2, d3⟩ := hN.node (Below.refl _ _) hi
  rw [hnd] at hnd'
  cases hnd'
  rw [hX]
  generalize kidX 6 (opAt l (i + 1)) false (textX l f (i + 1)) = X at *
  generalize kidX 6 (opAt l (tEnd l (i + 1))) true (textX l f (tEnd l (i + 1))) = Y at *
  generalize tEnd l (i + 1) = q at *
  clear hk hmk hone h1 hX hnd ih hT hN g1 g2 g3 k1 k2 a2 b2 b3
  go_enter Tryz.func63, Tryz.ntmps63
  go_wp2_with (first
      | (go_at_call 107; (fail_if_success have z := T0); refine (HK1.out _ (HN.out.past HA.out)).mono ?_; rintro e t0 ⟨rfl, hB⟩; have HB := Lib.hid (HA.out.trans (hB.mono HA.out.size)); clear hB; have T0 := Lib.hid True.intro)
      | (go_at_call 61; (have z := T0; clear z); (fail_if_success have z := T1); refine (HE.out _ (HN.out.past HB.out)).mono ?_; rintro e t1 ⟨rfl, hB⟩; have HB := Lib.hid (HB.out.trans (hB.mono HB.out.size)); clear hB; have T1 := Lib.hid True.intro)
      | (go_at_call 107; (have z := T1; clear z); (fail_if_success have z := T2); refine (HK2.out _ (HN.out.past HB.out)).mono ?_; rintro e t2 ⟨rfl, hB⟩; have HB := Lib.hid (HB.out.trans (hB.mono HB.out.size)); clear hB; have T2 := Lib.hid True.intro))
  go_ret
  exact ⟨rfl, HB.out⟩

set_option maxRecDepth 100000 in
set_option maxHeartbeats 4000000 in
theorem textof_7 {A : Option Addr} {c f : Nat} {l : List Nd} (hT : Tr l) (ih : TxSaid A c l f) (i : Nat) (w : World) (hN : Nds w w.heap.size A l) (hi : i < l.length) (hf : l.length ≤ i + (f + 1)) {t : ByteArray} {n : Int} (hnd : l[i] = ⟨7, t, n⟩) :
    Calls Tryz.prog 63 #[.slice A l.length c, .int .i64 (i : Nat)] w (Ret w (.string (textX l (f + 1) i))) := by
  have h1 : opAt l i = 7 := by rw [opAt, getD_at hi, hnd]
  have hm := hT.len
  have HA : Hid (Below w.heap.size w (w.alloc (.cells #[.int .i64 7, .string t, .int .i64 n] 25))) := Lib.hid ((Below.refl _ _).alloc (Nat.le_refl _) _)
  have hone := hT.one _ (List.getElem_mem hi)
  rw [hnd] at hone
  simp only at hone
  have _ := hf
  have hk := hT.kidsP hi
  have hmk : (manyL l).getD i 0 = (manyF l[i].op l[i].n).toNat := manyL_at hi rfl
  rw [hmk, hnd] at hk
  simp only at hk
  have hX : textX l (f + 1) i = letB ++ t ++ ⟨#[32, 61, 32]⟩ ++ textX l f (i + 1) ++ ⟨#[59]⟩ := by
    rw [textX, getD_at hi, hnd]
    simp only [show ¬ (7 : Int) = 1 by decide, show ¬ (7 : Int) = 2 by decide, show ¬ (7 : Int) = 3 by decide, show ¬ (7 : Int) = 4 by decide, show ¬ (7 : Int) = 5 by decide, show ¬ (7 : Int) = 6 by decide, if_false, if_true]
  rw [show (manyF 7 n).toNat = 1 from rfl] at hk
  have a1 : i + 1 < l.length := hk.1
  have g1 := (text_small hT (f := f) (by omega) a1 (rlow_at hT a1 (by omega))).2
  have g3 := (tEnd_bd a1).2
  have HI := Lib.hid (fun (w' : World) (hN' : Nds w' w'.heap.size A l) => ih (i + 1) ((i : Int) + 1) w' (by push_cast; rfl) hN' a1 (by omega) (rlow_at hT a1 (by omega)))
  have HN := Lib.hid hN
  have hlen : l.length ≤ 40 := hm
  have s1 : (textX l f (i + 1)).size ≤ 1000 := by omega
  have hil : i ≤ 40 := by omega
  have ht8 : t.size ≤ 8 := (name_facts (tone_word hone rfl (by decide))).2.1
  obtain ⟨b, off, op', t', n', rfl, hb, hnd', hts, d1, d2, d3⟩ := hN.node (Below.refl _ _) hi
  rw [hnd] at hnd'
  cases hnd'
  rw [hX]
  generalize textX l f (i + 1) = X at *
  unfold letB
  have HC : Hid (∀ w', Below (w.alloc (.cells #[.int .i64 7, .string t, .int .i64 n] 25)).heap.size (w.alloc (.cells #[.int .i64 7, .string t, .int .i64 n] 25)) w' → w'.cell? ⟨w.heap.size, 1, none⟩ = some (.string t)) := Lib.hid (fun w' hB => by rw [blk_cellT (j := 1) (blk_belowT (heap_new rfl) hB)]; rfl)
  clear hk hmk hone h1 hX hnd ih hT hN g1 g3
  go_enter Tryz.func63, Tryz.ntmps63
  go_upto_region 12 with fail
  have s3 : (⟨#[108, 101, 116, 32]⟩ ++ t : ByteArray).size ≤ 12 := by rw [ByteArray.size_append]; show 4 + t.size ≤ _; omega
  have s4 : (⟨#[108, 101, 116, 32]⟩ ++ t ++ ⟨#[32, 61, 32]⟩ : ByteArray).size ≤ 15 := by rw [ByteArray.size_append]; show _ + 3 ≤ _; omega
  have s5 : (⟨#[108, 101, 116, 32]⟩ ++ t ++ ⟨#[32, 61, 32]⟩ ++ X : ByteArray).size ≤ 1015 := by rw [ByteArray.size_append]; omega
  have r1 : ∀ w' : World, (Op.stringOp .add ⟨#[108, 101, 116, 32]⟩ t).run Tryz.prog w' = .ok (.string (⟨#[108, 101, 116, 32]⟩ ++ t)) w' := fun w' => run_string_add_sum w' _ _ (by show 4 + t.size ≤ _; omega)
  have r2 : ∀ w' : World, (Op.stringOp .add (⟨#[108, 101, 116, 32]⟩ ++ t) ⟨#[32, 61, 32]⟩).run Tryz.prog w' = .ok (.string (⟨#[108, 101, 116, 32]⟩ ++ t ++ ⟨#[32, 61, 32]⟩)) w' := fun w' => run_string_add_sum w' _ _ (by show _ + 3 ≤ _; omega)
  have r3 : ∀ w' : World, (Op.stringOp .add (⟨#[108, 101, 116, 32]⟩ ++ t ++ ⟨#[32, 61, 32]⟩) X).run Tryz.prog w' = .ok (.string (⟨#[108, 101, 116, 32]⟩ ++ t ++ ⟨#[32, 61, 32]⟩ ++ X)) w' := fun w' => run_string_add_sum w' _ _ (by omega)
  have r4 : ∀ w' : World, (Op.stringOp .add (⟨#[108, 101, 116, 32]⟩ ++ t ++ ⟨#[32, 61, 32]⟩ ++ X) ⟨#[59]⟩).run Tryz.prog w' = .ok (.string (⟨#[108, 101, 116, 32]⟩ ++ t ++ ⟨#[32, 61, 32]⟩ ++ X ++ ⟨#[59]⟩)) w' := fun w' => run_string_add_sum w' _ _ (by show _ + 1 ≤ _; omega)
  have k1 : IntKind.i64.wrap ((i : Int) + 1) = (i : Int) + 1 := IntWalk.i64_in _ (by omega)
  refine rm_named (fun wx => Below w.heap.size w wx ∧ w.heap.size < wx.heap.size ∧ wx.cell? ⟨w.heap.size, 1, none⟩ = some (.string t)) ⟨HA.out, by simp, HC.out _ (Below.refl _ _)⟩ ?_
  rintro wx ⟨hA, hxl, e1⟩
  go_region_held3 (fun w' => w'.cell? ⟨w.heap.size, 1, none⟩ = some (.string t)) (first | exact e1 | exact e2)
    (first | (go_at_call 63; have hN2 := HN.out.past (Below.drew hA); refine (HI.out _ hN2).mono ?_; rintro e w2 ⟨rfl, hB2⟩; have hB4 : Below wx.heap.size wx w2 := (by first | exact hB2 | exact past_drew hB2 | exact past_drewN hB2); have hB3 : Below w.heap.size w w2 := hA.trans (hB4.mono hA.size); have e2 := (hB4.cell (p := ⟨w.heap.size, 1, none⟩) hxl).trans e1))
  go_wp2
  go_ret
  exact ⟨rfl, hB3⟩

set_option maxRecDepth 100000 in
set_option maxHeartbeats 4000000 in
theorem textof_8 {A : Option Addr} {c f : Nat} {l : List Nd} (hT : Tr l) (ih : TxSaid A c l f) (i : Nat) (w : World) (hN : Nds w w.heap.size A l) (hi : i < l.length) (hf : l.length ≤ i + (f + 1)) {t : ByteArray} {n : Int} (hnd : l[i] = ⟨8, t, n⟩) :
    Calls Tryz.prog 63 #[.slice A l.length c, .int .i64 (i : Nat)] w (Ret w (.string (textX l (f + 1) i))) := by
  have h1 : opAt l i = 8 := by rw [opAt, getD_at hi, hnd]
  have hm := hT.len
  have HA : Hid (Below w.heap.size w (w.alloc (.cells #[.int .i64 8, .string t, .int .i64 n] 25))) := Lib.hid ((Below.refl _ _).alloc (Nat.le_refl _) _)
  have hone := hT.one _ (List.getElem_mem hi)
  rw [hnd] at hone
  simp only at hone
  have _ := hf
  have hk := hT.kidsP hi
  have hmk : (manyL l).getD i 0 = (manyF l[i].op l[i].n).toNat := manyL_at hi rfl
  rw [hmk, hnd] at hk
  simp only at hk
  have hX : textX l (f + 1) i = textX l f (i + 1) ++ ⟨#[59]⟩ := by
    rw [textX, getD_at hi, hnd]
    simp only [show ¬ (8 : Int) = 1 by decide, show ¬ (8 : Int) = 2 by decide, show ¬ (8 : Int) = 3 by decide, show ¬ (8 : Int) = 4 by decide, show ¬ (8 : Int) = 5 by decide, show ¬ (8 : Int) = 6 by decide, show ¬ (8 : Int) = 7 by decide, if_false]
  rw [show (manyF 8 n).toNat = 1 from rfl] at hk
  have a1 : i + 1 < l.length := hk.1
  have g1 := (text_small hT (f := f) (by omega) a1 (rlow_at hT a1 (by omega))).2
  have g3 := (tEnd_bd a1).2
  have HI := Lib.hid (fun (w' : World) (hN' : Nds w' w'.heap.size A l) => ih (i + 1) ((i : Int) + 1) w' (by push_cast; rfl) hN' a1 (by omega) (rlow_at hT a1 (by omega)))
  have HN := Lib.hid hN
  have hlen : l.length ≤ 40 := hm
  have s1 : (textX l f (i + 1)).size ≤ 1000 := by omega
  have hil : i ≤ 40 := by omega
  obtain ⟨b, off, op', t', n', rfl, hb, hnd', hts, d1, d2, d3⟩ := hN.node (Below.refl _ _) hi
  rw [hnd] at hnd'
  cases hnd'
  rw [hX]
  generalize textX l f (i + 1) = X at *
  clear hk hmk hone h1 hX hnd ih hT hN g1 g3
  go_enter Tryz.func63, Tryz.ntmps63
  go_wp2_with (first
      | (go_at_call 63; (fail_if_success have z := T0); refine (HI.out _ (HN.out.past HA.out)).mono ?_; rintro e t0 ⟨rfl, hB⟩; have HB := Lib.hid (HA.out.trans (hB.mono HA.out.size)); clear hB; have T0 := Lib.hid True.intro))
  go_ret
  exact ⟨rfl, HB.out⟩

set_option maxRecDepth 100000 in
set_option maxHeartbeats 4000000 in
theorem textof_3 {A : Option Addr} {c f : Nat} {l : List Nd} (hT : Tr l) (ih : TxSaid A c l f) (i : Nat) (w : World) (hN : Nds w w.heap.size A l) (hi : i < l.length) (hf : l.length ≤ i + (f + 1)) {t : ByteArray} {n : Int} (hnd : l[i] = ⟨3, t, n⟩) :
    Calls Tryz.prog 63 #[.slice A l.length c, .int .i64 (i : Nat)] w (Ret w (.string (textX l (f + 1) i))) := by
  have h1 : opAt l i = 3 := by rw [opAt, getD_at hi, hnd]
  have hm := hT.len
  have HA : Hid (Below w.heap.size w (w.alloc (.cells #[.int .i64 3, .string t, .int .i64 n] 25))) := Lib.hid ((Below.refl _ _).alloc (Nat.le_refl _) _)
  have hone := hT.one _ (List.getElem_mem hi)
  rw [hnd] at hone
  simp only at hone
  have _ := hf
  have hk := hT.kidsP hi
  have hmk : (manyL l).getD i 0 = (manyF l[i].op l[i].n).toNat := manyL_at hi rfl
  rw [hmk, hnd] at hk
  simp only at hk
  have hX : textX l (f + 1) i = t ++ ⟨#[40]⟩ ++ kidsX (textX l f) (tEnd l) (i + 1) n.toNat ++ ⟨#[41]⟩ := by
    rw [textX, getD_at hi, hnd]
    simp only [show ¬ (3 : Int) = 1 by decide, show ¬ (3 : Int) = 2 by decide, if_false, if_true]
  have hmn : (manyF 3 n).toNat = n.toNat := rfl
  rw [hmn] at hk
  obtain ⟨m, rfl⟩ : ∃ m : Nat, n = m := ⟨n.toNat, by have := (manyF_bd hone).1; have h : manyF 3 n = n := rfl; omega⟩
  rw [Int.toNat_natCast] at hk
  simp only [Int.toNat_natCast] at hX
  have ht8 : t.size ≤ 8 := (name_facts (tone_word hone rfl (by decide))).2.1
  have HN := Lib.hid hN; have HTr := Lib.hid hT; have HIH := Lib.hid ih
  have hlen : l.length ≤ 40 := hm
  have hil : i ≤ 40 := by omega
  have htot : (textX l (f + 1) i).size ≤ 1000 := by
    have g1 := (text_small hT (f := f + 1) hf hi (by rw [h1]; decide)).2
    have g3 := (tEnd_bd hi).2
    omega
  rw [hX] at htot
  obtain ⟨b, off, op', t', n', rfl, hb, hnd', hts, d1, d2, d3⟩ := hN.node (Below.refl _ _) hi
  rw [hnd] at hnd'
  cases hnd'
  rw [hX]
  have HC : Hid (∀ w', Below (w.alloc (.cells #[.int .i64 3, .string t, .int .i64 (m : Nat)] 25)).heap.size (w.alloc (.cells #[.int .i64 3, .string t, .int .i64 (m : Nat)] 25)) w' → w'.cell? ⟨w.heap.size, 2, none⟩ = some (.int .i64 (m : Nat))) := Lib.hid (fun w' hB => by rw [blk_cellT (j := 2) (blk_belowT (heap_new rfl) hB)]; rfl)
  have HA2 : Hid (Below (w.alloc (.cells #[.int .i64 3, .string t, .int .i64 (m : Nat)] 25)).heap.size (w.alloc (.cells #[.int .i64 3, .string t, .int .i64 (m : Nat)] 25)) (w.alloc (.cells #[.int .i64 3, .string t, .int .i64 (m : Nat)] 25))) := Lib.hid (Below.refl _ _)
  have hTL : t ++ ⟨#[40]⟩ ++ kidsX (textX l f) (tEnd l) (i + 1) m = t ++ ⟨#[40]⟩ ++ tailX (textX l f) (tEnd l) 0 (i + 1) m := by
    rw [tailX]
    split
    · rename_i e; subst e; rfl
    · rfl
  rw [hTL] at htot ⊢
  obtain ⟨Z, hZ⟩ : ∃ Z, t ++ ⟨#[40]⟩ ++ tailX (textX l f) (tEnd l) 0 (i + 1) m = Z := ⟨_, rfl⟩
  rw [hZ] at htot ⊢
  have hz : Z.size ≤ 1000 := by
    rw [ByteArray.size_append] at htot
    omega
  have HK : Hid (KidsP l (i + 1) m (tEnd l i) ∧ t ++ ⟨#[40]⟩ ++ tailX (textX l f) (tEnd l) 0 (i + 1) m = Z) := Lib.hid ⟨hk, hZ⟩
  have hm6 : m ≤ 40 := by
    have hr := rkidsP_room hk
    omega
  clear hk hmk hone h1 hX hnd ih hT hN hTL hZ htot
  go_enter Tryz.func63, Tryz.ntmps63
  go_wp2
  go_loopw [6, 8, 9] (fun s a k wr => ∃ (kk aa : Nat) (acc : ByteArray), kk ≤ m ∧ k = .int .i64 kk ∧ a = .int .i64 aa ∧ aa ≤ 41 ∧ i < aa ∧ s = .string acc ∧ Hid (KidsP l aa (m - kk) (tEnd l i) ∧ acc ++ tailX (textX l f) (tEnd l) kk aa (m - kk) = Z) ∧ Hid (Below (w.alloc (.cells #[.int .i64 3, .string t, .int .i64 (m : Nat)] 25)).heap.size (w.alloc (.cells #[.int .i64 3, .string t, .int .i64 (m : Nat)] 25)) wr)) (fun _ _ k _ => m - (intOf k).toNat)
  case atStart => exact ⟨0, i + 1, t ++ ⟨#[40]⟩, by omega, rfl, by go_num, by omega, by omega, rfl, by rw [Nat.sub_zero]; exact HK, HA2⟩
  case round =>
    clear HK HA2
    obtain ⟨kk, aa, acc, hkm, rfl, rfl, ha41, hia, rfl, HK, HB⟩ := hrel
    have e1 := HC.out _ HB.out
    have hacc : acc.size ≤ 1000 := by
      have := congrArg ByteArray.size HK.out.2
      rw [ByteArray.size_append] at this
      omega
    by_cases hlt : kk < m
    · obtain ⟨q, hq⟩ : ∃ q, m - kk = q + 1 := ⟨m - kk - 1, by omega⟩
      have hP := HK.out.1
      have hE := HK.out.2
      rw [hq] at hP hE
      obtain ⟨p1, p2, p3⟩ := hP
      have g1 := (text_small HTr.out (f := f) (by omega) p1 (rlow_at HTr.out p1 (by omega))).2
      have g3 := (tEnd_bd p1).2
      have hw : Below w.heap.size w wr := HA.out.trans (HB.out.mono HA.out.size)
      have hwz := hw.size
      have HI := Lib.hid (fun (w' : World) (hN' : Nds w' w'.heap.size (some ⟨b, off, none⟩) l) => HIH.out aa (aa : Nat) w' rfl hN' p1 (by omega) (rlow_at HTr.out p1 (by omega)))
      have HE := Lib.hid (fun (w' : World) (hN' : Nds w' w'.heap.size (some ⟨b, off, none⟩) l) => rend_any HTr.out (some ⟨b, off, none⟩) c p1 (v := (aa : Nat)) rfl w' hN')
      have HW := Lib.hid hw
      have s1 : (textX l f aa).size ≤ 1000 := by omega
      have hq2 : m - (kk + 1) = q := by omega
      by_cases h0 : kk = 0
      · subst h0
        rw [tailX_one, ← ByteArray.append_assoc] at hE
        have HK2 : Hid (KidsP l (tEnd l aa) (m - (0 + 1)) (tEnd l i) ∧ (acc ++ textX l f aa) ++ tailX (textX l f) (tEnd l) (0 + 1) (tEnd l aa) (m - (0 + 1)) = Z) := Lib.hid (by rw [hq2]; exact ⟨p3, hE⟩)
        have hE2 : tEnd l aa ≤ 41 := by omega
        clear hE hw g1 g3 p3 HK
        generalize textX l f aa = X at *
        generalize tEnd l aa = Q at *
        go_wp2_with (first
          | (go_at_call 63; refine (HI.out _ (HN.out.past HW.out)).mono ?_; rintro e w2 ⟨rfl, hB2⟩; have HW := Lib.hid (HW.out.trans (hB2.mono hwz)); have HB := Lib.hid (HB.out.trans (hB2.mono HB.out.size)); clear hB2)
          | (go_at_call 61; refine (HE.out _ (HN.out.past HW.out)).mono ?_; rintro e w3 ⟨rfl, hB3⟩; have HB := Lib.hid (HB.out.trans (hB3.mono HB.out.size)); clear hB3))
        go_roundw
        case rel => exact ⟨0 + 1, Q, acc ++ X, by omega, by go_num, rfl, hE2, by omega, rfl, HK2, HB⟩
        case measure => simp [intOf]; omega
      · rw [tailX_more _ _ (by omega), ← ByteArray.append_assoc, ← ByteArray.append_assoc] at hE
        have HK2 : Hid (KidsP l (tEnd l aa) (m - (kk + 1)) (tEnd l i) ∧ (acc ++ ⟨#[44, 32]⟩ ++ textX l f aa) ++ tailX (textX l f) (tEnd l) (kk + 1) (tEnd l aa) (m - (kk + 1)) = Z) := Lib.hid (by rw [hq2]; exact ⟨p3, hE⟩)
        have hE2 : tEnd l aa ≤ 41 := by omega
        have z1 : decide (0 < (kk : Int)) = true := by simp; omega
        have z2 : (acc ++ (⟨#[44, 32]⟩ : ByteArray)).size ≤ 1002 := by rw [ByteArray.size_append]; show acc.size + 2 ≤ _; omega
        clear hE hw g1 g3 p3 HK
        generalize textX l f aa = X at *
        generalize tEnd l aa = Q at *
        go_wp2_with (first
          | (go_at_call 63; refine (HI.out _ (HN.out.past HW.out)).mono ?_; rintro e w2 ⟨rfl, hB2⟩; have HW := Lib.hid (HW.out.trans (hB2.mono hwz)); have HB := Lib.hid (HB.out.trans (hB2.mono HB.out.size)); clear hB2)
          | (go_at_call 61; refine (HE.out _ (HN.out.past HW.out)).mono ?_; rintro e w3 ⟨rfl, hB3⟩; have HB := Lib.hid (HB.out.trans (hB3.mono HB.out.size)); clear hB3))
        go_roundw
        case rel => exact ⟨kk + 1, Q, acc ++ ⟨#[44, 32]⟩ ++ X, by omega, by go_num, rfl, hE2, by omega, rfl, HK2, HB⟩
        case measure => simp [intOf]; omega
    · have hE := HK.out.2
      rw [show m - kk = 0 by omega, tailX_end, ByteArray.append_empty] at hE
      subst hE
      have HW := Lib.hid (HA.out.trans (HB.out.mono HA.out.size))
      clear HK
      go_wp2
      go_ret
      exact ⟨rfl, HW.out⟩

set_option maxRecDepth 100000 in
set_option maxHeartbeats 4000000 in
theorem textof_4 {A : Option Addr} {c f : Nat} {l : List Nd} (hT : Tr l) (ih : TxSaid A c l f) (i : Nat) (w : World) (hN : Nds w w.heap.size A l) (hi : i < l.length) (hf : l.length ≤ i + (f + 1)) {t : ByteArray} {n : Int} (hnd : l[i] = ⟨4, t, n⟩) :
    Calls Tryz.prog 63 #[.slice A l.length c, .int .i64 (i : Nat)] w (Ret w (.string (textX l (f + 1) i))) := by
  have h1 : opAt l i = 4 := by rw [opAt, getD_at hi, hnd]
  have hm := hT.len
  have HA : Hid (Below w.heap.size w (w.alloc (.cells #[.int .i64 4, .string t, .int .i64 n] 25))) := Lib.hid ((Below.refl _ _).alloc (Nat.le_refl _) _)
  have hone := hT.one _ (List.getElem_mem hi)
  rw [hnd] at hone
  simp only at hone
  have _ := hf
  have hk := hT.kidsP hi
  have hmk : (manyL l).getD i 0 = (manyF l[i].op l[i].n).toNat := manyL_at hi rfl
  rw [hmk, hnd] at hk
  simp only at hk
  have hX : textX l (f + 1) i = ⟨#[91]⟩ ++ kidsX (textX l f) (tEnd l) (i + 1) n.toNat ++ ⟨#[93]⟩ := by
    rw [textX, getD_at hi, hnd]
    simp only [show ¬ (4 : Int) = 1 by decide, show ¬ (4 : Int) = 2 by decide, show ¬ (4 : Int) = 3 by decide, if_false, if_true]
  have hmn : (manyF 4 n).toNat = n.toNat := rfl
  rw [hmn] at hk
  obtain ⟨m, rfl⟩ : ∃ m : Nat, n = m := ⟨n.toNat, by have := (manyF_bd hone).1; have h : manyF 4 n = n := rfl; omega⟩
  rw [Int.toNat_natCast] at hk
  simp only [Int.toNat_natCast] at hX

  have HN := Lib.hid hN; have HTr := Lib.hid hT; have HIH := Lib.hid ih
  have hlen : l.length ≤ 40 := hm
  have hil : i ≤ 40 := by omega
  have htot : (textX l (f + 1) i).size ≤ 1000 := by
    have g1 := (text_small hT (f := f + 1) hf hi (by rw [h1]; decide)).2
    have g3 := (tEnd_bd hi).2
    omega
  rw [hX] at htot
  obtain ⟨b, off, op', t', n', rfl, hb, hnd', hts, d1, d2, d3⟩ := hN.node (Below.refl _ _) hi
  rw [hnd] at hnd'
  cases hnd'
  rw [hX]
  have HC : Hid (∀ w', Below (w.alloc (.cells #[.int .i64 4, .string t, .int .i64 (m : Nat)] 25)).heap.size (w.alloc (.cells #[.int .i64 4, .string t, .int .i64 (m : Nat)] 25)) w' → w'.cell? ⟨w.heap.size, 2, none⟩ = some (.int .i64 (m : Nat))) := Lib.hid (fun w' hB => by rw [blk_cellT (j := 2) (blk_belowT (heap_new rfl) hB)]; rfl)
  have HA2 : Hid (Below (w.alloc (.cells #[.int .i64 4, .string t, .int .i64 (m : Nat)] 25)).heap.size (w.alloc (.cells #[.int .i64 4, .string t, .int .i64 (m : Nat)] 25)) (w.alloc (.cells #[.int .i64 4, .string t, .int .i64 (m : Nat)] 25))) := Lib.hid (Below.refl _ _)
  have hTL : ⟨#[91]⟩ ++ kidsX (textX l f) (tEnd l) (i + 1) m = ⟨#[91]⟩ ++ tailX (textX l f) (tEnd l) 0 (i + 1) m := by
    rw [tailX]
    split
    · rename_i e; subst e; rfl
    · rfl
  rw [hTL] at htot ⊢
  obtain ⟨Z, hZ⟩ : ∃ Z, ⟨#[91]⟩ ++ tailX (textX l f) (tEnd l) 0 (i + 1) m = Z := ⟨_, rfl⟩
  rw [hZ] at htot ⊢
  have hz : Z.size ≤ 1000 := by
    rw [ByteArray.size_append] at htot
    omega
  have HK : Hid (KidsP l (i + 1) m (tEnd l i) ∧ ⟨#[91]⟩ ++ tailX (textX l f) (tEnd l) 0 (i + 1) m = Z) := Lib.hid ⟨hk, hZ⟩
  have hm6 : m ≤ 40 := by
    have hr := rkidsP_room hk
    omega
  clear hk hmk hone h1 hX hnd ih hT hN hTL hZ htot
  go_enter Tryz.func63, Tryz.ntmps63
  go_wp2
  go_loopw [6, 8, 9] (fun s a k wr => ∃ (kk aa : Nat) (acc : ByteArray), kk ≤ m ∧ k = .int .i64 kk ∧ a = .int .i64 aa ∧ aa ≤ 41 ∧ i < aa ∧ s = .string acc ∧ Hid (KidsP l aa (m - kk) (tEnd l i) ∧ acc ++ tailX (textX l f) (tEnd l) kk aa (m - kk) = Z) ∧ Hid (Below (w.alloc (.cells #[.int .i64 4, .string t, .int .i64 (m : Nat)] 25)).heap.size (w.alloc (.cells #[.int .i64 4, .string t, .int .i64 (m : Nat)] 25)) wr)) (fun _ _ k _ => m - (intOf k).toNat)
  case atStart => exact ⟨0, i + 1, ⟨#[91]⟩, by omega, rfl, by go_num, by omega, by omega, rfl, by rw [Nat.sub_zero]; exact HK, HA2⟩
  case round =>
    clear HK HA2
    obtain ⟨kk, aa, acc, hkm, rfl, rfl, ha41, hia, rfl, HK, HB⟩ := hrel
    have e1 := HC.out _ HB.out
    have hacc : acc.size ≤ 1000 := by
      have := congrArg ByteArray.size HK.out.2
      rw [ByteArray.size_append] at this
      omega
    by_cases hlt : kk < m
    · obtain ⟨q, hq⟩ : ∃ q, m - kk = q + 1 := ⟨m - kk - 1, by omega⟩
      have hP := HK.out.1
      have hE := HK.out.2
      rw [hq] at hP hE
      obtain ⟨p1, p2, p3⟩ := hP
      have g1 := (text_small HTr.out (f := f) (by omega) p1 (rlow_at HTr.out p1 (by omega))).2
      have g3 := (tEnd_bd p1).2
      have hw : Below w.heap.size w wr := HA.out.trans (HB.out.mono HA.out.size)
      have hwz := hw.size
      have HI := Lib.hid (fun (w' : World) (hN' : Nds w' w'.heap.size (some ⟨b, off, none⟩) l) => HIH.out aa (aa : Nat) w' rfl hN' p1 (by omega) (rlow_at HTr.out p1 (by omega)))
      have HE := Lib.hid (fun (w' : World) (hN' : Nds w' w'.heap.size (some ⟨b, off, none⟩) l) => rend_any HTr.out (some ⟨b, off, none⟩) c p1 (v := (aa : Nat)) rfl w' hN')
      have HW := Lib.hid hw
      have s1 : (textX l f aa).size ≤ 1000 := by omega
      have hq2 : m - (kk + 1) = q := by omega
      by_cases h0 : kk = 0
      · subst h0
        rw [tailX_one, ← ByteArray.append_assoc] at hE
        have HK2 : Hid (KidsP l (tEnd l aa) (m - (0 + 1)) (tEnd l i) ∧ (acc ++ textX l f aa) ++ tailX (textX l f) (tEnd l) (0 + 1) (tEnd l aa) (m - (0 + 1)) = Z) := Lib.hid (by rw [hq2]; exact ⟨p3, hE⟩)
        have hE2 : tEnd l aa ≤ 41 := by omega
        clear hE hw g1 g3 p3 HK
        generalize textX l f aa = X at *
        generalize tEnd l aa = Q at *
        go_wp2_with (first
          | (go_at_call 63; refine (HI.out _ (HN.out.past HW.out)).mono ?_; rintro e w2 ⟨rfl, hB2⟩; have HW := Lib.hid (HW.out.trans (hB2.mono hwz)); have HB := Lib.hid (HB.out.trans (hB2.mono HB.out.size)); clear hB2)
          | (go_at_call 61; refine (HE.out _ (HN.out.past HW.out)).mono ?_; rintro e w3 ⟨rfl, hB3⟩; have HB := Lib.hid (HB.out.trans (hB3.mono HB.out.size)); clear hB3))
        go_roundw
        case rel => exact ⟨0 + 1, Q, acc ++ X, by omega, by go_num, rfl, hE2, by omega, rfl, HK2, HB⟩
        case measure => simp [intOf]; omega
      · rw [tailX_more _ _ (by omega), ← ByteArray.append_assoc, ← ByteArray.append_assoc] at hE
        have HK2 : Hid (KidsP l (tEnd l aa) (m - (kk + 1)) (tEnd l i) ∧ (acc ++ ⟨#[44, 32]⟩ ++ textX l f aa) ++ tailX (textX l f) (tEnd l) (kk + 1) (tEnd l aa) (m - (kk + 1)) = Z) := Lib.hid (by rw [hq2]; exact ⟨p3, hE⟩)
        have hE2 : tEnd l aa ≤ 41 := by omega
        have z1 : decide (0 < (kk : Int)) = true := by simp; omega
        have z2 : (acc ++ (⟨#[44, 32]⟩ : ByteArray)).size ≤ 1002 := by rw [ByteArray.size_append]; show acc.size + 2 ≤ _; omega
        clear hE hw g1 g3 p3 HK
        generalize textX l f aa = X at *
        generalize tEnd l aa = Q at *
        go_wp2_with (first
          | (go_at_call 63; refine (HI.out _ (HN.out.past HW.out)).mono ?_; rintro e w2 ⟨rfl, hB2⟩; have HW := Lib.hid (HW.out.trans (hB2.mono hwz)); have HB := Lib.hid (HB.out.trans (hB2.mono HB.out.size)); clear hB2)
          | (go_at_call 61; refine (HE.out _ (HN.out.past HW.out)).mono ?_; rintro e w3 ⟨rfl, hB3⟩; have HB := Lib.hid (HB.out.trans (hB3.mono HB.out.size)); clear hB3))
        go_roundw
        case rel => exact ⟨kk + 1, Q, acc ++ ⟨#[44, 32]⟩ ++ X, by omega, by go_num, rfl, hE2, by omega, rfl, HK2, HB⟩
        case measure => simp [intOf]; omega
    · have hE := HK.out.2
      rw [show m - kk = 0 by omega, tailX_end, ByteArray.append_empty] at hE
      subst hE
      have HW := Lib.hid (HA.out.trans (HB.out.mono HA.out.size))
      clear HK
      go_wp2
      go_ret
      exact ⟨rfl, HW.out⟩

theorem textof_any {A : Option Addr} {c : Nat} {l : List Nd} (hT : Tr l) : ∀ f, TxSaid A c l f := by
  intro f
  induction f with
  | zero => intro i v w hv hN hi hf _; omega
  | succ f ih =>
    intro i v w hv hN hi hf h9
    subst hv
    have hone := hT.one _ (List.getElem_mem hi)
    have hop : 1 ≤ l[i].op ∧ l[i].op ≤ 9 := by
      by_cases hc : l[i].op < 1 ∨ 9 < l[i].op
      · rw [treeOne, if_pos (by rcases hc with h | h; exact .inl h; exact .inr (.inl h))] at hone; cases hone
      · omega
    rw [opAt, getD_at hi] at h9
    obtain ⟨op, t, n, hnd⟩ : ∃ op t n, l[i] = ⟨op, t, n⟩ := ⟨_, _, _, rfl⟩
    rw [hnd] at hop h9
    simp only at hop h9
    have hcs : op = 1 ∨ op = 2 ∨ op = 3 ∨ op = 4 ∨ op = 5 ∨ op = 6 ∨ op = 7 ∨ op = 8 := by omega
    rcases hcs with rfl | rfl | rfl | rfl | rfl | rfl | rfl | rfl
    · exact textof_1 hT ih i w hN hi hf hnd
    · exact textof_2 hT ih i w hN hi hf hnd
    · exact textof_3 hT ih i w hN hi hf hnd
    · exact textof_4 hT ih i w hN hi hf hnd
    · exact textof_5 hT ih i w hN hi hf hnd
    · exact textof_6 hT ih i w hN hi hf hnd
    · exact textof_7 hT ih i w hN hi hf hnd
    · exact textof_8 hT ih i w hN hi hf hnd
end Go.Proofs.YtddfdmopaeghnacGreatDoor

namespace Go.Proofs.YtddfdmopaeghnacGreatDoor
open Go.RowKit

set_option maxRecDepth 100000 in
set_option maxHeartbeats 4000000 in
theorem textline_any {u : List Nd} (h : treeF u = 0) (A : Option Addr) (c : Nat) (w : World) (hN : Nds w w.heap.size A u) :
    Calls Tryz.prog 63 #[.slice A u.length c, .int .i64 0] w (Ret w (.string (lineL u))) := by
  have hT := Tr.of_check h
  have h0 := hT.pos0
  by_cases h9 : opAt u 0 = 9
  · obtain ⟨x, rfl, hx⟩ := tree_note h h9
    have hz := note_size hx
    obtain ⟨b, off, op, t, n, rfl, hb, hnd, hts, d1, d2, d3⟩ := hN.node (Below.refl _ _) h0
    cases hnd
    have hL : lineL [⟨9, x, 0⟩] = if x.data.toList = [] then ⟨#[35]⟩ else ⟨#[35, 32]⟩ ++ x := by rw [lineL, if_pos h9]; rfl
    rw [hL]
    have HA : Hid (Below w.heap.size w (w.alloc (.cells #[.int .i64 9, .string x, .int .i64 0] 25))) := Lib.hid ((Below.refl _ _).alloc (Nat.le_refl _) _)
    simp only [Nat.zero_mul, Nat.add_zero] at d1 d2 d3
    change Calls _ _ #[.slice (some ⟨b, off, none⟩) 1 c, .int .i64 0] _ _
    by_cases he : x.data.toList = []
    · rw [if_pos he]
      have hx0 : x = .empty := ByteArray.ext (Array.toList_inj.1 (by rw [he]; rfl))
      subst hx0
      clear hN hL h9 h hT h0 hx he
      go_enter Tryz.func63, Tryz.ntmps63
      go_wp2
      go_ret
      exact ⟨rfl, HA.out⟩
    · rw [if_neg he]
      have hs0 : x.size ≠ 0 := fun e => he (List.eq_nil_of_length_eq_zero (by simpa using e))
      have k1 : ((x.size : Int) == 0) = false := by simpa using hs0
      have k2 : ¬ (x.size : Int) = 0 := by omega
      clear hN hL h9 h hT h0 hx he
      go_enter Tryz.func63, Tryz.ntmps63
      go_wp2
      go_ret
      exact ⟨rfl, HA.out⟩
  · rw [lineL, if_neg h9]
    exact textof_any hT u.length 0 0 w rfl hN h0 (by omega) h9
set_option maxRecDepth 100000 in
set_option maxHeartbeats 4000000 in
theorem printof_any (p : List (List Nd)) (n : Nat) (hn : p.length = n) (P : Option Addr) (c : Nat) (w : World) (hp : Prg w w.heap.size P p) (hT : ∀ u ∈ p, treeF u = 0) (h20 : n ≤ 20) :
    Calls Tryz.prog 24 #[.slice P n c] w (Ret w (.string (printF p))) := by
  have HPR := Lib.hid hp; have HT := Lib.hid hT; have HN := Lib.hid hn
  have HSZ := Lib.hid (fun (k : Nat) => printL_size lineL (p := p.take k) (fun u hu => (lineSaid_all (hT u (List.mem_of_mem_take hu))).1))
  clear hp hT hn
  go_enter Tryz.func24, Tryz.ntmps24
  go_wp2
  go_loopw [3, 4] (fun s i wr => ∃ k : Nat, k ≤ n ∧ i = .int .i64 k ∧ s = .string (printL lineL (p.take k)) ∧ Hid (Below w.heap.size w wr)) (fun _ i _ => n - (intOf i).toNat)
  case atStart => exact ⟨0, by omega, rfl, by rw [List.take_zero, printL]; rfl, Lib.hid (Below.refl _ _)⟩
  case round =>
    obtain ⟨k, hk, rfl, rfl, HB⟩ := hrel
    by_cases hlt : k < n
    · obtain ⟨b, off, Ak, ck, u, rfl, hb, hu, hc, hNd, hSh⟩ := HPR.out.one HB.out (k := k) (by rw [HN.out]; exact hlt)
      have hut := HT.out u (List.mem_of_getElem? hu)
      have HL := Lib.hid (fun (w' : World) (hN' : Nds w' w'.heap.size Ak u) => textline_any hut Ak ck w' hN')
      have HND := Lib.hid hNd
      have hs1 := (lineSaid_all hut).1
      have hs2 := HSZ.out k
      rw [List.length_take] at hs2
      have hs3 : (printL lineL (p.take k)).size ≤ 100000 := by
        have : min k p.length ≤ 20 := by omega
        have : 2001 * min k p.length ≤ 2001 * 20 := Nat.mul_le_mul_left _ this
        omega
      have HST := Lib.hid (printL_step lineL hu)
      clear hNd hSh hu hut hs2
      generalize printL lineL (p.take k) = Q at *
      generalize lineL u = X at *
      go_wp2_with (go_at_call 63; refine (HL.out _ HND.out).mono ?_; rintro e v1 ⟨rfl, hB⟩; have HB2 := Lib.hid (HB.out.trans (hB.mono HB.out.size)); clear hB)
      go_roundw
      case rel => exact ⟨k + 1, by omega, by go_num, by rw [HST.out, ByteArray.append_assoc], HB2⟩
      case measure => simp [intOf]; omega
    · have hx : printL lineL (p.take k) = printF p := by rw [List.take_of_length_le (by rw [HN.out]; omega)]; rfl
      rw [hx]
      go_wp2
      go_ret
      exact ⟨rfl, HB.out⟩
end Go.Proofs.YtddfdmopaeghnacGreatDoor
