/- Walks of the reference's kidDoc, kidsDoc (printed by wip/genrm.py). Conditions: the slice of nodes lies below the call's own blocks and is a statement that may be. -/
import Derived.Test.YtddfdmopaeghnacGreatDoorRmW
import Derived.Test.YtddfdmopaeghnacGreatDoorTRefA
import Derived.Deep.RegionHeld3
import Derived.Deep.RegionWith
namespace Go.Proofs.YtddfdmopaeghnacGreatDoor
open Go.RowKit

theorem rm_named {P : Program} {c : Code} {Q : Exit → Act → World → Prop} {a : Act} {w : World} (S : World → Prop) (hS : S w) (h : ∀ w', S w' → Code.wp P c Q a w') : Code.wp P c Q a w := h w hS
def DocSaid (A : Option Addr) (c : Nat) (l : List Nd) (f : Nat) : Prop :=
  ∀ (i : Nat) (v : Int) (w : World), v = i → Nds w w.heap.size A l → i < l.length → l.length ≤ i + f → opAt l i ≠ 9 → Calls Tryz.prog 62 #[.slice A l.length c, .int .i64 v] w (NdTo (docT l f i) w)
theorem rend_any {l : List Nd} (hT : Tr l) (A : Option Addr) (c : Nat) {i : Nat} (hi : i < l.length) {v : Int} (hv : v = i) (w : World) (hN : Nds w w.heap.size A l) :
    Calls Tryz.prog 61 #[.slice A l.length c, .int .i64 v] w (Ret w (.int .i64 (tEnd l i : Nat))) := by
  subst hv
  have h := endT_any l A c hT.one (l.length - i) i w hN (by omega) (by omega)
  rw [hT.endOf hi] at h
  exact h
theorem rdeep_any (a : List Nd) (A : Option Addr) (c : Nat) (w : World) (ha : Nds w w.heap.size A a) (hsz : a.length ≤ 10000) :
    Calls Tryz.prog 104 #[.agg #[.int .i64 7, .string .empty, .int .i64 2], .slice A a.length c] w (NdTo (deepN a) w) := runder_any 7 2 .empty (by simp [maxLen]) a A c w ha hsz
theorem rgroup_any (a : List Nd) (A : Option Addr) (c : Nat) (w : World) (ha : Nds w w.heap.size A a) (hsz : a.length ≤ 10000) :
    Calls Tryz.prog 104 #[.agg #[.int .i64 8, .string .empty, .int .i64 0], .slice A a.length c] w (NdTo (groupN a) w) := runder_any 8 0 .empty (by simp [maxLen]) a A c w ha hsz
theorem rdoc_small {l : List Nd} (hT : Tr l) {f i : Nat} (hf : l.length ≤ i + f) (hi : i < l.length) (h9 : opAt l i ≠ 9) : (docT l f i).length ≤ 900 := by
  have h1 : opAt l i = l[i].op := by rw [opAt, getD_at hi]
  have h2 := docT_len hT f i hf hi (by omega)
  have h3 := tEnd_bd hi
  have h4 := hT.len
  omega
theorem rlow_at {l : List Nd} (hT : Tr l) {i : Nat} (hi : i < l.length) (h0 : 0 < i) : opAt l i ≠ 9 := by
  have h1 : opAt l i = l[i].op := by rw [opAt, getD_at hi]
  have := hT.low hi h0
  omega
theorem rkids_small {l : List Nd} (hT : Tr l) {f m a z : Nat} (h : KidsP l a m z) (h0 : 0 < a) (hf : l.length ≤ a + f) (hz : z ≤ l.length) : (kidsD (docT l f) (tEnd l) a m).length ≤ 900 := by
  have h1 := (kidsD_len (g := docT l f) m a z h (fun b hb hl => docT_len hT f b (by omega) hl (by have := hT.low hl (by omega); omega))).2
  have h4 := hT.len
  omega
theorem rkidsP_le {l : List Nd} : ∀ {m a z : Nat}, KidsP l a m z → a ≤ l.length → a ≤ z ∧ z ≤ l.length := by
  intro m
  induction m with
  | zero => intro a z h ha; rw [KidsP] at h; omega
  | succ m ih =>
    intro a z h ha
    obtain ⟨h1, h2, h3⟩ := h
    have := ih h3 (tEnd_bd h1).2
    omega

set_option maxRecDepth 100000 in
set_option maxHeartbeats 4000000 in
theorem rkid_any {A : Option Addr} {c f : Nat} {l : List Nd} (hT : Tr l) (ih : DocSaid A c l f) (p k : Nat) (vp vk : Int) (sec : Bool) (w : World) (hvp : vp = p) (hvk : vk = k) (hN : Nds w w.heap.size A l) (hp : p < l.length) (hk : k < l.length) (h0 : 0 < k) (hf : l.length ≤ k + f) :
    Calls Tryz.prog 103 #[.slice A l.length c, .int .i64 vp, .int .i64 vk, .bool sec] w (NdTo (kidD (opAt l p) (opAt l k) sec (docT l f k)) w) := by
  subst hvp hvk
  have h9 := rlow_at hT hk h0
  have hdl := rdoc_small hT hf hk h9
  have HI := Lib.hid (fun w' hw' => ih k k w' rfl hw' hk hf h9)
  obtain ⟨b, off, po, pt, pn, rfl, hb, hnd, hts, d1, d2, d3⟩ := hN.node (Below.refl _ _) hp
  obtain ⟨b', off', ko, kt, kn, hq, hb', hnk, hts', g1, g2, g3⟩ := hN.node (Below.refl _ _) hk
  cases hq
  have hpe : opAt l p = po := by rw [opAt, getD_at hp, hnd]
  have hke : opAt l k = ko := by rw [opAt, getD_at hk, hnk]
  rw [hpe, hke]
  generalize docT l f k = d at *
  have hm := hT.len
  have HN := Lib.hid hN
  have HBD := Lib.hid (fun w' => rbound_any po pn ko kn pt kt sec w')
  have HB : Hid (Below w.heap.size w w) := Lib.hid (Below.refl _ _)
  have hz : w.heap.size ≤ w.heap.size := Nat.le_refl _
  clear hN hnd hnk hpe hke ih hT h9 hf hb'
  cases hbd : boundF po ko sec with
  | true =>
    rw [hbd] at HBD
    have hkd : kidD po ko sec d = bothN (wordN ⟨#[40]⟩) (bothN d (wordN ⟨#[41]⟩)) := by simp [kidD, hbd]
    rw [hkd]
    clear hkd hbd
    go_enter Tryz.func103, Tryz.ntmps103
    go_wp2_with (first
      | (go_at_call 62; (fail_if_success have z := S0); refine (HI.out _ HN.out).mono ?_; rintro e w1 ⟨A_d, c_d, rfl, hn, hB⟩; have HV_d := Lib.hid (hn.less hz); have HN := Lib.hid (HN.out.past hB); have HB := Lib.hid (HB.out.trans (hB.mono hz)); have hz := Nat.le_trans hz hB.size; clear hn hB; have S0 := Lib.hid True.intro))
    obtain ⟨e0, e1, e2⟩ : w1.cell? ⟨b, off + p * 3, none⟩ = some (.int .i64 po) ∧ w1.cell? ⟨b, off + p * 3 + 1, none⟩ = some (.string pt) ∧ w1.cell? ⟨b, off + p * 3 + 2, none⟩ = some (.int .i64 pn) := ⟨(HB.out.cell (p := ⟨b, off + p * 3, none⟩) hb).trans d1, (HB.out.cell (p := ⟨b, off + p * 3 + 1, none⟩) hb).trans d2, (HB.out.cell (p := ⟨b, off + p * 3 + 2, none⟩) hb).trans d3⟩
    obtain ⟨k0, k1, k2⟩ : w1.cell? ⟨b, off + k * 3, none⟩ = some (.int .i64 ko) ∧ w1.cell? ⟨b, off + k * 3 + 1, none⟩ = some (.string kt) ∧ w1.cell? ⟨b, off + k * 3 + 2, none⟩ = some (.int .i64 kn) := ⟨(HB.out.cell (p := ⟨b, off + k * 3, none⟩) hb).trans g1, (HB.out.cell (p := ⟨b, off + k * 3 + 1, none⟩) hb).trans g2, (HB.out.cell (p := ⟨b, off + k * 3 + 2, none⟩) hb).trans g3⟩
    have hbl : b < w1.heap.size := Nat.lt_of_lt_of_le hb hz
    go_region_held3 (fun w' => w'.cell? ⟨b, off + p * 3, none⟩ = some (.int .i64 po) ∧ w'.cell? ⟨b, off + p * 3 + 1, none⟩ = some (.string pt) ∧ w'.cell? ⟨b, off + p * 3 + 2, none⟩ = some (.int .i64 pn) ∧ w'.cell? ⟨b, off + k * 3, none⟩ = some (.int .i64 ko) ∧ w'.cell? ⟨b, off + k * 3 + 1, none⟩ = some (.string kt) ∧ w'.cell? ⟨b, off + k * 3 + 2, none⟩ = some (.int .i64 kn))
      (exact ⟨e0, e1, e2, k0, k1, k2⟩)
      (first | (go_at_call 155; refine (HBD.out _).mono ?_; rintro e w2 ⟨rfl, hB⟩; have e0 := (hB.cell (p := ⟨b, off + p * 3, none⟩) hbl).trans e0; have e1 := (hB.cell (p := ⟨b, off + p * 3 + 1, none⟩) hbl).trans e1; have e2 := (hB.cell (p := ⟨b, off + p * 3 + 2, none⟩) hbl).trans e2; have k0 := (hB.cell (p := ⟨b, off + k * 3, none⟩) hbl).trans k0; have k1 := (hB.cell (p := ⟨b, off + k * 3 + 1, none⟩) hbl).trans k1; have k2 := (hB.cell (p := ⟨b, off + k * 3 + 2, none⟩) hbl).trans k2; have hB := past_drew hB; have HN := Lib.hid (HN.out.past hB); have HV_d := Lib.hid (HV_d.out.past hB); have HB := Lib.hid (HB.out.trans (hB.mono hz)); have hz := Nat.le_trans hz hB.size))
    go_wp2_with (first
      | (go_at_call 101; (fail_if_success have z := T0); refine (rword_any ⟨#[40]⟩ (by decide) _).mono ?_; rintro e w3 ⟨A_X, c_X, rfl, hn, hB⟩; have HV_X := Lib.hid (hn.less hz); have HN := Lib.hid (HN.out.past hB); have HV_d := Lib.hid (HV_d.out.past hB); have HB := Lib.hid (HB.out.trans (hB.mono hz)); have hz := Nat.le_trans hz hB.size; clear hn hB; have T0 := Lib.hid True.intro)
      | (go_at_call 101; (fail_if_success have z := T1); have z := T0; clear z; refine (rword_any ⟨#[41]⟩ (by decide) _).mono ?_; rintro e w4 ⟨A_Y, c_Y, rfl, hn, hB⟩; have HV_Y := Lib.hid (hn.less hz); have HN := Lib.hid (HN.out.past hB); have HV_d := Lib.hid (HV_d.out.past hB); have HV_X := Lib.hid (HV_X.out.past hB); have HB := Lib.hid (HB.out.trans (hB.mono hz)); have hz := Nat.le_trans hz hB.size; clear hn hB; have T1 := Lib.hid True.intro)
      | (go_at_call 105; (fail_if_success have z := T2); have z := T1; clear z; refine (rtwo_any _ _ _ _ _ _ _ HV_d.out.1 HV_Y.out.1 (by (repeat (first | rw [bothN_len] | rw [wordN_len] | rw [opN_len] | rw [deepN_len] | rw [groupN_len])); omega)).mono ?_; rintro e w5 ⟨A_Z, c_Z, rfl, hn, hB⟩; have HV_Z := Lib.hid (hn.less hz); have HN := Lib.hid (HN.out.past hB); have HV_X := Lib.hid (HV_X.out.past hB); have HB := Lib.hid (HB.out.trans (hB.mono hz)); have hz := Nat.le_trans hz hB.size; clear hn hB; have T2 := Lib.hid True.intro)
      | (go_at_call 105; (fail_if_success have z := T3); have z := T2; clear z; refine (rtwo_any _ _ _ _ _ _ _ HV_X.out.1 HV_Z.out.1 (by (repeat (first | rw [bothN_len] | rw [wordN_len] | rw [opN_len] | rw [deepN_len] | rw [groupN_len])); omega)).mono ?_; rintro e w6 ⟨A_Q, c_Q, rfl, hn, hB⟩; have HV_Q := Lib.hid (hn.less hz); have HN := Lib.hid (HN.out.past hB); have HB := Lib.hid (HB.out.trans (hB.mono hz)); have hz := Nat.le_trans hz hB.size; clear hn hB; have T3 := Lib.hid True.intro))
    go_ret
    exact ⟨A_Q, c_Q, rfl, HV_Q.out, HB.out⟩
  | false =>
    rw [hbd] at HBD
    have hkd : kidD po ko sec d = d := by simp [kidD, hbd]
    rw [hkd]
    clear hkd hbd
    go_enter Tryz.func103, Tryz.ntmps103
    go_wp2_with (first
      | (go_at_call 62; (fail_if_success have z := S0); refine (HI.out _ HN.out).mono ?_; rintro e w1 ⟨A_d, c_d, rfl, hn, hB⟩; have HV_d := Lib.hid (hn.less hz); have HN := Lib.hid (HN.out.past hB); have HB := Lib.hid (HB.out.trans (hB.mono hz)); have hz := Nat.le_trans hz hB.size; clear hn hB; have S0 := Lib.hid True.intro))
    obtain ⟨e0, e1, e2⟩ : w1.cell? ⟨b, off + p * 3, none⟩ = some (.int .i64 po) ∧ w1.cell? ⟨b, off + p * 3 + 1, none⟩ = some (.string pt) ∧ w1.cell? ⟨b, off + p * 3 + 2, none⟩ = some (.int .i64 pn) := ⟨(HB.out.cell (p := ⟨b, off + p * 3, none⟩) hb).trans d1, (HB.out.cell (p := ⟨b, off + p * 3 + 1, none⟩) hb).trans d2, (HB.out.cell (p := ⟨b, off + p * 3 + 2, none⟩) hb).trans d3⟩
    obtain ⟨k0, k1, k2⟩ : w1.cell? ⟨b, off + k * 3, none⟩ = some (.int .i64 ko) ∧ w1.cell? ⟨b, off + k * 3 + 1, none⟩ = some (.string kt) ∧ w1.cell? ⟨b, off + k * 3 + 2, none⟩ = some (.int .i64 kn) := ⟨(HB.out.cell (p := ⟨b, off + k * 3, none⟩) hb).trans g1, (HB.out.cell (p := ⟨b, off + k * 3 + 1, none⟩) hb).trans g2, (HB.out.cell (p := ⟨b, off + k * 3 + 2, none⟩) hb).trans g3⟩
    have hbl : b < w1.heap.size := Nat.lt_of_lt_of_le hb hz
    go_region_held3 (fun w' => w'.cell? ⟨b, off + p * 3, none⟩ = some (.int .i64 po) ∧ w'.cell? ⟨b, off + p * 3 + 1, none⟩ = some (.string pt) ∧ w'.cell? ⟨b, off + p * 3 + 2, none⟩ = some (.int .i64 pn) ∧ w'.cell? ⟨b, off + k * 3, none⟩ = some (.int .i64 ko) ∧ w'.cell? ⟨b, off + k * 3 + 1, none⟩ = some (.string kt) ∧ w'.cell? ⟨b, off + k * 3 + 2, none⟩ = some (.int .i64 kn))
      (exact ⟨e0, e1, e2, k0, k1, k2⟩)
      (first | (go_at_call 155; refine (HBD.out _).mono ?_; rintro e w2 ⟨rfl, hB⟩; have e0 := (hB.cell (p := ⟨b, off + p * 3, none⟩) hbl).trans e0; have e1 := (hB.cell (p := ⟨b, off + p * 3 + 1, none⟩) hbl).trans e1; have e2 := (hB.cell (p := ⟨b, off + p * 3 + 2, none⟩) hbl).trans e2; have k0 := (hB.cell (p := ⟨b, off + k * 3, none⟩) hbl).trans k0; have k1 := (hB.cell (p := ⟨b, off + k * 3 + 1, none⟩) hbl).trans k1; have k2 := (hB.cell (p := ⟨b, off + k * 3 + 2, none⟩) hbl).trans k2; have hB := past_drew hB; have HN := Lib.hid (HN.out.past hB); have HV_d := Lib.hid (HV_d.out.past hB); have HB := Lib.hid (HB.out.trans (hB.mono hz)); have hz := Nat.le_trans hz hB.size))
    go_wp2_with fail
    go_ret
    exact ⟨A_d, c_d, rfl, HV_d.out, HB.out⟩

set_option maxRecDepth 100000 in
set_option maxHeartbeats 4000000 in
theorem rkids_any {A : Option Addr} {c f : Nat} {l : List Nd} (hT : Tr l) (ih : DocSaid A c l f) :
    ∀ (m a z : Nat) (va v : Int) (w : World), KidsP l a (m + 1) z → 0 < a → l.length ≤ a + f → Nds w w.heap.size A l → va = a → v = (m : Int) + 1 → v ≤ 100 →
      Calls Tryz.prog 106 #[.slice A l.length c, .int .i64 va, .int .i64 v] w (NdTo (kidsD (docT l f) (tEnd l) a (m + 1)) w) := by
  intro m
  induction m with
  | zero =>
    intro a z va v w hP h0 hf hN hva hv hv6
    obtain ⟨q1, q2, q3⟩ := hP
    rw [show kidsD (docT l f) (tEnd l) a (0 + 1) = docT l f a by simp [kidsD]]
    have HI := Lib.hid (fun w' hw' => ih a va w' hva hw' q1 hf (rlow_at hT q1 h0))
    have HN := Lib.hid hN
    obtain rfl : v = 1 := by omega
    generalize docT l f a = d at *
    have HB : Hid (Below w.heap.size w w) := Lib.hid (Below.refl _ _)
    have hz : w.heap.size ≤ w.heap.size := Nat.le_refl _
    clear hN ih hT q3 hv hva
    go_enter Tryz.func106, Tryz.ntmps106
    go_wp2_with (first
      | (go_at_call 62; (fail_if_success have z := S0); refine (HI.out _ HN.out).mono ?_; rintro e w1 ⟨A_d, c_d, rfl, hn, hB⟩; have HV_d := Lib.hid (hn.less hz); have HN := Lib.hid (HN.out.past hB); have HB := Lib.hid (HB.out.trans (hB.mono hz)); have hz := Nat.le_trans hz hB.size; clear hn hB; have S0 := Lib.hid True.intro))
    go_ret
    exact ⟨A_d, c_d, rfl, HV_d.out, HB.out⟩
  | succ m im =>
    intro a z va v w hP h0 hf hN hva hv hv6
    have hzl := (rkidsP_le hP (by have := hP.1; omega)).2
    obtain ⟨q1, q2, q3⟩ := hP
    have hks := rkids_small (f := f) hT q3 (by omega) (by omega) hzl
    have hdl := rdoc_small hT hf q1 (rlow_at hT q1 h0)
    rw [show kidsD (docT l f) (tEnd l) a (m + 1 + 1) = bothN (bothN (docT l f a) (wordN ⟨#[44]⟩)) (bothN (opN 2) (kidsD (docT l f) (tEnd l) (tEnd l a) (m + 1))) by simp [kidsD]]
    have HI := Lib.hid (fun w' hw' => ih a va w' hva hw' q1 hf (rlow_at hT q1 h0))
    have HE := Lib.hid (fun w' hw' => rend_any hT A c q1 hva w' hw')
    have HK := Lib.hid (fun w' hw' => im (tEnd l a) z (tEnd l a : Nat) (v - 1) w' q3 (by omega) (by omega) hw' rfl (by omega) (by omega))
    have HN := Lib.hid hN
    have hv1 : (v == 1) = false := by simp; omega
    have hv2 : 2 ≤ v := by omega
    generalize kidsD (docT l f) (tEnd l) (tEnd l a) (m + 1) = K at *
    generalize docT l f a = d at *
    generalize tEnd l a = z' at *
    have HB : Hid (Below w.heap.size w w) := Lib.hid (Below.refl _ _)
    have hz : w.heap.size ≤ w.heap.size := Nat.le_refl _
    clear hN ih hT q3 hv im hva
    go_enter Tryz.func106, Tryz.ntmps106
    go_upto_region 5 with (first
      | (go_at_call 62; (fail_if_success have z := S0); refine (HI.out _ HN.out).mono ?_; rintro e w1 ⟨A_d, c_d, rfl, hn, hB⟩; have HV_d := Lib.hid (hn.less hz); have HN := Lib.hid (HN.out.past hB); have HB := Lib.hid (HB.out.trans (hB.mono hz)); have hz := Nat.le_trans hz hB.size; clear hn hB; have S0 := Lib.hid True.intro))
    have hal : Below w1.heap.size w1 (w1.alloc (.cells #[.int .i64 2, .string .empty, .int .i64 0] 157)) := (Below.refl _ _).alloc (Nat.le_refl _) _
    have hlit : NdF w1.heap.size (w1.alloc (.cells #[.int .i64 2, .string .empty, .int .i64 0] 157)) (some ⟨w1.heap.size, 0, none⟩) (opN 2) := NdF.lit w1 ⟨2, .empty, 0⟩ (by simp [maxLen])
    refine rm_named (fun wy => NdF w.heap.size wy (some ⟨w1.heap.size, 0, none⟩) (opN 2) ∧ NdF w.heap.size wy A_d d ∧ Nds wy wy.heap.size A l ∧ Below w.heap.size w wy) ⟨hlit.less hz, HV_d.out.past hal, HN.out.past hal, HB.out.trans (hal.mono hz)⟩ ?_
    clear hal hlit HV_d HN HB
    rintro wb ⟨h1, h2, h3, h4⟩
    have HV_bl := Lib.hid h1; have HV_d := Lib.hid h2; have HN := Lib.hid h3; have HB := Lib.hid h4
    have hz := h4.size
    clear h1 h2 h3 h4
    have hone : (opN 2).length = 1 := rfl
    go_wp2_with (first
      | (go_at_call 101; (fail_if_success have z := T0); refine (rword_any ⟨#[44]⟩ (by decide) _).mono ?_; rintro e w3 ⟨A_X, c_X, rfl, hn, hB⟩; have HV_X := Lib.hid (hn.less hz); have HN := Lib.hid (HN.out.past hB); have HV_d := Lib.hid (HV_d.out.past hB); have HV_bl := Lib.hid (HV_bl.out.past hB); have HB := Lib.hid (HB.out.trans (hB.mono hz)); have hz := Nat.le_trans hz hB.size; clear hn hB; have T0 := Lib.hid True.intro)
      | (go_at_call 105; (fail_if_success have z := T1); have z := T0; clear z; refine (rtwo_any _ _ _ _ _ _ _ HV_d.out.1 HV_X.out.1 (by (repeat (first | rw [bothN_len] | rw [wordN_len] | rw [opN_len] | rw [deepN_len] | rw [groupN_len])); omega)).mono ?_; rintro e w4 ⟨A_Y, c_Y, rfl, hn, hB⟩; have HV_Y := Lib.hid (hn.less hz); have HN := Lib.hid (HN.out.past hB); have HV_bl := Lib.hid (HV_bl.out.past hB); have HB := Lib.hid (HB.out.trans (hB.mono hz)); have hz := Nat.le_trans hz hB.size; clear hn hB; have T1 := Lib.hid True.intro)
      | (go_at_call 61; (fail_if_success have z := T2); have z := T1; clear z; refine (HE.out _ HN.out).mono ?_; rintro e w5 ⟨rfl, hB⟩; have HN := Lib.hid (HN.out.past hB); have HV_bl := Lib.hid (HV_bl.out.past hB); have HV_Y := Lib.hid (HV_Y.out.past hB); have HB := Lib.hid (HB.out.trans (hB.mono hz)); have hz := Nat.le_trans hz hB.size; clear hB; have T2 := Lib.hid True.intro)
      | (go_at_call 106; (fail_if_success have z := T3); have z := T2; clear z; refine (HK.out _ HN.out).mono ?_; rintro e w6 ⟨A_K, c_K, rfl, hn, hB⟩; have HV_K := Lib.hid (hn.less hz); have HN := Lib.hid (HN.out.past hB); have HV_bl := Lib.hid (HV_bl.out.past hB); have HV_Y := Lib.hid (HV_Y.out.past hB); have HB := Lib.hid (HB.out.trans (hB.mono hz)); have hz := Nat.le_trans hz hB.size; clear hn hB; have T3 := Lib.hid True.intro)
      | (go_at_call 105; (fail_if_success have z := T4); have z := T3; clear z; refine (rtwo_any _ _ _ _ _ _ _ HV_bl.out.1 HV_K.out.1 (by (repeat (first | rw [bothN_len] | rw [wordN_len] | rw [opN_len] | rw [deepN_len] | rw [groupN_len])); omega)).mono ?_; rintro e w7 ⟨A_V, c_V, rfl, hn, hB⟩; have HV_V := Lib.hid (hn.less hz); have HN := Lib.hid (HN.out.past hB); have HV_Y := Lib.hid (HV_Y.out.past hB); have HB := Lib.hid (HB.out.trans (hB.mono hz)); have hz := Nat.le_trans hz hB.size; clear hn hB; have T4 := Lib.hid True.intro)
      | (go_at_call 105; (fail_if_success have z := T5); have z := T4; clear z; refine (rtwo_any _ _ _ _ _ _ _ HV_Y.out.1 HV_V.out.1 (by (repeat (first | rw [bothN_len] | rw [wordN_len] | rw [opN_len] | rw [deepN_len] | rw [groupN_len])); omega)).mono ?_; rintro e w8 ⟨A_Q, c_Q, rfl, hn, hB⟩; have HV_Q := Lib.hid (hn.less hz); have HN := Lib.hid (HN.out.past hB); have HB := Lib.hid (HB.out.trans (hB.mono hz)); have hz := Nat.le_trans hz hB.size; clear hn hB; have T5 := Lib.hid True.intro))
    go_ret
    exact ⟨A_Q, c_Q, rfl, HV_Q.out, HB.out⟩
end Go.Proofs.YtddfdmopaeghnacGreatDoor
