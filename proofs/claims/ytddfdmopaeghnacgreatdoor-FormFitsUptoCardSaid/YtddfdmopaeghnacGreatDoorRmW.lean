/- Walks of the reference's word, two, under, Bound, Dec. Conditions: the slices lie below the call's own blocks; not more than 10000 nodes; the number has at most six digits. -/
import Derived.Test.YtddfdmopaeghnacGreatDoorMkW
import Derived.Test.YtddfdmopaeghnacGreatDoorFltP
import Derived.Deep.Cut
namespace Go.Proofs.YtddfdmopaeghnacGreatDoor
open Go.RowKit

theorem run_slice_strM {P : Program} (w : World) (t : TypeId) (s : ByteArray) (ht : P.underlying t = some .string) (l h : Int) (h0 : 0 ≤ l) (h1 : l ≤ h) (h2 : h ≤ s.size) :
    (Instr.slice t (.string s) (some (.int .i64 l)) (some (.int .i64 h)) none).run P w = .ok (.string (s.extract l.toNat h.toNat)) w := by
  have eh : (h.toNat : Int) = h := Int.toNat_of_nonneg (by omega)
  simp [Instr.slice, run_underlying ht, Instr.sliceBounds, run_sliceBound, *, (by omega : 0 ≤ h)]

set_option maxHeartbeats 1000000 in
theorem rword_any (s : ByteArray) (hs : s.size ≤ maxLen) (w : World) : Calls Tryz.prog 101 #[.string s] w (NdTo (wordN s) w) := by
  have HL := Lib.hid (NdF.lit w ⟨1, s, 0⟩ hs)
  clear hs
  go_enter Tryz.func101, Tryz.ntmps101
  go_wp2
  go_ret
  exact ⟨_, _, rfl, HL.out, (by repeat (first | exact Below.refl _ _ | assumption | apply Below.drew | refine below_drewN ?_ _ | apply Below.setCell _ (by first | omega | (simp; done) | (simp; omega)) | apply Below.alloc _ (by first | omega | (simp; done) | (simp; omega))))⟩

theorem below_appM {w w' w0 : World} {base : Nat} {e : TypeId} {sz n : Nat} {v : Value} {xs : List Value} (hb : Below base w0 w) (ho : w.ownsRow base e sz v n xs) (hg : w.grownBy w' v.ownBlock) (hB : base ≤ w.heap.size) : Below base w0 w' :=
  hb.grown hg hB (fun k hk => (ho.lt k hk).1)

set_option maxRecDepth 100000 in
set_option maxHeartbeats 1000000 in
theorem rtwo_any (a b : List Nd) (A B : Option Addr) (c d : Nat) (w : World) (ha : Nds w w.heap.size A a) (hb : Nds w w.heap.size B b) (hsz : a.length + b.length ≤ 10000) :
    Calls Tryz.prog 105 #[.slice A a.length c, .slice B b.length d] w (NdTo (bothN a b) w) := by
  obtain ⟨i0, hi0, hz0, hz1, hz2⟩ := info_parts node_info
  have HA := Lib.hid (ha.1.alloc (.cells #[.int .i64 6, .string .empty, .int .i64 0] 157))
  have HB := Lib.hid hb
  have HT : Hid (∀ z ∈ bothN a b, z.text.size ≤ maxLen) := Lib.hid (by
    intro z hz
    simp only [bothN, List.mem_cons, List.mem_append] at hz
    rcases hz with rfl | hz | hz
    · simp [maxLen]
    · exact ha.2.2 _ hz
    · exact hb.2.2 _ hz)
  have H0 := Lib.hid (World.ownsRow_lit (base := w.heap.size) (e := 157) (size := 3) w #[.int .i64 6, .string .empty, .int .i64 0] 1 (Nat.le_refl _) (by simp [maxLen]) (by simp))
  have HAL : Hid (Below w.heap.size w (w.alloc (.cells #[.int .i64 6, .string .empty, .int .i64 0] 157))) := Lib.hid ((Below.refl _ _).alloc (Nat.le_refl _) _)
  clear ha hb
  go_enter Tryz.func105, Tryz.ntmps105
  go_upto_region 3 with (at_builtin; refine wpList_app _ rfl (.tmp 8) (.tmp 9) _ rfl w.heap.size 157 i0 _ 3 32 Tryz.underlying26 hi0 hz0 hz1 hz2 rfl (by omega) _ 1 _ rfl H0.out _ A a.length c _ rfl HA.out (nd_one a) (by simp only [maxLen]; omega) (by omega) (by simp) ?_; intro v7 w7 hown7 hg7 hat7; clear hat7; obtain ⟨A7, c7, hv7⟩ := own_slice hown7; subst hv7; have H7 := Lib.hid hown7; have HG7 := Lib.hid hg7; clear hown7 hg7)
  have HB7 := Lib.hid (below_appM HAL.out H0.out HG7.out (by simp))
  have hz7 := HB7.out.size
  have HBB := Lib.hid (HB.out.past HB7.out).1
  clear HG7
  go_wp2_with (at_builtin; refine wpList_app _ rfl (.tmp 11) (.tmp 12) _ rfl w.heap.size 157 i0 _ 3 32 Tryz.underlying26 hi0 hz0 hz1 hz2 rfl (by omega) _ (1 + a.length) _ rfl H7.out _ B b.length d _ rfl HBB.out (nd_one b) (by simp only [maxLen]; omega) (by omega) (by omega) ?_; intro v8 w8 hown8 hg8 hat8; clear hat8; obtain ⟨A8, c8, hv8⟩ := own_slice hown8; subst hv8; have H8 := Lib.hid hown8; have HG8 := Lib.hid hg8; clear hown8 hg8)
  go_ret
  have hl : (bothN a b).length = 1 + a.length + b.length := by rw [bothN_len]; omega
  refine ⟨A8, c8, by rw [hl]; rfl, NdF.own (n := 1 + a.length + b.length) (c := c8) ?_ hl.symm (by rw [hl]; simp only [maxLen]; omega) HT.out, below_appM HB7.out H7.out HG8.out hz7⟩
  have h8 := H8.out
  simp only [bothN, List.flatMap_cons, List.flatMap_append] 
  simpa [ndCells] using h8

set_option maxHeartbeats 1000000 in
theorem rbound_any (po pn ko kn : Int) (pt kt : ByteArray) (sec : Bool) (w : World) :
    Calls Tryz.prog 155 #[.agg #[.int .i64 po, .string pt, .int .i64 pn], .agg #[.int .i64 ko, .string kt, .int .i64 kn], .bool sec] w (Ret w (.bool (boundF po ko sec))) := by
  by_cases h6 : po = 6
  · subst h6
    by_cases k5 : ko = 5
    · subst k5
      rw [show boundF 6 5 sec = true by cases sec <;> rfl]
      go_enter Tryz.func155, Tryz.ntmps155
      go_wp2
      go_ret
      exact ⟨rfl, (by repeat (first | exact Below.refl _ _ | assumption | apply Below.drew | refine below_drewN ?_ _ | apply Below.setCell _ (by first | omega | (simp; done) | (simp; omega)) | apply Below.alloc _ (by first | omega | (simp; done) | (simp; omega))))⟩
    · have k5b : (ko == 5) = false := by simpa using k5
      by_cases k6 : ko = 6
      · subst k6
        rw [show boundF 6 6 sec = sec by cases sec <;> rfl]
        cases sec
        · go_enter Tryz.func155, Tryz.ntmps155
          go_wp2
          go_ret
          exact ⟨rfl, (by repeat (first | exact Below.refl _ _ | assumption | apply Below.drew | refine below_drewN ?_ _ | apply Below.setCell _ (by first | omega | (simp; done) | (simp; omega)) | apply Below.alloc _ (by first | omega | (simp; done) | (simp; omega))))⟩
        · go_enter Tryz.func155, Tryz.ntmps155
          go_wp2
          go_ret
          exact ⟨rfl, (by repeat (first | exact Below.refl _ _ | assumption | apply Below.drew | refine below_drewN ?_ _ | apply Below.setCell _ (by first | omega | (simp; done) | (simp; omega)) | apply Below.alloc _ (by first | omega | (simp; done) | (simp; omega))))⟩
      · have k6b : (ko == 6) = false := by simpa using k6
        rw [show boundF 6 ko sec = false by simp [boundF, k5, k6]]
        clear k5 k6
        cases sec
        · go_enter Tryz.func155, Tryz.ntmps155
          go_wp2
          go_ret
          exact ⟨rfl, (by repeat (first | exact Below.refl _ _ | assumption | apply Below.drew | refine below_drewN ?_ _ | apply Below.setCell _ (by first | omega | (simp; done) | (simp; omega)) | apply Below.alloc _ (by first | omega | (simp; done) | (simp; omega))))⟩
        · go_enter Tryz.func155, Tryz.ntmps155
          go_wp2
          go_ret
          exact ⟨rfl, (by repeat (first | exact Below.refl _ _ | assumption | apply Below.drew | refine below_drewN ?_ _ | apply Below.setCell _ (by first | omega | (simp; done) | (simp; omega)) | apply Below.alloc _ (by first | omega | (simp; done) | (simp; omega))))⟩
  · by_cases h5 : po = 5
    · subst h5
      by_cases k5 : ko = 5
      · subst k5
        rw [show boundF 5 5 sec = sec by cases sec <;> rfl]
        cases sec
        · go_enter Tryz.func155, Tryz.ntmps155
          go_wp2
          go_ret
          exact ⟨rfl, (by repeat (first | exact Below.refl _ _ | assumption | apply Below.drew | refine below_drewN ?_ _ | apply Below.setCell _ (by first | omega | (simp; done) | (simp; omega)) | apply Below.alloc _ (by first | omega | (simp; done) | (simp; omega))))⟩
        · go_enter Tryz.func155, Tryz.ntmps155
          go_wp2
          go_ret
          exact ⟨rfl, (by repeat (first | exact Below.refl _ _ | assumption | apply Below.drew | refine below_drewN ?_ _ | apply Below.setCell _ (by first | omega | (simp; done) | (simp; omega)) | apply Below.alloc _ (by first | omega | (simp; done) | (simp; omega))))⟩
      · have k5b : (ko == 5) = false := by simpa using k5
        rw [show boundF 5 ko sec = false by simp [boundF, k5]]
        clear k5 h6
        cases sec
        · go_enter Tryz.func155, Tryz.ntmps155
          go_wp2
          go_ret
          exact ⟨rfl, (by repeat (first | exact Below.refl _ _ | assumption | apply Below.drew | refine below_drewN ?_ _ | apply Below.setCell _ (by first | omega | (simp; done) | (simp; omega)) | apply Below.alloc _ (by first | omega | (simp; done) | (simp; omega))))⟩
        · go_enter Tryz.func155, Tryz.ntmps155
          go_wp2
          go_ret
          exact ⟨rfl, (by repeat (first | exact Below.refl _ _ | assumption | apply Below.drew | refine below_drewN ?_ _ | apply Below.setCell _ (by first | omega | (simp; done) | (simp; omega)) | apply Below.alloc _ (by first | omega | (simp; done) | (simp; omega))))⟩
    · have h5b : (po == 5) = false := by simpa using h5
      have h6b : (po == 6) = false := by simpa using h6
      rw [show boundF po ko sec = false by simp [boundF, h5, h6]]
      clear h5 h6
      cases sec
      · go_enter Tryz.func155, Tryz.ntmps155
        go_wp2
        go_ret
        exact ⟨rfl, (by repeat (first | exact Below.refl _ _ | assumption | apply Below.drew | refine below_drewN ?_ _ | apply Below.setCell _ (by first | omega | (simp; done) | (simp; omega)) | apply Below.alloc _ (by first | omega | (simp; done) | (simp; omega))))⟩
      · go_enter Tryz.func155, Tryz.ntmps155
        go_wp2
        go_ret
        exact ⟨rfl, (by repeat (first | exact Below.refl _ _ | assumption | apply Below.drew | refine below_drewN ?_ _ | apply Below.setCell _ (by first | omega | (simp; done) | (simp; omega)) | apply Below.alloc _ (by first | omega | (simp; done) | (simp; omega))))⟩

theorem own_litM {w : World} {base n g : Nat} {e : TypeId} {size : Nat} (cs : Array Value) (hg : w.heap.size = g) (hb : base ≤ g) (hm : n ≤ maxLen) (hs : cs.size = n * size) :
    (w.alloc (.cells cs e)).ownsRow base e size (.slice (some ⟨g, 0, none⟩) n n) n cs.toList := by
  subst hg
  exact World.ownsRow_lit w cs n hb hm hs
set_option maxRecDepth 100000 in
set_option maxHeartbeats 1000000 in
theorem runder_any (op n : Int) (t : ByteArray) (ht : t.size ≤ maxLen) (a : List Nd) (A : Option Addr) (c : Nat) (w : World) (ha : Nds w w.heap.size A a) (hsz : a.length ≤ 10000) :
    Calls Tryz.prog 104 #[.agg #[.int .i64 op, .string t, .int .i64 n], .slice A a.length c] w (NdTo (⟨op, t, n⟩ :: a) w) := by
  obtain ⟨i0, hi0, hz0, hz1, hz2⟩ := info_parts node_info
  have hB1 : Below w.heap.size w (w.alloc (.cells #[.int .i64 op, .string t, .int .i64 n] 157)) := (Below.refl _ _).alloc (Nat.le_refl _) _
  have HA := Lib.hid ((ha.past hB1).1.alloc (.cells #[.int .i64 op, .string t, .int .i64 n] 157))
  have HT : Hid (∀ z ∈ (⟨op, t, n⟩ :: a : List Nd), z.text.size ≤ maxLen) := Lib.hid (by
    intro z hz
    simp only [List.mem_cons] at hz
    rcases hz with rfl | hz
    · exact ht
    · exact ha.2.2 _ hz)
  have H0 := Lib.hid (own_litM (w := w.alloc (.cells #[.int .i64 op, .string t, .int .i64 n] 157)) (base := w.heap.size) (e := 157) (size := 3) (g := w.heap.size + 1) (n := 1) #[.int .i64 op, .string t, .int .i64 n] (by simp) (by omega) (by simp [maxLen]) (by simp))
  have HAL := Lib.hid (hB1.alloc hB1.size (.cells #[.int .i64 op, .string t, .int .i64 n] 157))
  clear ha hB1
  go_enter Tryz.func104, Tryz.ntmps104
  go_wp2_with (at_builtin; refine wpList_app _ rfl (.tmp 8) (.tmp 9) _ rfl w.heap.size 157 i0 _ 3 32 Tryz.underlying26 hi0 hz0 hz1 hz2 rfl (by omega) _ 1 _ rfl H0.out _ A a.length c _ rfl HA.out (nd_one a) (by simp only [maxLen]; omega) (by omega) (by simp; omega) ?_; intro v7 w7 hown7 hg7 hat7; clear hat7; obtain ⟨A7, c7, hv7⟩ := own_slice hown7; subst hv7; have H7 := Lib.hid hown7; have HG7 := Lib.hid hg7; clear hown7 hg7)
  go_ret
  refine ⟨A7, c7, by rw [List.length_cons, Nat.add_comm]; rfl, NdF.own (n := 1 + a.length) (c := c7) ?_ (by rw [List.length_cons, Nat.add_comm]) (by rw [List.length_cons]; simp only [maxLen]; omega) HT.out, below_appM HAL.out H0.out HG7.out (by simp; omega)⟩
  have h7 := H7.out
  rw [List.flatMap_cons]
  simpa [ndCells] using h7

theorem dec_step {q : Nat} (h : ¬ q < 10) (t : ByteArray) : (⟨(Lib.decDigits q).toArray⟩ : ByteArray) ++ t = ⟨(Lib.decDigits (q / 10)).toArray⟩ ++ (⟨#[UInt8.ofNat (48 + q % 10)]⟩ ++ t) := by
  apply ByteArray.ext
  apply Array.toList_inj.1
  rw [Lib.decDigits, dif_neg h]
  simp [ByteArray.data_append]
theorem dig_ext {d : Nat} (h : d < 10) : (⟨#[48, 49, 50, 51, 52, 53, 54, 55, 56, 57]⟩ : ByteArray).extract d (d + 1) = ⟨#[UInt8.ofNat (48 + d)]⟩ := by
  have : d = 0 ∨ d = 1 ∨ d = 2 ∨ d = 3 ∨ d = 4 ∨ d = 5 ∨ d = 6 ∨ d = 7 ∨ d = 8 ∨ d = 9 := by omega
  rcases this with rfl | rfl | rfl | rfl | rfl | rfl | rfl | rfl | rfl | rfl <;> decide +kernel
theorem dec_size {u q : Nat} (hu : u ≤ 999999) {t : ByteArray} (h : (⟨(Lib.decDigits u).toArray⟩ : ByteArray) = ⟨(Lib.decDigits q).toArray⟩ ++ t) : t.size ≤ 5 := by
  have h1 := congrArg ByteArray.size h
  have h2 := (itoa_len6 (n := (u : Int)) (by omega) (by omega)).2
  rw [Lib.itoa_nonneg] at h2
  have h3 := Lib.nDigits_pos q
  rw [← Lib.decDigits_length] at h3
  rw [ByteArray.size_append] at h1
  simp only [ByteArray.size, List.size_toArray] at h1 ⊢
  omega

set_option maxRecDepth 100000 in
set_option maxHeartbeats 1000000 in
theorem rdec_any (u : Nat) (hu : u ≤ 999999) (w : World) : Calls Tryz.prog 102 #[.int .i64 (u : Nat)] w fun e w' => e = .returned (.string ⟨(Lib.itoa (u : Nat)).toArray⟩) ∧ w = w' := by
  rw [Lib.itoa_nonneg]
  have HSZ := Lib.hid (fun (q : Nat) (t : ByteArray) h => dec_size (u := u) (q := q) (t := t) hu h)
  have H9 : Hid (∀ (d : Nat) (w' : World), d < 10 → (Instr.slice 9 (.string ⟨#[48, 49, 50, 51, 52, 53, 54, 55, 56, 57]⟩) (some (.int .i64 (d : Nat))) (some (.int .i64 ((d : Int) + 1))) none).run Tryz.prog w' = .ok (.string ⟨#[UInt8.ofNat (48 + d)]⟩) w') := Lib.hid (fun d w' hd => by
    have h := run_slice_strM (P := Tryz.prog) w' 9 ⟨#[48, 49, 50, 51, 52, 53, 54, 55, 56, 57]⟩ Tryz.underlying9 (d : Int) ((d : Int) + 1) (by omega) (by omega) (by show (d : Int) + 1 ≤ 10; omega)
    rw [h, show ((d : Int)).toNat = d by omega, show ((d : Int) + 1).toNat = d + 1 by omega, dig_ext hd])
  go_enter Tryz.func102, Tryz.ntmps102
  go_wp2
  go_loop [0, 3] (fun n s => ∃ (q : Nat) (t : ByteArray), n = .int .i64 q ∧ s = .string t ∧ q ≤ 999999 ∧ Hid ((⟨(Lib.decDigits u).toArray⟩ : ByteArray) = ⟨(Lib.decDigits q).toArray⟩ ++ t)) (fun n _ => (intOf n).toNat)
  case atStart => exact ⟨u, .empty, rfl, rfl, hu, Lib.hid (by simp)⟩
  case round =>
    obtain ⟨q, t, rfl, rfl, hq, HQ⟩ := hrel
    have hts := HSZ.out q t HQ.out
    by_cases h10 : q < 10
    · obtain ⟨cc, hcc⟩ : ∃ cc, UInt8.ofNat (48 + q) = cc := ⟨_, rfl⟩
      have hsl := fun w' => H9.out q w' h10
      rw [hcc] at hsl
      have HCC := Lib.hid hcc
      clear hcc
      have hcat : ∀ w', (Op.stringOp .add ⟨#[cc]⟩ t).run Tryz.prog w' = .ok (.string (⟨#[cc]⟩ ++ t)) w' := fun w' => run_string_add_sum w' _ t (by show 1 + t.size ≤ _; omega)
      go_wp2
      go_ret
      refine ⟨?_, rfl⟩
      rw [HQ.out, Lib.decDigits_one h10, HCC.out]; rfl
    · have h9 : 9 < q := by omega
      obtain ⟨d, hd⟩ : ∃ d, q % 10 = d := ⟨_, rfl⟩
      have hd10 : d < 10 := by omega
      have hmod : (q : Int) % 10 = (d : Int) := by omega
      have HST := Lib.hid (dec_step h10 t)
      rw [hd] at HST
      have hsl := fun w' => H9.out d w' hd10
      obtain ⟨cc, hcc⟩ : ∃ cc, UInt8.ofNat (48 + d) = cc := ⟨_, rfl⟩
      rw [hcc] at hsl HST
      clear hcc
      have hcat : ∀ w', (Op.stringOp .add ⟨#[cc]⟩ t).run Tryz.prog w' = .ok (.string (⟨#[cc]⟩ ++ t)) w' := fun w' => run_string_add_sum w' _ t (by show 1 + t.size ≤ _; omega)
      clear hd
      go_wp2
      go_round
      case rel => exact ⟨q / 10, ⟨#[cc]⟩ ++ t, by go_num, rfl, by omega, Lib.hid (by rw [HQ.out, HST.out])⟩
      case measure => simp [intOf]; omega
end Go.Proofs.YtddfdmopaeghnacGreatDoor
