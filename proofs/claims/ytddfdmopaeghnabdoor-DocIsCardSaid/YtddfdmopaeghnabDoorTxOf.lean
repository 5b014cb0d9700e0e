/- Walk of the reference's TextOf. Condition: the slice of nodes lies below the call's own blocks and is a doc that may be. -/
import Derived.Test.YtddfdmopaeghnabDoorWrW
import Derived.Test.YtddfdmopaeghnabDoorRefC
import Derived.Deep.RegionWith
namespace Go.Proofs.YtddfdmopaeghnabDoor
open Go.RowKit

theorem Doc.tx2 {l : List Nd} {x : D} (hd : Doc l x) {i : Nat} (hi : i < l.length) {op n : Int} {t : ByteArray} (hnd : l[i] = Nd.mk op t n) (h : op = 6 ∨ op = 9) :
    ∃ q : Nat, i + 1 < l.length ∧ q < l.length ∧ i + 1 < q ∧ endAt l (i + 1) = q ∧ sB (docAt l i).text = sB (sgOpen ⟨op, t, n⟩) ++ sB (docAt l (i + 1)).text ++ sB (sgMid ⟨op, t, n⟩) ++ sB (docAt l q).text ++ sB (sgEnd ⟨op, t, n⟩) := by
  rcases hd.parts_ hi with ⟨h1, _⟩ | ⟨h1, _⟩ | ⟨h1, h2, h3, h4⟩
  · rw [hnd] at h1; rcases h with rfl | rfl <;> simp [parts] at h1
  · rw [hnd] at h1; rcases h with rfl | rfl <;> simp [parts] at h1
  · refine ⟨_, h2, h3, by have := (docAt l (i + 1)).sz_pos; omega, rfl, ?_⟩
    rw [h4, hnd, D.text, sB_app, sB_app, sB_app, sB_app]
theorem Doc.tx1 {l : List Nd} {x : D} (hd : Doc l x) {i : Nat} (hi : i < l.length) {op n : Int} {t : ByteArray} (hnd : l[i] = Nd.mk op t n) (h : op = 7 ∨ op = 8) :
    i + 1 < l.length ∧ sB (docAt l i).text = sB (sgOpen ⟨op, t, n⟩) ++ sB (docAt l (i + 1)).text ++ sB (sgEnd ⟨op, t, n⟩) := by
  rcases hd.parts_ hi with ⟨h1, _⟩ | ⟨h1, h2, h3⟩ | ⟨h1, _⟩
  · rw [hnd] at h1; rcases h with rfl | rfl <;> simp [parts] at h1
  · refine ⟨h2, ?_⟩
    rw [h3, hnd, D.text, sB_app, sB_app]
  · rw [hnd] at h1; rcases h with rfl | rfl <;> simp [parts] at h1
theorem Doc.tx0 {l : List Nd} {x : D} (hd : Doc l x) {i : Nat} (hi : i < l.length) {op n : Int} {t : ByteArray} (hnd : l[i] = Nd.mk op t n) (h : parts op = 0) :
    sB (docAt l i).text = sB (sgOpen ⟨op, t, n⟩) ++ sB (sgEnd ⟨op, t, n⟩) := by
  rcases hd.parts_ hi with ⟨h1, h2⟩ | ⟨h1, _⟩ | ⟨h1, _⟩
  · rw [h2, hnd, D.text, sB_app]
  · rw [hnd, h] at h1; simp at h1
  · rw [hnd, h] at h1; simp at h1
theorem Doc.tx_size {l : List Nd} {x : D} (hd : Doc l x) {i : Nat} (hi : i < l.length) : (sB (docAt l i).text).size ≤ 10000 := by
  have h1 := hd.text_at hi
  have h2 := hd.end_le hi
  have h3 := hd.len
  rw [sB_size]
  omega

theorem run_slice_str {P : Program} (w : World) (t : TypeId) (s : ByteArray) (ht : P.underlying t = some .string) (l h : Int) (h0 : 0 ≤ l) (h1 : l ≤ h) (h2 : h ≤ s.size) :
    (Instr.slice t (.string s) (some (.int .i64 l)) (some (.int .i64 h)) none).run P w = .ok (.string (s.extract l.toNat h.toNat)) w := by
  have eh : (h.toNat : Int) = h := Int.toNat_of_nonneg (by omega)
  simp [Instr.slice, run_underlying ht, Instr.sliceBounds, run_sliceBound, *, (by omega : 0 ≤ h)]

set_option maxRecDepth 100000 in
set_option maxHeartbeats 4000000 in
theorem textof_any {l : List Nd} {x : D} (hd : Doc l x) (A : Option Addr) (c : Nat) : ∀ (f i : Nat) (v : Int) (w : World), Nds w w.heap.size A l → v = i → i < l.length → l.length ≤ i + f →
    Calls Tryd.prog 25 #[.slice A l.length c, .int .i64 v] w (Ret w (.string (sB (docAt l i).text))) := by
  have h400 := hd.len
  have HD := Lib.hid hd; clear hd
  intro f
  induction f with
  | zero => intro i v w hl hv hi hf; omega
  | succ f ih =>
    intro i v w hl hv hi hf
    subst hv
    have HI := Lib.hid ih; clear ih
    obtain ⟨b, off, op, t, n, rfl, hb, hnd, hts, d1, d2, d3⟩ := hl.node (Below.refl _ _) hi
    have HN := Lib.hid hl; clear hl
    have hone := HD.out.one _ (List.getElem_mem hi)
    rw [hnd] at hone
    rcases nd_cases hone with ⟨t', he, ht⟩ | he | he | he | he | he | ⟨n', hn, he⟩ | he | he <;> cases he <;> clear hone
    case succ.inr.inr.inr.inr.inr.inl.refl =>
      obtain ⟨q, hi1, hq, hiq, hqe, hle⟩ := HD.out.tx2 hi hnd (.inl rfl)
      have HC1 := Lib.hid (fun w' => HI.out (i + 1) ((i : Int) + 1) w')
      have HC2 := Lib.hid (fun w' => HI.out q (q : Int) w')
      have hce := fun w' hw => endof_doc HD.out (some ⟨b, off, none⟩) c w' hw (i := i + 1) (v := (i : Int) + 1) (by omega) hi1
      rw [hqe] at hce
      have HCE := Lib.hid hce; clear hce
      have s1 := HD.out.tx_size hi1
      have s2 := HD.out.tx_size hq
      rw [hle]
      clear hle
      generalize sB (docAt l (i + 1)).text = T1 at *
      generalize sB (docAt l q).text = T2 at *
      have hle : sB (sgOpen ⟨6, .empty, 0⟩) ++ T1 ++ sB (sgMid ⟨6, .empty, 0⟩) ++ T2 ++ sB (sgEnd ⟨6, .empty, 0⟩) = ⟨#[40]⟩ ++ T1 ++ T2 ++ ⟨#[41]⟩ := by
        show (⟨#[40]⟩ : ByteArray) ++ T1 ++ sB [] ++ T2 ++ ⟨#[41]⟩ = _
        rw [sB_nil]
      rw [hle]
      clear hle hnd hqe
      have k1 : IntKind.i64.wrap ((i : Int) + 1) = (i : Int) + 1 := IntWalk.i64_in _ (by omega)
      go_enter Tryd.func25, Tryd.ntmps25
      go_wp2_with (first
        | (go_at_call 25; (fail_if_success have hz := hB1); refine (HC1.out _ (HN.out.past (by repeat (first | exact Below.refl _ _ | assumption | apply Below.drew | refine below_drewN ?_ _ | apply Below.setCell _ (by first | omega | (simp; done) | (simp; omega)) | apply Below.alloc _ (by first | omega | (simp; done) | (simp; omega))))) (by omega) (by omega) (by omega)).mono ?_; rintro e w1 ⟨rfl, hB1⟩)
        | (go_at_call 27; refine (HCE.out _ ((HN.out.past (by repeat (first | exact Below.refl _ _ | assumption | apply Below.drew | refine below_drewN ?_ _ | apply Below.setCell _ (by first | omega | (simp; done) | (simp; omega)) | apply Below.alloc _ (by first | omega | (simp; done) | (simp; omega))))).past hB1)).mono ?_; rintro e w2 ⟨rfl, rfl⟩)
        | (go_at_call 25; refine (HC2.out _ ((HN.out.past (by repeat (first | exact Below.refl _ _ | assumption | apply Below.drew | refine below_drewN ?_ _ | apply Below.setCell _ (by first | omega | (simp; done) | (simp; omega)) | apply Below.alloc _ (by first | omega | (simp; done) | (simp; omega))))).past hB1) (by trivial) (by omega) (by omega)).mono ?_; rintro e w3 ⟨rfl, hB3⟩))
      go_ret
      exact ⟨rfl, Below.trans (by repeat (first | exact Below.refl _ _ | assumption | apply Below.drew | refine below_drewN ?_ _ | apply Below.setCell _ (by first | omega | (simp; done) | (simp; omega)) | apply Below.alloc _ (by first | omega | (simp; done) | (simp; omega)))) ((hB1.trans (hB3.mono hB1.size)).mono (by simp))⟩
    case succ.inr.inr.inr.inr.inr.inr.inr.inr.refl =>
      obtain ⟨q, hi1, hq, hiq, hqe, hle⟩ := HD.out.tx2 hi hnd (.inr rfl)
      have HC1 := Lib.hid (fun w' => HI.out (i + 1) ((i : Int) + 1) w')
      have HC2 := Lib.hid (fun w' => HI.out q (q : Int) w')
      have hce := fun w' hw => endof_doc HD.out (some ⟨b, off, none⟩) c w' hw (i := i + 1) (v := (i : Int) + 1) (by omega) hi1
      rw [hqe] at hce
      have HCE := Lib.hid hce; clear hce
      have s1 := HD.out.tx_size hi1
      have s2 := HD.out.tx_size hq
      rw [hle]
      clear hle
      generalize sB (docAt l (i + 1)).text = T1 at *
      generalize sB (docAt l q).text = T2 at *
      have hle : sB (sgOpen ⟨9, .empty, 0⟩) ++ T1 ++ sB (sgMid ⟨9, .empty, 0⟩) ++ T2 ++ sB (sgEnd ⟨9, .empty, 0⟩) = ⟨#[123]⟩ ++ T1 ++ ⟨#[124]⟩ ++ T2 ++ ⟨#[125]⟩ := rfl
      rw [hle]
      clear hle hnd hqe
      have k1 : IntKind.i64.wrap ((i : Int) + 1) = (i : Int) + 1 := IntWalk.i64_in _ (by omega)
      go_enter Tryd.func25, Tryd.ntmps25
      go_wp2_with (first
        | (go_at_call 25; (fail_if_success have hz := hB1); refine (HC1.out _ (HN.out.past (by repeat (first | exact Below.refl _ _ | assumption | apply Below.drew | refine below_drewN ?_ _ | apply Below.setCell _ (by first | omega | (simp; done) | (simp; omega)) | apply Below.alloc _ (by first | omega | (simp; done) | (simp; omega))))) (by omega) (by omega) (by omega)).mono ?_; rintro e w1 ⟨rfl, hB1⟩)
        | (go_at_call 27; refine (HCE.out _ ((HN.out.past (by repeat (first | exact Below.refl _ _ | assumption | apply Below.drew | refine below_drewN ?_ _ | apply Below.setCell _ (by first | omega | (simp; done) | (simp; omega)) | apply Below.alloc _ (by first | omega | (simp; done) | (simp; omega))))).past hB1)).mono ?_; rintro e w2 ⟨rfl, rfl⟩)
        | (go_at_call 25; refine (HC2.out _ ((HN.out.past (by repeat (first | exact Below.refl _ _ | assumption | apply Below.drew | refine below_drewN ?_ _ | apply Below.setCell _ (by first | omega | (simp; done) | (simp; omega)) | apply Below.alloc _ (by first | omega | (simp; done) | (simp; omega))))).past hB1) (by trivial) (by omega) (by omega)).mono ?_; rintro e w3 ⟨rfl, hB3⟩))
      go_ret
      exact ⟨rfl, Below.trans (by repeat (first | exact Below.refl _ _ | assumption | apply Below.drew | refine below_drewN ?_ _ | apply Below.setCell _ (by first | omega | (simp; done) | (simp; omega)) | apply Below.alloc _ (by first | omega | (simp; done) | (simp; omega)))) ((hB1.trans (hB3.mono hB1.size)).mono (by simp))⟩
    case succ.inr.inr.inr.inr.inr.inr.inr.inl.refl =>
      obtain ⟨hi1, hle⟩ := HD.out.tx1 hi hnd (.inr rfl)
      have HC1 := Lib.hid (fun w' => HI.out (i + 1) ((i : Int) + 1) w')
      have s1 := HD.out.tx_size hi1
      rw [hle]
      clear hle
      generalize sB (docAt l (i + 1)).text = T1 at *
      have hle : sB (sgOpen ⟨8, .empty, 0⟩) ++ T1 ++ sB (sgEnd ⟨8, .empty, 0⟩) = ⟨#[91]⟩ ++ T1 ++ ⟨#[93]⟩ := rfl
      rw [hle]
      clear hle hnd
      have k1 : IntKind.i64.wrap ((i : Int) + 1) = (i : Int) + 1 := IntWalk.i64_in _ (by omega)
      go_enter Tryd.func25, Tryd.ntmps25
      go_wp2_with (go_at_call 25; (fail_if_success have hz := hB1); refine (HC1.out _ (HN.out.past (by repeat (first | exact Below.refl _ _ | assumption | apply Below.drew | refine below_drewN ?_ _ | apply Below.setCell _ (by first | omega | (simp; done) | (simp; omega)) | apply Below.alloc _ (by first | omega | (simp; done) | (simp; omega))))) (by omega) (by omega) (by omega)).mono ?_; rintro e w1 ⟨rfl, hB1⟩)
      go_ret
      exact ⟨rfl, Below.trans (by repeat (first | exact Below.refl _ _ | assumption | apply Below.drew | refine below_drewN ?_ _ | apply Below.setCell _ (by first | omega | (simp; done) | (simp; omega)) | apply Below.alloc _ (by first | omega | (simp; done) | (simp; omega)))) (hB1.mono (by simp))⟩
    case succ.inr.inr.inr.inr.inr.inr.inl.refl =>
      obtain ⟨hi1, hle⟩ := HD.out.tx1 hi hnd (.inl rfl)
      have HC1 := Lib.hid (fun w' => HI.out (i + 1) ((i : Int) + 1) w')
      have s1 := HD.out.tx_size hi1
      rw [hle]
      clear hle
      generalize sB (docAt l (i + 1)).text = T1 at *
      have k1 : IntKind.i64.wrap ((i : Int) + 1) = (i : Int) + 1 := IntWalk.i64_in _ (by omega)
      have hdg : (⟨#[48, 49, 50, 51, 52, 53, 54, 55, 56]⟩ : ByteArray).extract n' (n' + 1) = sB [UInt8.ofNat (48 + n')] := by
        have : n' = 0 ∨ n' = 1 ∨ n' = 2 ∨ n' = 3 ∨ n' = 4 ∨ n' = 5 ∨ n' = 6 ∨ n' = 7 ∨ n' = 8 := by omega
        rcases this with rfl | rfl | rfl | rfl | rfl | rfl | rfl | rfl | rfl <;> decide +kernel
      have hle : sB (sgOpen ⟨7, .empty, (n' : Int)⟩) ++ T1 ++ sB (sgEnd ⟨7, .empty, (n' : Int)⟩) = (⟨#[48, 49, 50, 51, 52, 53, 54, 55, 56]⟩ : ByteArray).extract n' (n' + 1) ++ ⟨#[62]⟩ ++ T1 := by
        rw [hdg, show sB (sgEnd ⟨7, .empty, (n' : Int)⟩) = sB [] from rfl, sB_nil]
        congr 1
      rw [hle]
      have hez : ((⟨#[48, 49, 50, 51, 52, 53, 54, 55, 56]⟩ : ByteArray).extract n' (n' + 1)).size = 1 := by rw [hdg]; rfl
      clear hle hdg hnd
      have q0 : (0 : Int) ≤ (n' : Int) := by omega
      have q1 : (n' : Int) ≤ (n' : Int) + 1 := by omega
      have hsz9 : (⟨#[48, 49, 50, 51, 52, 53, 54, 55, 56]⟩ : ByteArray).size = 9 := rfl
      have q2 : (n' : Int) + 1 ≤ ((⟨#[48, 49, 50, 51, 52, 53, 54, 55, 56]⟩ : ByteArray).size : Int) := by rw [hsz9]; omega
      have q3 : IntKind.i64.wrap ((n' : Int) + 1) = (n' : Int) + 1 := IntWalk.i64_in _ (by omega)
      have q4 : ((n' : Int) + 1).toNat = n' + 1 := by omega
      have hcat : ∀ w', (Op.stringOp .add ((⟨#[48, 49, 50, 51, 52, 53, 54, 55, 56]⟩ : ByteArray).extract n' (n' + 1) ++ ⟨#[62]⟩) T1).run Tryd.prog w' = .ok (.string ((⟨#[48, 49, 50, 51, 52, 53, 54, 55, 56]⟩ : ByteArray).extract n' (n' + 1) ++ ⟨#[62]⟩ ++ T1)) w' := fun w' => run_string_add_sum w' _ T1 (by rw [ByteArray.size_append, hez]; show 1 + 1 + T1.size ≤ _; omega)
      have hcat0 : ∀ w', (Op.stringOp .add ((⟨#[48, 49, 50, 51, 52, 53, 54, 55, 56]⟩ : ByteArray).extract n' (n' + 1)) ⟨#[62]⟩).run Tryd.prog w' = .ok (.string ((⟨#[48, 49, 50, 51, 52, 53, 54, 55, 56]⟩ : ByteArray).extract n' (n' + 1) ++ ⟨#[62]⟩)) w' := fun w' => run_string_add_sum w' _ _ (by rw [hez]; show 1 + 1 ≤ _; omega)
      have hsl : ∀ w', (Instr.slice 9 (.string ⟨#[48, 49, 50, 51, 52, 53, 54, 55, 56]⟩) (some (.int .i64 (n' : Nat))) (some (.int .i64 ((n' : Int) + 1))) none).run Tryd.prog w' = .ok (.string ((⟨#[48, 49, 50, 51, 52, 53, 54, 55, 56]⟩ : ByteArray).extract n' (n' + 1))) w' := fun w' => (run_slice_str w' 9 _ Tryd.underlying9 _ _ q0 q1 q2).trans (by rw [q4]; rfl)
      go_enter Tryd.func25, Tryd.ntmps25
      go_wp2_with fail
      obtain ⟨wa, hwa⟩ : ∃ wa, wa = w.alloc (.cells #[.int .i64 7, .string .empty, .int .i64 (n' : Nat)] 51) := ⟨_, rfl⟩
      have hBa : Below w.heap.size w wa := by rw [hwa]; exact (Below.refl _ _).alloc (Nat.le_refl _) _
      have hza : wa.heap[w.heap.size]? = some (.cells #[.int .i64 7, .string .empty, .int .i64 (n' : Nat)] 51 (0, 0)) := by rw [hwa]; exact heap_new rfl
      have a2 : wa.cell? ⟨w.heap.size, 2, none⟩ = some (.int .i64 (n' : Nat)) := by rw [Lib.cell_of_heap hza]; rfl
      have hlt : w.heap.size < wa.heap.size := (Array.getElem?_eq_some_iff.1 hza).1
      rw [← hwa]
      clear hwa hza d1 d2 d3
      go_region_held3 (fun w' => w'.cell? ⟨w.heap.size, 2, none⟩ = some (.int .i64 (n' : Nat))) (first | exact a2 | exact (hBj.cell (p := ⟨w.heap.size, 2, none⟩) hlt).trans a2)
        (first | (go_at_call 25; refine (HC1.out _ (by repeat (first | with_reducible exact HN.out.past hBa | with_reducible apply Nds.drew)) (by omega) (by omega) (by omega)).mono ?_; rintro e w1 ⟨rfl, hBj⟩))
      go_wp2
      go_ret
      exact ⟨rfl, hBa.trans ((past_drew hBj).mono hBa.size)⟩
    all_goals
      rw [HD.out.tx0 hi hnd (by decide)]
      clear hnd
    case succ.inl.refl =>
      rw [show sB (sgOpen ⟨1, t, 0⟩) ++ sB (sgEnd ⟨1, t, 0⟩) = ⟨#[34]⟩ ++ t ++ ⟨#[34]⟩ from by
        apply ByteArray.ext
        apply Array.ext'
        simp [sB, sgOpen, sgEnd, ByteArray.data_append]]
      go_enter Tryd.func25, Tryd.ntmps25
      go_wp2
      go_ret
      exact ⟨rfl, (by repeat (first | exact Below.refl _ _ | assumption | apply Below.drew | refine below_drewN ?_ _ | apply Below.setCell _ (by first | omega | (simp; done) | (simp; omega)) | apply Below.alloc _ (by first | omega | (simp; done) | (simp; omega))))⟩
    all_goals
      go_enter Tryd.func25, Tryd.ntmps25
      go_wp2
      go_ret
      exact ⟨by rfl, (by repeat (first | exact Below.refl _ _ | assumption | apply Below.drew | refine below_drewN ?_ _ | apply Below.setCell _ (by first | omega | (simp; done) | (simp; omega)) | apply Below.alloc _ (by first | omega | (simp; done) | (simp; omega))))⟩
end Go.Proofs.YtddfdmopaeghnabDoor
