/- Walk of the reference's FlatOf. Condition: the slice of nodes lies below the call's own blocks and is a doc that may be. -/
import Derived.Test.YtddfdmopaeghnacDoorRefW
import Derived.Test.YtddfdmopaeghnacDoorFlatW
namespace Go.Proofs.YtddfdmopaeghnacDoor
open Go.RowKit

theorem endof_doc {l : List Nd} {x : D} (hd : Doc l x) (A : Option Addr) (c : Nat) (w : World) (hl : Nds w w.heap.size A l) {i : Nat} {v : Int} (hv : v = i) (hi : i < l.length) :
    Calls Tryd.prog 17 #[.slice A l.length c, .int .i64 v] w fun e w' => e = .returned (.int .i64 (endAt l i : Nat)) ∧ w = w' := by
  have h := endof_V l A c w hl hv.symm (by omega)
  rw [hd.endV_ hi] at h
  exact h

theorem Doc.ops {l : List Nd} {x : D} (hd : Doc l x) {i : Nat} (hi : i < l.length) {op n : Int} {t : ByteArray} (hnd : l[i] = Nd.mk op t n) : op = 1 ∨ op = 2 ∨ op = 3 ∨ op = 4 ∨ op = 5 ∨ op = 6 ∨ op = 7 ∨ op = 8 ∨ op = 9 := by
  have hone := hd.one _ (List.getElem_mem hi)
  rw [hnd] at hone
  have h1 : ¬ (op < 1 ∨ 9 < op) := fun h => by rw [oneF, if_pos h] at hone; cases hone
  omega

theorem Doc.line6 {l : List Nd} {x : D} (hd : Doc l x) {i : Nat} (hi : i < l.length) {n : Int} {t : ByteArray} (hnd : l[i] = Nd.mk 6 t n) :
    ∃ q : Nat, i + 1 < l.length ∧ q < l.length ∧ i + 1 < q ∧ endAt l (i + 1) = q ∧ lineAt l i = joinF (lineAt l (i + 1)) (lineAt l q) ∧ (lineAt l (i + 1)).1.size + (lineAt l q).1.size ≤ maxLen := by
  rcases hd.parts_ hi with ⟨h1, _⟩ | ⟨h1, _⟩ | ⟨h1, h2, h3, h4⟩
  · rw [hnd] at h1; simp [parts] at h1
  · rw [hnd] at h1; simp [parts] at h1
  · refine ⟨_, h2, h3, by have := (docAt l (i + 1)).sz_pos; omega, rfl, ?_, ?_⟩
    · rw [lineAt, h4, hnd]
      simp only [D.flat, lineAt, if_true]
      cases (docAt l (i + 1)).flat <;> cases (docAt l (i + 1 + (docAt l (i + 1)).sz)).flat <;> rfl
    · have f1 := hd.flat_len h2
      have f2 := hd.flat_len h3
      have f3 := (hd.end_le h2).2
      have f4 := (hd.end_le h3).2
      have f5 := hd.len
      unfold endAt at f3 f4
      unfold maxLen; omega

theorem Doc.line789 {l : List Nd} {x : D} (hd : Doc l x) {i : Nat} (hi : i < l.length) {op n : Int} {t : ByteArray} (hnd : l[i] = Nd.mk op t n) (h : op = 7 ∨ op = 8 ∨ op = 9) :
    i + 1 < l.length ∧ lineAt l i = lineAt l (i + 1) := by
  rcases hd.parts_ hi with ⟨h1, _⟩ | ⟨h1, h2, h3⟩ | ⟨h1, h2, _, h3⟩
  · rw [hnd] at h1; rcases h with rfl | rfl | rfl <;> simp [parts] at h1
  · exact ⟨h2, by rw [lineAt, h3]; rfl⟩
  · rw [hnd] at h1 h3
    rcases h with rfl | rfl | rfl
    · simp [parts] at h1
    · simp [parts] at h1
    · exact ⟨h2, by rw [lineAt, h3]; simp [D.flat, lineAt]⟩

theorem Doc.line0 {l : List Nd} {x : D} (hd : Doc l x) {i : Nat} (hi : i < l.length) {op n : Int} {t : ByteArray} (hnd : l[i] = Nd.mk op t n) (h : parts op = 0) :
    lineAt l i = lineOf (D.flat (.leaf ⟨op, t, n⟩)) := by
  rcases hd.parts_ hi with ⟨h1, h2⟩ | ⟨h1, _⟩ | ⟨h1, _⟩
  · rw [lineAt, h2, hnd]
  · rw [hnd, h] at h1; simp at h1
  · rw [hnd, h] at h1; simp at h1

set_option maxHeartbeats 600000 in
theorem flatof_any {l : List Nd} {x : D} (hd : Doc l x) (A : Option Addr) (c : Nat) : ∀ (f i : Nat) (v : Int) (w : World), Nds w w.heap.size A l → v = i → i < l.length → l.length ≤ i + f →
    Calls Tryd.prog 69 #[.slice A l.length c, .int .i64 v] w (Ret w (.tuple #[.string (lineAt l i).1, .bool (lineAt l i).2])) := by
  have h400 := hd.len
  have HD := Lib.hid hd; clear hd
  intro f
  induction f with
  | zero => intro i v w hl hv hi hf; omega
  | succ f ih =>
    intro i v w hl hv hi hf
    subst hv
    have HI := Lib.hid ih; clear ih
    obtain ⟨b, off, op, t, n, rfl, hb, hnd, hts, d1, d2, d3⟩ := hl.node (Below.refl _ _) hi
    have HN := Lib.hid hl; clear hl
    rcases HD.out.ops hi hnd with rfl | rfl | rfl | rfl | rfl | rfl | rfl | rfl | rfl
    case inr.inr.inr.inr.inr.inl =>
      obtain ⟨q, hi1, hq, hiq, hqe, hle, hlen⟩ := HD.out.line6 hi hnd
      clear hnd
      obtain ⟨s1, b1, e1⟩ : ∃ s b, lineAt l (i + 1) = (s, b) := ⟨_, _, rfl⟩
      obtain ⟨s2, b2, e2⟩ : ∃ s b, lineAt l q = (s, b) := ⟨_, _, rfl⟩
      have hc1 := fun w' => HI.out (i + 1) ((i : Int) + 1) w'
      have hc2 := fun w' => HI.out q (q : Int) w'
      rw [e1] at hc1 hle hlen
      rw [e2] at hc2 hle hlen
      have hce := fun w' hw => endof_doc HD.out (some ⟨b, off, none⟩) c w' hw (i := i + 1) (v := (i : Int) + 1) (by omega) hi1
      rw [hqe] at hce
      unfold maxLen at hlen
      simp only at hlen
      have HC1 := Lib.hid hc1; clear hc1
      have HC2 := Lib.hid hc2; clear hc2
      have HCE := Lib.hid hce; clear hce
      have HL := Lib.hid hle; clear hle
      rw [HL.out]
      clear e1 e2 hqe
      have k1 : IntKind.i64.wrap ((i : Int) + 1) = (i : Int) + 1 := IntWalk.i64_in _ (by omega)
      cases b1 <;> cases b2
      all_goals
        go_enter Tryd.func69, Tryd.ntmps69
        go_wp2_with (first
          | (go_at_call 69; (fail_if_success have hz := hB1); refine (HC1.out _ (by repeat (first | with_reducible exact HN.out | with_reducible apply Nds.drew)) (by omega) (by omega) (by omega)).mono ?_; rintro e w1 ⟨rfl, hB1⟩)
          | (go_at_call 17; refine (HCE.out _ (by repeat (first | with_reducible exact HN.out.past hB1 | with_reducible apply Nds.drew))).mono ?_; rintro e w2 ⟨rfl, rfl⟩)
          | (go_at_call 69; refine (HC2.out _ (by repeat (first | with_reducible exact HN.out.past hB1 | with_reducible apply Nds.drew)) (by trivial) (by omega) (by omega)).mono ?_; rintro e w3 ⟨rfl, hB3⟩))
        go_ret2
        exact ⟨rfl, hB1.trans (hB3.mono hB1.size)⟩
    case inr.inr.inr.inr.inr.inr.inl =>
      obtain ⟨hi1, hle⟩ := HD.out.line789 hi hnd (by omega)
      clear hnd
      have HC1 := Lib.hid (fun w' => HI.out (i + 1) ((i : Int) + 1) w')
      rw [hle]
      clear hle
      have k1 : IntKind.i64.wrap ((i : Int) + 1) = (i : Int) + 1 := IntWalk.i64_in _ (by omega)
      go_enter Tryd.func69, Tryd.ntmps69
      go_wp2_with (go_at_call 69; (fail_if_success have hz := hB1); refine (HC1.out _ (by repeat (first | with_reducible exact HN.out | with_reducible apply Nds.drew)) (by omega) (by omega) (by omega)).mono ?_; rintro e w1 ⟨rfl, hB1⟩)
      go_ret2
      exact ⟨rfl, hB1⟩
    case inr.inr.inr.inr.inr.inr.inr.inl =>
      obtain ⟨hi1, hle⟩ := HD.out.line789 hi hnd (by omega)
      clear hnd
      have HC1 := Lib.hid (fun w' => HI.out (i + 1) ((i : Int) + 1) w')
      rw [hle]
      clear hle
      have k1 : IntKind.i64.wrap ((i : Int) + 1) = (i : Int) + 1 := IntWalk.i64_in _ (by omega)
      go_enter Tryd.func69, Tryd.ntmps69
      go_wp2_with (go_at_call 69; (fail_if_success have hz := hB1); refine (HC1.out _ (by repeat (first | with_reducible exact HN.out | with_reducible apply Nds.drew)) (by omega) (by omega) (by omega)).mono ?_; rintro e w1 ⟨rfl, hB1⟩)
      go_ret2
      exact ⟨rfl, hB1⟩
    case inr.inr.inr.inr.inr.inr.inr.inr =>
      obtain ⟨hi1, hle⟩ := HD.out.line789 hi hnd (by omega)
      clear hnd
      have HC1 := Lib.hid (fun w' => HI.out (i + 1) ((i : Int) + 1) w')
      rw [hle]
      clear hle
      have k1 : IntKind.i64.wrap ((i : Int) + 1) = (i : Int) + 1 := IntWalk.i64_in _ (by omega)
      go_enter Tryd.func69, Tryd.ntmps69
      go_wp2_with (go_at_call 69; (fail_if_success have hz := hB1); refine (HC1.out _ (by repeat (first | with_reducible exact HN.out | with_reducible apply Nds.drew)) (by omega) (by omega) (by omega)).mono ?_; rintro e w1 ⟨rfl, hB1⟩)
      go_ret2
      exact ⟨rfl, hB1⟩
    all_goals
      rw [HD.out.line0 hi hnd (by decide)]
      clear hnd
      go_enter Tryd.func69, Tryd.ntmps69
      go_wp2
      go_ret2
      exact ⟨rfl, (by repeat (first | exact Below.refl _ _ | assumption | apply Below.drew | refine below_drewN ?_ _ | apply Below.setCell _ (by first | omega | (simp; done) | (simp; omega)) | apply Below.alloc _ (by first | omega | (simp; done) | (simp; omega))))⟩
end Go.Proofs.YtddfdmopaeghnacDoor
