/- Walk: doc.signs. Condition: the node may be. -/
import Derived.Test.YtddfdmopaeghnabDoorTextP
import Derived.Test.YtddfdmopaeghnabDoorDocW
import Derived.Test.YtddfdmopaeghnabDoorShelf
namespace Go.Proofs.YtddfdmopaeghnabDoor
open Go.RowKit

def sB (l : List UInt8) : ByteArray := ⟨l.toArray⟩
theorem sB_app (a b : List UInt8) : sB (a ++ b) = sB a ++ sB b := by
  apply ByteArray.ext
  simp [sB, ByteArray.data_append]
theorem sB_size (a : List UInt8) : (sB a).size = a.length := by simp [sB, ByteArray.size]

/-- The forms that a node may have. -/
theorem nd_cases {d : Nd} (h : oneF d.op d.text d.n = 0) : (∃ t, d = ⟨1, t, 0⟩ ∧ t.size ≤ 20) ∨ d = ⟨2, .empty, 0⟩ ∨ d = ⟨3, .empty, 0⟩ ∨ d = ⟨4, .empty, 0⟩ ∨ d = ⟨5, .empty, 0⟩ ∨ d = ⟨6, .empty, 0⟩ ∨
    (∃ n : Nat, n ≤ 8 ∧ d = ⟨7, .empty, n⟩) ∨ d = ⟨8, .empty, 0⟩ ∨ d = ⟨9, .empty, 0⟩ := by
  obtain ⟨op, t, n⟩ := d
  simp only at h
  have hop : 1 ≤ op ∧ op ≤ 9 := by
    by_cases hc : op < 1 ∨ 9 < op
    · rw [oneF, if_pos hc] at h; cases h
    · omega
  have hsh : ¬ ((op ≠ 1 ∧ t.toList ≠ []) ∨ (op ≠ 7 ∧ n ≠ 0)) := by
    intro hc
    rw [oneF, if_neg (by omega), if_pos hc] at h; cases h
  have ht : op ≠ 1 → t = .empty := by
    intro h1
    have : t.toList = [] := by
      by_cases hc : t.toList = []
      · exact hc
      · exact absurd (.inl ⟨h1, hc⟩) hsh
    rw [ByteArray.toList_eq] at this
    obtain ⟨⟨l⟩⟩ := t
    simp only at this
    rw [this]; rfl
  have hn0 : op ≠ 7 → n = 0 := by
    intro h1
    by_cases hc : n = 0
    · exact hc
    · exact absurd (.inr ⟨h1, hc⟩) hsh
  unfold oneF at h
  rw [if_neg (by omega), if_neg hsh] at h
  have : op = 1 ∨ op = 2 ∨ op = 3 ∨ op = 4 ∨ op = 5 ∨ op = 6 ∨ op = 7 ∨ op = 8 ∨ op = 9 := by omega
  rcases this with rfl | rfl | rfl | rfl | rfl | rfl | rfl | rfl | rfl
  case inr.inr.inr.inr.inr.inr.inl =>
    rw [ht (by decide)]
    rw [if_neg (by simp)] at h
    have hn : 0 ≤ n ∧ n ≤ 8 := by
      by_cases hc : n < 0 ∨ 8 < n
      · rw [if_pos hc] at h; cases h
      · omega
    exact .inr (.inr (.inr (.inr (.inr (.inr (.inl ⟨n.toNat, by omega, by rw [show ((n.toNat : Nat) : Int) = n by omega]⟩))))))
  case inl =>
    rw [hn0 (by decide)]
    refine .inl ⟨t, rfl, ?_⟩
    by_cases hc : 20 < t.size
    · rw [if_pos ⟨rfl, .inr (.inl hc)⟩] at h; cases h
    · omega
  all_goals rw [ht (by decide), hn0 (by decide)]; simp

theorem itoa_small (i : Nat) (hi : i ≤ 8) (w : World) : Calls Tryd.prog 114 #[.int .i64 i] w fun e w' => e = .returned (.string (sB [UInt8.ofNat (48 + i)])) ∧ w' = w := by
  have h := Tryd.strconv_Itoa_small i (by omega) w
  have e : (⟨(Lib.decDigits i).toArray⟩ : ByteArray) = sB [UInt8.ofNat (48 + i)] := by rw [Lib.decDigits_one (by omega)]; rfl
  rw [e] at h
  exact h

set_option maxHeartbeats 1000000 in
theorem signs_any {d : Nd} (h : oneF d.op d.text d.n = 0) (w : World) :
    Calls Tryd.prog 85 #[.agg #[.int .i64 d.op, .string d.text, .int .i64 d.n]] w (Ret w (.tuple #[.string (sB (sgOpen d)), .string (sB (sgMid d)), .string (sB (sgEnd d))])) := by
  rcases nd_cases h with ⟨t, rfl, ht⟩ | rfl | rfl | rfl | rfl | rfl | ⟨n, hn, rfl⟩ | rfl | rfl
  case inl =>
    clear h
    have e1 : sB (sgOpen ⟨1, t, 0⟩) = ⟨#[34]⟩ ++ t ++ ⟨#[34]⟩ := by
      apply ByteArray.ext
      apply Array.ext'
      simp [sB, sgOpen, ByteArray.data_append]
    have e2 : sB (sgMid ⟨1, t, 0⟩) = .empty := rfl
    have e3 : sB (sgEnd ⟨1, t, 0⟩) = .empty := rfl
    rw [e1, e2, e3]
    clear e1 e2 e3
    go_enter Tryd.func85, Tryd.ntmps85
    go_wp2
    go_ret3
    exact ⟨rfl, (by repeat (first | exact Below.refl _ _ | assumption | apply Below.drew | refine below_drewN ?_ _ | apply Below.setCell _ (by first | omega | (simp; done) | (simp; omega)) | apply Below.alloc _ (by first | omega | (simp; done) | (simp; omega))))⟩
  case inr.inr.inr.inr.inr.inr.inl =>
    clear h
    have e1 : sB (sgOpen ⟨7, .empty, (n : Int)⟩) = sB [UInt8.ofNat (48 + n)] ++ ⟨#[62]⟩ := by
      apply ByteArray.ext
      apply Array.ext'
      simp [sB, sgOpen, ByteArray.data_append]
    have e2 : sB (sgMid ⟨7, .empty, (n : Int)⟩) = .empty := rfl
    have e3 : sB (sgEnd ⟨7, .empty, (n : Int)⟩) = .empty := rfl
    rw [e1, e2, e3]
    clear e1 e2 e3
    have HI := Lib.hid (fun w' => itoa_small n hn w')
    have hz := sB_size [UInt8.ofNat (48 + n)]
    generalize sB [UInt8.ofNat (48 + n)] = dg at *
    simp only [List.length_cons, List.length_nil] at hz
    go_enter Tryd.func85, Tryd.ntmps85
    go_wp2_with (go_at_call 114; refine (HI.out _).mono ?_; rintro e w1 ⟨rfl, rfl⟩)
    go_ret3
    exact ⟨rfl, (by repeat (first | exact Below.refl _ _ | assumption | apply Below.drew | refine below_drewN ?_ _ | apply Below.setCell _ (by first | omega | (simp; done) | (simp; omega)) | apply Below.alloc _ (by first | omega | (simp; done) | (simp; omega))))⟩
  all_goals
    clear h
    go_enter Tryd.func85, Tryd.ntmps85
    go_wp2
    go_ret3
    exact ⟨rfl, (by repeat (first | exact Below.refl _ _ | assumption | apply Below.drew | refine below_drewN ?_ _ | apply Below.setCell _ (by first | omega | (simp; done) | (simp; omega)) | apply Below.alloc _ (by first | omega | (simp; done) | (simp; omega))))⟩
end Go.Proofs.YtddfdmopaeghnabDoor
