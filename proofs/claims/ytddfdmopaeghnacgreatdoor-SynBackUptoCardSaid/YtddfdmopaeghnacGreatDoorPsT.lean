/- Walk of syn's parser: one. Conditions: as in the texts ahead; what sum's calls hand back is given; a word that begins with a digit is a number of six digits at most. -/
import Derived.Test.YtddfdmopaeghnacGreatDoorPsU
import Derived.Test.YtddfdmopaeghnacGreatDoorPrQ
import Derived.Test.YtddfdmopaeghnacGreatDoorShelfB
namespace Go.Proofs.YtddfdmopaeghnacGreatDoor
open Go.RowKit

theorem decFrom_digits : ∀ (l : List UInt8) (acc : Nat), l.all digC = true → Lib.decFrom acc l = some (l.foldl (fun n c => n * 10 + (c.toNat - 48)) acc)
  | [], acc, _ => rfl
  | c :: r, acc, h => by
    simp only [List.all_cons, Bool.and_eq_true] at h
    have hd : Lib.digitVal c = some (c.toNat - 48) := by
      have h1 := h.1
      simp [digC] at h1
      rw [Lib.digitVal, if_pos h1]
    rw [Lib.decFrom, hd]
    simp only [List.foldl_cons]
    exact decFrom_digits r _ h.2
theorem fold_int : ∀ (l : List UInt8) (acc : Nat), l.all digC = true → ((l.foldl (fun n c => n * 10 + (c.toNat - 48)) acc : Nat) : Int) = l.foldl (fun n c => n * 10 + ((c.toNat : Int) - 48)) (acc : Int)
  | [], acc, _ => rfl
  | c :: r, acc, h => by
    simp only [List.all_cons, Bool.and_eq_true] at h
    have h1 := h.1
    simp [digC] at h1
    simp only [List.foldl_cons]
    rw [fold_int r _ h.2]
    congr 1
    omega
theorem atoi_numW {s : ByteArray} (h : s.data.toList.all digC = true) (h0 : s.data.toList ≠ []) : Lib.atoi s.data.toList = some (numW s) := by
  unfold numW
  cases hc : s.data.toList with
  | nil => exact absurd hc h0
  | cons c r =>
    rw [hc] at h
    have hd : digC c = true := by simp only [List.all_cons, Bool.and_eq_true] at h; exact h.1
    simp [digC] at hd
    have c45 : (c == 45) = false := by
      rw [Bool.eq_false_iff]; intro e; have := eq_of_beq e; subst this; simp at hd
    have c43 : (c == 43) = false := by
      rw [Bool.eq_false_iff]; intro e; have := eq_of_beq e; subst this; simp at hd
    rw [Lib.atoi, c45, c43]
    simp only [Bool.false_eq_true, if_false]
    unfold Lib.decNat
    simp only [decFrom_digits _ _ h, List.isEmpty_cons, Bool.false_eq_true, if_false, Option.map_some]
    rw [fold_int _ _ h]
    rfl
theorem patoi_any (s : ByteArray) (w : World) (h : s.data.toList.all digC = true) (h0 : s.data.toList ≠ []) (h6 : s.size ≤ 6) : Calls Tryz.prog 225 #[.string s] w (Ret w (.tuple #[.int .i64 (numW s), .nilIface])) :=
  (Tryz.strconv_Atoi s _ (by omega) (atoi_numW h h0) w).mono (by
    rintro e w' ⟨rfl, t, rfl⟩
    exact ⟨rfl, ⟨rfl, rfl, rfl, by rw [Lib.bytesWorld_size]; omega, fun j hj => Lib.bytesWorld_at_old _ _ _ j hj⟩⟩)
end Go.Proofs.YtddfdmopaeghnacGreatDoor
