/- Plain facts for the law LexParts: a text behind a text, its words and places. No program, no condition. -/
import Derived.Test.YtddfdmopaeghnabDoorLexC
import Derived.Test.YtddfdmopaeghnabDoorNums
namespace Go.Proofs.YtddfdmopaeghnabDoor
open Go.RowKit

theorem lexG_shift (d : Nat) : ∀ (f i : Nat) (l : List UInt8), lexG f (i + d) l = ((lexG f i l).1.map (fun p => (p.1 + d, p.2)), (lexG f i l).2.map (· + d)) := by
  intro f
  induction f with
  | zero => intro i l; rfl
  | succ f ih =>
    intro i l
    cases l with
    | nil => rfl
    | cons c r =>
      simp only [lexG]
      split
      · rw [show i + d + 1 = (i + 1) + d by omega]; exact ih (i + 1) r
      · split
        · rw [show i + d + (firstW (c :: r)).1 = (i + (firstW (c :: r)).1) + d by omega, ih]
          rfl
        · rfl
def placesL (ws : List (Nat × List UInt8)) : List Int := ws.map fun p => (p.1 : Int)
theorem placeV_L (ws : List (Nat × List UInt8)) : placeV ws = (placesL ws).map (.int .i64) := by simp [placeV, placesL]
theorem numsI_places {w : World} {A : Option Addr} {ws : List (Nat × List UInt8)} (h : Sl w w.heap.size 1 A ws.length (placeV ws)) (hm : ws.length ≤ maxLen) : NumsI w w.heap.size A (placesL ws) := by
  rw [placeV_L] at h
  have e : (placesL ws).length = ws.length := by simp [placesL]
  exact ⟨by rw [e]; exact h, by rw [e]; exact hm⟩

/-- The text between is one new line. -/
def glue (s t : ByteArray) : ByteArray := s ++ ⟨#[10]⟩ ++ t
theorem glue_list (s t : ByteArray) : (glue s t).data.toList = s.data.toList ++ 10 :: t.data.toList := by
  simp [glue, ByteArray.data_append]
theorem glue_size (s t : ByteArray) : (glue s t).size = s.size + 1 + t.size := by
  simp only [glue, ByteArray.size_append]; rfl
theorem glue_lex {s t : ByteArray} (hs : (lexE s).1 = 0) (ht : (lexE t).1 = 0) :
    lexL 0 (glue s t).data.toList = (lexWs s ++ (lexWs t).map (fun p => (p.1 + (s.size + 1), p.2)), none) := by
  obtain ⟨_, h2, _⟩ := lexE_parts hs
  obtain ⟨_, g2, _⟩ := lexE_parts ht
  have h : lexL 0 s.data.toList = (lexWs s, none) := by
    show _ = ((lexL 0 s.data.toList).1, none)
    rw [← h2]
  rw [glue_list, lexL_app _ 0 s.data.toList t.data.toList _ (Nat.le_refl _) h]
  have hsz : s.data.toList.length = s.size := by simp
  rw [hsz]
  have hsh := lexG_shift (s.size + 1) t.data.toList.length 0 t.data.toList
  have e : lexL (0 + s.size + 1) t.data.toList = lexG t.data.toList.length (0 + (s.size + 1)) t.data.toList := by
    unfold lexL
    rw [Nat.add_assoc]
  rw [e, hsh]
  have g : lexG t.data.toList.length 0 t.data.toList = (lexWs t, none) := by
    show _ = ((lexL 0 t.data.toList).1, none)
    rw [← g2]
    rfl
  rw [g]
  rfl
theorem glue_ws {s t : ByteArray} (hs : (lexE s).1 = 0) (ht : (lexE t).1 = 0) : lexWs (glue s t) = lexWs s ++ (lexWs t).map (fun p => (p.1 + (s.size + 1), p.2)) := by
  show (lexL 0 (glue s t).data.toList).1 = _
  rw [glue_lex hs ht]
theorem glue_words {s t : ByteArray} (hs : (lexE s).1 = 0) (ht : (lexE t).1 = 0) : wordBs (lexWs (glue s t)) = wordBs (lexWs s) ++ wordBs (lexWs t) := by
  rw [glue_ws hs ht]
  simp [wordBs]
theorem glue_places {s t : ByteArray} (hs : (lexE s).1 = 0) (ht : (lexE t).1 = 0) : placesL (lexWs (glue s t)) = placesL (lexWs s) ++ (placesL (lexWs t)).map (fun a => a + (s.size : Int) + 1) := by
  rw [glue_ws hs ht]
  simp [placesL, Int.add_assoc]
theorem glue_fault {s t : ByteArray} (hs : (lexE s).1 = 0) (ht : (lexE t).1 = 0) (h : (lexE (glue s t)).1 ≠ 0) : (lexE (glue s t)).1 = 3 := by
  by_cases hz : 60000 < (glue s t).size
  · rw [lex_full hz]
  · rw [lex_many hz (by rw [glue_lex hs ht])] at h ⊢
    split at h
    · rename_i hc
      rw [if_pos hc]
    · exact absurd rfl h
theorem place_le {s : ByteArray} : ∀ p ∈ lexWs s, p.1 ≤ s.size := by
  intro p hp
  have h := (lex_spots _ 0 s.data.toList (Nat.le_refl _)).1 p hp
  have hsz : s.data.toList.length = s.size := by simp
  omega

def factA : ByteArray := ⟨#[32, 97]⟩
theorem factA_ok : (lexE factA).1 = 0 := by decide +kernel
theorem factA_ws : lexWs factA = [(1, [97])] := by rfl
end Go.Proofs.YtddfdmopaeghnabDoor
