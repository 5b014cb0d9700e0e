/- Plain facts on the reference's ways: tails, cut off at one more than so many, are the first of all ways. No program, no condition. -/
import Derived.Test.YtddfdmopaeghnabDoorFindP
namespace Go.Proofs.YtddfdmopaeghnabDoor

/-- The reference's tails: all ways of a doc with each of some tails behind them, at most m. -/
def tailsF (m : Nat) : D → List (List Int) → List (List Int)
  | .leaf _, B => B
  | .un d a, B => if d.op = 7 then tailsF m a B else ((if a.flat.isSome = true then B.map (0 :: ·) else []) ++ (tailsF m a B).map (1 :: ·)).take m
  | .bin d a b, B => if d.op = 6 then tailsF m a (tailsF m b B) else ((tailsF m a B).map (0 :: ·) ++ (tailsF m b B).map (1 :: ·)).take m

/-- Ways with tails behind. -/
def behind (A B : List (List Int)) : List (List Int) := A.flatMap fun u => B.map (u ++ ·)
theorem behind_nil (B : List (List Int)) : behind [[]] B = B := by simp [behind]
theorem behind_front (c : Int) (A B : List (List Int)) : behind (A.map (c :: ·)) B = (behind A B).map (c :: ·) := flatMap_front c A B
theorem behind_app (A A' B : List (List Int)) : behind (A ++ A') B = behind A B ++ behind A' B := by simp [behind]
theorem behind_two (a b B : List (List Int)) : behind (a.flatMap (fun u => b.map (u ++ ·))) B = behind a (behind b B) := flatMap_two a b B

theorem take_app_take (m : Nat) (A B : List (List Int)) : (A ++ B.take m).take m = (A ++ B).take m := by
  rw [List.take_append, List.take_append, List.take_take]
  congr 2
  omega
theorem take_map_take (m : Nat) (g : List Int → List Int) (B : List (List Int)) : (B.take m).map g = (B.map g).take m := by rw [List.map_take]
theorem take_take_app (m : Nat) (A B : List (List Int)) : (A.take m ++ B).take m = (A ++ B).take m := by
  rcases Nat.lt_or_ge m A.length with h | h
  · rw [List.take_append_of_le_length (by rw [List.length_take]; omega), List.take_append_of_le_length (by omega), List.take_take, Nat.min_self]
  · rw [List.take_of_length_le h]
/-- Cutting the tails changes nothing ahead of the cut. -/
theorem behind_cut (m : Nat) : ∀ (A B : List (List Int)), (behind A (B.take m)).take m = (behind A B).take m
  | [], B => rfl
  | u :: r, B => by
    have e : ∀ C, behind (u :: r) C = C.map (u ++ ·) ++ behind r C := fun C => by simp [behind]
    rw [e, e, take_map_take, take_take_app, ← take_app_take m (B.map (u ++ ·)) (behind r (B.take m)), behind_cut m r B, take_app_take]
theorem tails_len (m : Nat) : ∀ (x : D) (B : List (List Int)), B.length ≤ m → (tailsF m x B).length ≤ m
  | .leaf _, B, h => h
  | .un d a, B, h => by
    simp only [tailsF]
    split
    · exact tails_len m a B h
    · rw [List.length_take]; omega
  | .bin d a b, B, h => by
    simp only [tailsF]
    split
    · exact tails_len m a _ (tails_len m b B h)
    · rw [List.length_take]; omega
theorem tails_is (m : Nat) : ∀ (x : D) (B : List (List Int)), B.length ≤ m → tailsF m x B = (behind x.ways B).take m
  | .leaf _, B, h => by rw [tailsF, D.ways, behind_nil, List.take_of_length_le h]
  | .un d a, B, h => by
    simp only [tailsF, D.ways]
    split
    · exact tails_is m a B h
    · rw [tails_is m a B h, take_map_take, take_app_take, behind_app, behind_front]
      congr 2
      split
      · simp [behind]
      · simp [behind]
  | .bin d a b, B, h => by
    simp only [tailsF, D.ways]
    split
    · rw [tails_is m a _ (tails_len m b B h), tails_is m b B h, behind_cut, behind_two]
    · rw [tails_is m a B h, tails_is m b B h, take_map_take, take_map_take, take_take_app, take_app_take, behind_app, behind_front, behind_front]
/-- All ways, if these are not too many. -/
theorem tails_all (x : D) : tailsF 301 x [[]] = x.ways.take 301 := by
  rw [tails_is 301 x [[]] (by simp)]
  congr 1
  simp [behind]
end Go.Proofs.YtddfdmopaeghnabDoor
