/- Plain: a statement read off words, case by case. No program, no condition. -/
import Derived.Test.YtddfdmopaeghnacGreatDoorPrQ
namespace Go.Proofs.YtddfdmopaeghnacGreatDoor

/-- Words as a lexer hands them: a word that begins with a digit is a number of six digits at most. -/
def DgW (ws : List ByteArray) : Prop := ∀ j, digW (wdAt ws j) = true → (wdAt ws j).data.toList.all digC = true ∧ (wdAt ws j).size ≤ 6

/-- An expression, read off the words from one on. -/
def pX (ws : List ByteArray) : Nat → PrR := pE ws (3 * ws.length + 3) 0
theorem pX_goes (ws : List ByteArray) : Goes ws (pX ws) := pE_goes ws _ 0
/-- A statement. -/
def stmtP (ws : List ByteArray) (k : Nat) : PrR :=
  if isW ws k [108, 101, 116] = true then
    if nameF (wdAt ws (k + 1)) = false then .error (k + 1)
    else if isW ws (k + 2) [61] = false then .error (k + 2)
    else match pX ws (k + 3) with
      | .error e => .error e
      | .ok (x, k') => if isW ws k' [59] = true then .ok (⟨7, wdAt ws (k + 1), 0⟩ :: x, k' + 1) else .error k'
  else match pX ws k with
    | .error e => .error e
    | .ok (x, k') => if isW ws k' [59] = true then .ok (⟨8, .empty, 0⟩ :: x, k' + 1) else .error k'

theorem stmt0b {ws : List ByteArray} {k x : Nat} (h : isW ws k [108, 101, 116] = false) (hp : pX ws k = .error x) : stmtP ws k = .error x := by rw [stmtP, if_neg (by rw [h]; decide), hp]
theorem stmt0c {ws : List ByteArray} {k k2 : Nat} {x : List Nd} (h : isW ws k [108, 101, 116] = false) (hp : pX ws k = .ok (x, k2)) (h2 : isW ws k2 [59] = false) : stmtP ws k = .error k2 := by
  rw [stmtP, if_neg (by rw [h]; decide), hp]
  simp only
  rw [if_neg (by rw [h2]; decide)]
theorem stmt0g {ws : List ByteArray} {k k2 : Nat} {x : List Nd} (h : isW ws k [108, 101, 116] = false) (hp : pX ws k = .ok (x, k2)) (h2 : isW ws k2 [59] = true) : stmtP ws k = .ok (⟨8, .empty, 0⟩ :: x, k2 + 1) := by
  rw [stmtP, if_neg (by rw [h]; decide), hp]
  simp only
  rw [if_pos h2]
theorem stmt1n {ws : List ByteArray} {k : Nat} (h : isW ws k [108, 101, 116] = true) (h1 : nameF (wdAt ws (k + 1)) = false) : stmtP ws k = .error (k + 1) := by rw [stmtP, if_pos h, if_pos h1]
theorem stmt1m {ws : List ByteArray} {k : Nat} (h : isW ws k [108, 101, 116] = true) (h1 : nameF (wdAt ws (k + 1)) = true) (h2 : isW ws (k + 2) [61] = false) : stmtP ws k = .error (k + 2) := by rw [stmtP, if_pos h, if_neg (by rw [h1]; decide), if_pos h2]
theorem stmt1b {ws : List ByteArray} {k x : Nat} (h : isW ws k [108, 101, 116] = true) (h1 : nameF (wdAt ws (k + 1)) = true) (h2 : isW ws (k + 2) [61] = true) (hp : pX ws (k + 3) = .error x) : stmtP ws k = .error x := by rw [stmtP, if_pos h, if_neg (by rw [h1]; decide), if_neg (by rw [h2]; decide), hp]
theorem stmt1c {ws : List ByteArray} {k k2 : Nat} {x : List Nd} (h : isW ws k [108, 101, 116] = true) (h1 : nameF (wdAt ws (k + 1)) = true) (h2 : isW ws (k + 2) [61] = true) (hp : pX ws (k + 3) = .ok (x, k2)) (h3 : isW ws k2 [59] = false) : stmtP ws k = .error k2 := by
  rw [stmtP, if_pos h, if_neg (by rw [h1]; decide), if_neg (by rw [h2]; decide), hp]
  simp only
  rw [if_neg (by rw [h3]; decide)]
theorem stmt1g {ws : List ByteArray} {k k2 : Nat} {x : List Nd} (h : isW ws k [108, 101, 116] = true) (h1 : nameF (wdAt ws (k + 1)) = true) (h2 : isW ws (k + 2) [61] = true) (hp : pX ws (k + 3) = .ok (x, k2)) (h3 : isW ws k2 [59] = true) : stmtP ws k = .ok (⟨7, wdAt ws (k + 1), 0⟩ :: x, k2 + 1) := by
  rw [stmtP, if_pos h, if_neg (by rw [h1]; decide), if_neg (by rw [h2]; decide), hp]
  simp only
  rw [if_pos h3]
end Go.Proofs.YtddfdmopaeghnacGreatDoor
