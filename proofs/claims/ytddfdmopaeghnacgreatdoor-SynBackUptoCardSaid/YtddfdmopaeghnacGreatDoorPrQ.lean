/- Plain: one expression read off words, case by case. No program, no condition. -/
import Derived.Test.YtddfdmopaeghnacGreatDoorPrP
namespace Go.Proofs.YtddfdmopaeghnacGreatDoor

/-- What has no sign about it. -/
def oneP (ws : List ByteArray) (sum : Nat → PrR) (k : Nat) : PrR :=
  if isW ws k [40] = true then
    match sum (k + 1) with
    | .error e => .error e
    | .ok (x, k') => if isW ws k' [41] = true then .ok (x, k' + 1) else .error k'
  else if isW ws k [91] = true then
    match manyP ws [93] sum (ws.length + 1) 0 [] (k + 1) with
    | .error e => .error e
    | .ok (n, x, k') => .ok (⟨4, .empty, (n : Nat)⟩ :: x, k')
  else if digW (wdAt ws k) = true then .ok ([⟨1, .empty, numW (wdAt ws k)⟩], k + 1)
  else if nameF (wdAt ws k) = false then .error k
  else if isW ws (k + 1) [40] = true then
    match manyP ws [41] sum (ws.length + 1) 0 [] (k + 2) with
    | .error e => .error e
    | .ok (n, x, k') => .ok (⟨3, wdAt ws k, (n : Nat)⟩ :: x, k')
  else .ok ([⟨2, wdAt ws k, 0⟩], k + 1)
theorem pE_two (ws : List ByteArray) (f : Nat) : pE ws (f + 1) 2 = oneP ws (pE ws f 0) := by
  funext k
  rw [pE, if_neg (by decide), if_neg (by decide)]
  rfl
theorem pE_one (ws : List ByteArray) (f : Nat) : pE ws (f + 1) 1 = chainS ws 6 [42] (pE ws f 2) := by
  funext k
  rw [pE, if_neg (by decide), if_pos rfl]
theorem pE_zero (ws : List ByteArray) (f : Nat) : pE ws (f + 1) 0 = chainS ws 5 [43] (pE ws f 1) := by
  funext k
  rw [pE, if_pos rfl]

theorem oneP_1b {ws : List ByteArray} {sum : Nat → PrR} {k x : Nat} (h : isW ws k [40] = true) (hs : sum (k + 1) = .error x) : oneP ws sum k = .error x := by rw [oneP, if_pos h, hs]
theorem oneP_1c {ws : List ByteArray} {sum : Nat → PrR} {k k' : Nat} {x : List Nd} (h : isW ws k [40] = true) (hs : sum (k + 1) = .ok (x, k')) (h2 : isW ws k' [41] = false) : oneP ws sum k = .error k' := by
  rw [oneP, if_pos h, hs]
  simp only
  rw [if_neg (by rw [h2]; decide)]
theorem oneP_1g {ws : List ByteArray} {sum : Nat → PrR} {k k' : Nat} {x : List Nd} (h : isW ws k [40] = true) (hs : sum (k + 1) = .ok (x, k')) (h2 : isW ws k' [41] = true) : oneP ws sum k = .ok (x, k' + 1) := by
  rw [oneP, if_pos h, hs]
  simp only
  rw [if_pos h2]
theorem oneP_2b {ws : List ByteArray} {sum : Nat → PrR} {k x : Nat} (h : isW ws k [40] = false) (h1 : isW ws k [91] = true) (hs : manyP ws [93] sum (ws.length + 1) 0 [] (k + 1) = .error x) : oneP ws sum k = .error x := by rw [oneP, if_neg (by rw [h]; decide), if_pos h1, hs]
theorem oneP_2g {ws : List ByteArray} {sum : Nat → PrR} {k k' n : Nat} {x : List Nd} (h : isW ws k [40] = false) (h1 : isW ws k [91] = true) (hs : manyP ws [93] sum (ws.length + 1) 0 [] (k + 1) = .ok (n, x, k')) : oneP ws sum k = .ok (⟨4, .empty, (n : Nat)⟩ :: x, k') := by rw [oneP, if_neg (by rw [h]; decide), if_pos h1, hs]
theorem oneP_3 {ws : List ByteArray} {sum : Nat → PrR} {k : Nat} (h : isW ws k [40] = false) (h1 : isW ws k [91] = false) (hd : digW (wdAt ws k) = true) : oneP ws sum k = .ok ([⟨1, .empty, numW (wdAt ws k)⟩], k + 1) := by
  rw [oneP, if_neg (by rw [h]; decide), if_neg (by rw [h1]; decide), if_pos hd]
theorem oneP_4 {ws : List ByteArray} {sum : Nat → PrR} {k : Nat} (h : isW ws k [40] = false) (h1 : isW ws k [91] = false) (hd : digW (wdAt ws k) = false) (hn : nameF (wdAt ws k) = false) : oneP ws sum k = .error k := by
  rw [oneP, if_neg (by rw [h]; decide), if_neg (by rw [h1]; decide), if_neg (by rw [hd]; decide), if_pos hn]
theorem oneP_5 {ws : List ByteArray} {sum : Nat → PrR} {k : Nat} (h : isW ws k [40] = false) (h1 : isW ws k [91] = false) (hd : digW (wdAt ws k) = false) (hn : nameF (wdAt ws k) = true) (h2 : isW ws (k + 1) [40] = false) : oneP ws sum k = .ok ([⟨2, wdAt ws k, 0⟩], k + 1) := by
  rw [oneP, if_neg (by rw [h]; decide), if_neg (by rw [h1]; decide), if_neg (by rw [hd]; decide), if_neg (by rw [hn]; decide), if_neg (by rw [h2]; decide)]
theorem oneP_6b {ws : List ByteArray} {sum : Nat → PrR} {k x : Nat} (h : isW ws k [40] = false) (h1 : isW ws k [91] = false) (hd : digW (wdAt ws k) = false) (hn : nameF (wdAt ws k) = true) (h2 : isW ws (k + 1) [40] = true) (hs : manyP ws [41] sum (ws.length + 1) 0 [] (k + 2) = .error x) : oneP ws sum k = .error x := by
  rw [oneP, if_neg (by rw [h]; decide), if_neg (by rw [h1]; decide), if_neg (by rw [hd]; decide), if_neg (by rw [hn]; decide), if_pos h2, hs]
theorem oneP_6g {ws : List ByteArray} {sum : Nat → PrR} {k k' n : Nat} {x : List Nd} (h : isW ws k [40] = false) (h1 : isW ws k [91] = false) (hd : digW (wdAt ws k) = false) (hn : nameF (wdAt ws k) = true) (h2 : isW ws (k + 1) [40] = true) (hs : manyP ws [41] sum (ws.length + 1) 0 [] (k + 2) = .ok (n, x, k')) : oneP ws sum k = .ok (⟨3, wdAt ws k, (n : Nat)⟩ :: x, k') := by
  rw [oneP, if_neg (by rw [h]; decide), if_neg (by rw [h1]; decide), if_neg (by rw [hd]; decide), if_neg (by rw [hn]; decide), if_pos h2, hs]
end Go.Proofs.YtddfdmopaeghnacGreatDoor
