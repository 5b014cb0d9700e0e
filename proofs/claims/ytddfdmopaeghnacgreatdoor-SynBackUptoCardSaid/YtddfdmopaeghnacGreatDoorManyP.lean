/- Plain: how many words are no notes. No program, no condition. -/
import Derived.Below
namespace Go.Proofs.YtddfdmopaeghnacGreatDoor

/-- How many words are no notes. -/
def manyW : List ByteArray → Nat
  | [] => 0
  | t :: r => (if t.data.toList.head? = some 35 then 0 else 1) + manyW r
theorem manyW_take {l : List ByteArray} {k : Nat} (hk : k < l.length) : manyW (l.take (k + 1)) = manyW (l.take k) + if l[k].data.toList.head? = some 35 then 0 else 1 := by
  induction l generalizing k with
  | nil => simp at hk
  | cons t r ih =>
    cases k with
    | zero => simp [manyW]
    | succ k =>
      have hk' : k < r.length := by simpa using hk
      simp only [List.take_succ_cons, manyW, ih hk', List.getElem_cons_succ]; omega
theorem manyW_le (l : List ByteArray) : manyW l ≤ l.length := by
  induction l with
  | nil => simp [manyW]
  | cons t r ih => simp only [manyW, List.length_cons]; split <;> omega
end Go.Proofs.YtddfdmopaeghnacGreatDoor
