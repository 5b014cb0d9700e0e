/- Plain facts: a text's lines, and what they cost. No program, no condition. -/
import Derived.Test.YtddfdmopaeghnabDoorCstP
import Derived.Lib.IndexLaws
namespace Go.Proofs.YtddfdmopaeghnabDoor

/-- What stands between the bytes 10. -/
def splitL : List UInt8 → List (List UInt8)
  | [] => [[]]
  | c :: r => if c = 10 then [] :: splitL r else match splitL r with
    | [] => [[c]]
    | x :: xs => (c :: x) :: xs
theorem splitL_ne (l : List UInt8) : splitL l ≠ [] := by
  cases l with
  | nil => simp [splitL]
  | cons c r =>
    simp only [splitL]
    split
    · simp
    · split <;> simp
theorem splitL_no : ∀ {l : List UInt8}, NoNl l → splitL l = [l]
  | [], _ => rfl
  | c :: r, h => by
    have hc : c ≠ 10 := h c (by simp)
    simp only [splitL, if_neg hc, splitL_no (l := r) (fun x hx => h x (by simp [hx]))]
theorem splitL_at : ∀ {a : List UInt8} (b : List UInt8), NoNl a → splitL (a ++ 10 :: b) = a :: splitL b
  | [], b, _ => by simp [splitL]
  | c :: r, b, h => by
    have hc : c ≠ 10 := h c (by simp)
    simp only [List.cons_append, splitL, if_neg hc, splitL_at (a := r) b (fun x hx => h x (by simp [hx]))]

/-- Over the width, line by line. -/
def overs (w : Nat) : List (List UInt8) → Nat
  | [] => 0
  | x :: xs => (x.length - w) + overs w xs
theorem overs_app (w : Nat) : ∀ (a b : List (List UInt8)), overs w (a ++ b) = overs w a + overs w b
  | [], b => by simp [overs]
  | x :: a, b => by simp only [List.cons_append, overs, overs_app w a b]; omega
theorem split_cst (w : Nat) : ∀ (l : List UInt8) (col : Nat), ∃ x xs, splitL l = x :: xs ∧ ovr w col l = ((col + x.length - w) - (col - w)) + overs w xs ∧ lns l = xs.length
  | [], col => ⟨[], [], rfl, by simp [ovr, overs], rfl⟩
  | c :: r, col => by
    simp only [splitL, ovr, lns]
    by_cases hc : c = 10
    · obtain ⟨x, xs, h1, h2, h3⟩ := split_cst w r 0
      refine ⟨[], x :: xs, by rw [if_pos hc, h1], ?_, ?_⟩
      · rw [if_pos hc, h2]; simp [overs]
      · rw [if_pos hc, h3]; simp; omega
    · obtain ⟨x, xs, h1, h2, h3⟩ := split_cst w r (col + 1)
      refine ⟨c :: x, xs, by rw [if_neg hc, h1], ?_, ?_⟩
      · rw [if_neg hc, h2, List.length_cons]; split <;> omega
      · rw [if_neg hc, h3]; simp
theorem split_cost (w : Nat) (l : List UInt8) : cst w 0 l = (overs w (splitL l), (splitL l).length - 1) := by
  obtain ⟨x, xs, h1, h2, h3⟩ := split_cst w l 0
  rw [h1, cst, h2, h3]
  simp [overs]

theorem index_no {l : List UInt8} (h : Lib.indexByte l 10 < 0) : NoNl l := by
  have h1 : Lib.indexByte l 10 = -1 := by have := Lib.indexByte_ge l 10; omega
  intro c hc he
  subst he
  obtain ⟨k, hk, hl⟩ := List.getElem_of_mem hc
  exact Lib.indexByte_none h1 k (by rw [List.getElem?_eq_getElem hk, hl])
theorem index_yes {l : List UInt8} {o : Nat} (h : Lib.indexByte l 10 = o) : o < l.length ∧ l = l.take o ++ 10 :: l.drop (o + 1) ∧ splitL l = l.take o :: splitL (l.drop (o + 1)) := by
  obtain ⟨h1, h2⟩ := Lib.indexByte_some h
  have ho : o < l.length := (List.getElem?_eq_some_iff.1 h1).1
  have e : l = l.take o ++ 10 :: l.drop (o + 1) := by
    have hx : l[o] = 10 := by rw [List.getElem?_eq_getElem ho] at h1; exact Option.some.inj h1
    have := List.drop_eq_getElem_cons ho
    rw [hx] at this
    rw [← this, List.take_append_drop]
  have hn : NoNl (l.take o) := by
    intro c hc he
    subst he
    obtain ⟨k, hk, hl⟩ := List.getElem_of_mem hc
    have hk' : k < o := by rw [List.length_take] at hk; omega
    rw [List.getElem_take] at hl
    exact h2 k hk' (by rw [List.getElem?_eq_getElem (by omega), hl])
  refine ⟨ho, e, ?_⟩
  have := splitL_at (a := l.take o) (l.drop (o + 1)) hn
  rwa [← e] at this
end Go.Proofs.YtddfdmopaeghnabDoor
