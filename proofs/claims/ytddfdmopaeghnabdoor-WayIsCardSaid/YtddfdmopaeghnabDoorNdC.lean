/- Plain facts: the forms that a node may have. No program, no condition. -/
import Derived.Test.YtddfdmopaeghnabDoorDocP
import Derived.Laws.Closers25
namespace Go.Proofs.YtddfdmopaeghnabDoor

/-- The forms that a node may have. -/
theorem nd_cases {d : Nd} (h : oneF d.op d.text d.n = 0) : (∃ t, d = ⟨1, t, 0⟩ ∧ t.size ≤ 20) ∨ d = ⟨2, .empty, 0⟩ ∨ d = ⟨3, .empty, 0⟩ ∨ d = ⟨4, .empty, 0⟩ ∨ d = ⟨5, .empty, 0⟩ ∨ d = ⟨6, .empty, 0⟩ ∨
    (∃ n : Nat, n ≤ 8 ∧ d = ⟨7, .empty, n⟩) ∨ d = ⟨8, .empty, 0⟩ ∨ d = ⟨9, .empty, 0⟩ := by
  obtain ⟨op, t, n⟩ := d
  simp only at h
  have hop : 1 ≤ op ∧ op ≤ 9 := by
    by_cases hc : op < 1 ∨ 9 < op
    · rw [oneF, if_pos hc] at h; cases h
    · omega
  have hsh : ¬ ((op ≠ 1 ∧ t.toList ≠ []) ∨ (op ≠ 7 ∧ n ≠ 0)) := by
    intro hc
    rw [oneF, if_neg (by omega), if_pos hc] at h; cases h
  have ht : op ≠ 1 → t = .empty := by
    intro h1
    have : t.toList = [] := by
      by_cases hc : t.toList = []
      · exact hc
      · exact absurd (.inl ⟨h1, hc⟩) hsh
    rw [ByteArray.toList_eq] at this
    obtain ⟨⟨l⟩⟩ := t
    simp only at this
    rw [this]; rfl
  have hn0 : op ≠ 7 → n = 0 := by
    intro h1
    by_cases hc : n = 0
    · exact hc
    · exact absurd (.inr ⟨h1, hc⟩) hsh
  unfold oneF at h
  rw [if_neg (by omega), if_neg hsh] at h
  have : op = 1 ∨ op = 2 ∨ op = 3 ∨ op = 4 ∨ op = 5 ∨ op = 6 ∨ op = 7 ∨ op = 8 ∨ op = 9 := by omega
  rcases this with rfl | rfl | rfl | rfl | rfl | rfl | rfl | rfl | rfl
  case inr.inr.inr.inr.inr.inr.inl =>
    rw [ht (by decide)]
    rw [if_neg (by simp)] at h
    have hn : 0 ≤ n ∧ n ≤ 8 := by
      by_cases hc : n < 0 ∨ 8 < n
      · rw [if_pos hc] at h; cases h
      · omega
    exact .inr (.inr (.inr (.inr (.inr (.inr (.inl ⟨n.toNat, by omega, by rw [show ((n.toNat : Nat) : Int) = n by omega]⟩))))))
  case inl =>
    rw [hn0 (by decide)]
    refine .inl ⟨t, rfl, ?_⟩
    by_cases hc : 20 < t.size
    · rw [if_pos ⟨rfl, .inr (.inl hc)⟩] at h; cases h
    · omega
  all_goals rw [ht (by decide), hn0 (by decide)]; simp
end Go.Proofs.YtddfdmopaeghnabDoor
