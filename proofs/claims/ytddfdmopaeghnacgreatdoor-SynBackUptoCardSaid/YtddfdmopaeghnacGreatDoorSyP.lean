/- Plain: how long a statement's text is; what is left of a node's kids. No program, no condition. -/
import Derived.Test.YtddfdmopaeghnacGreatDoorFltP
namespace Go.Proofs.YtddfdmopaeghnacGreatDoor

theorem kidX_len (po ko : Int) (b : Bool) (x : ByteArray) : (kidX po ko b x).size ≤ x.size + 2 := by
  unfold kidX
  split
  · simp only [ByteArray.size_append]
    show 1 + x.size + 1 ≤ _
    omega
  · omega
theorem kidsX_len {l : List Nd} {g : Nat → ByteArray} : ∀ (m a z : Nat), KidsP l a m z → (∀ b, a ≤ b → b < l.length → (g b).size + 6 ≤ 24 * (tEnd l b - b)) → a ≤ z ∧ (kidsX g (tEnd l) a m).size + 4 * m ≤ 24 * (z - a) := by
  intro m
  induction m with
  | zero => intro a z h _; rw [KidsP] at h; subst h; simp [kidsX]
  | succ m ih =>
    intro a z h hg
    obtain ⟨h1, h2, h3⟩ := h
    have h4 := hg a (Nat.le_refl _) h1
    obtain ⟨h5, h6⟩ := ih _ _ h3 (fun b hb hb2 => hg b (by omega) hb2)
    refine ⟨by omega, ?_⟩
    rw [kidsX]
    split
    · rename_i e; subst e; omega
    · simp only [ByteArray.size_append]
      show (g a).size + 2 + (kidsX g (tEnd l) (tEnd l a) m).size + 4 * (m + 1) ≤ _
      omega
theorem textX_len {l : List Nd} (hT : Tr l) : ∀ f i : Nat, l.length ≤ i + f → (hi : i < l.length) → l[i].op ≠ 9 → (textX l f i).size + 6 ≤ 24 * (tEnd l i - i) := by
  intro f
  induction f with
  | zero => intro i h1 h2; omega
  | succ f ih =>
    intro i h1 h2 h9
    have hk := hT.kidsP h2
    have hb := (tEnd_bd h2).1
    have hm : (manyL l).getD i 0 = (manyF l[i].op l[i].n).toNat := manyL_at h2 rfl
    have hone := hT.one _ (List.getElem_mem h2)
    have hop : 1 ≤ l[i].op ∧ l[i].op ≤ 9 := by
      by_cases hc : l[i].op < 1 ∨ 9 < l[i].op
      · rw [treeOne, if_pos (by rcases hc with h | h; exact .inl h; exact .inr (.inl h))] at hone; cases hone
      · omega
    rw [hm] at hk
    have ihk : ∀ b, i + 1 ≤ b → b < l.length → (textX l f b).size + 6 ≤ 24 * (tEnd l b - b) := fun b hb hl => ih b (by omega) hl (by have := hT.low hl (by omega); omega)
    rw [textX, getD_at h2]
    generalize l[i].op = op at *
    generalize l[i].n = n at *
    generalize l[i].text = t at *
    have hnm : namedF op = true → t.size ≤ 8 := fun h => (name_facts (tone_word hone h h9)).2.1
    have hcs : op = 1 ∨ op = 2 ∨ op = 3 ∨ op = 4 ∨ op = 5 ∨ op = 6 ∨ op = 7 ∨ op = 8 := by omega
    rcases hcs with rfl | rfl | rfl | rfl | rfl | rfl | rfl | rfl
    · obtain ⟨n0, n1⟩ := tone_num hone
      have := itoa_len6 n0 n1
      simp only [if_true]
      have hz : (⟨(Lib.itoa n).toArray⟩ : ByteArray).size = (Lib.itoa n).length := by simp [ByteArray.size]
      omega
    · have := hnm rfl
      simp only [show ¬ (2 : Int) = 1 by decide, if_false, if_true]; omega
    · have := hnm rfl
      rw [show manyF 3 n = n from rfl] at hk
      obtain ⟨g1, g2⟩ := kidsX_len _ _ _ hk ihk
      simp only [show ¬ (3 : Int) = 1 by decide, show ¬ (3 : Int) = 2 by decide, if_false, if_true, ByteArray.size_append]
      show t.size + 1 + (kidsX (textX l f) (tEnd l) (i + 1) n.toNat).size + 1 + 6 ≤ _
      omega
    · rw [show manyF 4 n = n from rfl] at hk
      obtain ⟨g1, g2⟩ := kidsX_len _ _ _ hk ihk
      simp only [show ¬ (4 : Int) = 1 by decide, show ¬ (4 : Int) = 2 by decide, show ¬ (4 : Int) = 3 by decide, if_false, if_true, ByteArray.size_append]
      show 1 + (kidsX (textX l f) (tEnd l) (i + 1) n.toNat).size + 1 + 6 ≤ _
      omega
    · obtain ⟨a1, a2, b1, b2, b3⟩ : i + 1 < l.length ∧ i + 1 < tEnd l (i + 1) ∧ tEnd l (i + 1) < l.length ∧ tEnd l (i + 1) < tEnd l (tEnd l (i + 1)) ∧ tEnd l (tEnd l (i + 1)) = tEnd l i := ⟨hk.1, hk.2.1, hk.2.2.1, hk.2.2.2.1, hk.2.2.2.2⟩
      have q1 := ihk _ (Nat.le_refl _) a1
      have q2 := ihk _ (by omega) b1
      have q3 := kidX_len 5 (opAt l (i + 1)) false (textX l f (i + 1))
      have q4 := kidX_len 5 (opAt l (tEnd l (i + 1))) true (textX l f (tEnd l (i + 1)))
      simp only [show ¬ (5 : Int) = 1 by decide, show ¬ (5 : Int) = 2 by decide, show ¬ (5 : Int) = 3 by decide, show ¬ (5 : Int) = 4 by decide, if_false, if_true, ByteArray.size_append]
      show (kidX 5 (opAt l (i + 1)) false (textX l f (i + 1))).size + 3 + (kidX 5 (opAt l (tEnd l (i + 1))) true (textX l f (tEnd l (i + 1)))).size + 6 ≤ _
      omega
    · obtain ⟨a1, a2, b1, b2, b3⟩ : i + 1 < l.length ∧ i + 1 < tEnd l (i + 1) ∧ tEnd l (i + 1) < l.length ∧ tEnd l (i + 1) < tEnd l (tEnd l (i + 1)) ∧ tEnd l (tEnd l (i + 1)) = tEnd l i := ⟨hk.1, hk.2.1, hk.2.2.1, hk.2.2.2.1, hk.2.2.2.2⟩
      have q1 := ihk _ (Nat.le_refl _) a1
      have q2 := ihk _ (by omega) b1
      have q3 := kidX_len 6 (opAt l (i + 1)) false (textX l f (i + 1))
      have q4 := kidX_len 6 (opAt l (tEnd l (i + 1))) true (textX l f (tEnd l (i + 1)))
      simp only [show ¬ (6 : Int) = 1 by decide, show ¬ (6 : Int) = 2 by decide, show ¬ (6 : Int) = 3 by decide, show ¬ (6 : Int) = 4 by decide, show ¬ (6 : Int) = 5 by decide, if_false, if_true, ByteArray.size_append]
      show (kidX 6 (opAt l (i + 1)) false (textX l f (i + 1))).size + 3 + (kidX 6 (opAt l (tEnd l (i + 1))) true (textX l f (tEnd l (i + 1)))).size + 6 ≤ _
      omega
    · have := hnm rfl
      obtain ⟨a1, a2, b3⟩ : i + 1 < l.length ∧ i + 1 < tEnd l (i + 1) ∧ tEnd l (i + 1) = tEnd l i := ⟨hk.1, hk.2.1, hk.2.2⟩
      have q1 := ihk _ (Nat.le_refl _) a1
      simp only [show ¬ (7 : Int) = 1 by decide, show ¬ (7 : Int) = 2 by decide, show ¬ (7 : Int) = 3 by decide, show ¬ (7 : Int) = 4 by decide, show ¬ (7 : Int) = 5 by decide, show ¬ (7 : Int) = 6 by decide, if_false, if_true, ByteArray.size_append]
      show 4 + t.size + 3 + (textX l f (i + 1)).size + 1 + 6 ≤ _
      omega
    · obtain ⟨a1, a2, b3⟩ : i + 1 < l.length ∧ i + 1 < tEnd l (i + 1) ∧ tEnd l (i + 1) = tEnd l i := ⟨hk.1, hk.2.1, hk.2.2⟩
      have q1 := ihk _ (Nat.le_refl _) a1
      simp only [show ¬ (8 : Int) = 1 by decide, show ¬ (8 : Int) = 2 by decide, show ¬ (8 : Int) = 3 by decide, show ¬ (8 : Int) = 4 by decide, show ¬ (8 : Int) = 5 by decide, show ¬ (8 : Int) = 6 by decide, show ¬ (8 : Int) = 7 by decide, if_false, ByteArray.size_append]
      show (textX l f (i + 1)).size + 1 + 6 ≤ _
      omega

/-- What is left of a node's kids: so many are written, so many are left from a place on. -/
def restX (g : Nat → ByteArray) (e : Nat → Nat) (j a r : Nat) : ByteArray := if r = 0 then .empty else (if j = 0 then .empty else ⟨#[44, 32]⟩) ++ kidsX g e a r
theorem rest_start (g : Nat → ByteArray) (e : Nat → Nat) (a m : Nat) : kidsX g e a m = restX g e 0 a m := by
  unfold restX
  cases m with
  | zero => rfl
  | succ m => simp
theorem kidsX_succ (g : Nat → ByteArray) (e : Nat → Nat) (j a r : Nat) : kidsX g e a (r + 1) = g a ++ restX g e (j + 1) (e a) r := by
  rw [kidsX, restX]
  split
  · simp
  · simp [ByteArray.append_assoc]
theorem rest_zero (g : Nat → ByteArray) (e : Nat → Nat) (a r : Nat) : restX g e 0 a (r + 1) = g a ++ restX g e (0 + 1) (e a) r := by
  rw [← rest_start, kidsX_succ]
theorem rest_succ (g : Nat → ByteArray) (e : Nat → Nat) (j a r : Nat) : restX g e (j + 1) a (r + 1) = ⟨#[44, 32]⟩ ++ (g a ++ restX g e (j + 1 + 1) (e a) r) := by
  rw [restX, if_neg (by omega), if_neg (by omega), kidsX_succ g e (j + 1)]
theorem rest_end (g : Nat → ByteArray) (e : Nat → Nat) (j a : Nat) : restX g e j a 0 = .empty := rfl
end Go.Proofs.YtddfdmopaeghnacGreatDoor
