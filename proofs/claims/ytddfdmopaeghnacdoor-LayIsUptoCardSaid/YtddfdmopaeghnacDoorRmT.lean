/- Walk of the reference's DocOf, joined. Conditions: the slice of nodes lies below the call's own blocks and is a statement that may be. -/
import Derived.Test.YtddfdmopaeghnacDoorRmU
namespace Go.Proofs.YtddfdmopaeghnacDoor
open Go.RowKit

set_option maxRecDepth 100000 in
theorem rdoc_any {A : Option Addr} {c : Nat} {l : List Nd} (hT : Tr l) : ∀ f, DocSaid A c l f := by
  intro f
  induction f with
  | zero => intro i v w hv hN hi hf; omega
  | succ f ih =>
  intro i v w hv hN hi hf h9
  subst hv
  have hk := hT.kidsP hi
  have hone := hT.one _ (List.getElem_mem hi)
  have hmm : (manyL l).getD i 0 = (manyF l[i].op l[i].n).toNat := manyL_at hi rfl
  rw [hmm] at hk
  clear hmm
  have hoe : opAt l i = l[i].op := by rw [opAt, getD_at hi]
  rw [hoe] at h9
  obtain ⟨op, t, n, hnd⟩ : ∃ op t n, l[i] = Nd.mk op t n := ⟨_, _, _, rfl⟩
  rw [hnd] at hone hk h9 hoe
  simp only at hone hk h9 hoe
  have hop : 1 ≤ op ∧ op ≤ 8 := by
    by_cases hc : op < 1 ∨ 9 < op
    · rw [treeOne, if_pos (by rcases hc with h | h; exact .inl h; exact .inr (.inl h))] at hone; cases hone
    · omega
  have hnm : namedF op = true → t.size ≤ 8 := fun h => (name_facts (tone_word hone h h9)).2.1
  have hn6 := manyF_bd hone
  have hm40 := hT.len
  have hcs : op = 1 ∨ op = 2 ∨ op = 3 ∨ op = 4 ∨ op = 5 ∨ op = 6 ∨ op = 7 ∨ op = 8 := by omega
  rcases hcs with rfl | rfl | rfl | rfl | rfl | rfl | rfl | rfl
  · obtain ⟨n0, n1⟩ := tone_num hone
    rw [show docT l (f + 1) i = wordN ⟨(Lib.itoa n).toArray⟩ by
      rw [docT, getD_at hi, hnd]
      simp only [if_true]]
    exact rdoc_1 hN hi hnd hm40 n0 n1
  · rw [show docT l (f + 1) i = wordN t by
      rw [docT, getD_at hi, hnd]
      simp only [show ¬ (2 : Int) = 1 by decide, if_false, if_true]]
    exact rdoc_2 hN hi hnd hm40
  · rw [show manyF 3 n = n from rfl] at hk hn6
    rw [show docT l (f + 1) i = listD (t ++ ⟨#[40]⟩) ⟨#[41]⟩ n.toNat (kidsD (docT l f) (tEnd l) (i + 1) n.toNat) by
      rw [docT, getD_at hi, hnd]
      simp only [show ¬ (3 : Int) = 1 by decide, show ¬ (3 : Int) = 2 by decide, if_false, if_true]]
    by_cases h0 : n = 0
    · rw [show listD (t ++ ⟨#[40]⟩) ⟨#[41]⟩ n.toNat (kidsD (docT l f) (tEnd l) (i + 1) n.toNat) = wordN (t ++ ⟨#[40]⟩ ++ ⟨#[41]⟩) by rw [h0]; rfl]
      exact rdoc_30 hN hi hnd hm40 (hnm rfl) h0
    · obtain ⟨m, rfl⟩ : ∃ m : Nat, n = (m : Int) + 1 := ⟨n.toNat - 1, by omega⟩
      rw [show ((m : Int) + 1).toNat = m + 1 by omega] at hk ⊢
      have hzl := (rkidsP_le hk (by omega)).2
      rw [show listD (t ++ ⟨#[40]⟩) ⟨#[41]⟩ (m + 1) (kidsD (docT l f) (tEnd l) (i + 1) (m + 1)) = groupN (bothN (wordN (t ++ ⟨#[40]⟩)) (bothN (deepN (bothN (opN 3) (kidsD (docT l f) (tEnd l) (i + 1) (m + 1)))) (bothN (opN 3) (wordN ⟨#[41]⟩)))) by simp [listD]]
      exact rdoc_31 hN hi hnd hm40 (hnm rfl) (by omega) (by omega) (rkids_small hT hk (by omega) (by omega) hzl) (Lib.hid (fun w' hw' => rkids_any hT ih m (i + 1) _ _ _ w' hk (by omega) (by omega) hw' (by omega) rfl (by omega)))
  · rw [show manyF 4 n = n from rfl] at hk hn6
    rw [show docT l (f + 1) i = listD ⟨#[91]⟩ ⟨#[93]⟩ n.toNat (kidsD (docT l f) (tEnd l) (i + 1) n.toNat) by
      rw [docT, getD_at hi, hnd]
      simp only [show ¬ (4 : Int) = 1 by decide, show ¬ (4 : Int) = 2 by decide, show ¬ (4 : Int) = 3 by decide, if_false, if_true]]
    by_cases h0 : n = 0
    · rw [show listD ⟨#[91]⟩ ⟨#[93]⟩ n.toNat (kidsD (docT l f) (tEnd l) (i + 1) n.toNat) = wordN (⟨#[91]⟩ ++ ⟨#[93]⟩) by rw [h0]; rfl]
      exact rdoc_40 hN hi hnd hm40 h0
    · obtain ⟨m, rfl⟩ : ∃ m : Nat, n = (m : Int) + 1 := ⟨n.toNat - 1, by omega⟩
      rw [show ((m : Int) + 1).toNat = m + 1 by omega] at hk ⊢
      have hzl := (rkidsP_le hk (by omega)).2
      rw [show listD ⟨#[91]⟩ ⟨#[93]⟩ (m + 1) (kidsD (docT l f) (tEnd l) (i + 1) (m + 1)) = groupN (bothN (wordN ⟨#[91]⟩) (bothN (deepN (bothN (opN 3) (kidsD (docT l f) (tEnd l) (i + 1) (m + 1)))) (bothN (opN 3) (wordN ⟨#[93]⟩)))) by simp [listD]]
      exact rdoc_41 hN hi hnd hm40 (by omega) (by omega) (rkids_small hT hk (by omega) (by omega) hzl) (Lib.hid (fun w' hw' => rkids_any hT ih m (i + 1) _ _ _ w' hk (by omega) (by omega) hw' (by omega) rfl (by omega)))
  · rw [show (manyF 5 n).toNat = 2 from rfl] at hk
    obtain ⟨q1, q2, r1, r2, r3⟩ : i + 1 < l.length ∧ i + 1 < tEnd l (i + 1) ∧ tEnd l (i + 1) < l.length ∧ tEnd l (i + 1) < tEnd l (tEnd l (i + 1)) ∧ tEnd l (tEnd l (i + 1)) = tEnd l i := ⟨hk.1, hk.2.1, hk.2.2.1, hk.2.2.2.1, hk.2.2.2.2⟩
    rw [show docT l (f + 1) i = twoD ⟨#[43, 32]⟩ (kidD 5 (opAt l (i + 1)) false (docT l f (i + 1))) (kidD 5 (opAt l (tEnd l (i + 1))) true (docT l f (tEnd l (i + 1)))) by
      rw [docT, getD_at hi, hnd]
      simp only [show ¬ (5 : Int) = 1 by decide, show ¬ (5 : Int) = 2 by decide, show ¬ (5 : Int) = 3 by decide, show ¬ (5 : Int) = 4 by decide, if_false, if_true]]
    have hx1 := kidD_len 5 (opAt l (i + 1)) false (docT l f (i + 1))
    have hx2 := rdoc_small hT (f := f) (by omega) q1 (rlow_at hT q1 (by omega))
    have hy1 := kidD_len 5 (opAt l (tEnd l (i + 1))) true (docT l f (tEnd l (i + 1)))
    have hy2 := rdoc_small hT (f := f) (by omega) r1 (rlow_at hT r1 (by omega))
    have c1 := fun w' hw' => rkid_any (A := A) (c := c) hT ih i (i + 1) i ((i : Int) + 1) false w' rfl (by omega) hw' hi q1 (by omega) (by omega)
    have c2 := fun w' hw' => rkid_any (A := A) (c := c) hT ih i (tEnd l (i + 1)) i (tEnd l (i + 1) : Nat) true w' rfl rfl hw' hi r1 (by omega) (by omega)
    rw [hoe] at c1 c2
    exact rdoc_5 hN hi hnd hm40 (by omega) (by omega) (Lib.hid c1) (Lib.hid c2) (Lib.hid (fun w' hw' => rend_any hT A c q1 (by omega) w' hw'))
  · rw [show (manyF 6 n).toNat = 2 from rfl] at hk
    obtain ⟨q1, q2, r1, r2, r3⟩ : i + 1 < l.length ∧ i + 1 < tEnd l (i + 1) ∧ tEnd l (i + 1) < l.length ∧ tEnd l (i + 1) < tEnd l (tEnd l (i + 1)) ∧ tEnd l (tEnd l (i + 1)) = tEnd l i := ⟨hk.1, hk.2.1, hk.2.2.1, hk.2.2.2.1, hk.2.2.2.2⟩
    rw [show docT l (f + 1) i = twoD ⟨#[42, 32]⟩ (kidD 6 (opAt l (i + 1)) false (docT l f (i + 1))) (kidD 6 (opAt l (tEnd l (i + 1))) true (docT l f (tEnd l (i + 1)))) by
      rw [docT, getD_at hi, hnd]
      simp only [show ¬ (6 : Int) = 1 by decide, show ¬ (6 : Int) = 2 by decide, show ¬ (6 : Int) = 3 by decide, show ¬ (6 : Int) = 4 by decide, show ¬ (6 : Int) = 5 by decide, if_false, if_true]]
    have hx1 := kidD_len 6 (opAt l (i + 1)) false (docT l f (i + 1))
    have hx2 := rdoc_small hT (f := f) (by omega) q1 (rlow_at hT q1 (by omega))
    have hy1 := kidD_len 6 (opAt l (tEnd l (i + 1))) true (docT l f (tEnd l (i + 1)))
    have hy2 := rdoc_small hT (f := f) (by omega) r1 (rlow_at hT r1 (by omega))
    have c1 := fun w' hw' => rkid_any (A := A) (c := c) hT ih i (i + 1) i ((i : Int) + 1) false w' rfl (by omega) hw' hi q1 (by omega) (by omega)
    have c2 := fun w' hw' => rkid_any (A := A) (c := c) hT ih i (tEnd l (i + 1)) i (tEnd l (i + 1) : Nat) true w' rfl rfl hw' hi r1 (by omega) (by omega)
    rw [hoe] at c1 c2
    exact rdoc_6 hN hi hnd hm40 (by omega) (by omega) (Lib.hid c1) (Lib.hid c2) (Lib.hid (fun w' hw' => rend_any hT A c q1 (by omega) w' hw'))
  · rw [show (manyF 7 n).toNat = 1 from rfl] at hk
    have q1 : i + 1 < l.length := hk.1
    have h99 := rlow_at hT q1 (by omega)
    rw [show docT l (f + 1) i = groupN (bothN (wordN (⟨#[108, 101, 116, 32]⟩ ++ t ++ ⟨#[32, 61]⟩)) (deepN (bothN (opN 2) (bothN (docT l f (i + 1)) (wordN ⟨#[59]⟩))))) by
      rw [docT, getD_at hi, hnd]
      simp only [show ¬ (7 : Int) = 1 by decide, show ¬ (7 : Int) = 2 by decide, show ¬ (7 : Int) = 3 by decide, show ¬ (7 : Int) = 4 by decide, show ¬ (7 : Int) = 5 by decide, show ¬ (7 : Int) = 6 by decide, if_false, if_true]]
    exact rdoc_7 hN hi hnd hm40 (hnm rfl) (rdoc_small hT (f := f) (by omega) q1 h99) (Lib.hid (fun w' hw' => ih (i + 1) ((i : Int) + 1) w' (by omega) hw' q1 (by omega) h99))
  · rw [show (manyF 8 n).toNat = 1 from rfl] at hk
    have q1 : i + 1 < l.length := hk.1
    have h99 := rlow_at hT q1 (by omega)
    rw [show docT l (f + 1) i = bothN (docT l f (i + 1)) (wordN ⟨#[59]⟩) by
      rw [docT, getD_at hi, hnd]
      simp only [show ¬ (8 : Int) = 1 by decide, show ¬ (8 : Int) = 2 by decide, show ¬ (8 : Int) = 3 by decide, show ¬ (8 : Int) = 4 by decide, show ¬ (8 : Int) = 5 by decide, show ¬ (8 : Int) = 6 by decide, show ¬ (8 : Int) = 7 by decide, if_false]]
    exact rdoc_8 hN hi hnd hm40 (rdoc_small hT (f := f) (by omega) q1 h99) (Lib.hid (fun w' hw' => ih (i + 1) ((i : Int) + 1) w' (by omega) hw' q1 (by omega) h99))
end Go.Proofs.YtddfdmopaeghnacDoor
