/- Plain: where the words of a text stand, how long and how many they are; the words each in a line of its own. No condition but the text's own size. -/
import Derived.Test.YtddfdmopaeghnacGreatDoorLexU
namespace Go.Proofs.YtddfdmopaeghnacGreatDoor
open Go.RowKit

theorem trimR_take (l : List UInt8) : l.take (trimR l).length = trimR l := by
  obtain ⟨k, hk⟩ := trimR_pre l
  have h : l.take (trimR l).length = (trimR l ++ List.replicate k 32).take (trimR l).length := by rw [← hk]
  rw [h, List.take_left]

/-- Where words stand. -/
theorem lex_spots : ∀ (n i : Nat) (l : List UInt8), l.length ≤ n →
    (∀ p ∈ (lexL i l).1, i ≤ p.1 ∧ p.1 + p.2.length ≤ i + l.length ∧ (l.drop (p.1 - i)).take p.2.length = p.2) ∧ (lexL i l).1.Pairwise (fun a b => a.1 + a.2.length ≤ b.1) := by
  intro n
  induction n with
  | zero =>
    intro i l hn
    obtain rfl : l = [] := List.eq_nil_of_length_eq_zero (by omega)
    rw [lexL_nil]; exact ⟨by simp, .nil⟩
  | succ n ih =>
    intro i l hn
    cases l with
    | nil => rw [lexL_nil]; exact ⟨by simp, .nil⟩
    | cons c r =>
      simp only [List.length_cons] at hn
      cases hc : (c == 32 || c == 10) with
      | true =>
        rw [lexL_skip hc]
        obtain ⟨h1, h2⟩ := ih (i + 1) r (by omega)
        refine ⟨fun p hp => ?_, h2⟩
        obtain ⟨g1, g2, g3⟩ := h1 p hp
        refine ⟨by omega, by rw [List.length_cons]; omega, ?_⟩
        rw [show p.1 - i = (p.1 - (i + 1)) + 1 by omega, List.drop_succ_cons]; exact g3
      | false =>
        cases hb : (firstW (c :: r)).2 with
        | false => rw [lexL_bad hc hb]; exact ⟨by simp, .nil⟩
        | true =>
          have hp := firstW_pos hb
          rw [lexL_word hc hb]
          generalize (firstW (c :: r)).1 = m at *
          obtain ⟨h1, h2⟩ := ih (i + m) ((c :: r).drop m) (by rw [List.length_drop, List.length_cons]; omega)
          have ht := trimR_le ((c :: r).take m)
          rw [List.length_take, Nat.min_eq_left hp.2] at ht
          refine ⟨fun p hpm => ?_, ?_⟩
          · rcases List.mem_cons.1 hpm with rfl | hpm
            · refine ⟨Nat.le_refl _, by simp only; omega, ?_⟩
              simp only [Nat.sub_self, List.drop_zero]
              have h3 := trimR_take ((c :: r).take m)
              rw [List.take_take, Nat.min_eq_left ht] at h3
              exact h3
            · obtain ⟨g1, g2, g3⟩ := h1 p hpm
              rw [List.length_drop] at g2
              refine ⟨by omega, by omega, ?_⟩
              rw [List.drop_drop] at g3
              rw [show p.1 - i = m + (p.1 - (i + m)) by omega]; exact g3
          · rw [List.pairwise_cons]
            refine ⟨fun p hpm => ?_, h2⟩
            have := (h1 p hpm).1
            simp only; omega

/-- The words of a text, each with a new line behind it: the first k. -/
def rowsB (s : ByteArray) (k : Nat) : ByteArray := ⟨(rows (((lexWs s).take k).map (·.2))).toArray⟩

theorem rowsB_zero (s : ByteArray) : rowsB s 0 = .empty := rfl
theorem rowsB_succ {s : ByteArray} {k : Nat} (hk : k < (lexWs s).length) : rowsB s (k + 1) = rowsB s k ++ ⟨((lexWs s)[k]).2.toArray⟩ ++ ⟨#[10]⟩ := by
  have h : rows (((lexWs s).take (k + 1)).map (·.2)) = rows (((lexWs s).take k).map (·.2)) ++ (((lexWs s)[k]).2 ++ [10]) := by
    rw [List.take_succ_eq_append_getElem hk, List.map_append]
    unfold rows
    rw [List.flatMap_append]
    simp only [List.map_cons, List.map_nil, List.flatMap_cons, List.flatMap_nil, List.append_nil]
  apply ByteArray.ext
  apply Array.toList_inj.1
  unfold rowsB
  simp only [ByteArray.data_append, Array.toList_append, h, List.append_assoc]
theorem lexWs_len {s : ByteArray} (hs : s.size ≤ 60000) : ∀ p ∈ lexWs s, p.2.length ≤ 60000 ∧ p.1 + p.2.length ≤ s.size ∧ 0 < p.2.length := by
  intro p hp
  have h := (lex_spots _ 0 s.data.toList (Nat.le_refl _)).1 p hp
  have h2 := lex_pos _ 0 s.data.toList (Nat.le_refl _) p hp
  have h3 : s.data.toList.length = s.size := by simp
  omega
theorem rowsB_size {s : ByteArray} (hs : s.size ≤ 60000) : ∀ k, k ≤ (lexWs s).length → (rowsB s k).size ≤ k * 60001 := by
  intro k
  induction k with
  | zero => intro _; rw [rowsB_zero]; simp
  | succ k ih =>
    intro hk
    rw [rowsB_succ (by omega)]
    have h1 := ih (by omega)
    have h2 := (lexWs_len hs _ (List.getElem_mem (show k < (lexWs s).length by omega))).1
    rw [ByteArray.size_append, ByteArray.size_append]
    have h3 : (⟨((lexWs s)[k]).2.toArray⟩ : ByteArray).size = ((lexWs s)[k]).2.length := by simp [ByteArray.size]
    have h4 : (⟨#[10]⟩ : ByteArray).size = 1 := rfl
    rw [h3, h4]; omega

theorem lexE_parts {s : ByteArray} (h : (lexE s).1 = 0) : s.size ≤ 60000 ∧ (lexL 0 s.data.toList).2 = none ∧ manyW (wordBs (lexWs s)) ≤ 300 := by
  unfold lexE at h
  split at h
  · cases h
  · split at h
    · cases h
    · rename_i hn
      split at h
      · cases h
      · exact ⟨by omega, hn, by unfold lexWs; omega⟩

theorem lexWs_count {s : ByteArray} (h : (lexE s).1 = 0) : (lexWs s).length ≤ 60000 := by
  have hp := lexE_parts h
  have hs := lex_spots _ 0 s.data.toList (Nat.le_refl _)
  have main : ∀ (ws : List (Nat × List UInt8)) (a : Nat), (∀ p ∈ ws, a ≤ p.1 ∧ p.1 + p.2.length ≤ s.size ∧ 0 < p.2.length) → ws.Pairwise (fun a b => a.1 + a.2.length ≤ b.1) → ws.length + a ≤ s.size + 0 ∨ ws = [] := by
    intro ws
    induction ws with
    | nil => intro a _ _; exact .inr rfl
    | cons p r ih =>
      intro a h1 h2
      rw [List.pairwise_cons] at h2
      obtain ⟨g1, g2, g3⟩ := h1 p (by simp)
      left
      rcases ih (p.1 + p.2.length) (fun q hq => ⟨h2.1 q hq, (h1 q (by simp [hq])).2⟩) h2.2 with h3 | h3
      · simp only [List.length_cons]; omega
      · subst h3; simp only [List.length_cons, List.length_nil]; omega
  rcases main (lexWs s) 0 (fun p hp2 => ⟨Nat.zero_le _, (lexWs_len hp.1 p hp2).2⟩) hs.2 with h3 | h3
  · omega
  · rw [h3]; simp

/-- The words each in a line of its own are the same words. -/
theorem lex_again {s : ByteArray} (h : (lexE s).1 = 0) (hz : (rowsB s (lexWs s).length).size ≤ 60000) : (lexE (rowsB s (lexWs s).length)).1 = 0 ∧ wordBs (lexWs (rowsB s (lexWs s).length)) = wordBs (lexWs s) := by
  have hp := lexE_parts h
  have hr := lex_rows ((lexWs s).map (·.2)) 0 (by
    intro w hw
    obtain ⟨p, hp, rfl⟩ := List.mem_map.1 hw
    exact lex_words _ 0 s.data.toList (Nat.le_refl _) p hp)
  have hd : (rowsB s (lexWs s).length).data.toList = rows ((lexWs s).map (·.2)) := by unfold rowsB; rw [List.take_length]
  rw [← hd] at hr
  have hw : wordBs (lexWs (rowsB s (lexWs s).length)) = wordBs (lexWs s) := by
    have e : ∀ ws : List (Nat × List UInt8), wordBs ws = (ws.map (·.2)).map fun w => ⟨w.toArray⟩ := fun ws => by simp [wordBs]
    rw [e, e]
    show ((lexL 0 _).1.map (·.2)).map _ = _
    rw [hr.1]
  refine ⟨?_, hw⟩
  rw [lex_many (by omega) hr.2, hw, if_neg (by omega)]
end Go.Proofs.YtddfdmopaeghnacGreatDoor
