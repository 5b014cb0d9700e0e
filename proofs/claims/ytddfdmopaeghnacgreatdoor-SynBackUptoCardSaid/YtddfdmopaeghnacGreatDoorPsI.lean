/- Plain: how long the texts of nodes are that are read off words; the rounds of a program; a text as a program. No program text, no condition. -/
import Derived.Test.YtddfdmopaeghnacGreatDoorPrU
import Derived.Test.YtddfdmopaeghnacGreatDoorPsW
import Derived.Test.YtddfdmopaeghnacGreatDoorLexD
import Derived.Test.YtddfdmopaeghnacGreatDoorPrgV
namespace Go.Proofs.YtddfdmopaeghnacGreatDoor

theorem TxB.short {m : Nat} {x : List Nd} (h : TxB m x) (hm : m ≤ 3600000000) : Short x := fun d hd => by have := h d hd; omega
/-- The words of a text, its places and its end. -/
def wordsB (s : ByteArray) : List ByteArray := wordBs (lexWs s)
def placesN (s : ByteArray) : List Nat := (lexWs s).map (·.1) ++ [s.size]
theorem wordsB_len (s : ByteArray) : (wordsB s).length = (lexWs s).length := by simp [wordsB, wordBs]
theorem placesN_len (s : ByteArray) : (placesN s).length = (wordsB s).length + 1 := by simp [placesN, wordsB, wordBs]
/-- A text as a program: the fault, the place, the program. -/
def parseF (s : ByteArray) : Int × Nat × List (List Nd) :=
  if (lexE s).1 ≠ 0 then ((lexE s).1, (lexE s).2, [])
  else match progP (wordsB s) (wordsB s).length [] 0 with
    | .error x => (5, (placesN s).getD x 0, [])
    | .ok l => if (progF l).2 ≠ 0 then ((progF l).2, 0, []) else (0, 0, l)
theorem parseF_lex {s : ByteArray} (h : (lexE s).1 ≠ 0) : parseF s = ((lexE s).1, (lexE s).2, []) := by rw [parseF, if_pos h]
theorem parseF_bad {s : ByteArray} {x : Nat} (h : (lexE s).1 = 0) (hp : progP (wordsB s) (wordsB s).length [] 0 = .error x) : parseF s = (5, (placesN s).getD x 0, []) := by rw [parseF, if_neg (by simp [h]), hp]
theorem parseF_tree {s : ByteArray} {l : List (List Nd)} (h : (lexE s).1 = 0) (hp : progP (wordsB s) (wordsB s).length [] 0 = .ok l) (hq : (progF l).2 ≠ 0) : parseF s = ((progF l).2, 0, []) := by
  rw [parseF, if_neg (by simp [h]), hp]
  simp only
  rw [if_pos hq]
theorem parseF_ok {s : ByteArray} {l : List (List Nd)} (h : (lexE s).1 = 0) (hp : progP (wordsB s) (wordsB s).length [] 0 = .ok l) (hq : (progF l).2 = 0) : parseF s = (0, 0, l) := by
  rw [parseF, if_neg (by simp [h]), hp]
  simp only
  rw [if_neg (by simp [hq])]

theorem wordsB_at {s : ByteArray} {j : Nat} (h : j < (lexWs s).length) : wdAt (wordsB s) j = ⟨((lexWs s)[j]).2.toArray⟩ := by
  rw [wdAt_at (by rw [wordsB_len]; exact h)]
  simp [wordsB, wordBs]
theorem wordsB_wdB {s : ByteArray} (hs : s.size ≤ 60000) : WdB (wordsB s) := by
  intro j
  rcases Nat.lt_or_ge j (lexWs s).length with h | h
  · rw [wordsB_at h]
    have := (lexWs_len hs _ (List.getElem_mem h)).1
    simpa [ByteArray.size] using this
  · rw [wdAt_end (by rw [wordsB_len]; exact h)]; exact Nat.zero_le _
theorem wordOk_dig {w : List UInt8} (h : WordOk w) {c : UInt8} {r : List UInt8} (e : w = c :: r) (hc : digB c = true) : w.all digB = true ∧ w.length ≤ 6 := by
  obtain ⟨h1, h2, h3⟩ := dig_nb hc
  have hl := h.lex 0
  subst e
  cases hb : (firstW (c :: r)).2 with
  | false => rw [lexL_bad h1 hb] at hl; simp at hl
  | true =>
    rw [lexL_word h1 hb] at hl
    have hh : trimR ((c :: r).take (firstW (c :: r)).1) = c :: r := by
      have := congrArg (fun x => x.1.head?.map (·.2)) hl
      simpa using this
    have hn : (c :: r).length ≤ (firstW (c :: r)).1 := by
      have a1 := trimR_le ((c :: r).take (firstW (c :: r)).1)
      rw [hh, List.length_take] at a1
      omega
    have hf : firstW (c :: r) = (runB digB (c :: r), decide (runB digB (c :: r) ≤ 6) && (decide (runB digB (c :: r) = 1) || !(c == 48))) := by
      rw [firstW_cons, if_neg (by rw [h3]; decide), if_pos hc]
    rw [hf] at hb hn
    simp only [Bool.and_eq_true, decide_eq_true_eq] at hb
    refine ⟨List.all_eq_true.2 (fun z hz => runB_mono (c :: r) (c :: r).length hn z (by rw [List.take_length]; exact hz)), ?_⟩
    have := hb.1
    simp only at hn
    omega
theorem digB_C (c : UInt8) : digB c = digC c := rfl
theorem wordsB_dgW (s : ByteArray) : DgW (wordsB s) := by
  intro j hj
  have hlt := digW_lt hj
  rw [wordsB_len] at hlt
  rw [wordsB_at hlt] at hj ⊢
  have hw := lex_words _ 0 s.data.toList (Nat.le_refl _) _ (List.getElem_mem (l := lexWs s) hlt)
  generalize ((lexWs s)[j]).2 = w at *
  unfold digW at hj
  simp only at hj
  cases w with
  | nil => simp at hj
  | cons c r =>
    simp only at hj
    obtain ⟨g1, g2⟩ := wordOk_dig hw rfl hj
    exact ⟨g1, by simpa [ByteArray.size] using g2⟩
end Go.Proofs.YtddfdmopaeghnacGreatDoor
