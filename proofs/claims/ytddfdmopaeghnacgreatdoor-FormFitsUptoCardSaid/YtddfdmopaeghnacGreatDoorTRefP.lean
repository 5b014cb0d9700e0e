/- Plain facts on statements as the reference tells them: trees skipped, the first node at fault, a note's words cut at each blank. No program, no condition. -/
import Derived.Test.YtddfdmopaeghnacGreatDoorTreeP
import Derived.Lib.SplitLaws
import Derived.Lib.IndexLaws
namespace Go.Proofs.YtddfdmopaeghnacGreatDoor

/-- What is left behind so many trees. -/
def skipT : List Nat → Nat → Option (List Nat)
  | l, 0 => some l
  | [], _ + 1 => none
  | m :: r, k + 1 => skipT r (k + m)
theorem skipT_zero (l : List Nat) : skipT l 0 = some l := by cases l <;> rfl
theorem skipT_add : ∀ (l : List Nat) (a b : Nat), skipT l (a + b) = (skipT l a).bind fun r => skipT r b := by
  intro l
  induction l with
  | nil =>
    intro a b
    cases a with
    | zero => rw [skipT_zero, Nat.zero_add]; rfl
    | succ a => rw [show a + 1 + b = (a + b) + 1 by omega]; rfl
  | cons m r ih =>
    intro a b
    cases a with
    | zero => rw [skipT_zero, Nat.zero_add]; rfl
    | succ a =>
      rw [show a + 1 + b = (a + b) + 1 by omega, skipT, skipT, show a + b + m = (a + m) + b by omega, ih]
theorem skipT_suf : ∀ (l : List Nat) (k : Nat) (r : List Nat), skipT l k = some r → ∃ j, j ≤ l.length ∧ r = l.drop j ∧ (0 < k → 0 < j) := by
  intro l
  induction l with
  | nil =>
    intro k r h
    cases k with
    | zero => rw [skipT_zero] at h; cases h; exact ⟨0, by simp, rfl, fun h => absurd h (by omega)⟩
    | succ k => cases h
  | cons m l ih =>
    intro k r h
    cases k with
    | zero => rw [skipT_zero] at h; cases h; exact ⟨0, by simp, rfl, fun h => absurd h (by omega)⟩
    | succ k =>
      rw [skipT] at h
      obtain ⟨j, h1, h2, _⟩ := ih _ _ h
      exact ⟨j + 1, by simpa using h1, by rw [h2]; rfl, fun _ => by omega⟩

/-- So many trees behind a place, by a function that ends one. -/
def runT (g : Nat → Option Nat) : Nat → Option Nat → Option Nat
  | 0, v => v
  | _ + 1, none => none
  | m + 1, some c => runT g m (g c)
def eoT (l : List Nd) : Nat → Nat → Option Nat
  | 0, _ => none
  | f + 1, i => if l.length ≤ i then none else runT (eoT l f) ((manyL l).getD i 0) (some (i + 1))
def opT : Option Nat → Int | some c => c | none => -1

theorem eoT_skip (l : List Nd) : ∀ f i : Nat, l.length ≤ i + f → i ≤ l.length → eoT l f i = (skipT ((manyL l).drop i) 1).map fun r => l.length - r.length := by
  intro f
  induction f with
  | zero =>
    intro i h1 h2
    rw [List.drop_eq_nil_of_le (by rw [manyL_len]; omega)]; rfl
  | succ f ih =>
    have hrun : ∀ m c : Nat, l.length ≤ c + f → c ≤ l.length → runT (eoT l f) m (some c) = (skipT ((manyL l).drop c) m).map fun r => l.length - r.length := by
      intro m
      induction m with
      | zero =>
        intro c h1 h2
        rw [skipT_zero, runT, Option.map_some, List.length_drop, manyL_len]
        congr 1; omega
      | succ m ihm =>
        intro c h1 h2
        rw [runT, ih c h1 h2, show m + 1 = 1 + m by omega, skipT_add]
        cases hs : skipT ((manyL l).drop c) 1 with
        | none => cases m <;> rfl
        | some r =>
          obtain ⟨j, g1, g2, g3⟩ := skipT_suf _ _ _ hs
          rw [List.length_drop, manyL_len] at g1
          rw [List.drop_drop] at g2
          have hl : l.length - r.length = c + j := by rw [g2, List.length_drop, manyL_len]; omega
          rw [Option.map_some, hl, ihm (c + j) (by omega) (by omega), ← g2]; rfl
    intro i h1 h2
    rw [eoT]
    by_cases hi : l.length ≤ i
    · rw [if_pos hi, List.drop_eq_nil_of_le (by rw [manyL_len]; omega)]; rfl
    · have hlt : i < (manyL l).length := by rw [manyL_len]; omega
      rw [if_neg hi, hrun _ (i + 1) (by omega) (by omega), List.drop_eq_getElem_cons hlt, skipT, Nat.zero_add]
      congr 2
      simp [hlt]
theorem eoT_bd {l : List Nd} {f i c : Nat} (h1 : l.length ≤ i + f) (h2 : i ≤ l.length) (h : eoT l f i = some c) : i < c ∧ c ≤ l.length := by
  rw [eoT_skip l f i h1 h2] at h
  cases hs : skipT ((manyL l).drop i) 1 with
  | none => rw [hs] at h; cases h
  | some r =>
    rw [hs, Option.map_some] at h
    obtain ⟨j, g1, g2, g3⟩ := skipT_suf _ _ _ hs
    have hl := congrArg List.length g2
    rw [List.drop_drop, List.length_drop, manyL_len] at hl
    rw [List.length_drop, manyL_len] at g1
    injection h with h
    have := g3 (by omega)
    omega
theorem eoT_end (l : List Nd) : (opT (eoT l l.length 0) = (l.length : Int)) ↔ skipT (manyL l) 1 = some [] := by
  rw [eoT_skip l l.length 0 (by omega) (by omega), List.drop_zero]
  cases hs : skipT (manyL l) 1 with
  | none => simp only [Option.map_none, opT]; constructor
            · intro h; omega
            · intro h; cases h
  | some r =>
    obtain ⟨j, g1, g2, g3⟩ := skipT_suf _ _ _ hs
    simp only [Option.map_some, opT, Option.some.injEq]
    have hl := congrArg List.length g2
    rw [List.length_drop, manyL_len] at hl
    rw [manyL_len] at g1
    have h3 := g3 (by omega)
    constructor
    · intro h; exact List.eq_nil_of_length_eq_zero (by omega)
    · intro h; rw [h] at hl ⊢; simp
/-- The end of a statement's node is tree.End's. -/
theorem eoT_tEnd {l : List Nd} {i : Nat} : skipT ((manyL l).drop i) 1 = some ((manyL l).drop (tEnd l i)) → opT (eoT l (l.length - i) i) = (tEnd l i : Nat) := by
  intro h
  rcases Nat.lt_or_ge i l.length with hi | hi
  · rw [eoT_skip l _ i (by omega) (by omega), h]
    simp only [Option.map_some, opT]
    have hb : tEnd l i ≤ l.length := by
      unfold tEnd headN
      cases hp : (posAt l i).tail with
      | nil => simp
      | cons a r =>
        have : a ∈ posAt l i := List.mem_of_mem_tail (by rw [hp]; simp)
        have := (posAt_bd l i a this).2
        simp; omega
    rw [List.length_drop, manyL_len]
    congr 1; omega
  · rw [List.drop_eq_nil_of_le (by rw [manyL_len]; omega)] at h; cases h

theorem Tr.skip {l : List Nd} (h : Tr l) : ∀ f i k : Nat, l.length ≤ i + f → i ≤ l.length → k ≤ (posAt l i).length → skipT ((manyL l).drop i) k = some ((manyL l).drop (headN l ((posAt l i).drop k))) := by
  intro f
  induction f with
  | zero =>
    intro i k h1 h2 h3
    obtain rfl : i = l.length := by omega
    rw [posAt_ge (Nat.le_refl _)] at h3 ⊢
    obtain rfl : k = 0 := by simpa using h3
    rw [skipT_zero]; rfl
  | succ f ih =>
    intro i k h1 h2 h3
    cases k with
    | zero => rw [skipT_zero, List.drop_zero, headN_of h2]
    | succ k =>
      have hi : i < l.length := by
        rcases Nat.lt_or_ge i l.length with h | h
        · exact h
        · rw [posAt_ge h] at h3; simp at h3
      have hlt : i < (manyL l).length := by rw [manyL_len]; exact hi
      have hm : (manyL l).getD i 0 = (manyL l)[i] := by simp [hlt]
      have hr := h.room i hi
      rw [posAt_lt hi, List.length_cons, List.length_drop] at h3
      rw [List.drop_eq_getElem_cons hlt, skipT, posAt_lt hi, List.drop_succ_cons, List.drop_drop, ← hm, ih (i + 1) _ (by omega) (by omega) (by omega), Nat.add_comm k]
theorem Tr.endOf {l : List Nd} (h : Tr l) {i : Nat} (hi : i < l.length) : opT (eoT l (l.length - i) i) = (tEnd l i : Nat) := by
  refine eoT_tEnd ?_
  rw [h.skip l.length i 1 (by omega) (by omega) (by rw [posAt_lt hi]; simp), tEnd, List.drop_one]

def topsOk : List Nd → Bool → Bool
  | [], _ => true
  | d :: r, b => (decide (7 ≤ d.op) == b) && topsOk r false
theorem tops_step {l : List Nd} {k : Nat} {op n : Int} {t : ByteArray} (hk : k < l.length) (hd : l[k] = Nd.mk op t n) : topsOk (l.drop k) (decide (k = 0)) = ((decide (7 ≤ op) == decide (k = 0)) && topsOk (l.drop (k + 1)) (decide (k + 1 = 0))) := by
  rw [List.drop_eq_getElem_cons hk, hd]; rfl
theorem tops_end {l : List Nd} {k : Nat} {b : Bool} (hk : l.length ≤ k) : topsOk (l.drop k) b = true := by rw [List.drop_eq_nil_of_le hk]; rfl

theorem tchk_two : ∀ (l : List Nd) (b : Bool) (nd : Int) (wh : Bool), (∀ d ∈ l, treeOne d.op d.text d.n = 0) → tchk l b nd wh = 0 ∨ tchk l b nd wh = 2 := by
  intro l
  induction l with
  | nil => intro b nd wh _; simp only [tchk]; split <;> simp
  | cons d r ih =>
    intro b nd wh h
    rw [tchk, if_neg (by simp [h d (by simp)])]
    exact ih _ _ _ fun x hx => h x (by simp [hx])
theorem tchk_iff : ∀ (l : List Nd) (b : Bool) (k : Nat), (∀ d ∈ l, treeOne d.op d.text d.n = 0) → (tchk l b k true = 0 ↔ skipT (manyL l) k = some [] ∧ topsOk l b = true) := by
  intro l
  induction l with
  | nil =>
    intro b k _
    cases k with
    | zero => simp [tchk, manyL, skipT, topsOk]
    | succ k => simp [tchk, manyL, skipT]; omega
  | cons d r ih =>
    intro b k h
    have h0 := h d (by simp)
    have hr : ∀ x ∈ r, treeOne x.op x.text x.n = 0 := fun x hx => h x (by simp [hx])
    have hb := manyF_bd h0
    have hm : manyL (d :: r) = (manyF d.op d.n).toNat :: manyL r := rfl
    rw [tchk, if_neg (by simp [h0]), hm]
    cases k with
    | zero =>
      have : (true && decide ((0 : Int) < ((0 : Nat) : Int)) && (decide (7 ≤ d.op) == b)) = false := by simp
      rw [this, skipT_zero]
      constructor
      · intro h; exact absurd h (tchk_false _ _ _)
      · rintro ⟨h, _⟩; cases h
    | succ k =>
      have hd : decide ((0 : Int) < ((k + 1 : Nat) : Int)) = true := decide_eq_true (by omega)
      have hn : ((k + 1 : Nat) : Int) + manyF d.op d.n - 1 = ((k + (manyF d.op d.n).toNat : Nat) : Int) := by omega
      rw [hd, hn, skipT, topsOk]
      cases hq : (decide (7 ≤ d.op) == b) with
      | true =>
        simp only [Bool.and_self, Bool.true_and]
        exact ih false _ hr
      | false =>
        simp only [Bool.and_false, Bool.false_and]
        constructor
        · intro h; exact absurd h (tchk_false _ _ _)
        · rintro ⟨_, h⟩; cases h

theorem treeF_good {l : List Nd} (h40 : ¬ 40 < l.length) (h : ∀ d ∈ l, treeOne d.op d.text d.n = 0) : treeF l = if skipT (manyL l) 1 = some [] ∧ topsOk l true = true then 0 else 2 := by
  rw [treeF, if_neg h40]
  have h1 := tchk_iff l true 1 h
  rw [show ((1 : Nat) : Int) = 1 from rfl] at h1
  split
  · rename_i hc; exact h1.2 hc
  · rename_i hc
    rcases tchk_two l true 1 true h with h2 | h2
    · exact absurd (h1.1 h2) hc
    · exact h2
theorem tchk_first : ∀ (l : List Nd) (b : Bool) (nd : Int) (wh : Bool) (k : Nat) (hk : k < l.length) (op n : Int) (t : ByteArray), l[k] = Nd.mk op t n → (∀ d ∈ l.take k, treeOne d.op d.text d.n = 0) → treeOne op t n ≠ 0 → tchk l b nd wh = treeOne op t n := by
  intro l
  induction l with
  | nil => intro b nd wh k hk; simp at hk
  | cons d r ih =>
    intro b nd wh k hk op n t hd hg hz
    rw [tchk]
    cases k with
    | zero =>
      simp only [List.getElem_cons_zero] at hd
      subst hd
      rw [if_pos hz]
    | succ k =>
      rw [List.take_succ_cons] at hg
      rw [if_neg (by simp [hg d (by simp)])]
      exact ih _ _ _ k (by simpa using hk) op n t (by simpa using hd) (fun x hx => hg x (by simp [hx])) hz
theorem treeF_first {l : List Nd} (h40 : ¬ 40 < l.length) {k : Nat} (hk : k < l.length) {op n : Int} {t : ByteArray} (hd : l[k] = Nd.mk op t n) (hg : ∀ d ∈ l.take k, treeOne d.op d.text d.n = 0) : treeOne op t n ≠ 0 → treeF l = treeOne op t n := by
  intro hz
  rw [treeF, if_neg h40]
  exact tchk_first l _ _ _ k hk op n t hd hg hz
theorem tgood_more {l : List Nd} {k : Nat} {op n : Int} {t : ByteArray} (h : ∀ d ∈ l.take k, treeOne d.op d.text d.n = 0) (hk : k < l.length) (hd : l[k] = Nd.mk op t n) (h0 : treeOne op t n = 0) : ∀ d ∈ l.take (k + 1), treeOne d.op d.text d.n = 0 := by
  intro d hm
  rw [List.take_succ_eq_append_getElem hk, List.mem_append] at hm
  rcases hm with hm | hm
  · exact h d hm
  · simp only [List.mem_singleton] at hm
    rw [hm, hd]; exact h0

/-- No blank from m to j. -/
def noSp (s : ByteArray) (m j : Nat) : Prop := ∀ x, m ≤ x → x < j → s.data.toList[x]? ≠ some 32
theorem noSp.nil (s : ByteArray) (m : Nat) : noSp s m m := fun x h1 h2 => absurd h1 (by omega)
theorem noSp.more {s : ByteArray} {m j : Nat} (h : noSp s m j) (hj : j < s.size) (hc : s[j] ≠ 32) : noSp s m (j + 1) := by
  intro x h1 h2
  by_cases e : x = j
  · subst e
    have hl : x < s.data.toList.length := by simpa using hj
    rw [List.getElem?_eq_getElem hl]
    intro h
    injection h with h
    exact hc h
  · exact h x h1 (by omega)
/-- What is left of a note's words from a place on. -/
def tailN (s : ByteArray) (m : Nat) : List ByteArray := Lib.splitB spB 0 (Lib.countB (s.extract m s.size) spB) (s.extract m s.size)
theorem occ_one (l : List UInt8) (i : Nat) : Lib.occAt l [32] i = (l[i]? == some 32) := by
  unfold Lib.occAt
  cases hd : l.drop i with
  | nil =>
    have : l.length ≤ i := by have := congrArg List.length hd; rw [List.length_drop, List.length_nil] at this; omega
    rw [List.getElem?_eq_none this]; rfl
  | cons a r =>
    have : l[i]? = some a := by
      have h := congrArg (fun x => x[0]?) hd
      simp only [List.getElem?_drop, Nat.add_zero, List.getElem?_cons_zero] at h
      exact h
    rw [this]
    simp [List.isPrefixOf]
    rw [Bool.eq_iff_iff, beq_iff_eq, beq_iff_eq]; exact eq_comm
theorem tail_data (s : ByteArray) (m : Nat) : (s.extract m s.size).data.toList = s.data.toList.drop m := by
  rw [Lib.extract_data, List.take_of_length_le]
  rw [List.length_drop]; simp
theorem index_blank {s : ByteArray} {m i : Nat} (hm : m ≤ i) (hi : i < s.size) (hn : noSp s m i) (hc : s[i] = 32) : Lib.indexB (s.extract m s.size) spB = ((i - m : Nat) : Int) := by
  have hl : i < s.data.toList.length := by simpa using hi
  refine Lib.index_hit (s := (s.extract m s.size).data.toList) (sub := [32]) (fun j hj => ?_) ?_ ?_
  · rw [occ_one, tail_data, List.getElem?_drop]
    have := hn (m + j) (by omega) (by omega)
    simpa using this
  · rw [tail_data, List.length_drop]; omega
  · rw [occ_one, tail_data, List.getElem?_drop, show m + (i - m) = i by omega, List.getElem?_eq_getElem hl]
    have : s.data.toList[i] = 32 := hc
    rw [this]; rfl
theorem index_noblank {s : ByteArray} {m : Nat} (hn : noSp s m s.size) : Lib.indexB (s.extract m s.size) spB = -1 := by
  refine Lib.index_none (s := (s.extract m s.size).data.toList) (sub := [32]) (fun j hj => ?_)
  rw [occ_one, tail_data, List.getElem?_drop]
  by_cases h : m + j < s.size
  · simpa using hn (m + j) (by omega) h
  · rw [List.getElem?_eq_none (by simp; omega)]; rfl
theorem ext_ext (s : ByteArray) (m a b : Nat) : (s.extract m s.size).extract a b = s.extract (m + a) (m + b) := by
  apply ByteArray.ext
  apply Array.toList_inj.1
  rw [Lib.extract_data, tail_data, Lib.extract_data, List.drop_drop]
  congr 1; omega
theorem tail_hit {s : ByteArray} {m i : Nat} (hm : m ≤ i) (hi : i < s.size) (hn : noSp s m i) (hc : s[i] = 32) : tailN s m = s.extract m i :: tailN s (i + 1) := by
  have hx := index_blank hm hi hn hc
  have hz : (s.extract m s.size).size = s.size - m := by rw [ByteArray.size_extract]; omega
  have e2 : (s.extract m s.size).extract (i - m + spB.size) (s.extract m s.size).size = s.extract (i + 1) s.size := by
    rw [hz, ext_ext s m _ _]
    congr 1
    · show m + (i - m + 1) = i + 1; omega
    · omega
  unfold tailN
  rw [Lib.countB_hit _ spB (i - m) (by decide) hx, Nat.add_comm 1, Lib.splitB_hit _ _ _ _ _ hx, e2]
  congr 1
  rw [ext_ext s m _ _, Nat.add_zero]
  congr 1; omega
theorem tail_miss {s : ByteArray} {m : Nat} (hn : noSp s m s.size) : tailN s m = [s.extract m s.size] := Lib.splitB_miss _ _ _ _ (index_noblank hn)
theorem ext_all (s : ByteArray) : s.extract 0 s.size = s := by
  apply ByteArray.ext
  apply Array.toList_inj.1
  rw [tail_data, List.drop_zero]
theorem noteL_tail {s : ByteArray} (h : s.toList ≠ []) : noteL s = tailN s 0 := by
  rw [noteL, if_neg h, tailN, ext_all]
end Go.Proofs.YtddfdmopaeghnacGreatDoor
