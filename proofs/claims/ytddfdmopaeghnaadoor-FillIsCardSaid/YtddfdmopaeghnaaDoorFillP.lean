/- Plain facts on words in lines: how bad a line is, the least of all ways, its lines. No program, no condition. -/
import Derived.Below
import Derived.Lib.Join
namespace Go.Proofs.YtddfdmopaeghnaaDoor

/-- How many bytes some words have in one line. -/
def longW (l : List ByteArray) : Int := ((l.map ByteArray.size).sum : Nat) + (l.length : Int) - 1
def badW (n width : Int) (last : Bool) : Int := if width < n then 1000 * (n - width) else if last then 0 else (width - n) * (width - n)
def joinW (l : List ByteArray) : ByteArray := ⟨(Lib.join (l.map (·.data.toList)) [32]).toArray⟩

/-- The first k words as a line, the rest as cheap as can be. -/
def costK (width : Int) (l : List ByteArray) (t : List (Int × Nat)) (k : Nat) : Int := badW (longW (l.take k)) width (decide (k = l.length)) + (t.getD (k - 1) (0, 0)).1
/-- The least of lines of up to k words; of several the longest. -/
def scanK (width : Int) (l : List ByteArray) (t : List (Int × Nat)) : Nat → Int × Nat
  | 0 => (-1, 0)
  | k + 1 => if (scanK width l t k).1 < 0 ∨ costK width l t (k + 1) ≤ (scanK width l t k).1 then (costK width l t (k + 1), k + 1) else scanK width l t k
def tbl (width : Int) : List ByteArray → List (Int × Nat)
  | [] => [(0, 0)]
  | w :: r => scanK width (w :: r) (tbl width r) (r.length + 1) :: tbl width r

theorem tbl_len (width : Int) (l : List ByteArray) : (tbl width l).length = l.length + 1 := by
  induction l with
  | nil => rfl
  | cons w r ih => simp [tbl, ih]

theorem tbl_drop (width : Int) (l : List ByteArray) : ∀ i, i ≤ l.length → (tbl width l).drop i = tbl width (l.drop i) := by
  induction l with
  | nil => intro i hi; simp at hi; subst hi; rfl
  | cons w r ih =>
    intro i hi
    cases i with
    | zero => rfl
    | succ i => rw [tbl, List.drop_succ_cons, List.drop_succ_cons]; exact ih i (by simpa using hi)

def leastAt (width : Int) (l : List ByteArray) (i : Nat) : Int := ((tbl width l).getD i (0, 0)).1
def manyAt (width : Int) (l : List ByteArray) (i : Nat) : Nat := ((tbl width l).getD i (0, 0)).2
/-- What a line from word i up to word k costs, and the rest. -/
def costAt (width : Int) (l : List ByteArray) (i k : Nat) : Int := badW (longW ((l.drop i).take (k - i))) width (decide (k = l.length)) + leastAt width l k
/-- The least from word i on, of lines of up to m words. -/
def scanAt (width : Int) (l : List ByteArray) (i : Nat) : Nat → Int × Nat
  | 0 => (-1, 0)
  | m + 1 => if (scanAt width l i m).1 < 0 ∨ costAt width l i (i + m + 1) ≤ (scanAt width l i m).1 then (costAt width l i (i + m + 1), m + 1) else scanAt width l i m

theorem tbl_get (width : Int) (l : List ByteArray) {i : Nat} (hi : i ≤ l.length) (j : Nat) : (tbl width (l.drop i)).getD j (0, 0) = (tbl width l).getD (i + j) (0, 0) := by
  rw [← tbl_drop width l i hi, List.getD_eq_getElem?_getD, List.getD_eq_getElem?_getD, List.getElem?_drop]

theorem cost_at (width : Int) (l : List ByteArray) {i : Nat} (hi : i < l.length) {k : Nat} (h0 : 0 < k) : costK width (l.drop i) (tbl width (l.drop (i + 1))) k = costAt width l i (i + k) := by
  unfold costK costAt leastAt
  rw [tbl_get width l (by omega), show i + 1 + (k - 1) = i + k by omega, show i + k - i = k by omega, List.length_drop]
  have : decide (k = l.length - i) = decide (i + k = l.length) := by
    rw [Bool.eq_iff_iff]; simp; omega
  rw [this]

theorem scan_at (width : Int) (l : List ByteArray) {i : Nat} (hi : i < l.length) : ∀ m, scanK width (l.drop i) (tbl width (l.drop (i + 1))) m = scanAt width l i m := by
  intro m
  induction m with
  | zero => rfl
  | succ m ih => rw [scanK, scanAt, ih, cost_at width l hi (by omega), Nat.add_assoc]

theorem tbl_at (width : Int) (l : List ByteArray) {i : Nat} (hi : i < l.length) : (tbl width l).getD i (0, 0) = scanAt width l i (l.length - i) := by
  have h := tbl_get width l (Nat.le_of_lt hi) 0
  rw [Nat.add_zero] at h
  rw [← h, ← scan_at width l hi]
  have hd := List.drop_eq_getElem_cons hi
  rw [hd, tbl]
  simp only [List.getD_cons_zero, List.length_drop]
  congr 1
  omega

theorem least_end (width : Int) (l : List ByteArray) : leastAt width l l.length = 0 := by
  have h := tbl_get width l (Nat.le_refl _) 0
  rw [Nat.add_zero] at h
  rw [leastAt, ← h, List.drop_length]; rfl

theorem badW_nn {n width : Int} {b : Bool} (_h : 0 ≤ width) : 0 ≤ badW n width b := by
  unfold badW
  split
  · omega
  · split
    · omega
    · exact Int.mul_nonneg (by omega) (by omega)

theorem badW_le {n width : Int} {b : Bool} (h0 : 0 ≤ n) (hn : n ≤ 1300) (_h : 1 ≤ width) (hw : width ≤ 100) : badW n width b ≤ 1300000 := by
  unfold badW
  split
  · omega
  · split
    · omega
    · have h1 : (width - n) * (width - n) ≤ 100 * 100 := Int.mul_le_mul (by omega) (by omega) (by omega) (by omega)
      omega

theorem sum_le (l : List ByteArray) (h : ∀ t ∈ l, t.size ≤ 20) : (l.map ByteArray.size).sum ≤ 20 * l.length := by
  induction l with
  | nil => simp
  | cons t r ih =>
    have h1 := h t (by simp)
    have h2 := ih (fun x hx => h x (by simp [hx]))
    simp only [List.map_cons, List.sum_cons, List.length_cons]; omega

theorem long_bd {l : List ByteArray} (h : ∀ t ∈ l, t.size ≤ 20) (h60 : l.length ≤ 60) (h0 : 0 < l.length) : 0 ≤ longW l ∧ longW l ≤ 1300 := by
  have := sum_le l h
  unfold longW; omega

/-- Words that may be filled: no more than 60, of 20 bytes at most. -/
structure Few (width : Int) (l : List ByteArray) : Prop where
  len : l.length ≤ 60
  small : ∀ t ∈ l, t.size ≤ 20
  lo : 1 ≤ width
  hi : width ≤ 100

theorem Few.drop {width : Int} {l : List ByteArray} (h : Few width l) (i : Nat) : Few width (l.drop i) := ⟨by rw [List.length_drop]; have := h.len; omega, fun t ht => h.small t (List.mem_of_mem_drop ht), h.lo, h.hi⟩

theorem Few.long {width : Int} {l : List ByteArray} (h : Few width l) {i k : Nat} (hik : i < k) (hk : k ≤ l.length) : 0 ≤ longW ((l.drop i).take (k - i)) ∧ longW ((l.drop i).take (k - i)) ≤ 1300 := by
  have hl : ((l.drop i).take (k - i)).length = k - i := by rw [List.length_take, List.length_drop]; omega
  exact long_bd (fun t ht => h.small t (List.mem_of_mem_drop (List.mem_of_mem_take ht))) (by rw [hl]; have := h.len; omega) (by rw [hl]; omega)

/-- What the scan has found. -/
theorem Few.scan {width : Int} {l : List ByteArray} (_h : Few width l) {i : Nat} (hc : ∀ k, i < k → k ≤ l.length → 0 ≤ costAt width l i k) : ∀ m, i + m ≤ l.length →
    (m = 0 → scanAt width l i m = (-1, 0)) ∧ (0 < m → 0 ≤ (scanAt width l i m).1 ∧ 1 ≤ (scanAt width l i m).2 ∧ (scanAt width l i m).2 ≤ m ∧ costAt width l i (i + (scanAt width l i m).2) = (scanAt width l i m).1 ∧
      (∀ k, 1 ≤ k → k ≤ m → (scanAt width l i m).1 ≤ costAt width l i (i + k)) ∧ ∀ k, (scanAt width l i m).2 < k → k ≤ m → costAt width l i (i + k) ≠ (scanAt width l i m).1) := by
  intro m
  induction m with
  | zero => intro _; exact ⟨fun _ => rfl, fun h => by omega⟩
  | succ m ih =>
    intro hm
    refine ⟨fun h => by omega, fun _ => ?_⟩
    obtain ⟨h0, h1⟩ := ih (by omega)
    have hcm := hc (i + m + 1) (by omega) (by omega)
    rw [scanAt]
    by_cases hz : m = 0
    · subst hz
      rw [h0 rfl]
      rw [if_pos (.inl (by decide))]
      refine ⟨hcm, Nat.le_refl _, Nat.le_refl _, rfl, fun k g1 g2 => ?_, fun k g1 g2 => by simp only at g1; omega⟩
      obtain rfl : k = 1 := by omega
      exact Int.le_refl _
    · obtain ⟨g1, g2, g3, g4, g5, g6⟩ := h1 (by omega)
      split
      · rename_i hh
        have hle : costAt width l i (i + m + 1) ≤ (scanAt width l i m).1 := by
          rcases hh with hh | hh
          · omega
          · exact hh
        refine ⟨hcm, by simp, by simp, rfl, fun k q1 q2 => ?_, fun k q1 q2 => by simp only at q1; omega⟩
        rcases Nat.lt_or_ge k (m + 1) with q | q
        · exact Int.le_trans hle (g5 k q1 (by omega))
        · obtain rfl : k = m + 1 := by omega
          exact Int.le_refl _
      · rename_i hh
        have hlt : (scanAt width l i m).1 < costAt width l i (i + m + 1) := by omega
        refine ⟨g1, g2, by omega, g4, fun k q1 q2 => ?_, fun k q1 q2 => ?_⟩
        · rcases Nat.lt_or_ge k (m + 1) with q | q
          · exact g5 k q1 (by omega)
          · obtain rfl : k = m + 1 := by omega
            exact Int.le_of_lt hlt
        · rcases Nat.lt_or_ge k (m + 1) with q | q
          · exact g6 k q1 (by omega)
          · obtain rfl : k = m + 1 := by omega
            rw [← Nat.add_assoc]; omega

theorem Few.least_bd {width : Int} {l : List ByteArray} (h : Few width l) : ∀ (d i : Nat), i + d = l.length → 0 ≤ leastAt width l i ∧ leastAt width l i ≤ 1300000 * d := by
  intro d
  induction d using Nat.strongRecOn with
  | ind d ih =>
    intro i hi
    by_cases hd : d = 0
    · obtain rfl : i = l.length := by omega
      rw [least_end]; omega
    · have hil : i < l.length := by omega
      have hc : ∀ k, i < k → k ≤ l.length → 0 ≤ costAt width l i k ∧ costAt width l i k ≤ 1300000 * d := by
        intro k h1 h2
        obtain ⟨a1, a2⟩ := ih (l.length - k) (by omega) k (by omega)
        obtain ⟨b1, b2⟩ := h.long h1 h2
        have c1 := badW_nn (n := longW ((l.drop i).take (k - i))) (b := decide (k = l.length)) (show 0 ≤ width by have := h.lo; omega)
        have c2 := badW_le (b := decide (k = l.length)) b1 b2 h.lo h.hi
        unfold costAt
        omega
      obtain ⟨_, hs⟩ := h.scan (i := i) (fun k h1 h2 => (hc k h1 h2).1) (l.length - i) (by omega)
      obtain ⟨g1, g2, g3, g4, _⟩ := hs (by omega)
      unfold leastAt
      rw [tbl_at width l hil]
      refine ⟨g1, ?_⟩
      rw [← g4]
      exact (hc _ (by omega) (by omega)).2

theorem Few.least {width : Int} {l : List ByteArray} (h : Few width l) {i : Nat} (hi : i ≤ l.length) : 0 ≤ leastAt width l i ∧ leastAt width l i ≤ 78000000 := by
  have := h.least_bd (l.length - i) i (by omega)
  have := h.len
  omega

theorem Few.cost {width : Int} {l : List ByteArray} (h : Few width l) {i k : Nat} (h1 : i < k) (h2 : k ≤ l.length) :
    0 ≤ badW (longW ((l.drop i).take (k - i))) width (decide (k = l.length)) ∧ badW (longW ((l.drop i).take (k - i))) width (decide (k = l.length)) ≤ 1300000 ∧ 0 ≤ costAt width l i k ∧ costAt width l i k ≤ 80000000 := by
  obtain ⟨a1, a2⟩ := h.least h2
  obtain ⟨b1, b2⟩ := h.long h1 h2
  have c1 := badW_nn (n := longW ((l.drop i).take (k - i))) (b := decide (k = l.length)) (show 0 ≤ width by have := h.lo; omega)
  have c2 := badW_le (b := decide (k = l.length)) b1 b2 h.lo h.hi
  unfold costAt
  omega

/-- The whole of a place's scan. -/
theorem Few.at_ {width : Int} {l : List ByteArray} (h : Few width l) {i : Nat} (hi : i < l.length) :
    leastAt width l i = (scanAt width l i (l.length - i)).1 ∧ manyAt width l i = (scanAt width l i (l.length - i)).2 ∧ 1 ≤ manyAt width l i ∧ i + manyAt width l i ≤ l.length ∧
    costAt width l i (i + manyAt width l i) = leastAt width l i ∧ ∀ k, manyAt width l i < k → i + k ≤ l.length → costAt width l i (i + k) ≠ leastAt width l i := by
  obtain ⟨_, hs⟩ := h.scan (i := i) (fun k h1 h2 => (h.cost h1 h2).2.2.1) (l.length - i) (by omega)
  obtain ⟨g1, g2, g3, g4, _, g6⟩ := hs (by omega)
  have e1 : leastAt width l i = (scanAt width l i (l.length - i)).1 := by rw [leastAt, tbl_at width l hi]
  have e2 : manyAt width l i = (scanAt width l i (l.length - i)).2 := by rw [manyAt, tbl_at width l hi]
  rw [e1, e2]
  exact ⟨rfl, rfl, g2, by omega, g4, fun k q1 q2 => g6 k q1 (by omega)⟩

/-- The lines from word i on. -/
def linesG (width : Int) (l : List ByteArray) : Nat → Nat → List ByteArray
  | 0, _ => []
  | f + 1, i => if l.length ≤ i then [] else joinW ((l.drop i).take (manyAt width l i)) :: linesG width l f (i + manyAt width l i)
def linesAt (width : Int) (l : List ByteArray) (i : Nat) : List ByteArray := linesG width l (l.length - i) i
def fillW (width : Int) (l : List ByteArray) : List ByteArray := linesAt width l 0

theorem Few.linesG_fuel {width : Int} {l : List ByteArray} (h : Few width l) : ∀ (f g i : Nat), l.length ≤ i + f → l.length ≤ i + g → linesG width l f i = linesG width l g i := by
  intro f
  induction f with
  | zero =>
    intro g i hf hg
    cases g with
    | zero => rfl
    | succ g => simp [linesG, show l.length ≤ i by omega]
  | succ f ih =>
    intro g i hf hg
    by_cases hi : l.length ≤ i
    · cases g with
      | zero => simp [linesG, hi]
      | succ g => simp [linesG, hi]
    · obtain ⟨_, _, h1, _⟩ := h.at_ (i := i) (by omega)
      cases g with
      | zero => omega
      | succ g => rw [linesG, linesG, if_neg hi, if_neg hi, ih g (i + manyAt width l i) (by omega) (by omega)]

theorem Few.lines_step {width : Int} {l : List ByteArray} (h : Few width l) {i : Nat} (hi : i < l.length) : linesAt width l i = joinW ((l.drop i).take (manyAt width l i)) :: linesAt width l (i + manyAt width l i) := by
  obtain ⟨_, _, h1, h2, _⟩ := h.at_ hi
  unfold linesAt
  obtain ⟨d, hd⟩ : ∃ d, l.length - i = d + 1 := ⟨l.length - i - 1, by omega⟩
  rw [hd, linesG, if_neg (show ¬ l.length ≤ i by omega), h.linesG_fuel d (l.length - (i + manyAt width l i)) (i + manyAt width l i) (by omega) (by omega)]
theorem lines_end {width : Int} {l : List ByteArray} {i : Nat} (hi : l.length ≤ i) : linesAt width l i = [] := by
  unfold linesAt
  rw [show l.length - i = 0 by omega]; rfl

/-- What a way of so many words in each line costs; none: it is none. -/
def raggedW (width : Int) : List ByteArray → List Int → Int → Option Int
  | l, [], acc => if l = [] then some acc else none
  | l, n :: r, acc => if n < 1 ∨ (l.length : Int) < n then none else raggedW width (l.drop n.toNat) r (acc + badW (longW (l.take n.toNat)) width (decide (n = l.length)))

theorem joinW_size (l : List ByteArray) (h0 : 0 < l.length) : ((joinW l).size : Int) = longW l := by
  have hl : ∀ r : List ByteArray, Lib.lens (r.map (·.data.toList)) = (r.map ByteArray.size).sum := by
    intro r
    unfold Lib.lens
    congr 1
    rw [List.map_map]
    apply List.map_congr_left
    intro y _
    simp
  cases l with
  | nil => simp at h0
  | cons x r =>
    have h1 := Lib.join_length x.data.toList (r.map (·.data.toList)) [32]
    have h2 : (joinW (x :: r)).size = (Lib.join ((x :: r).map (·.data.toList)) [32]).length := by
      show (Lib.join ((x :: r).map (·.data.toList)) [32]).toArray.size = _
      rw [List.size_toArray]
    have h3 := hl (x :: r)
    rw [List.map_cons] at h3
    rw [h2, List.map_cons, h1, h3]
    simp only [longW, List.length_map, List.length_cons, List.length_nil]
    omega
end Go.Proofs.YtddfdmopaeghnaaDoor
