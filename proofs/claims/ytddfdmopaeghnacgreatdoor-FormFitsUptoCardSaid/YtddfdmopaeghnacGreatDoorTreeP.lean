/- Plain facts on statements as lists of nodes: check, where the kids begin, each node but the first is the kid of one. No program, no condition. -/
import Derived.Test.YtddfdmopaeghnacGreatDoorDocP
import Derived.Lib.Split
namespace Go.Proofs.YtddfdmopaeghnacGreatDoor

def mostF (op : Int) : Int := if op = 1 then 999999 else if op = 3 ∨ op = 4 then 6 else -1
def namedF (op : Int) : Bool := decide (op = 2) || decide (op = 3) || decide (op = 7) || decide (op = 9)
def lowC (c : UInt8) : Bool := decide (97 ≤ c.toNat) && decide (c.toNat ≤ 122)
def nameF (s : ByteArray) : Bool := !(s.toList.isEmpty) && decide (s.size ≤ 8) && !(s.toList == [108, 101, 116]) && s.data.toList.all lowC
def visC (c : UInt8) : Bool := decide (33 ≤ c.toNat) && decide (c.toNat ≤ 126)
def wordF (s : ByteArray) : Bool := !(s.toList.isEmpty) && decide (s.size ≤ 20) && s.data.toList.all visC
def wordsF (l : List ByteArray) : Int := if 60 < l.length then 3 else if l.all wordF = true then 0 else 5
def spB : ByteArray := ⟨#[32]⟩
def noteL (t : ByteArray) : List ByteArray := if t.toList = [] then [] else Lib.splitB spB 0 (Lib.countB t spB) t
def manyF (op n : Int) : Int := if op = 3 ∨ op = 4 then n else if op = 5 ∨ op = 6 then 2 else if op = 7 ∨ op = 8 then 1 else 0

def treeOne (op : Int) (t : ByteArray) (n : Int) : Int :=
  if op < 1 ∨ 9 < op ∨ (0 ≤ mostF op ∧ (n < 0 ∨ mostF op < n)) then 1
  else if (mostF op < 0 ∧ n ≠ 0) ∨ (namedF op = false ∧ t.toList ≠ []) then 2
  else if op = 9 then wordsF (noteL t)
  else if namedF op = true ∧ nameF t = false then 5
  else 0

def tchk : List Nd → Bool → Int → Bool → Int
  | [], _, need, whole => if whole = true ∧ need = 0 then 0 else 2
  | d :: r, fst, need, whole => if treeOne d.op d.text d.n ≠ 0 then treeOne d.op d.text d.n else tchk r false (need + manyF d.op d.n - 1) (whole && decide (0 < need) && (decide (7 ≤ d.op) == fst))
def treeF (l : List Nd) : Int := if 40 < l.length then 3 else tchk l true 1 true

theorem tchk_step {l : List Nd} {k : Nat} {nd : Int} {wh : Bool} {op n : Int} {t : ByteArray} (hlt : k < l.length) (hd : l[k] = Nd.mk op t n) :
    tchk (l.drop k) (decide (k = 0)) nd wh = if treeOne op t n ≠ 0 then treeOne op t n else tchk (l.drop (k + 1)) (decide (k + 1 = 0)) (nd + manyF op n - 1) (wh && decide (0 < nd) && (decide (7 ≤ op) == decide (k = 0))) := by
  rw [List.drop_eq_getElem_cons hlt, hd]; rfl

theorem tchk_end {l : List Nd} {k : Nat} {b : Bool} {nd : Int} {wh : Bool} (hge : l.length ≤ k) : tchk (l.drop k) b nd wh = if wh = true ∧ nd = 0 then 0 else 2 := by
  rw [List.drop_eq_nil_of_le hge]; rfl

theorem tchk_false (l : List Nd) (b : Bool) (nd : Int) : tchk l b nd false ≠ 0 := by
  induction l generalizing nd b with
  | nil => simp [tchk]
  | cons d r ih => simp only [tchk, Bool.false_and]; split <;> simp_all

theorem manyF_bd {op n : Int} {t : ByteArray} (h : treeOne op t n = 0) : 0 ≤ manyF op n ∧ manyF op n ≤ 6 := by
  unfold treeOne at h
  have h1 : ¬ (op < 1 ∨ 9 < op ∨ (0 ≤ mostF op ∧ (n < 0 ∨ mostF op < n))) := fun hh => by rw [if_pos hh] at h; cases h
  unfold manyF
  by_cases h2 : op = 3 ∨ op = 4
  · rw [if_pos h2]
    have : mostF op = 6 := by unfold mostF; rw [if_neg (by omega), if_pos h2]
    rw [this] at h1; omega
  · rw [if_neg h2]; split <;> (try split) <;> omega

/-- Where what begins at a place and what follows it begin: the places that wait for a parent. -/
def posL : Nat → List Nat → List Nat
  | _, [] => []
  | i, m :: r => i :: (posL (i + 1) r).drop m

def manyL (l : List Nd) : List Nat := l.map fun d => (manyF d.op d.n).toNat
def posAt (l : List Nd) (i : Nat) : List Nat := posL i ((manyL l).drop i)
def kidsAt (l : List Nd) (i : Nat) : List Nat := (posAt l (i + 1)).take ((manyL l).getD i 0)
def headN (l : List Nd) (q : List Nat) : Nat := q.headD l.length
def tEnd (l : List Nd) (i : Nat) : Nat := headN l (posAt l i).tail

theorem manyL_len (l : List Nd) : (manyL l).length = l.length := by simp [manyL]

theorem posAt_lt {l : List Nd} {i : Nat} (hi : i < l.length) : posAt l i = i :: (posAt l (i + 1)).drop ((manyL l).getD i 0) := by
  unfold posAt
  have h : i < (manyL l).length := by rw [manyL_len]; exact hi
  rw [List.drop_eq_getElem_cons h, posL]
  simp [h]
theorem posAt_ge {l : List Nd} {i : Nat} (hi : l.length ≤ i) : posAt l i = [] := by
  unfold posAt
  rw [List.drop_eq_nil_of_le (by rw [manyL_len]; exact hi)]; rfl
theorem posAt_split {l : List Nd} {i : Nat} (hi : i < l.length) : posAt l (i + 1) = kidsAt l i ++ (posAt l i).tail := by
  rw [posAt_lt hi, List.tail_cons, kidsAt, List.take_append_drop]

/-- A statement that may be. -/
structure Tr (l : List Nd) : Prop where
  chk : treeF l = 0
  len : l.length ≤ 40
  one : ∀ d ∈ l, treeOne d.op d.text d.n = 0
  room : ∀ i, i < l.length → (manyL l).getD i 0 ≤ (posAt l (i + 1)).length
  root : posAt l 0 = [0]

theorem tchk_docs : ∀ (l : List Nd) (b : Bool) (nd : Int), tchk l b nd true = 0 → (∀ d ∈ l, treeOne d.op d.text d.n = 0) ∧ ∀ i, ((posL i (manyL l)).length : Int) = nd ∧ ∀ j, j < l.length → (manyL l).getD j 0 ≤ (posL (i + j + 1) ((manyL l).drop (j + 1))).length := by
  intro l
  induction l with
  | nil =>
    intro b nd h
    simp only [tchk, true_and] at h
    have : nd = 0 := by
      by_cases h0 : nd = 0
      · exact h0
      · simp [h0] at h
    subst this
    exact ⟨by simp, fun i => ⟨rfl, fun j hj => absurd hj (by simp)⟩⟩
  | cons d r ih =>
    intro b nd h
    rw [tchk] at h
    by_cases h1 : treeOne d.op d.text d.n = 0
    · rw [if_neg (by simp [h1])] at h
      have hw : (true && decide (0 < nd) && (decide (7 ≤ d.op) == b)) = true := by
        cases hh : (true && decide (0 < nd) && (decide (7 ≤ d.op) == b)) with
        | true => rfl
        | false => rw [hh] at h; exact absurd h (tchk_false _ _ _)
      rw [hw] at h
      obtain ⟨g1, g2⟩ := ih _ _ h
      have hp : 0 < nd := by
        have : decide (0 < nd) = true := by
          cases hd : decide (0 < nd) with
          | true => rfl
          | false => rw [hd] at hw; simp at hw
        exact of_decide_eq_true this
      have hb := manyF_bd h1
      refine ⟨fun x hx => ?_, fun i => ?_⟩
      · rcases List.mem_cons.1 hx with rfl | hx
        · exact h1
        · exact g1 x hx
      · obtain ⟨g3, g4⟩ := g2 (i + 1)
        have hm : manyL (d :: r) = (manyF d.op d.n).toNat :: manyL r := rfl
        refine ⟨?_, fun j hj => ?_⟩
        · rw [hm, posL, List.length_cons, List.length_drop]; omega
        · cases j with
          | zero => rw [hm]; simp only [List.getD_cons_zero, List.drop_succ_cons, List.drop_zero, Nat.add_zero]; omega
          | succ j =>
            have := g4 j (by simpa using hj)
            rw [hm]; simp only [List.getD_cons_succ, List.drop_succ_cons]
            rw [show i + (j + 1) + 1 = i + 1 + j + 1 by omega]; exact this
    · rw [if_pos h1] at h; exact absurd h h1

theorem Tr.of_check {l : List Nd} (h : treeF l = 0) : Tr l := by
  have h0 := h
  unfold treeF at h
  split at h
  · cases h
  · rename_i hl
    obtain ⟨h1, h2⟩ := tchk_docs l true 1 h
    obtain ⟨h3, h4⟩ := h2 0
    refine ⟨h0, by omega, h1, fun i hi => ?_, ?_⟩
    · have := h4 i hi
      unfold posAt
      rwa [Nat.zero_add] at this
    · have hl2 : (posAt l 0).length = 1 := by unfold posAt; rw [List.drop_zero]; omega
      have hpos : 0 < l.length := by
        rcases Nat.eq_zero_or_pos l.length with h | h
        · rw [posAt_ge (by omega)] at hl2; simp at hl2
        · exact h
      have := posAt_lt hpos
      rw [this] at hl2
      simp only [List.length_cons] at hl2
      have h6 : (posAt l (0 + 1)).drop ((manyL l).getD 0 0) = [] := List.eq_nil_of_length_eq_zero (by omega)
      rw [this, h6]

/-- Places rise, from the first on. -/
theorem posL_ge : ∀ (l : List Nat) (i : Nat), (posL i l).Pairwise (· < ·) ∧ ∀ x ∈ posL i l, i ≤ x ∧ x < i + l.length := by
  intro l
  induction l with
  | nil => intro i; exact ⟨.nil, by simp [posL]⟩
  | cons m r ih =>
    intro i
    obtain ⟨h1, h2⟩ := ih (i + 1)
    refine ⟨?_, ?_⟩
    · rw [posL, List.pairwise_cons]
      refine ⟨fun x hx => ?_, h1.sublist (List.drop_sublist _ _)⟩
      have := h2 x (List.mem_of_mem_drop hx); omega
    · intro x hx
      rw [posL] at hx
      simp only [List.length_cons]
      rcases List.mem_cons.1 hx with rfl | hx
      · omega
      · have := h2 x (List.mem_of_mem_drop hx); omega

theorem posAt_bd (l : List Nd) (i : Nat) : ∀ x ∈ posAt l i, i ≤ x ∧ x < l.length := by
  intro x hx
  rcases Nat.lt_or_ge i l.length with h | h
  · have := (posL_ge ((manyL l).drop i) i).2 x hx
    rw [List.length_drop, manyL_len] at this; omega
  · rw [posAt_ge h] at hx; simp at hx

/-- What follows in the places is what they are from there on. -/
theorem posAt_suffix {l : List Nd} : ∀ (k i : Nat) (xs ys : List Nat) (a : Nat), l.length - i ≤ k → posAt l i = xs ++ a :: ys → posAt l a = a :: ys := by
  intro k
  induction k with
  | zero =>
    intro i xs ys a hk h
    rw [posAt_ge (by omega)] at h
    cases xs <;> simp at h
  | succ k ih =>
    intro i xs ys a hk h
    rcases Nat.lt_or_ge i l.length with hi | hi
    · have h' := h
      rw [posAt_lt hi] at h'
      cases xs with
      | nil =>
        simp only [List.nil_append, List.cons.injEq] at h'
        rw [← h'.1] at h ⊢
        exact h
      | cons x xs =>
        simp only [List.cons_append, List.cons.injEq] at h'
        refine ih (i + 1) ((posAt l (i + 1)).take ((manyL l).getD i 0) ++ xs) ys a (by omega) ?_
        rw [List.append_assoc, ← h'.2, List.take_append_drop]
    · rw [posAt_ge hi] at h
      cases xs <;> simp at h

/-- How often a place is a kid of one from m on. -/
def cntFrom (l : List Nd) (j : Nat) : Nat → Nat → Nat
  | 0, _ => 0
  | f + 1, m => (kidsAt l m).count j + cntFrom l j f (m + 1)

theorem cnt_sum {l : List Nd} (j : Nat) : ∀ (f m : Nat), m + f = l.length → cntFrom l j f m + (posAt l m).count j = if m ≤ j ∧ j < l.length then 1 else 0 := by
  intro f
  induction f with
  | zero =>
    intro m hm
    rw [posAt_ge (by omega), cntFrom]
    rw [if_neg (by omega)]; rfl
  | succ f ih =>
    intro m hm
    have h := ih (m + 1) (by omega)
    rw [posAt_split (by omega), List.count_append] at h
    have hc : (posAt l m).count j = (if m = j then 1 else 0) + ((posAt l m).tail).count j := by
      conv => lhs; rw [posAt_lt (by omega : m < l.length)]
      rw [List.count_cons, Nat.add_comm, posAt_lt (by omega : m < l.length), List.tail_cons]
      by_cases e : m = j <;> simp [e]
    rw [cntFrom, hc]
    by_cases e : m = j
    · subst e
      rw [if_neg (by omega)] at h
      rw [if_pos rfl, if_pos (by omega)]
      omega
    · rw [if_neg e]
      by_cases h2 : m + 1 ≤ j ∧ j < l.length
      · rw [if_pos h2] at h; rw [if_pos (by omega)]; omega
      · rw [if_neg h2] at h; rw [if_neg (by omega)]; omega

/-- How often a place is a kid of one below m. -/
def cntTo (l : List Nd) (j : Nat) : Nat → Nat
  | 0 => 0
  | m + 1 => cntTo l j m + (kidsAt l m).count j

theorem cnt_split (l : List Nd) (j : Nat) : ∀ (f m : Nat), cntTo l j (m + f) = cntTo l j m + cntFrom l j f m := by
  intro f
  induction f with
  | zero => intro m; simp [cntFrom]
  | succ f ih =>
    intro m
    rw [show m + (f + 1) = m + 1 + f by omega, ih (m + 1), cntTo, cntFrom]; omega

theorem Tr.cnt {l : List Nd} (h : Tr l) {j : Nat} (hj : j < l.length) : cntTo l j l.length = if j = 0 then 0 else 1 := by
  have h1 := cnt_sum (l := l) j l.length 0 (by omega)
  have h2 := cnt_split l j l.length 0
  rw [Nat.zero_add] at h2
  rw [h.root, if_pos (by omega)] at h1
  rw [h2]
  by_cases e : j = 0
  · subst e; rw [if_pos rfl]; simp [cntTo] at h1 ⊢; omega
  · rw [if_neg e]
    have : [0].count j = 0 := by rw [List.count_eq_zero]; simp; exact e
    simp only [cntTo]; omega

theorem kidsAt_bd {l : List Nd} {i : Nat} : ∀ x ∈ kidsAt l i, i < x ∧ x < l.length := by
  intro x hx
  have := posAt_bd l (i + 1) x (List.mem_of_mem_take hx)
  omega

theorem Tr.kids_len {l : List Nd} (h : Tr l) {i : Nat} (hi : i < l.length) : (kidsAt l i).length = (manyL l).getD i 0 := by
  unfold kidsAt
  rw [List.length_take]; have := h.room i hi; omega

theorem manyL_at {l : List Nd} {i : Nat} {op n : Int} {t : ByteArray} (hi : i < l.length) (hd : l[i] = Nd.mk op t n) : (manyL l).getD i 0 = (manyF op n).toNat := by
  have h : i < (manyL l).length := by rw [manyL_len]; exact hi
  rw [List.getD_eq_getElem?_getD, List.getElem?_eq_getElem h]
  simp [manyL, hd]

/-- One step of End: so many still to come, ahead of what is behind. -/
theorem Tr.step {l : List Nd} (h : Tr l) {k m : Nat} {a r : List Nat} (hp : posAt l k = a ++ r) (ha : a.length = m) (hm : 0 < m) :
    k < l.length ∧ ∃ a', posAt l (k + 1) = a' ++ r ∧ a'.length + 1 = m + (manyL l).getD k 0 := by
  have hk : k < l.length := by
    rcases Nat.lt_or_ge k l.length with h1 | h1
    · exact h1
    · rw [posAt_ge h1] at hp
      have : a = [] := by cases a <;> simp_all
      rw [this] at ha; simp at ha; omega
  refine ⟨hk, kidsAt l k ++ a.tail, ?_, ?_⟩
  · rw [posAt_split hk, hp, List.append_assoc]
    congr 1
    cases a with
    | nil => simp at ha; omega
    | cons x a => rfl
  · rw [List.length_append, h.kids_len hk, List.length_tail]; omega

theorem headN_of {l : List Nd} {k : Nat} (hk : k ≤ l.length) : headN l (posAt l k) = k := by
  unfold headN
  rcases Nat.lt_or_ge k l.length with h | h
  · rw [posAt_lt h]; rfl
  · rw [posAt_ge h]; show l.length = k; omega

/-- The k-th of the places behind a node, and where it ends. -/
theorem kid_next {l : List Nd} {i k : Nat} (hk : k < (posAt l (i + 1)).length) :
    headN l ((posAt l (i + 1)).drop k) = (posAt l (i + 1))[k] ∧ (posAt l (i + 1))[k] < l.length ∧ tEnd l (posAt l (i + 1))[k] = headN l ((posAt l (i + 1)).drop (k + 1)) := by
  have h1 := List.drop_eq_getElem_cons hk
  have h2 : posAt l (i + 1) = (posAt l (i + 1)).take k ++ (posAt l (i + 1))[k] :: (posAt l (i + 1)).drop (k + 1) := by rw [← h1, List.take_append_drop]
  have h3 := posAt_suffix (l.length) (i + 1) _ _ _ (by omega) h2
  refine ⟨by rw [h1]; rfl, (posAt_bd l (i + 1) _ (List.getElem_mem hk)).2, ?_⟩
  rw [tEnd, h3]; rfl
end Go.Proofs.YtddfdmopaeghnacGreatDoor
