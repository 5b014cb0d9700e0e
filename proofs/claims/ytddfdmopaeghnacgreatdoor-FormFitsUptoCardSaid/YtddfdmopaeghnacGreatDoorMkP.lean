/- Plain: the doc of a statement's node, its length; a statement's kids, one behind the other. No program, no condition. -/
import Derived.Test.YtddfdmopaeghnacGreatDoorTRefP
import Derived.Lib.ItoaNum
import Derived.Lib.ItoaMem
namespace Go.Proofs.YtddfdmopaeghnacGreatDoor

def wordN (s : ByteArray) : List Nd := [⟨1, s, 0⟩]
def opN (k : Int) : List Nd := [⟨k, .empty, 0⟩]
def bothN (a b : List Nd) : List Nd := ⟨6, .empty, 0⟩ :: (a ++ b)
def groupN (a : List Nd) : List Nd := ⟨8, .empty, 0⟩ :: a
def deepN (a : List Nd) : List Nd := ⟨7, .empty, 2⟩ :: a
def boundF (po ko : Int) (second : Bool) : Bool := (decide (po = 6) && decide (ko = 5)) || (second && (decide (po = 5) || decide (po = 6)) && decide (ko = po))
def chB (c : UInt8) : ByteArray := ⟨#[c]⟩
def kidD (po ko : Int) (second : Bool) (x : List Nd) : List Nd := if boundF po ko second = true then bothN (wordN ⟨#[40]⟩) (bothN x (wordN ⟨#[41]⟩)) else x
/-- Kids from a place on, so many. -/
def kidsD (g : Nat → List Nd) (e : Nat → Nat) : Nat → Nat → List Nd
  | _, 0 => []
  | a, m + 1 => if m = 0 then g a else bothN (bothN (g a) (wordN ⟨#[44]⟩)) (bothN (opN 2) (kidsD g e (e a) m))
def listD (o c : ByteArray) (m : Nat) (k : List Nd) : List Nd := if m = 0 then wordN (o ++ c) else groupN (bothN (wordN o) (bothN (deepN (bothN (opN 3) k)) (bothN (opN 3) (wordN c))))
def twoD (s : ByteArray) (a b : List Nd) : List Nd := groupN (bothN a (deepN (bothN (opN 2) (bothN (wordN s) b))))
def opAt (l : List Nd) (i : Nat) : Int := (l.getD i ⟨0, .empty, 0⟩).op
/-- The doc of a node. -/
def docT (l : List Nd) : Nat → Nat → List Nd
  | 0, _ => []
  | f + 1, i =>
    let d := l.getD i ⟨0, .empty, 0⟩
    if d.op = 1 then wordN ⟨(Lib.itoa d.n).toArray⟩
    else if d.op = 2 then wordN d.text
    else if d.op = 3 then listD (d.text ++ ⟨#[40]⟩) ⟨#[41]⟩ d.n.toNat (kidsD (docT l f) (tEnd l) (i + 1) d.n.toNat)
    else if d.op = 4 then listD ⟨#[91]⟩ ⟨#[93]⟩ d.n.toNat (kidsD (docT l f) (tEnd l) (i + 1) d.n.toNat)
    else if d.op = 5 then twoD ⟨#[43, 32]⟩ (kidD 5 (opAt l (i + 1)) false (docT l f (i + 1))) (kidD 5 (opAt l (tEnd l (i + 1))) true (docT l f (tEnd l (i + 1))))
    else if d.op = 6 then twoD ⟨#[42, 32]⟩ (kidD 6 (opAt l (i + 1)) false (docT l f (i + 1))) (kidD 6 (opAt l (tEnd l (i + 1))) true (docT l f (tEnd l (i + 1))))
    else if d.op = 7 then groupN (bothN (wordN (⟨#[108, 101, 116, 32]⟩ ++ d.text ++ ⟨#[32, 61]⟩)) (deepN (bothN (opN 2) (bothN (docT l f (i + 1)) (wordN ⟨#[59]⟩)))))
    else bothN (docT l f (i + 1)) (wordN ⟨#[59]⟩)

/-- So many kids from a place on, up to another. -/
def KidsP (l : List Nd) : Nat → Nat → Nat → Prop
  | a, 0, z => a = z
  | a, m + 1, z => a < l.length ∧ a < tEnd l a ∧ KidsP l (tEnd l a) m z
theorem headN_le {l : List Nd} {q : List Nat} (h : ∀ x ∈ q, x < l.length) : headN l q ≤ l.length := by
  unfold headN
  cases q with
  | nil => simp
  | cons a r => have := h a (by simp); simp; omega
theorem tEnd_bd {l : List Nd} {i : Nat} (hi : i < l.length) : i < tEnd l i ∧ tEnd l i ≤ l.length := by
  refine ⟨?_, headN_le fun x hx => (posAt_bd l i x (List.mem_of_mem_tail hx)).2⟩
  rw [tEnd, posAt_lt hi, List.tail_cons]
  unfold headN
  cases hq : (posAt l (i + 1)).drop ((manyL l).getD i 0) with
  | nil => simpa using hi
  | cons a r =>
    have := (posAt_bd l (i + 1) a (List.mem_of_mem_drop (i := (manyL l).getD i 0) (by rw [hq]; simp))).1
    simp; omega
theorem Tr.kidsP {l : List Nd} (h : Tr l) {i : Nat} (hi : i < l.length) : KidsP l (i + 1) ((manyL l).getD i 0) (tEnd l i) := by
  have hr := h.room i hi
  have he : tEnd l i = headN l ((posAt l (i + 1)).drop ((manyL l).getD i 0)) := by rw [tEnd, posAt_lt hi, List.tail_cons]
  have main : ∀ m k : Nat, k + m = (manyL l).getD i 0 → KidsP l (headN l ((posAt l (i + 1)).drop k)) m (tEnd l i) := by
    intro m
    induction m with
    | zero => intro k hk; rw [KidsP, he]; congr 2
    | succ m ih =>
      intro k hk
      have hlt : k < (posAt l (i + 1)).length := by omega
      obtain ⟨h1, h2, h3⟩ := kid_next hlt
      rw [h1, KidsP]
      refine ⟨h2, (tEnd_bd h2).1, ?_⟩
      rw [h3]
      exact ih (k + 1) (by omega)
  have h0 := main ((manyL l).getD i 0) 0 (by omega)
  rw [List.drop_zero, headN_of (by omega)] at h0
  exact h0

/-- Only the first node is a statement's. -/
theorem Tr.tops {l : List Nd} (h : Tr l) {i : Nat} (hi : i < l.length) : decide (7 ≤ l[i].op) = decide (i = 0) := by
  have h1 := treeF_good (by have := h.len; omega) h.one
  rw [h.chk] at h1
  have h2 : topsOk l true = true := by
    by_cases hc : skipT (manyL l) 1 = some [] ∧ topsOk l true = true
    · exact hc.2
    · rw [if_neg hc] at h1; cases h1
  have main : ∀ k, k ≤ l.length → topsOk (l.drop k) (decide (k = 0)) = true := by
    intro k
    induction k with
    | zero => intro _; exact h2
    | succ k ih =>
      intro hk
      have h3 := ih (by omega)
      rw [tops_step (l := l) (k := k) (op := l[k].op) (n := l[k].n) (t := l[k].text) (by omega) rfl] at h3
      simp only [Bool.and_eq_true] at h3
      exact h3.2
  have h3 := main i (by omega)
  rw [tops_step (l := l) (k := i) (op := l[i].op) (n := l[i].n) (t := l[i].text) hi rfl] at h3
  simp only [Bool.and_eq_true, beq_iff_eq] at h3
  exact h3.1

theorem kidD_len (po ko : Int) (b : Bool) (x : List Nd) : (kidD po ko b x).length ≤ x.length + 4 := by
  unfold kidD
  split
  · simp [bothN, wordN]
  · omega
theorem kidsD_len {l : List Nd} {g : Nat → List Nd} : ∀ (m a z : Nat), KidsP l a m z → (∀ b, a ≤ b → b < l.length → (g b).length + 9 ≤ 20 * (tEnd l b - b)) → a ≤ z ∧ (kidsD g (tEnd l) a m).length + 4 * m ≤ 20 * (z - a) := by
  intro m
  induction m with
  | zero => intro a z h _; rw [KidsP] at h; subst h; simp [kidsD]
  | succ m ih =>
    intro a z h hg
    obtain ⟨h1, h2, h3⟩ := h
    have h4 := hg a (Nat.le_refl _) h1
    obtain ⟨h5, h6⟩ := ih _ _ h3 (fun b hb hb2 => hg b (by omega) hb2)
    refine ⟨by omega, ?_⟩
    rw [kidsD]
    split
    · rename_i e; subst e; omega
    · simp only [bothN, wordN, opN, List.length_cons, List.length_append, List.length_nil]
      omega
theorem getD_at {l : List Nd} {i : Nat} (hi : i < l.length) : l.getD i ⟨0, .empty, 0⟩ = l[i] := by simp [hi]
theorem Tr.low {l : List Nd} (h : Tr l) {i : Nat} (hi : i < l.length) (h0 : 0 < i) : l[i].op ≤ 6 := by
  have := h.tops hi
  rw [decide_eq_false (show ¬ i = 0 by omega)] at this
  have := of_decide_eq_false this
  omega
theorem docT_len {l : List Nd} (hT : Tr l) : ∀ f i : Nat, l.length ≤ i + f → (hi : i < l.length) → l[i].op ≠ 9 → (docT l f i).length + 9 ≤ 20 * (tEnd l i - i) := by
  intro f
  induction f with
  | zero => intro i h1 h2; omega
  | succ f ih =>
    intro i h1 h2 h9
    have hk := hT.kidsP h2
    have hb := (tEnd_bd h2).1
    have hm : (manyL l).getD i 0 = (manyF l[i].op l[i].n).toNat := manyL_at h2 rfl
    have hone := hT.one _ (List.getElem_mem h2)
    have hbd := manyF_bd hone
    have hop : 1 ≤ l[i].op ∧ l[i].op ≤ 9 := by
      by_cases hc : l[i].op < 1 ∨ 9 < l[i].op
      · rw [treeOne, if_pos (by rcases hc with h | h; exact .inl h; exact .inr (.inl h))] at hone; cases hone
      · omega
    rw [hm] at hk
    have ihk : ∀ b, i + 1 ≤ b → b < l.length → (docT l f b).length + 9 ≤ 20 * (tEnd l b - b) := fun b hb hl => ih b (by omega) hl (by have := hT.low hl (by omega); omega)
    rw [docT, getD_at h2]
    generalize l[i].op = op at *
    generalize l[i].n = n at *
    generalize l[i].text = t at *
    have hcs : op = 1 ∨ op = 2 ∨ op = 3 ∨ op = 4 ∨ op = 5 ∨ op = 6 ∨ op = 7 ∨ op = 8 := by omega
    rcases hcs with rfl | rfl | rfl | rfl | rfl | rfl | rfl | rfl
    · simp [wordN]; omega
    · simp [wordN]; omega
    · rw [show manyF 3 n = n from rfl] at hk
      obtain ⟨g1, g2⟩ := kidsD_len _ _ _ hk ihk
      rw [if_neg (by decide), if_neg (by decide), if_pos rfl, listD]
      split
      · simp [wordN]; omega
      · simp only [groupN, bothN, wordN, opN, deepN, List.length_cons, List.length_append, List.length_nil]; omega
    · rw [show manyF 4 n = n from rfl] at hk
      obtain ⟨g1, g2⟩ := kidsD_len _ _ _ hk ihk
      rw [if_neg (by decide), if_neg (by decide), if_neg (by decide), if_pos rfl, listD]
      split
      · simp [wordN]; omega
      · simp only [groupN, bothN, wordN, opN, deepN, List.length_cons, List.length_append, List.length_nil]; omega
    · obtain ⟨a1, a2, b1, b2, b3⟩ : i + 1 < l.length ∧ i + 1 < tEnd l (i + 1) ∧ tEnd l (i + 1) < l.length ∧ tEnd l (i + 1) < tEnd l (tEnd l (i + 1)) ∧ tEnd l (tEnd l (i + 1)) = tEnd l i := ⟨hk.1, hk.2.1, hk.2.2.1, hk.2.2.2.1, hk.2.2.2.2⟩
      have q1 := ihk _ (Nat.le_refl _) a1
      have q2 := ihk _ (by omega) b1
      have q3 := kidD_len 5 (opAt l (i + 1)) false (docT l f (i + 1))
      have q4 := kidD_len 5 (opAt l (tEnd l (i + 1))) true (docT l f (tEnd l (i + 1)))
      rw [if_neg (by decide), if_neg (by decide), if_neg (by decide), if_neg (by decide), if_pos rfl]
      simp only [twoD, groupN, bothN, wordN, opN, deepN, List.length_cons, List.length_append, List.length_nil]; omega
    · obtain ⟨a1, a2, b1, b2, b3⟩ : i + 1 < l.length ∧ i + 1 < tEnd l (i + 1) ∧ tEnd l (i + 1) < l.length ∧ tEnd l (i + 1) < tEnd l (tEnd l (i + 1)) ∧ tEnd l (tEnd l (i + 1)) = tEnd l i := ⟨hk.1, hk.2.1, hk.2.2.1, hk.2.2.2.1, hk.2.2.2.2⟩
      have q1 := ihk _ (Nat.le_refl _) a1
      have q2 := ihk _ (by omega) b1
      have q3 := kidD_len 6 (opAt l (i + 1)) false (docT l f (i + 1))
      have q4 := kidD_len 6 (opAt l (tEnd l (i + 1))) true (docT l f (tEnd l (i + 1)))
      rw [if_neg (by decide), if_neg (by decide), if_neg (by decide), if_neg (by decide), if_neg (by decide), if_pos rfl]
      simp only [twoD, groupN, bothN, wordN, opN, deepN, List.length_cons, List.length_append, List.length_nil]; omega
    · obtain ⟨a1, a2, b3⟩ : i + 1 < l.length ∧ i + 1 < tEnd l (i + 1) ∧ tEnd l (i + 1) = tEnd l i := ⟨hk.1, hk.2.1, hk.2.2⟩
      have q1 := ihk _ (Nat.le_refl _) a1
      rw [if_neg (by decide), if_neg (by decide), if_neg (by decide), if_neg (by decide), if_neg (by decide), if_neg (by decide), if_pos rfl]
      simp only [groupN, bothN, wordN, opN, deepN, List.length_cons, List.length_append, List.length_nil]; omega
    · obtain ⟨a1, a2, b3⟩ : i + 1 < l.length ∧ i + 1 < tEnd l (i + 1) ∧ tEnd l (i + 1) = tEnd l i := ⟨hk.1, hk.2.1, hk.2.2⟩
      have q1 := ihk _ (Nat.le_refl _) a1
      rw [if_neg (by decide), if_neg (by decide), if_neg (by decide), if_neg (by decide), if_neg (by decide), if_neg (by decide), if_neg (by decide)]
      simp only [bothN, wordN, List.length_cons, List.length_append, List.length_nil]; omega
end Go.Proofs.YtddfdmopaeghnacGreatDoor
