/- Plain: a note's words, read off words; how long they are. No program, no condition. -/
import Derived.Test.YtddfdmopaeghnacGreatDoorPrP
import Derived.Lib.FieldsP
import Derived.Lib.TrimU
import Derived.Lib.Join
import Derived.Lib.Strings
namespace Go.Proofs.YtddfdmopaeghnacGreatDoor

def hashW (s : ByteArray) : Bool := Lib.hasPrefix s.data.toList [35]
def blankR (x : Nat) : Bool := x == 32
/-- The words of a note. -/
def fldW (s : ByteArray) : List ByteArray := Lib.goFieldsP blankR (s.extract 1 s.size)
def costL (l : List ByteArray) : Nat := (l.map (fun t => t.size + 1)).sum
theorem costL_app (a b : List ByteArray) : costL (a ++ b) = costL a + costL b := by simp [costL]
theorem costL_len (l : List ByteArray) : l.length ≤ costL l := by
  induction l with
  | nil => simp
  | cons x r ih => simp only [costL, List.map_cons, List.sum_cons, List.length_cons] at *; omega
theorem costL_mem {l : List ByteArray} {t : ByteArray} (h : t ∈ l) : t.size ≤ costL l := by
  induction l with
  | nil => cases h
  | cons x r ih =>
    simp only [costL, List.map_cons, List.sum_cons] at *
    rcases List.mem_cons.1 h with rfl | h
    · omega
    · have := ih h; omega
def joinW (l : List ByteArray) : ByteArray := ⟨(Lib.join (l.map (·.data.toList)) [32]).toArray⟩
theorem lens_cost (l : List ByteArray) : Lib.lens (l.map (·.data.toList)) + l.length = costL l := by
  induction l with
  | nil => rfl
  | cons x r ih =>
    simp only [costL, List.map_cons, List.sum_cons, Lib.lens, List.length_cons, Array.length_toList] at *
    have : x.data.size = x.size := rfl
    omega
theorem join_cost (l : List ByteArray) : (Lib.join (l.map (·.data.toList)) [32]).length ≤ costL l := by
  cases l with
  | nil => simp [Lib.join_nil]
  | cons x r =>
    have h := lens_cost (x :: r)
    rw [List.map_cons, Lib.join_length]
    simp only [List.map_cons, List.length_cons, List.length_map, List.length_nil] at *
    omega
theorem joinW_size (l : List ByteArray) : (joinW l).size ≤ costL l := by
  have h := join_cost l
  unfold joinW
  simpa [ByteArray.size] using h
def cst (l : List (Nat × Nat)) : Nat := (l.map fun x => x.2 - x.1 + 1).sum
theorem cst_snoc (l : List (Nat × Nat)) (x : Nat × Nat) : cst (l ++ [x]) = cst l + (x.2 - x.1 + 1) := by simp [cst]
def SpIn (n pos : Nat) (acc : List (Nat × Nat)) : Option Nat → Prop
  | none => cst acc ≤ pos ∧ cst acc ≤ n
  | some a => cst acc ≤ a ∧ a ≤ pos ∧ a < n
def SpOut (n : Nat) (r : List (Nat × Nat) × Option Nat) : Prop := match r.2 with
  | none => cst r.1 ≤ n
  | some a => cst r.1 ≤ a ∧ a < n
theorem sp_out {n pos : Nat} {acc : List (Nat × Nat)} {st : Option Nat} (h : SpIn n pos acc st) : SpOut n (acc, st) := by
  cases st with
  | none => exact h.2
  | some a => exact ⟨h.1, h.2.2⟩
theorem span_cost (p : Nat → Bool) (s : ByteArray) : ∀ (f pos : Nat) (st : Option Nat) (acc : List (Nat × Nat)), SpIn s.size pos acc st → SpOut s.size (Lib.spansFromP p s f pos st acc) := by
  intro f
  induction f with
  | zero => intro pos st acc h; exact sp_out h
  | succ f ih =>
    intro pos st acc h
    by_cases hp : pos < s.size
    · have hw : 1 ≤ (Utf8.decode s pos).2 := Lib.width_pos s pos
      cases hq : p (Utf8.decode s pos).1 with
      | true =>
        cases st with
        | none =>
          obtain ⟨h1, h2⟩ := h
          have e : Lib.spansFromP p s (f + 1) pos none acc = Lib.spansFromP p s f (pos + (Utf8.decode s pos).2) none acc := by simp [Lib.spansFromP, hp, hq]
          rw [e]
          exact ih _ _ _ ⟨by omega, h2⟩
        | some a =>
          obtain ⟨h1, h2, h3⟩ := h
          have e : Lib.spansFromP p s (f + 1) pos (some a) acc = Lib.spansFromP p s f (pos + (Utf8.decode s pos).2) none (acc ++ [(a, pos)]) := by simp [Lib.spansFromP, hp, hq]
          rw [e]
          exact ih _ _ _ ⟨by rw [cst_snoc]; simp only; omega, by rw [cst_snoc]; simp only; omega⟩
      | false =>
        cases st with
        | none =>
          obtain ⟨h1, h2⟩ := h
          have e : Lib.spansFromP p s (f + 1) pos none acc = Lib.spansFromP p s f (pos + (Utf8.decode s pos).2) (some pos) acc := by simp [Lib.spansFromP, hp, hq]
          rw [e]
          exact ih _ _ _ ⟨h1, by omega, hp⟩
        | some a =>
          obtain ⟨h1, h2, h3⟩ := h
          have e : Lib.spansFromP p s (f + 1) pos (some a) acc = Lib.spansFromP p s f (pos + (Utf8.decode s pos).2) (some a) acc := by simp [Lib.spansFromP, hp, hq]
          rw [e]
          exact ih _ _ _ ⟨h1, by omega, h3⟩
    · rw [Lib.spansFromP_end p s _ pos st acc hp]
      exact sp_out h
theorem spans_cost (p : Nat → Bool) (s : ByteArray) : cst (Lib.spansOfP p s) ≤ s.size + 1 := by
  have h := span_cost p s s.size 0 none [] ⟨by simp [cst], by simp [cst]⟩
  unfold Lib.spansOfP Lib.closeSpans
  unfold SpOut at h
  cases hr : (Lib.spansFromP p s s.size 0 none []).2 with
  | none => rw [hr] at h; simp only at h ⊢; omega
  | some a =>
    rw [hr] at h
    obtain ⟨h1, h2⟩ := h
    simp only
    rw [cst_snoc]
    simp only
    omega
theorem fields_cost (p : Nat → Bool) (s : ByteArray) : costL (Lib.goFieldsP p s) ≤ s.size + 1 := by
  refine Nat.le_trans ?_ (spans_cost p s)
  unfold Lib.goFieldsP
  generalize Lib.spansOfP p s = l
  induction l with
  | nil => simp [costL, cst]
  | cons x r ih =>
    simp only [costL, cst, List.map_cons, List.sum_cons] at *
    have : (s.extract x.1 x.2).size ≤ x.2 - x.1 := by simp; omega
    omega
theorem fld_cost {s : ByteArray} (h : hashW s = true) : costL (fldW s) ≤ s.size := by
  have h0 : 0 < s.size := by
    rcases Nat.eq_zero_or_pos s.size with h1 | h1
    · have : s.data.toList = [] := List.eq_nil_of_length_eq_zero (by simpa using h1)
      simp [hashW, Lib.hasPrefix, this] at h
    · exact h1
  have h2 := fields_cost blankR (s.extract 1 s.size)
  have h3 : (s.extract 1 s.size).size = s.size - 1 := by simp
  unfold fldW
  omega
/-- Notes that follow one another: their words, the next word. -/
def notesP (ws : List ByteArray) : Nat → List ByteArray → Nat → List ByteArray × Nat
  | 0, out, k => (out, k)
  | f + 1, out, k => if hashW (wdAt ws k) = true then notesP ws f (out ++ fldW (wdAt ws k)) (k + 1) else (out, k)
def noteP (ws : List ByteArray) (k : Nat) : List Nd × Nat := ([⟨9, joinW (notesP ws ws.length [] k).1, 0⟩], (notesP ws ws.length [] k).2)
theorem hashW_lt {ws : List ByteArray} {k : Nat} (h : hashW (wdAt ws k) = true) : k < ws.length := by
  refine wdAt_lt (fun e => ?_)
  rw [ByteArray.toList_eq] at e
  simp [hashW, Lib.hasPrefix, e] at h
end Go.Proofs.YtddfdmopaeghnacGreatDoor
