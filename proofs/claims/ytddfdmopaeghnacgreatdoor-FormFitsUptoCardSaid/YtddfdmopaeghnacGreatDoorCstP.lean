/- Plain facts on costs: which is less, both together; what a text costs from a column on. No program, no condition. -/
import Derived.Below
namespace Go.Proofs.YtddfdmopaeghnacGreatDoor

/-- One cost is less than another one. -/
def cLess (a b : Nat × Nat) : Bool := decide (a.1 < b.1 ∨ (a.1 = b.1 ∧ a.2 < b.2))
def cAdd (a b : Nat × Nat) : Nat × Nat := (a.1 + b.1, a.2 + b.2)

theorem cLess_iff {a b : Nat × Nat} : cLess a b = true ↔ a.1 < b.1 ∨ (a.1 = b.1 ∧ a.2 < b.2) := by simp [cLess]
theorem cLess_no {a b : Nat × Nat} : cLess a b = false ↔ b.1 < a.1 ∨ (b.1 = a.1 ∧ b.2 ≤ a.2) := by
  simp only [cLess, decide_eq_false_iff_not]; omega
theorem cLess_add (c a b : Nat × Nat) : cLess (cAdd c a) (cAdd c b) = cLess a b := by
  simp only [cLess, cAdd]
  congr 1
  simp only [eq_iff_iff]
  omega
theorem cLess_add_r (c a b : Nat × Nat) : cLess (cAdd a c) (cAdd b c) = cLess a b := by
  simp only [cLess, cAdd]
  congr 1
  simp only [eq_iff_iff]
  omega
theorem cAdd_assoc (a b c : Nat × Nat) : cAdd (cAdd a b) c = cAdd a (cAdd b c) := by
  simp [cAdd, Nat.add_assoc]
theorem cAdd_zero (a : Nat × Nat) : cAdd (0, 0) a = a := by simp [cAdd]
theorem cLess_irr (a : Nat × Nat) : cLess a a = false := by simp [cLess]
theorem c_eq {a b : Nat × Nat} (h1 : cLess a b = false) (h2 : cLess b a = false) : a = b := by
  rw [cLess_no] at h1 h2
  ext <;> omega

/-- Bytes above the width; new lines; the column behind. -/
def ovr (w : Nat) : Nat → List UInt8 → Nat
  | _, [] => 0
  | col, c :: r => if c = 10 then ovr w 0 r else (if w < col + 1 then 1 else 0) + ovr w (col + 1) r
def lns : List UInt8 → Nat
  | [] => 0
  | c :: r => (if c = 10 then 1 else 0) + lns r
def colOf : Nat → List UInt8 → Nat
  | col, [] => col
  | col, c :: r => if c = 10 then colOf 0 r else colOf (col + 1) r
def cst (w col : Nat) (s : List UInt8) : Nat × Nat := (ovr w col s, lns s)

theorem ovr_app (w : Nat) : ∀ (a : List UInt8) (col : Nat) (b : List UInt8), ovr w col (a ++ b) = ovr w col a + ovr w (colOf col a) b
  | [], col, b => by simp [ovr, colOf]
  | c :: r, col, b => by
    simp only [List.cons_append, ovr, colOf]
    split
    · exact ovr_app w r 0 b
    · rw [ovr_app w r (col + 1) b]; omega
theorem lns_app : ∀ (a b : List UInt8), lns (a ++ b) = lns a + lns b
  | [], b => by simp [lns]
  | c :: r, b => by simp only [List.cons_append, lns, lns_app r b]; omega
theorem colOf_app : ∀ (a : List UInt8) (col : Nat) (b : List UInt8), colOf col (a ++ b) = colOf (colOf col a) b
  | [], col, b => by simp [colOf]
  | c :: r, col, b => by
    simp only [List.cons_append, colOf]
    split
    · exact colOf_app r 0 b
    · exact colOf_app r (col + 1) b
theorem cst_app (w col : Nat) (a b : List UInt8) : cst w col (a ++ b) = cAdd (cst w col a) (cst w (colOf col a) b) := by
  simp [cst, cAdd, ovr_app, lns_app]
theorem cst_nil (w col : Nat) : cst w col [] = (0, 0) := rfl

/-- No new line. -/
def NoNl (s : List UInt8) : Prop := ∀ c ∈ s, c ≠ 10
theorem ovr_no (w : Nat) : ∀ (s : List UInt8) (col : Nat), NoNl s → ovr w col s = (col + s.length - w) - (col - w)
  | [], col, _ => by simp [ovr]
  | c :: r, col, h => by
    have hc : c ≠ 10 := h c (by simp)
    have ih := ovr_no w r (col + 1) (fun x hx => h x (by simp [hx]))
    simp only [ovr, if_neg hc, ih, List.length_cons]
    split <;> omega
theorem lns_no : ∀ (s : List UInt8), NoNl s → lns s = 0
  | [], _ => rfl
  | c :: r, h => by
    have hc : c ≠ 10 := h c (by simp)
    simp only [lns, if_neg hc, lns_no r (fun x hx => h x (by simp [hx]))]
theorem colOf_no : ∀ (s : List UInt8) (col : Nat), NoNl s → colOf col s = col + s.length
  | [], col, _ => by simp [colOf]
  | c :: r, col, h => by
    have hc : c ≠ 10 := h c (by simp)
    simp only [colOf, if_neg hc, colOf_no r (col + 1) (fun x hx => h x (by simp [hx])), List.length_cons]
    omega
theorem colOf_le : ∀ (s : List UInt8) (col : Nat), colOf col s ≤ col + s.length
  | [], col => by simp [colOf]
  | c :: r, col => by
    simp only [colOf, List.length_cons]
    split
    · have := colOf_le r 0; omega
    · have := colOf_le r (col + 1); omega
theorem ovr_le (w : Nat) : ∀ (s : List UInt8) (col : Nat), ovr w col s ≤ s.length
  | [], col => by simp [ovr]
  | c :: r, col => by
    simp only [ovr, List.length_cons]
    split
    · have := ovr_le w r 0; omega
    · have := ovr_le w r (col + 1); split <;> omega
theorem lns_le : ∀ (s : List UInt8), lns s ≤ s.length
  | [] => by simp [lns]
  | c :: r => by
    simp only [lns, List.length_cons]
    have := lns_le r
    split <;> omega
theorem ovr_wider {w v : Nat} (h : w ≤ v) : ∀ (s : List UInt8) (col : Nat), ovr v col s ≤ ovr w col s
  | [], col => by simp [ovr]
  | c :: r, col => by
    simp only [ovr]
    split
    · exact ovr_wider h r 0
    · have := ovr_wider h r (col + 1)
      split <;> split <;> omega
end Go.Proofs.YtddfdmopaeghnacGreatDoor
