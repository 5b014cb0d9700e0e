/- Plain: an expression, a list of expressions, read off words: the nodes and the next word, or the word that cannot stand. No program, no condition. -/
import Derived.Test.YtddfdmopaeghnacGreatDoorTreeP
import Derived.Lib.ItoaNum
namespace Go.Proofs.YtddfdmopaeghnacGreatDoor

def wdAt (ws : List ByteArray) (k : Nat) : ByteArray := ws.getD k .empty
def isW (ws : List ByteArray) (k : Nat) (c : List UInt8) : Bool := (wdAt ws k).toList == c
def digC (c : UInt8) : Bool := decide (48 ≤ c.toNat) && decide (c.toNat ≤ 57)
/-- Does a word begin with a digit? -/
def digW (s : ByteArray) : Bool := match s.data.toList with
  | [] => false
  | c :: _ => digC c
/-- The number that digits are. -/
def numW (s : ByteArray) : Int := s.data.toList.foldl (fun n c => n * 10 + ((c.toNat : Int) - 48)) 0

abbrev PrR := Except Nat (List Nd × Nat)
/-- A chain goes on: so many rounds at most. -/
def chainP (ws : List ByteArray) (op : Int) (sg : List UInt8) (part : Nat → PrR) : Nat → List Nd → Nat → PrR
  | 0, out, k => .ok (out, k)
  | f + 1, out, k => if isW ws k sg = true then
      match part (k + 1) with
      | .error e => .error e
      | .ok (x, k') => chainP ws op sg part f (⟨op, .empty, 0⟩ :: (out ++ x)) k'
    else .ok (out, k)
def chainS (ws : List ByteArray) (op : Int) (sg : List UInt8) (part : Nat → PrR) (k : Nat) : PrR :=
  match part k with
  | .error e => .error e
  | .ok (x, k') => chainP ws op sg part ws.length x k'
/-- Many expressions up to a bracket: how many, their nodes, the next word. -/
def manyP (ws : List ByteArray) (ed : List UInt8) (sum : Nat → PrR) : Nat → Nat → List Nd → Nat → Except Nat (Nat × List Nd × Nat)
  | 0, n, out, k => .ok (n, out, k)
  | f + 1, n, out, k => if isW ws k ed = true then .ok (n, out, k + 1)
    else if 0 < n ∧ isW ws k [44] = false then .error k
    else match sum (if 0 < n then k + 1 else k) with
      | .error e => .error e
      | .ok (x, k') => manyP ws ed sum f (n + 1) (out ++ x) k'
/-- Level 0: sums; 1: products; 2: what has no sign about it. -/
def pE (ws : List ByteArray) : Nat → Nat → Nat → PrR
  | 0, _, k => .error k
  | f + 1, lv, k =>
    if lv = 0 then chainS ws 5 [43] (pE ws f 1) k
    else if lv = 1 then chainS ws 6 [42] (pE ws f 2) k
    else if isW ws k [40] = true then
      match pE ws f 0 (k + 1) with
      | .error e => .error e
      | .ok (x, k') => if isW ws k' [41] = true then .ok (x, k' + 1) else .error k'
    else if isW ws k [91] = true then
      match manyP ws [93] (pE ws f 0) (ws.length + 1) 0 [] (k + 1) with
      | .error e => .error e
      | .ok (n, x, k') => .ok (⟨4, .empty, (n : Nat)⟩ :: x, k')
    else if digW (wdAt ws k) = true then .ok ([⟨1, .empty, numW (wdAt ws k)⟩], k + 1)
    else if nameF (wdAt ws k) = false then .error k
    else if isW ws (k + 1) [40] = true then
      match manyP ws [41] (pE ws f 0) (ws.length + 1) 0 [] (k + 2) with
      | .error e => .error e
      | .ok (n, x, k') => .ok (⟨3, wdAt ws k, (n : Nat)⟩ :: x, k')
    else .ok ([⟨2, wdAt ws k, 0⟩], k + 1)

theorem wdAt_lt {ws : List ByteArray} {k : Nat} (h : (wdAt ws k).toList ≠ []) : k < ws.length := by
  rcases Nat.lt_or_ge k ws.length with h1 | h1
  · exact h1
  · refine absurd ?_ h
    unfold wdAt
    rw [List.getD_eq_getElem?_getD, List.getElem?_eq_none h1]
    decide +kernel
theorem isW_lt {ws : List ByteArray} {k : Nat} {c : UInt8} {r : List UInt8} (h : isW ws k (c :: r) = true) : k < ws.length := by
  refine wdAt_lt (fun e => ?_)
  unfold isW at h
  rw [e] at h; cases h
theorem digW_lt {ws : List ByteArray} {k : Nat} (h : digW (wdAt ws k) = true) : k < ws.length := by
  refine wdAt_lt (fun e => ?_)
  rw [ByteArray.toList_eq] at e
  unfold digW at h
  rw [e] at h; cases h
theorem nameW_lt {ws : List ByteArray} {k : Nat} (h : nameF (wdAt ws k) = true) : k < ws.length := by
  refine wdAt_lt (fun e => ?_)
  simp [nameF, e] at h

/-- It goes on, not over the end; a node is a word at least; what cannot stand is a word, or the end. -/
def Goes (ws : List ByteArray) (part : Nat → PrR) : Prop := ∀ k, k ≤ ws.length → (∀ x k', part k = .ok (x, k') → k < k' ∧ k' ≤ ws.length ∧ x.length + k ≤ k' ∧ 0 < x.length) ∧ ∀ e, part k = .error e → e ≤ ws.length
theorem chainP_goes {ws : List ByteArray} {op : Int} {sg : List UInt8} {part : Nat → PrR} (hs : sg ≠ []) (h : Goes ws part) : ∀ (f : Nat) (out : List Nd) (k k0 : Nat), k ≤ ws.length → out.length + k0 ≤ k →
    (∀ x k', chainP ws op sg part f out k = .ok (x, k') → k ≤ k' ∧ k' ≤ ws.length ∧ x.length + k0 ≤ k' ∧ out.length ≤ x.length) ∧ ∀ e, chainP ws op sg part f out k = .error e → e ≤ ws.length := by
  intro f
  induction f with
  | zero =>
    intro out k k0 hk ho
    rw [chainP]
    exact ⟨fun x k' e => by cases e; exact ⟨Nat.le_refl _, hk, ho, Nat.le_refl _⟩, fun e he => by cases he⟩
  | succ f ih =>
    intro out k k0 hk ho
    rw [chainP]
    by_cases hw : isW ws k sg = true
    · rw [if_pos hw]
      have hlt : k < ws.length := by
        cases sg with
        | nil => exact absurd rfl hs
        | cons c r => exact isW_lt hw
      obtain ⟨h1, h2⟩ := h (k + 1) (by omega)
      cases hp : part (k + 1) with
      | error e =>
        simp only
        exact ⟨fun x k' e => (by cases e), fun e' he => by cases he; exact h2 _ hp⟩
      | ok r =>
        obtain ⟨x, k'⟩ := r
        obtain ⟨g1, g2, g3, g4⟩ := h1 x k' hp
        simp only
        obtain ⟨i1, i2⟩ := ih (⟨op, .empty, 0⟩ :: (out ++ x)) k' k0 g2 (by simp; omega)
        refine ⟨fun y j hy => ?_, i2⟩
        obtain ⟨a1, a2, a3, a4⟩ := i1 y j hy
        simp at a4
        exact ⟨by omega, a2, a3, by omega⟩
    · rw [if_neg hw]
      exact ⟨fun x k' e => by cases e; exact ⟨Nat.le_refl _, hk, ho, Nat.le_refl _⟩, fun e he => by cases he⟩
theorem chainS_goes {ws : List ByteArray} {op : Int} {sg : List UInt8} {part : Nat → PrR} (hs : sg ≠ []) (h : Goes ws part) : Goes ws (chainS ws op sg part) := by
  intro k hk
  obtain ⟨h1, h2⟩ := h k hk
  unfold chainS
  cases hp : part k with
  | error e => simp only; exact ⟨fun x k' e => (by cases e), fun e' he => by cases he; exact h2 _ hp⟩
  | ok r =>
    obtain ⟨x, k'⟩ := r
    obtain ⟨g1, g2, g3, g4⟩ := h1 x k' hp
    simp only
    obtain ⟨i1, i2⟩ := chainP_goes (op := op) hs h ws.length x k' k g2 g3
    refine ⟨fun y j hy => ?_, i2⟩
    obtain ⟨a1, a2, a3, a4⟩ := i1 y j hy
    exact ⟨by omega, a2, a3, by omega⟩
theorem manyP_goes {ws : List ByteArray} {ed : List UInt8} {sum : Nat → PrR} (hs : ed ≠ []) (h : Goes ws sum) : ∀ (f n : Nat) (out : List Nd) (k k0 : Nat), k ≤ ws.length → out.length + k0 ≤ k → n ≤ out.length →
    (∀ m x k', manyP ws ed sum f n out k = .ok (m, x, k') → k ≤ k' ∧ k' ≤ ws.length ∧ x.length + k0 ≤ k' ∧ m ≤ x.length) ∧ ∀ e, manyP ws ed sum f n out k = .error e → e ≤ ws.length := by
  intro f
  induction f with
  | zero =>
    intro n out k k0 hk ho hn
    rw [manyP]
    exact ⟨fun m x k' e => by cases e; exact ⟨Nat.le_refl _, hk, ho, hn⟩, fun e he => by cases he⟩
  | succ f ih =>
    intro n out k k0 hk ho hn
    rw [manyP]
    by_cases hw : isW ws k ed = true
    · rw [if_pos hw]
      have hlt : k < ws.length := by
        cases ed with
        | nil => exact absurd rfl hs
        | cons c r => exact isW_lt hw
      exact ⟨fun m x k' e => by cases e; exact ⟨by omega, by omega, by omega, hn⟩, fun e he => by cases he⟩
    · rw [if_neg hw]
      by_cases hc : 0 < n ∧ isW ws k [44] = false
      · rw [if_pos hc]
        exact ⟨fun m x k' e => (by cases e), fun e' he => by cases he; exact hk⟩
      · rw [if_neg hc]
        have hk1 : (if 0 < n then k + 1 else k) ≤ ws.length := by
          split
          · rename_i h0
            have : isW ws k [44] = true := by
              cases hh : isW ws k [44] with
              | true => rfl
              | false => exact absurd ⟨h0, hh⟩ hc
            exact isW_lt this
          · exact hk
        have hk2 : k ≤ (if 0 < n then k + 1 else k) := by split <;> omega
        obtain ⟨h1, h2⟩ := h _ hk1
        cases hp : sum (if 0 < n then k + 1 else k) with
        | error e => simp only; exact ⟨fun m x k' e => (by cases e), fun e' he => by cases he; exact h2 _ hp⟩
        | ok r =>
          obtain ⟨x, k'⟩ := r
          obtain ⟨g1, g2, g3, g4⟩ := h1 x k' hp
          simp only
          obtain ⟨i1, i2⟩ := ih (n + 1) (out ++ x) k' k0 g2 (by simp; omega) (by simp; omega)
          refine ⟨fun m y j hy => ?_, i2⟩
          obtain ⟨a1, a2, a3, a4⟩ := i1 m y j hy
          exact ⟨by omega, a2, a3, a4⟩
theorem pE_goes (ws : List ByteArray) : ∀ (f lv : Nat), Goes ws (pE ws f lv) := by
  intro f
  induction f with
  | zero =>
    intro lv k hk
    rw [pE]
    exact ⟨fun x k' e => (by cases e), fun e he => by cases he; exact hk⟩
  | succ f ih =>
    intro lv
    by_cases h0 : lv = 0
    · have : pE ws (f + 1) lv = chainS ws 5 [43] (pE ws f 1) := by funext k; rw [pE, if_pos h0]
      rw [this]; exact chainS_goes (by simp) (ih 1)
    · by_cases h1 : lv = 1
      · have : pE ws (f + 1) lv = chainS ws 6 [42] (pE ws f 2) := by funext k; rw [pE, if_neg h0, if_pos h1]
        rw [this]; exact chainS_goes (by simp) (ih 2)
      · intro k hk
        rw [pE, if_neg h0, if_neg h1]
        by_cases w40 : isW ws k [40] = true
        · rw [if_pos w40]
          have hlt := isW_lt w40
          obtain ⟨g1, g2⟩ := ih 0 (k + 1) hlt
          cases hp : pE ws f 0 (k + 1) with
          | error e => simp only; exact ⟨fun x k' e => (by cases e), fun e' he => by cases he; exact g2 _ hp⟩
          | ok r =>
            obtain ⟨x, k'⟩ := r
            obtain ⟨a1, a2, a3, a4⟩ := g1 x k' hp
            simp only
            by_cases w41 : isW ws k' [41] = true
            · rw [if_pos w41]
              have := isW_lt w41
              exact ⟨fun y j e => by cases e; exact ⟨by omega, by omega, by omega, a4⟩, fun e he => by cases he⟩
            · rw [if_neg w41]
              exact ⟨fun y j e => (by cases e), fun e' he => by cases he; exact a2⟩
        · rw [if_neg w40]
          by_cases w91 : isW ws k [91] = true
          · rw [if_pos w91]
            have hlt := isW_lt w91
            obtain ⟨g1, g2⟩ := manyP_goes (ed := [93]) (by simp) (ih 0) (ws.length + 1) 0 [] (k + 1) (k + 1) hlt (by simp) (by simp)
            cases hp : manyP ws [93] (pE ws f 0) (ws.length + 1) 0 [] (k + 1) with
            | error e => simp only; exact ⟨fun x k' e => (by cases e), fun e' he => by cases he; exact g2 _ hp⟩
            | ok r =>
              obtain ⟨n, x, k'⟩ := r
              obtain ⟨a1, a2, a3, a4⟩ := g1 n x k' hp
              simp only
              exact ⟨fun y j e => by cases e; exact ⟨by omega, a2, by simp; omega, by simp⟩, fun e he => by cases he⟩
          · rw [if_neg w91]
            by_cases hd : digW (wdAt ws k) = true
            · rw [if_pos hd]
              have hlt := digW_lt hd
              exact ⟨fun y j e => by cases e; exact ⟨by omega, by omega, by simp; omega, by simp⟩, fun e he => by cases he⟩
            · rw [if_neg hd]
              by_cases hn : nameF (wdAt ws k) = false
              · rw [if_pos hn]
                exact ⟨fun y j e => (by cases e), fun e' he => by cases he; exact hk⟩
              · rw [if_neg hn]
                have hlt := nameW_lt (ws := ws) (k := k) (by simpa using hn)
                by_cases w2 : isW ws (k + 1) [40] = true
                · rw [if_pos w2]
                  have hlt2 := isW_lt w2
                  obtain ⟨g1, g2⟩ := manyP_goes (ed := [41]) (by simp) (ih 0) (ws.length + 1) 0 [] (k + 2) (k + 2) hlt2 (by simp) (by simp)
                  cases hp : manyP ws [41] (pE ws f 0) (ws.length + 1) 0 [] (k + 2) with
                  | error e => simp only; exact ⟨fun x k' e => (by cases e), fun e' he => by cases he; exact g2 _ hp⟩
                  | ok r =>
                    obtain ⟨n, x, k'⟩ := r
                    obtain ⟨a1, a2, a3, a4⟩ := g1 n x k' hp
                    simp only
                    exact ⟨fun y j e => by cases e; exact ⟨by omega, a2, by simp; omega, by simp⟩, fun e he => by cases he⟩
                · rw [if_neg w2]
                  exact ⟨fun y j e => by cases e; exact ⟨by omega, by omega, by simp; omega, by simp⟩, fun e he => by cases he⟩
end Go.Proofs.YtddfdmopaeghnacGreatDoor
