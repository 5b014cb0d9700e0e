/- Plain: how long the texts of nodes are that are read off words; the rounds of a program. No program text, no condition. -/
import Derived.Test.YtddfdmopaeghnacGreatDoorPsJ
namespace Go.Proofs.YtddfdmopaeghnacGreatDoor

def TxB (m : Nat) (x : List Nd) : Prop := ∀ d ∈ x, d.text.size ≤ m
theorem TxB.one {m : Nat} {d : Nd} (h : d.text.size ≤ m) : TxB m [d] := by
  intro z hz; rw [List.mem_singleton.1 hz]; exact h
theorem TxB.cons {m : Nat} {d : Nd} {x : List Nd} (h : d.text.size ≤ m) (hx : TxB m x) : TxB m (d :: x) := by
  intro z hz
  rcases List.mem_cons.1 hz with rfl | hz
  · exact h
  · exact hx z hz
theorem TxB.app {m : Nat} {x y : List Nd} (hx : TxB m x) (hy : TxB m y) : TxB m (x ++ y) := by
  intro z hz
  rcases List.mem_append.1 hz with hz | hz
  · exact hx z hz
  · exact hy z hz
def WdB (ws : List ByteArray) : Prop := ∀ j, (wdAt ws j).size ≤ 60000
def PartB (part : Nat → PrR) : Prop := ∀ k x k', part k = .ok (x, k') → TxB 60000 x
theorem chainP_b {ws : List ByteArray} {op : Int} {sg : List UInt8} {part : Nat → PrR} (h : PartB part) : ∀ (f : Nat) (out : List Nd) (k : Nat) (x : List Nd) (k' : Nat), TxB 60000 out → chainP ws op sg part f out k = .ok (x, k') → TxB 60000 x := by
  intro f
  induction f with
  | zero => intro out k x k' ho e; rw [chainP] at e; cases e; exact ho
  | succ f ih =>
    intro out k x k' ho e
    rw [chainP] at e
    split at e
    · cases hp : part (k + 1) with
      | error e2 => rw [hp] at e; cases e
      | ok r =>
        obtain ⟨y, k2⟩ := r
        rw [hp] at e
        exact ih _ _ _ _ (TxB.cons (by simp) (ho.app (h _ _ _ hp))) e
    · cases e; exact ho
theorem chainS_b {ws : List ByteArray} {op : Int} {sg : List UInt8} {part : Nat → PrR} (h : PartB part) : PartB (chainS ws op sg part) := by
  intro k x k' e
  rw [chainS] at e
  cases hp : part k with
  | error e2 => rw [hp] at e; cases e
  | ok r =>
    obtain ⟨y, k2⟩ := r
    rw [hp] at e
    exact chainP_b h _ _ _ _ _ (h _ _ _ hp) e
theorem manyP_b {ws : List ByteArray} {ed : List UInt8} {sum : Nat → PrR} (h : PartB sum) : ∀ (f n : Nat) (out : List Nd) (k n' : Nat) (x : List Nd) (k' : Nat), TxB 60000 out → manyP ws ed sum f n out k = .ok (n', x, k') → TxB 60000 x := by
  intro f
  induction f with
  | zero => intro n out k n' x k' ho e; rw [manyP] at e; cases e; exact ho
  | succ f ih =>
    intro n out k n' x k' ho e
    rw [manyP] at e
    split at e
    · cases e; exact ho
    · split at e
      · cases e
      · split at e
        · cases e
        · rename_i hp
          exact ih _ _ _ _ _ _ (ho.app (h _ _ _ hp)) e
theorem pE_b {ws : List ByteArray} (hw : WdB ws) : ∀ (f lv : Nat), PartB (pE ws f lv) := by
  intro f
  induction f with
  | zero => intro lv k x k' e; rw [pE] at e; cases e
  | succ f ih =>
    intro lv k x k' e
    rw [pE] at e
    split at e
    · exact chainS_b (ih 1) _ _ _ e
    split at e
    · exact chainS_b (ih 2) _ _ _ e
    split at e
    · split at e
      · cases e
      · rename_i hp
        split at e
        · cases e; exact ih _ _ _ _ hp
        · cases e
    split at e
    · split at e
      · cases e
      · rename_i hp
        cases e
        exact TxB.cons (by simp) (manyP_b (ih 0) _ _ _ _ _ _ _ (fun _ h => by cases h) hp)
    split at e
    · cases e; exact TxB.one (by simp)
    split at e
    · cases e
    split at e
    · split at e
      · cases e
      · rename_i hp
        cases e
        exact TxB.cons (hw _) (manyP_b (ih 0) _ _ _ _ _ _ _ (fun _ h => by cases h) hp)
    · cases e; exact TxB.one (hw _)
theorem stmtP_b {ws : List ByteArray} (hw : WdB ws) : PartB (stmtP ws) := by
  intro k x k' e
  rw [stmtP] at e
  split at e
  · split at e
    · cases e
    split at e
    · cases e
    split at e
    · cases e
    · rename_i hp
      split at e
      · cases e; exact TxB.cons (hw _) (pE_b hw _ _ _ _ _ hp)
      · cases e
  · split at e
    · cases e
    · rename_i hp
      split at e
      · cases e; exact TxB.cons (by simp) (pE_b hw _ _ _ _ _ hp)
      · cases e
theorem notes_cost {ws : List ByteArray} (hw : WdB ws) : ∀ (f : Nat) (out : List ByteArray) (k : Nat), costL (notesP ws f out k).1 ≤ costL out + 60000 * f := by
  intro f
  induction f with
  | zero => intro out k; exact Nat.le_refl _
  | succ f ih =>
    intro out k
    rw [notesP]
    split
    · rename_i hh
      have h1 := ih (out ++ fldW (wdAt ws k)) (k + 1)
      have h2 := fld_cost hh
      have h3 := hw k
      rw [costL_app] at h1
      omega
    · exact Nat.le_add_right _ _
theorem noteP_b {ws : List ByteArray} (hw : WdB ws) (hf : ws.length ≤ 60000) (k : Nat) : TxB 3600000000 (noteP ws k).1 := by
  have h1 := notes_cost hw ws.length [] k
  have h0 : costL ([] : List ByteArray) = 0 := rfl
  have h2 := joinW_size (notesP ws ws.length [] k).1
  refine TxB.one ?_
  show (joinW _).size ≤ _
  omega
theorem note_goes {ws : List ByteArray} {k : Nat} (h : hashW (wdAt ws k) = true) : k < (noteP ws k).2 ∧ (noteP ws k).2 ≤ ws.length := by
  have hlt := hashW_lt h
  obtain ⟨f, hf⟩ : ∃ f, ws.length = f + 1 := ⟨ws.length - 1, by omega⟩
  have h1 := notes_goes ws f ([] ++ fldW (wdAt ws k)) (k + 1) hlt
  have e : (noteP ws k).2 = (notesP ws f ([] ++ fldW (wdAt ws k)) (k + 1)).2 := by
    show (notesP ws ws.length [] k).2 = _
    rw [hf, notesP, if_pos h]
  rw [e]
  exact ⟨by omega, h1.2⟩

theorem progP_end {ws : List ByteArray} {j k : Nat} {out : List (List Nd)} (h : ws.length ≤ k) : progP ws j out k = .ok out := by
  cases j with
  | zero => rfl
  | succ j => rw [progP, if_neg (by omega)]
theorem progP_note {ws : List ByteArray} {j k : Nat} {out : List (List Nd)} (h : hashW (wdAt ws k) = true) : progP ws (j + 1) out k = progP ws j (out ++ [(noteP ws k).1]) (noteP ws k).2 := by
  rw [progP, if_pos (hashW_lt h), if_pos h]
theorem progP_bad {ws : List ByteArray} {j k e : Nat} {out : List (List Nd)} (hk : k < ws.length) (h : hashW (wdAt ws k) = false) (hs : stmtP ws k = .error e) : progP ws (j + 1) out k = .error e := by
  rw [progP, if_pos hk, if_neg (by rw [h]; decide), hs]
theorem progP_stmt {ws : List ByteArray} {j k k' : Nat} {out : List (List Nd)} {x : List Nd} (hk : k < ws.length) (h : hashW (wdAt ws k) = false) (hs : stmtP ws k = .ok (x, k')) : progP ws (j + 1) out k = progP ws j (out ++ [x]) k' := by
  rw [progP, if_pos hk, if_neg (by rw [h]; decide), hs]
end Go.Proofs.YtddfdmopaeghnacGreatDoor
