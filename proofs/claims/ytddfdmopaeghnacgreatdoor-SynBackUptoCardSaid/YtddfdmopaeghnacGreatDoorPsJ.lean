/- Plain: a program, read off words. No program text, no condition. -/
import Derived.Test.YtddfdmopaeghnacGreatDoorPrS
import Derived.Test.YtddfdmopaeghnacGreatDoorPsN
namespace Go.Proofs.YtddfdmopaeghnacGreatDoor

/-- All statements and notes: so many rounds at most. -/
def progP (ws : List ByteArray) : Nat → List (List Nd) → Nat → Except Nat (List (List Nd))
  | 0, out, _ => .ok out
  | j + 1, out, k => if k < ws.length then
      if hashW (wdAt ws k) = true then progP ws j (out ++ [(noteP ws k).1]) (noteP ws k).2
      else match stmtP ws k with
        | .error e => .error e
        | .ok (x, k') => progP ws j (out ++ [x]) k'
    else .ok out
theorem stmt_goes (ws : List ByteArray) : Goes ws (stmtP ws) := by
  intro k hk
  cases wl : isW ws k [108, 101, 116] with
  | false =>
    obtain ⟨h1, h2⟩ := pX_goes ws k hk
    cases hp : pX ws k with
    | error x => rw [stmt0b wl hp]; exact ⟨fun x k' e => (by cases e), fun e he => by cases he; exact h2 _ hp⟩
    | ok r =>
      obtain ⟨x, k2⟩ := r
      obtain ⟨g1, g2, g3, g4⟩ := h1 x k2 hp
      cases w59 : isW ws k2 [59] with
      | false => rw [stmt0c wl hp w59]; exact ⟨fun x k' e => (by cases e), fun e he => by cases he; exact g2⟩
      | true =>
        have := isW_lt w59
        rw [stmt0g wl hp w59]
        exact ⟨fun y j e => by cases e; exact ⟨by omega, by omega, by simp; omega, by simp⟩, fun e he => by cases he⟩
  | true =>
    have hlt := isW_lt wl
    cases hn : nameF (wdAt ws (k + 1)) with
    | false => rw [stmt1n wl hn]; exact ⟨fun x k' e => (by cases e), fun e he => by cases he; exact hlt⟩
    | true =>
      have hlt2 := nameW_lt hn
      cases w61 : isW ws (k + 2) [61] with
      | false => rw [stmt1m wl hn w61]; exact ⟨fun x k' e => (by cases e), fun e he => by cases he; exact hlt2⟩
      | true =>
        have hlt3 := isW_lt w61
        obtain ⟨h1, h2⟩ := pX_goes ws (k + 3) hlt3
        cases hp : pX ws (k + 3) with
        | error x => rw [stmt1b wl hn w61 hp]; exact ⟨fun x k' e => (by cases e), fun e he => by cases he; exact h2 _ hp⟩
        | ok r =>
          obtain ⟨x, k2⟩ := r
          obtain ⟨g1, g2, g3, g4⟩ := h1 x k2 hp
          cases w59 : isW ws k2 [59] with
          | false => rw [stmt1c wl hn w61 hp w59]; exact ⟨fun x k' e => (by cases e), fun e he => by cases he; exact g2⟩
          | true =>
            have := isW_lt w59
            rw [stmt1g wl hn w61 hp w59]
            exact ⟨fun y j e => by cases e; exact ⟨by omega, by omega, by simp; omega, by simp⟩, fun e he => by cases he⟩
theorem notes_goes (ws : List ByteArray) : ∀ (f : Nat) (out : List ByteArray) (k : Nat), k ≤ ws.length → k ≤ (notesP ws f out k).2 ∧ (notesP ws f out k).2 ≤ ws.length := by
  intro f
  induction f with
  | zero => intro out k hk; exact ⟨Nat.le_refl _, hk⟩
  | succ f ih =>
    intro out k hk
    rw [notesP]
    cases hh : hashW (wdAt ws k) with
    | false => rw [if_neg (by decide)]; exact ⟨Nat.le_refl _, hk⟩
    | true =>
      have hlt := hashW_lt hh
      rw [if_pos rfl]
      obtain ⟨h1, h2⟩ := ih (out ++ fldW (wdAt ws k)) (k + 1) hlt
      exact ⟨by omega, h2⟩
end Go.Proofs.YtddfdmopaeghnacGreatDoor
