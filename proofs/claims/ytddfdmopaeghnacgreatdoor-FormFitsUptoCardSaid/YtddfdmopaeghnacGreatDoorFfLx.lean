/- Plain facts: the words of a text; a text behind a text; words that stand each in a line of its own. No program, no condition. Plain: how many words are no notes. No program, no condition. Walks of package lex: the classes of bytes, long, note, first, many. Conditions: a slice of texts lies below the call's own blocks; the text of first is not empty. Walks of package lex: first, many. Conditions: a slice of texts lies below the call's own blocks; no text is empty. Walk of lex.Words: the words of a text, and where they begin; or the fault. No condition but the text's own size. Plain: where the words of a text stand, how long and how many they are; the words each in a line of its own. No condition but the text's own size. -/
import Derived.Below
import Derived.Test.YtddfdmopaeghnacGreatDoorTreeW
import Derived.Test.YtddfdmopaeghnacGreatDoorShelf
import Derived.Laws.ResultCell
namespace Go.Proofs.YtddfdmopaeghnacGreatDoor

def lowB (c : UInt8) : Bool := decide (97 ≤ c.toNat) && decide (c.toNat ≤ 122)
def digB (c : UInt8) : Bool := decide (48 ≤ c.toNat) && decide (c.toNat ≤ 57)
def prB (c : UInt8) : Bool := decide (32 ≤ c.toNat) && decide (c.toNat ≤ 126)
def nlB (c : UInt8) : Bool := !(c == 10)
/-- How many bytes of a class a text begins with. -/
def runB (p : UInt8 → Bool) : List UInt8 → Nat
  | [] => 0
  | c :: r => if p c then runB p r + 1 else 0
def signs : List UInt8 := [40, 41, 91, 93, 44, 43, 42, 61, 59]

/-- A text's first word: how many bytes; may it be. -/
def firstW : List UInt8 → Nat × Bool
  | [] => (0, false)
  | c :: r =>
    if lowB c then (runB lowB (c :: r), decide (runB lowB (c :: r) ≤ 8))
    else if digB c then (runB digB (c :: r), decide (runB digB (c :: r) ≤ 6) && (decide (runB digB (c :: r) = 1) || !(c == 48)))
    else if c == 35 then (runB nlB (c :: r), decide (runB nlB (c :: r) ≤ runB prB (c :: r)))
    else (1, signs.contains c)

theorem firstW_cons (c : UInt8) (r : List UInt8) : firstW (c :: r) =
    if lowB c then (runB lowB (c :: r), decide (runB lowB (c :: r) ≤ 8))
    else if digB c then (runB digB (c :: r), decide (runB digB (c :: r) ≤ 6) && (decide (runB digB (c :: r) = 1) || !(c == 48)))
    else if c == 35 then (runB nlB (c :: r), decide (runB nlB (c :: r) ≤ runB prB (c :: r)))
    else (1, signs.contains c) := rfl

def blank (c : UInt8) : Bool := c == 32
/-- Without the blanks at its end. -/
def trimR (l : List UInt8) : List UInt8 := (l.reverse.dropWhile blank).reverse

/-- The words, with where they begin; where none can be. -/
def lexG : Nat → Nat → List UInt8 → List (Nat × List UInt8) × Option Nat
  | 0, _, _ => ([], none)
  | _ + 1, _, [] => ([], none)
  | f + 1, i, c :: r =>
    if c == 32 || c == 10 then lexG f (i + 1) r
    else if (firstW (c :: r)).2 then
      ((i, trimR ((c :: r).take (firstW (c :: r)).1)) :: (lexG f (i + (firstW (c :: r)).1) ((c :: r).drop (firstW (c :: r)).1)).1,
        (lexG f (i + (firstW (c :: r)).1) ((c :: r).drop (firstW (c :: r)).1)).2)
    else ([], some i)

theorem runB_le (p : UInt8 → Bool) (l : List UInt8) : runB p l ≤ l.length := by
  induction l with
  | nil => simp [runB]
  | cons c r ih => unfold runB; split <;> simp <;> omega

theorem firstW_pos {c : UInt8} {r : List UInt8} (h : (firstW (c :: r)).2 = true) : 0 < (firstW (c :: r)).1 ∧ (firstW (c :: r)).1 ≤ (c :: r).length := by
  rw [firstW_cons] at h ⊢
  split
  · rename_i hc; exact ⟨by simp [runB, hc], runB_le _ _⟩
  · split
    · rename_i hc; exact ⟨by simp [runB, hc], runB_le _ _⟩
    · split
      · rename_i hc
        refine ⟨?_, runB_le _ _⟩
        have : c = 35 := by simpa using hc
        subst this
        simp [runB, nlB]
      · simp

/-- Enough fuel is enough. -/
theorem lexG_fuel : ∀ (f g i : Nat) (l : List UInt8), l.length ≤ f → l.length ≤ g → lexG f i l = lexG g i l := by
  intro f
  induction f with
  | zero =>
    intro g i l hf _
    obtain rfl : l = [] := List.eq_nil_of_length_eq_zero (by omega)
    cases g <;> rfl
  | succ f ih =>
    intro g i l hf hg
    cases g with
    | zero =>
      obtain rfl : l = [] := List.eq_nil_of_length_eq_zero (by omega)
      rfl
    | succ g =>
      cases l with
      | nil => rfl
      | cons c r =>
        simp only [List.length_cons] at hf hg
        simp only [lexG]
        split
        · exact ih g _ r (by omega) (by omega)
        · split
          · rename_i h
            have hp := firstW_pos h
            rw [ih g (i + (firstW (c :: r)).1) ((c :: r).drop (firstW (c :: r)).1) (by rw [List.length_drop, List.length_cons]; omega) (by rw [List.length_drop, List.length_cons]; omega)]
          · rfl

def lexL (i : Nat) (l : List UInt8) : List (Nat × List UInt8) × Option Nat := lexG l.length i l

theorem lexL_skip {i : Nat} {c : UInt8} {r : List UInt8} (h : (c == 32 || c == 10) = true) : lexL i (c :: r) = lexL (i + 1) r := by
  unfold lexL; rw [List.length_cons, lexG, if_pos h]
theorem lexL_word {i : Nat} {c : UInt8} {r : List UInt8} (h : (c == 32 || c == 10) = false) (hb : (firstW (c :: r)).2 = true) :
    lexL i (c :: r) = ((i, trimR ((c :: r).take (firstW (c :: r)).1)) :: (lexL (i + (firstW (c :: r)).1) ((c :: r).drop (firstW (c :: r)).1)).1, (lexL (i + (firstW (c :: r)).1) ((c :: r).drop (firstW (c :: r)).1)).2) := by
  have hp := firstW_pos hb
  unfold lexL
  rw [List.length_cons, lexG, if_neg (by simp [h]), if_pos hb]
  rw [lexG_fuel r.length ((c :: r).drop (firstW (c :: r)).1).length _ _ (by rw [List.length_drop, List.length_cons]; omega) (Nat.le_refl _)]

theorem trimR_of {l : List UInt8} (h : ∀ c ∈ l, blank c = false) : trimR l = l := by
  unfold trimR
  have : l.reverse.dropWhile blank = l.reverse := by
    cases hr : l.reverse with
    | nil => rfl
    | cons c r =>
      have hc : blank c = false := h c (by rw [← List.mem_reverse, hr]; simp)
      rw [List.dropWhile_cons, hc]; rfl
  rw [this, List.reverse_reverse]

theorem trimR_pre (l : List UInt8) : ∃ k, l = trimR l ++ List.replicate k 32 := by
  unfold trimR
  have : ∀ m : List UInt8, ∃ k, m = List.replicate k 32 ++ m.dropWhile blank := by
    intro m
    induction m with
    | nil => exact ⟨0, rfl⟩
    | cons c r ih =>
      rw [List.dropWhile_cons]
      split
      · rename_i hc
        have : c = 32 := by simpa [blank] using hc
        obtain ⟨k, hk⟩ := ih
        exact ⟨k + 1, by rw [this, List.replicate_succ, List.cons_append, ← hk]⟩
      · exact ⟨0, by simp⟩
  obtain ⟨k, hk⟩ := this l.reverse
  refine ⟨k, ?_⟩
  have := congrArg List.reverse hk
  rw [List.reverse_reverse, List.reverse_append, List.reverse_replicate] at this
  exact this

theorem dig_nb {c : UInt8} (h : digB c = true) : (c == 32 || c == 10) = false ∧ blank c = false ∧ lowB c = false := by
  have hc : 48 ≤ c.toNat ∧ c.toNat ≤ 57 := by unfold digB at h; simp at h; omega
  have h1 : c ≠ 32 := by rintro rfl; simp at hc
  have h2 : c ≠ 10 := by rintro rfl; simp at hc
  refine ⟨by simp [h1, h2], by simp [blank, h1], ?_⟩
  unfold lowB; simp; omega

end Go.Proofs.YtddfdmopaeghnacGreatDoor

namespace Go.Proofs.YtddfdmopaeghnacGreatDoor

end Go.Proofs.YtddfdmopaeghnacGreatDoor

namespace Go.Proofs.YtddfdmopaeghnacGreatDoor
open Go.RowKit

end Go.Proofs.YtddfdmopaeghnacGreatDoor

namespace Go.Proofs.YtddfdmopaeghnacGreatDoor
open Go.RowKit

end Go.Proofs.YtddfdmopaeghnacGreatDoor

namespace Go.Proofs.YtddfdmopaeghnacGreatDoor
open Go.RowKit

def wordBs (ws : List (Nat × List UInt8)) : List ByteArray := ws.map fun p => ⟨p.2.toArray⟩
def placeV (ws : List (Nat × List UInt8)) : List Value := ws.map fun p => .int .i64 (p.1 : Nat)
def lexWs (s : ByteArray) : List (Nat × List UInt8) := (lexL 0 s.data.toList).1

/-- One without. -/
def LexOk (s : ByteArray) (w : World) (e : Ending) (w' : World) : Prop :=
  ∃ A c A2 c2, e = .returned (.tuple #[.slice A (lexWs s).length c, .slice A2 (lexWs s).length c2, .int .i64 0, .nilIface]) ∧
    Txs w' w'.heap.size A (wordBs (lexWs s)) ∧ Sl w' w'.heap.size 1 A2 (lexWs s).length (placeV (lexWs s)) ∧ Below w.heap.size w w'
/-- The same; the places lie in a row of the call's own. -/
def LexOwn (s : ByteArray) (w : World) (e : Ending) (w' : World) : Prop :=
  ∃ A c A2 c2, e = .returned (.tuple #[.slice A (lexWs s).length c, .slice A2 (lexWs s).length c2, .int .i64 0, .nilIface]) ∧
    Txs w' w'.heap.size A (wordBs (lexWs s)) ∧ w'.ownsRow w.heap.size 3 1 (.slice A2 (lexWs s).length c2) (lexWs s).length (placeV (lexWs s)) ∧ Below w.heap.size w w' ∧ w'.ownsRow w.heap.size 9 1 (.slice A (lexWs s).length c) (lexWs s).length ((wordBs (lexWs s)).map .string)
theorem LexOwn.ok {s : ByteArray} {w : World} {e : Ending} {w' : World} (h : LexOwn s w e w') : LexOk s w e w' := by
  obtain ⟨A, c, A2, c2, h1, h2, h3, h4, _⟩ := h
  exact ⟨A, c, A2, c2, h1, h2, Sl.of_own h3, h4⟩
/-- What the rounds have done at place i. -/
def LexAt (s : ByteArray) (i : Nat) (done : List (Nat × List UInt8)) : Prop :=
  lexL 0 s.data.toList = (done ++ (lexL i (s.data.toList.drop i)).1, (lexL i (s.data.toList.drop i)).2) ∧ done.length ≤ i ∧ ∀ p ∈ done, p.2.length ≤ s.size

theorem drop_cons {s : ByteArray} {i : Nat} (hi : i < s.size) : s.data.toList.drop i = s[i] :: s.data.toList.drop (i + 1) := by
  rw [List.drop_eq_getElem_cons (by simpa using hi)]; rfl
theorem LexAt.skip {s : ByteArray} {i : Nat} {done : List (Nat × List UInt8)} (h : LexAt s i done) (hi : i < s.size) (hc : (s[i] == 32 || s[i] == 10) = true) : LexAt s (i + 1) done := by
  have h1 := h.1
  rw [drop_cons hi, lexL_skip hc] at h1
  exact ⟨h1, by have := h.2.1; omega, h.2.2⟩
theorem trimR_le (l : List UInt8) : (trimR l).length ≤ l.length := by
  obtain ⟨k, hk⟩ := trimR_pre l
  have := congrArg List.length hk
  simp at this; omega
theorem LexAt.word {s : ByteArray} {i n : Nat} {done : List (Nat × List UInt8)} (h : LexAt s i done) (hi : i < s.size) (hc : (s[i] == 32 || s[i] == 10) = false) (hb : firstW (s.data.toList.drop i) = (n, true)) :
    0 < n ∧ i + n ≤ s.size ∧ LexAt s (i + n) (done ++ [(i, trimR ((s.data.toList.drop i).take n))]) := by
  have h1 := h.1
  have hb2 := hb
  rw [drop_cons hi] at hb2
  have hp := firstW_pos (c := s[i]) (r := s.data.toList.drop (i + 1)) (by rw [hb2])
  rw [hb2] at hp
  rw [drop_cons hi, lexL_word hc (by rw [hb2]), hb2, ← drop_cons hi] at h1
  simp only [List.length_cons, List.length_drop] at hp
  have hsz : s.data.toList.length = s.size := by simp
  refine ⟨hp.1, by omega, ?_, by rw [List.length_append]; have := h.2.1; simp; omega, ?_⟩
  · rw [h1, List.drop_drop]
    simp
  · intro p hpm
    rcases List.mem_append.1 hpm with h2 | h2
    · exact h.2.2 p h2
    · simp at h2
      subst h2
      have := trimR_le ((s.data.toList.drop i).take n)
      rw [List.length_take, List.length_drop] at this
      show (trimR _).length ≤ _
      omega

theorem trim_lib (l : List UInt8) : Lib.trimRightB l 32 = trimR l := rfl

end Go.Proofs.YtddfdmopaeghnacGreatDoor

namespace Go.Proofs.YtddfdmopaeghnacGreatDoor
open Go.RowKit

end Go.Proofs.YtddfdmopaeghnacGreatDoor
