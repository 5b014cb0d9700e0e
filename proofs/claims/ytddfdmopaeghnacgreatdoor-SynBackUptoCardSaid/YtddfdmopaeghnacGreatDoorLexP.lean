/- Plain facts: the words of a text; a text behind a text; words that stand each in a line of its own. No program, no condition. -/
import Derived.Below
namespace Go.Proofs.YtddfdmopaeghnacGreatDoor

def lowB (c : UInt8) : Bool := decide (97 ≤ c.toNat) && decide (c.toNat ≤ 122)
def digB (c : UInt8) : Bool := decide (48 ≤ c.toNat) && decide (c.toNat ≤ 57)
def prB (c : UInt8) : Bool := decide (32 ≤ c.toNat) && decide (c.toNat ≤ 126)
def nlB (c : UInt8) : Bool := !(c == 10)
/-- How many bytes of a class a text begins with. -/
def runB (p : UInt8 → Bool) : List UInt8 → Nat
  | [] => 0
  | c :: r => if p c then runB p r + 1 else 0
def signs : List UInt8 := [40, 41, 91, 93, 44, 43, 42, 61, 59]

/-- A text's first word: how many bytes; may it be. -/
def firstW : List UInt8 → Nat × Bool
  | [] => (0, false)
  | c :: r =>
    if lowB c then (runB lowB (c :: r), decide (runB lowB (c :: r) ≤ 8))
    else if digB c then (runB digB (c :: r), decide (runB digB (c :: r) ≤ 6) && (decide (runB digB (c :: r) = 1) || !(c == 48)))
    else if c == 35 then (runB nlB (c :: r), decide (runB nlB (c :: r) ≤ runB prB (c :: r)))
    else (1, signs.contains c)

theorem firstW_cons (c : UInt8) (r : List UInt8) : firstW (c :: r) =
    if lowB c then (runB lowB (c :: r), decide (runB lowB (c :: r) ≤ 8))
    else if digB c then (runB digB (c :: r), decide (runB digB (c :: r) ≤ 6) && (decide (runB digB (c :: r) = 1) || !(c == 48)))
    else if c == 35 then (runB nlB (c :: r), decide (runB nlB (c :: r) ≤ runB prB (c :: r)))
    else (1, signs.contains c) := rfl

def blank (c : UInt8) : Bool := c == 32
/-- Without the blanks at its end. -/
def trimR (l : List UInt8) : List UInt8 := (l.reverse.dropWhile blank).reverse

/-- The words, with where they begin; where none can be. -/
def lexG : Nat → Nat → List UInt8 → List (Nat × List UInt8) × Option Nat
  | 0, _, _ => ([], none)
  | _ + 1, _, [] => ([], none)
  | f + 1, i, c :: r =>
    if c == 32 || c == 10 then lexG f (i + 1) r
    else if (firstW (c :: r)).2 then
      ((i, trimR ((c :: r).take (firstW (c :: r)).1)) :: (lexG f (i + (firstW (c :: r)).1) ((c :: r).drop (firstW (c :: r)).1)).1,
        (lexG f (i + (firstW (c :: r)).1) ((c :: r).drop (firstW (c :: r)).1)).2)
    else ([], some i)

theorem runB_le (p : UInt8 → Bool) (l : List UInt8) : runB p l ≤ l.length := by
  induction l with
  | nil => simp [runB]
  | cons c r ih => unfold runB; split <;> simp <;> omega

theorem runB_app {p : UInt8 → Bool} (hp : p 10 = false) (a t : List UInt8) : runB p (a ++ 10 :: t) = runB p a := by
  induction a with
  | nil => simp [runB, hp]
  | cons c r ih => simp only [List.cons_append, runB, ih]

theorem firstW_app {a : List UInt8} (ha : a ≠ []) (t : List UInt8) : firstW (a ++ 10 :: t) = firstW a := by
  cases a with
  | nil => exact absurd rfl ha
  | cons c r =>
    have h1 := runB_app (p := lowB) (by decide) (c :: r) t
    have h2 := runB_app (p := digB) (by decide) (c :: r) t
    have h3 := runB_app (p := nlB) (by decide) (c :: r) t
    have h4 := runB_app (p := prB) (by decide) (c :: r) t
    rw [List.cons_append] at h1 h2 h3 h4
    rw [List.cons_append]
    simp only [firstW, h1, h2, h3, h4]

theorem firstW_pos {c : UInt8} {r : List UInt8} (h : (firstW (c :: r)).2 = true) : 0 < (firstW (c :: r)).1 ∧ (firstW (c :: r)).1 ≤ (c :: r).length := by
  rw [firstW_cons] at h ⊢
  split
  · rename_i hc; exact ⟨by simp [runB, hc], runB_le _ _⟩
  · split
    · rename_i hc; exact ⟨by simp [runB, hc], runB_le _ _⟩
    · split
      · rename_i hc
        refine ⟨?_, runB_le _ _⟩
        have : c = 35 := by simpa using hc
        subst this
        simp [runB, nlB]
      · simp

/-- Enough fuel is enough. -/
theorem lexG_fuel : ∀ (f g i : Nat) (l : List UInt8), l.length ≤ f → l.length ≤ g → lexG f i l = lexG g i l := by
  intro f
  induction f with
  | zero =>
    intro g i l hf _
    obtain rfl : l = [] := List.eq_nil_of_length_eq_zero (by omega)
    cases g <;> rfl
  | succ f ih =>
    intro g i l hf hg
    cases g with
    | zero =>
      obtain rfl : l = [] := List.eq_nil_of_length_eq_zero (by omega)
      rfl
    | succ g =>
      cases l with
      | nil => rfl
      | cons c r =>
        simp only [List.length_cons] at hf hg
        simp only [lexG]
        split
        · exact ih g _ r (by omega) (by omega)
        · split
          · rename_i h
            have hp := firstW_pos h
            rw [ih g (i + (firstW (c :: r)).1) ((c :: r).drop (firstW (c :: r)).1) (by rw [List.length_drop, List.length_cons]; omega) (by rw [List.length_drop, List.length_cons]; omega)]
          · rfl

def lexL (i : Nat) (l : List UInt8) : List (Nat × List UInt8) × Option Nat := lexG l.length i l

theorem lexL_nil (i : Nat) : lexL i [] = ([], none) := rfl
theorem lexL_skip {i : Nat} {c : UInt8} {r : List UInt8} (h : (c == 32 || c == 10) = true) : lexL i (c :: r) = lexL (i + 1) r := by
  unfold lexL; rw [List.length_cons, lexG, if_pos h]
theorem lexL_bad {i : Nat} {c : UInt8} {r : List UInt8} (h : (c == 32 || c == 10) = false) (hb : (firstW (c :: r)).2 = false) : lexL i (c :: r) = ([], some i) := by
  unfold lexL; rw [List.length_cons, lexG, if_neg (by simp [h]), if_neg (by simp [hb])]
theorem lexL_word {i : Nat} {c : UInt8} {r : List UInt8} (h : (c == 32 || c == 10) = false) (hb : (firstW (c :: r)).2 = true) :
    lexL i (c :: r) = ((i, trimR ((c :: r).take (firstW (c :: r)).1)) :: (lexL (i + (firstW (c :: r)).1) ((c :: r).drop (firstW (c :: r)).1)).1, (lexL (i + (firstW (c :: r)).1) ((c :: r).drop (firstW (c :: r)).1)).2) := by
  have hp := firstW_pos hb
  unfold lexL
  rw [List.length_cons, lexG, if_neg (by simp [h]), if_pos hb]
  rw [lexG_fuel r.length ((c :: r).drop (firstW (c :: r)).1).length _ _ (by rw [List.length_drop, List.length_cons]; omega) (Nat.le_refl _)]

/-- A text behind a text. -/
theorem lexL_app : ∀ (n : Nat) (i : Nat) (s t : List UInt8) (ws : List (Nat × List UInt8)), s.length ≤ n → lexL i s = (ws, none) →
    lexL i (s ++ 10 :: t) = (ws ++ (lexL (i + s.length + 1) t).1, (lexL (i + s.length + 1) t).2) := by
  intro n
  induction n with
  | zero =>
    intro i s t ws hn h
    obtain rfl : s = [] := List.eq_nil_of_length_eq_zero (by omega)
    rw [lexL_nil] at h
    cases h
    rw [List.nil_append, lexL_skip (by decide)]; rfl
  | succ n ih =>
    intro i s t ws hn h
    cases s with
    | nil =>
      rw [lexL_nil] at h
      cases h
      rw [List.nil_append, lexL_skip (by decide)]; rfl
    | cons c r =>
      simp only [List.length_cons] at hn
      cases hc : (c == 32 || c == 10) with
      | true =>
        rw [lexL_skip hc] at h
        rw [List.cons_append, lexL_skip hc, ih (i + 1) r t ws (by omega) h, List.length_cons]
        rw [show i + 1 + r.length + 1 = i + (r.length + 1) + 1 by omega]
      | false =>
        cases hb : (firstW (c :: r)).2 with
        | false => rw [lexL_bad hc hb] at h; cases h
        | true =>
          have hp := firstW_pos hb
          have hfa := firstW_app (a := c :: r) (by simp) t
          rw [List.cons_append] at hfa
          rw [lexL_word hc hb] at h
          generalize hq : lexL (i + (firstW (c :: r)).1) ((c :: r).drop (firstW (c :: r)).1) = q at h
          obtain ⟨q1, q2⟩ := q
          simp only [Prod.mk.injEq] at h
          obtain ⟨rfl, rfl⟩ := h
          rw [List.cons_append, lexL_word hc (by rw [hfa]; exact hb), hfa, ← List.cons_append]
          rw [List.take_append_of_le_length hp.2, List.drop_append_of_le_length hp.2]
          rw [ih _ _ t q1 (by rw [List.length_drop, List.length_cons]; omega) hq]
          rw [List.length_drop]
          rw [show i + (firstW (c :: r)).1 + ((c :: r).length - (firstW (c :: r)).1) + 1 = i + (c :: r).length + 1 by omega]
          simp

theorem trimR_of {l : List UInt8} (h : ∀ c ∈ l, blank c = false) : trimR l = l := by
  unfold trimR
  have : l.reverse.dropWhile blank = l.reverse := by
    cases hr : l.reverse with
    | nil => rfl
    | cons c r =>
      have hc : blank c = false := h c (by rw [← List.mem_reverse, hr]; simp)
      rw [List.dropWhile_cons, hc]; rfl
  rw [this, List.reverse_reverse]

theorem trimR_idem (l : List UInt8) : trimR (trimR l) = trimR l := by
  unfold trimR
  rw [List.reverse_reverse]
  congr 1
  generalize l.reverse = m
  induction m with
  | nil => rfl
  | cons c r ih =>
    rw [List.dropWhile_cons]
    split
    · exact ih
    · rename_i hc; rw [List.dropWhile_cons, if_neg hc]

theorem trimR_pre (l : List UInt8) : ∃ k, l = trimR l ++ List.replicate k 32 := by
  unfold trimR
  have : ∀ m : List UInt8, ∃ k, m = List.replicate k 32 ++ m.dropWhile blank := by
    intro m
    induction m with
    | nil => exact ⟨0, rfl⟩
    | cons c r ih =>
      rw [List.dropWhile_cons]
      split
      · rename_i hc
        have : c = 32 := by simpa [blank] using hc
        obtain ⟨k, hk⟩ := ih
        exact ⟨k + 1, by rw [this, List.replicate_succ, List.cons_append, ← hk]⟩
      · exact ⟨0, by simp⟩
  obtain ⟨k, hk⟩ := this l.reverse
  refine ⟨k, ?_⟩
  have := congrArg List.reverse hk
  rw [List.reverse_reverse, List.reverse_append, List.reverse_replicate] at this
  exact this

theorem runB_take {p : UInt8 → Bool} (l : List UInt8) : ∀ c ∈ l.take (runB p l), p c = true := by
  induction l with
  | nil => simp [runB]
  | cons c r ih =>
    intro d hd
    unfold runB at hd
    split at hd
    · rename_i hc
      rw [List.take_succ_cons] at hd
      rcases List.mem_cons.1 hd with rfl | hd
      · exact hc
      · exact ih d hd
    · simp at hd

theorem runB_all {p : UInt8 → Bool} {l : List UInt8} (h : ∀ c ∈ l, p c = true) : runB p l = l.length := by
  induction l with
  | nil => rfl
  | cons c r ih =>
    rw [runB, if_pos (h c (by simp)), ih (fun d hd => h d (by simp [hd]))]; rfl

theorem runB_mono {p : UInt8 → Bool} (l : List UInt8) (n : Nat) (h : n ≤ runB p l) : ∀ c ∈ l.take n, p c = true := by
  intro c hc
  refine runB_take l c ?_
  obtain ⟨i, hi, rfl⟩ := List.mem_iff_getElem.1 hc
  rw [List.length_take] at hi
  rw [List.getElem_take]
  refine List.mem_iff_getElem.2 ⟨i, by rw [List.length_take]; omega, by rw [List.getElem_take]⟩

/-- A word by itself is itself. -/
structure WordOk (w : List UInt8) : Prop where
  pos : 0 < w.length
  lex : ∀ i, lexL i w = ([(i, w)], none)

theorem lexL_whole {i : Nat} {c : UInt8} {r : List UInt8} (h : (c == 32 || c == 10) = false) (hf : firstW (c :: r) = ((c :: r).length, true)) (ht : trimR (c :: r) = c :: r) : lexL i (c :: r) = ([(i, c :: r)], none) := by
  rw [lexL_word h (by rw [hf]), hf]
  simp only [List.take_length, List.drop_length, ht, lexL_nil]

theorem low_nb {c : UInt8} (h : lowB c = true) : (c == 32 || c == 10) = false ∧ blank c = false := by
  have hc : 97 ≤ c.toNat := by unfold lowB at h; simp at h; omega
  have h1 : c ≠ 32 := by rintro rfl; simp at hc
  have h2 : c ≠ 10 := by rintro rfl; simp at hc
  simp [blank, h1, h2]
theorem dig_nb {c : UInt8} (h : digB c = true) : (c == 32 || c == 10) = false ∧ blank c = false ∧ lowB c = false := by
  have hc : 48 ≤ c.toNat ∧ c.toNat ≤ 57 := by unfold digB at h; simp at h; omega
  have h1 : c ≠ 32 := by rintro rfl; simp at hc
  have h2 : c ≠ 10 := by rintro rfl; simp at hc
  refine ⟨by simp [h1, h2], by simp [blank, h1], ?_⟩
  unfold lowB; simp; omega

theorem word_ok {c : UInt8} {r : List UInt8} (hc : (c == 32 || c == 10) = false) (hb : (firstW (c :: r)).2 = true) : WordOk (trimR ((c :: r).take (firstW (c :: r)).1)) := by
  have hp := firstW_pos hb
  rw [firstW_cons] at hb hp ⊢
  by_cases h1 : lowB c = true
  · rw [if_pos h1] at hb hp ⊢
    simp only at hb hp ⊢
    have ha := runB_take (p := lowB) (c :: r)
    rw [trimR_of fun d hd => (low_nb (ha d hd)).2]
    have hl : ((c :: r).take (runB lowB (c :: r))).length = runB lowB (c :: r) := by rw [List.length_take]; omega
    have hhd : (c :: r).take (runB lowB (c :: r)) = c :: r.take (runB lowB (c :: r) - 1) := by
      conv => lhs; rw [show runB lowB (c :: r) = (runB lowB (c :: r) - 1) + 1 by omega]
      rw [List.take_succ_cons]
    refine ⟨by omega, fun i => ?_⟩
    have hall := runB_all ha
    generalize hq : r.take (runB lowB (c :: r) - 1) = q at *
    rw [hhd] at ha hl hall ⊢
    refine lexL_whole hc ?_ (trimR_of fun d hd => (low_nb (ha d hd)).2)
    rw [firstW_cons]
    rw [if_pos h1, hall]
    rw [hl]
    simp only [hb]
  · rw [if_neg h1] at hb hp ⊢
    by_cases h2 : digB c = true
    · rw [if_pos h2] at hb hp ⊢
      simp only at hb hp ⊢
      have ha := runB_take (p := digB) (c :: r)
      rw [trimR_of fun d hd => (dig_nb (ha d hd)).2.1]
      have hl : ((c :: r).take (runB digB (c :: r))).length = runB digB (c :: r) := by rw [List.length_take]; omega
      have hhd : (c :: r).take (runB digB (c :: r)) = c :: r.take (runB digB (c :: r) - 1) := by
        conv => lhs; rw [show runB digB (c :: r) = (runB digB (c :: r) - 1) + 1 by omega]
        rw [List.take_succ_cons]
      refine ⟨by omega, fun i => ?_⟩
      have hall := runB_all ha
      generalize hq : r.take (runB digB (c :: r) - 1) = q at *
      rw [hhd] at ha hl hall ⊢
      refine lexL_whole hc ?_ (trimR_of fun d hd => (dig_nb (ha d hd)).2.1)
      rw [firstW_cons]
      rw [if_neg h1, if_pos h2, hall]
      rw [hl]
      simp only [hb]
    · rw [if_neg h2] at hb hp ⊢
      by_cases h3 : (c == 35) = true
      · rw [if_pos h3] at hb hp ⊢
        simp only at hb hp ⊢
        have ec : c = 35 := by simpa using h3
        subst ec
        have hle : runB nlB (35 :: r) ≤ runB prB (35 :: r) := by simpa using hb
        have ha := runB_take (p := nlB) (35 :: r)
        have hb2 := runB_mono (p := prB) (35 :: r) _ hle
        obtain ⟨k, hk⟩ := trimR_pre ((35 :: r).take (runB nlB (35 :: r)))
        have hid := trimR_idem ((35 :: r).take (runB nlB (35 :: r)))
        have hne : trimR ((35 :: r).take (runB nlB (35 :: r))) ≠ [] := by
          intro he
          rw [he, List.nil_append] at hk
          have : (35 : UInt8) ∈ List.replicate k (32 : UInt8) := by
            rw [← hk, show runB nlB (35 :: r) = (runB nlB (35 :: r) - 1) + 1 by omega, List.take_succ_cons]; simp
          have := List.eq_of_mem_replicate this
          exact absurd this (by decide)
        generalize trimR ((35 :: r).take (runB nlB (35 :: r))) = w at *
        have h35 : ((35 :: r).take (runB nlB (35 :: r))).head? = some 35 := by
          rw [show runB nlB (35 :: r) = (runB nlB (35 :: r) - 1) + 1 by omega, List.take_succ_cons]; rfl
        cases w with
        | nil => exact absurd rfl hne
        | cons d q =>
          rw [hk] at ha hb2 h35
          simp at h35
          subst h35
          refine ⟨by simp, fun i => lexL_whole hc ?_ hid⟩
          have e1 := runB_all (p := nlB) (l := 35 :: q) fun c hc => ha c (List.mem_append_left _ hc)
          have e2 := runB_all (p := prB) (l := 35 :: q) fun c hc => hb2 c (List.mem_append_left _ hc)
          rw [firstW_cons]
          rw [if_neg h1, if_neg h2, if_pos h3, e1, e2]
          simp
      · rw [if_neg h3] at hb hp ⊢
        simp only at hb hp ⊢
        have ht : (c :: r).take 1 = [c] := rfl
        have hnb : blank c = false := by
          cases h : blank c with
          | false => rfl
          | true => unfold blank at h; simp [h] at hc
        rw [ht, trimR_of (by simpa using hnb)]
        refine ⟨by simp, fun i => lexL_whole hc ?_ (trimR_of (by simpa using hnb))⟩
        rw [firstW_cons]
        rw [if_neg h1, if_neg h2, if_neg h3, hb]; rfl

theorem lex_words : ∀ (n i : Nat) (s : List UInt8), s.length ≤ n → ∀ p ∈ (lexL i s).1, WordOk p.2 := by
  intro n
  induction n with
  | zero =>
    intro i s hn p hp
    obtain rfl : s = [] := List.eq_nil_of_length_eq_zero (by omega)
    simp [lexL_nil] at hp
  | succ n ih =>
    intro i s hn p hp
    cases s with
    | nil => simp [lexL_nil] at hp
    | cons c r =>
      simp only [List.length_cons] at hn
      cases hc : (c == 32 || c == 10) with
      | true => rw [lexL_skip hc] at hp; exact ih _ r (by omega) p hp
      | false =>
        cases hb : (firstW (c :: r)).2 with
        | false => rw [lexL_bad hc hb] at hp; simp at hp
        | true =>
          rw [lexL_word hc hb] at hp
          rcases List.mem_cons.1 hp with rfl | hp
          · exact word_ok hc hb
          · exact ih _ _ (by have := firstW_pos hb; rw [List.length_drop, List.length_cons]; omega) p hp

/-- Words each in a line of its own. -/
def rows (ws : List (List UInt8)) : List UInt8 := ws.flatMap fun w => w ++ [10]

theorem lex_rows : ∀ (ws : List (List UInt8)) (i : Nat), (∀ w ∈ ws, WordOk w) → ((lexL i (rows ws)).1.map (·.2) = ws) ∧ (lexL i (rows ws)).2 = none := by
  intro ws
  induction ws with
  | nil => intro i _; exact ⟨rfl, rfl⟩
  | cons w r ih =>
    intro i h
    have hw := (h w (by simp)).lex i
    have he : rows (w :: r) = w ++ 10 :: rows r := by simp [rows]
    rw [he, lexL_app w.length i w (rows r) _ (Nat.le_refl _) hw]
    obtain ⟨h1, h2⟩ := ih (i + w.length + 1) (fun v hv => h v (by simp [hv]))
    exact ⟨by simp [h1], h2⟩
end Go.Proofs.YtddfdmopaeghnacGreatDoor
