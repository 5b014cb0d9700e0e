/- Plain facts: a doc's text; two docs without quotes have one text only if they are one. No program, no condition. -/
import Derived.Test.YtddfdmopaeghnabDoorDocP
import Derived.Laws.Closers25
namespace Go.Proofs.YtddfdmopaeghnabDoor

/-- What stands before a node's parts, between them, behind them. -/
def sgOpen (d : Nd) : List UInt8 :=
  if d.op = 1 then 34 :: (d.text.data.toList ++ [34])
  else if d.op = 2 then [95] else if d.op = 3 then [46] else if d.op = 4 then [47] else if d.op = 5 then [48]
  else if d.op = 6 then [40] else if d.op = 7 then [UInt8.ofNat (48 + d.n.toNat), 62] else if d.op = 8 then [91] else [123]
def sgMid (d : Nd) : List UInt8 := if d.op = 9 then [124] else []
def sgEnd (d : Nd) : List UInt8 := if d.op = 6 then [41] else if d.op = 8 then [93] else if d.op = 9 then [125] else []

def D.text : D → List UInt8
  | .leaf d => sgOpen d ++ sgEnd d
  | .un d a => sgOpen d ++ a.text ++ sgEnd d
  | .bin d a b => sgOpen d ++ a.text ++ sgMid d ++ b.text ++ sgEnd d

/-- A node that may be, without a quote. -/
def GoodN (d : Nd) : Prop := oneF d.op d.text d.n = 0 ∧ d.text.data.toList.any (· == 34) = false

/-- What may not follow: '>'. -/
def Fol (r : List UInt8) : Prop := r.head? ≠ some 62

theorem quote_split {a b r s : List UInt8} (ha : a.any (· == 34) = false) (hb : b.any (· == 34) = false) (h : a ++ 34 :: r = b ++ 34 :: s) : a = b ∧ r = s := by
  induction a generalizing b with
  | nil =>
    cases b with
    | nil => simp at h; exact ⟨rfl, h⟩
    | cons y b => simp at h hb; exact absurd h.1.symm hb.1
  | cons x a ih =>
    cases b with
    | nil => simp at h ha; exact absurd h.1 ha.1
    | cons y b =>
      simp only [List.cons_append, List.cons.injEq] at h
      simp only [List.any_cons, Bool.or_eq_false_iff] at ha hb
      obtain ⟨h1, h2⟩ := ih ha.2 hb.2 h.2
      exact ⟨by rw [h.1, h1], h2⟩

theorem GoodN.cases {d : Nd} (h : GoodN d) : (∃ t, d = ⟨1, t, 0⟩ ∧ t.data.toList.any (· == 34) = false) ∨ d = ⟨2, .empty, 0⟩ ∨ d = ⟨3, .empty, 0⟩ ∨ d = ⟨4, .empty, 0⟩ ∨ d = ⟨5, .empty, 0⟩ ∨ d = ⟨6, .empty, 0⟩ ∨
    (∃ n : Nat, n ≤ 8 ∧ d = ⟨7, .empty, n⟩) ∨ d = ⟨8, .empty, 0⟩ ∨ d = ⟨9, .empty, 0⟩ := by
  obtain ⟨op, t, n⟩ := d
  obtain ⟨h1, h2⟩ := h
  simp only at h1 h2
  have hop : 1 ≤ op ∧ op ≤ 9 := by
    by_cases hc : op < 1 ∨ 9 < op
    · rw [oneF, if_pos hc] at h1; cases h1
    · omega
  have hsh : ¬ ((op ≠ 1 ∧ t.toList ≠ []) ∨ (op ≠ 7 ∧ n ≠ 0)) := by
    intro hc
    rw [oneF, if_neg (by omega), if_pos hc] at h1; cases h1
  have hn : 0 ≤ n ∧ n ≤ 8 := by
    by_cases hc : n < 0 ∨ 8 < n
    · unfold oneF at h1
      rw [if_neg (by omega), if_neg hsh] at h1
      split at h1
      · cases h1
      · first | cases h1 | (rw [if_pos hc] at h1; cases h1)
    · omega
  have ht : op ≠ 1 → t = .empty := by
    intro h
    have : t.toList = [] := by
      by_cases hc : t.toList = []
      · exact hc
      · exact absurd (.inl ⟨h, hc⟩) hsh
    rw [ByteArray.toList_eq] at this
    obtain ⟨⟨l⟩⟩ := t
    simp only at this
    rw [this]; rfl
  have hn0 : op ≠ 7 → n = 0 := by
    intro h
    by_cases hc : n = 0
    · exact hc
    · exact absurd (.inr ⟨h, hc⟩) hsh
  have : op = 1 ∨ op = 2 ∨ op = 3 ∨ op = 4 ∨ op = 5 ∨ op = 6 ∨ op = 7 ∨ op = 8 ∨ op = 9 := by omega
  rcases this with rfl | rfl | rfl | rfl | rfl | rfl | rfl | rfl | rfl
  case inr.inr.inr.inr.inr.inr.inl =>
    rw [ht (by decide)]
    exact .inr (.inr (.inr (.inr (.inr (.inr (.inl ⟨n.toNat, by omega, by rw [show ((n.toNat : Nat) : Int) = n by omega]⟩))))))
  case inl => rw [hn0 (by decide)]; exact .inl ⟨t, rfl, h2⟩
  all_goals rw [ht (by decide), hn0 (by decide)]; simp

/-- Which op a first byte tells. -/
def opOf (c : UInt8) : Int :=
  if c = 34 then 1 else if c = 95 then 2 else if c = 46 then 3 else if c = 47 then 4 else if c = 40 then 6 else if c = 91 then 8 else if c = 123 then 9 else 7

theorem GoodN.open_hd {d : Nd} (h : GoodN d) : ∃ (c : UInt8) (t : List UInt8), sgOpen d = c :: t ∧ c ≠ 62 ∧ (d.op ≠ 5 → opOf c = d.op) ∧ (d.op = 5 → opOf c = 7) := by
  rcases h.cases with ⟨t, rfl, _⟩ | rfl | rfl | rfl | rfl | rfl | ⟨n, hn, rfl⟩ | rfl | rfl
  case inr.inr.inr.inr.inr.inr.inl =>
    have : n = 0 ∨ n = 1 ∨ n = 2 ∨ n = 3 ∨ n = 4 ∨ n = 5 ∨ n = 6 ∨ n = 7 ∨ n = 8 := by omega
    rcases this with rfl | rfl | rfl | rfl | rfl | rfl | rfl | rfl | rfl
    all_goals exact ⟨_, _, rfl, by decide, fun _ => by decide, fun h => absurd h (by decide)⟩
  case inl => exact ⟨_, _, rfl, by decide, fun _ => (by show opOf 34 = 1; decide), fun h => absurd (show (1 : Int) = 5 from h) (by decide)⟩
  case inr.inr.inr.inr.inl => exact ⟨_, _, rfl, by decide, fun h => absurd (show (5 : Int) = 5 from rfl) h, fun _ => by decide⟩
  all_goals exact ⟨_, _, rfl, by decide, fun _ => by decide, fun h => absurd h (by decide)⟩

theorem open_inj {d e : Nd} (hd : GoodN d) (he : GoodN e) {r s : List UInt8} (fr : Fol r) (fs : Fol s) (h : sgOpen d ++ r = sgOpen e ++ s) : d = e ∧ r = s := by
  have key : d.op = e.op ∨ (d.op = 5 ∧ e.op = 7) ∨ (d.op = 7 ∧ e.op = 5) := by
    obtain ⟨c, t, h1, _, h2, h3⟩ := hd.open_hd
    obtain ⟨c', t', h1', _, h2', h3'⟩ := he.open_hd
    rw [h1, h1'] at h
    simp only [List.cons_append, List.cons.injEq] at h
    rw [← h.1] at h2' h3'
    by_cases a : d.op = 5
    · by_cases b : e.op = 5
      · left; omega
      · have := h3 a; have := h2' b; right; left; omega
    · by_cases b : e.op = 5
      · have := h2 a; have := h3' b; right; right; omega
      · have := h2 a; have := h2' b; left; omega
  rcases hd.cases with ⟨t, rfl, ht⟩ | rfl | rfl | rfl | rfl | rfl | ⟨n, hn, rfl⟩ | rfl | rfl <;>
  rcases he.cases with ⟨u, rfl, hu⟩ | rfl | rfl | rfl | rfl | rfl | ⟨m, hm, rfl⟩ | rfl | rfl
  all_goals first
    | (simp at key; done)
    | exact ⟨rfl, List.append_cancel_left h⟩
    | skip
  · simp [sgOpen] at h
    obtain ⟨h1, h2⟩ := quote_split ht hu h
    obtain ⟨⟨t⟩⟩ := t
    obtain ⟨⟨u⟩⟩ := u
    simp only at h1
    exact ⟨by rw [h1], h2⟩
  · simp [sgOpen] at h
    exact absurd (by rw [h.2]; rfl) fr
  · simp [sgOpen] at h
    exact absurd (by rw [← h.2]; rfl) fs
  · simp [sgOpen] at h
    have : n = m := by
      have h2 := congrArg UInt8.toNat h.1
      simp at h2
      omega
    exact ⟨by rw [this], h.2⟩

theorem fol_end (d : Nd) {r : List UInt8} (h : Fol r) : Fol (sgEnd d ++ r) := by
  unfold sgEnd Fol
  split
  · simp
  · split
    · simp
    · split
      · simp
      · exact h
theorem fol_mid (d : Nd) {r : List UInt8} (h : Fol r) : Fol (sgMid d ++ r) := by
  unfold sgMid Fol
  split
  · simp
  · exact h
theorem fol_text {x : D} (hg : ∀ d ∈ x.enc, GoodN d) (r : List UInt8) : Fol (x.text ++ r) := by
  have main : ∀ d, GoodN d → ∀ q, Fol (sgOpen d ++ q) := by
    intro d h q
    obtain ⟨c, t, h1, h2, _⟩ := h.open_hd
    rw [h1]
    simpa [Fol] using h2
  cases x with
  | leaf d => rw [D.text, List.append_assoc]; exact main d (hg d (by simp [D.enc])) _
  | un d a => rw [D.text, List.append_assoc, List.append_assoc]; exact main d (hg d (by simp [D.enc])) _
  | bin d a b => rw [D.text, List.append_assoc, List.append_assoc, List.append_assoc, List.append_assoc]; exact main d (hg d (by simp [D.enc])) _

theorem text_inj : ∀ {x y : D} {r s : List UInt8}, x.ok → y.ok → (∀ d ∈ x.enc, GoodN d) → (∀ d ∈ y.enc, GoodN d) → Fol r → Fol s → x.text ++ r = y.text ++ s → x = y ∧ r = s := by
  intro x
  induction x with
  | leaf d =>
    intro y r s ox oy gx gy fr fs h
    cases y with
    | leaf e =>
      simp only [D.text, List.append_assoc] at h
      obtain ⟨rfl, h2⟩ := open_inj (gx d (by simp [D.enc])) (gy e (by simp [D.enc])) (fol_end d fr) (fol_end e fs) h
      exact ⟨rfl, List.append_cancel_left h2⟩
    | un e a =>
      simp only [D.text, List.append_assoc] at h
      obtain ⟨rfl, h2⟩ := open_inj (gx d (by simp [D.enc])) (gy e (by simp [D.enc])) (fol_end d fr) (fol_text (fun z hz => gy z (by simp [D.enc, hz])) _) h
      exact absurd (show parts d.op = 0 from ox) (by rw [oy.1]; decide)
    | bin e a b =>
      simp only [D.text, List.append_assoc] at h
      obtain ⟨rfl, h2⟩ := open_inj (gx d (by simp [D.enc])) (gy e (by simp [D.enc])) (fol_end d fr) (fol_text (fun z hz => gy z (by simp [D.enc, hz])) _) h
      exact absurd (show parts d.op = 0 from ox) (by rw [oy.1]; decide)
  | un d a ia =>
    intro y r s ox oy gx gy fr fs h
    have ga : ∀ z ∈ a.enc, GoodN z := fun z hz => gx z (by simp [D.enc, hz])
    cases y with
    | leaf e =>
      simp only [D.text, List.append_assoc] at h
      obtain ⟨rfl, h2⟩ := open_inj (gx d (by simp [D.enc])) (gy e (by simp [D.enc])) (fol_text ga _) (fol_end e fs) h
      exact absurd (show parts d.op = 0 from oy) (by rw [ox.1]; decide)
    | un e a' =>
      have ga' : ∀ z ∈ a'.enc, GoodN z := fun z hz => gy z (by simp [D.enc, hz])
      simp only [D.text, List.append_assoc] at h
      obtain ⟨rfl, h2⟩ := open_inj (gx d (by simp [D.enc])) (gy e (by simp [D.enc])) (fol_text ga _) (fol_text ga' _) h
      obtain ⟨rfl, h3⟩ := ia ox.2 oy.2 ga ga' (fol_end d fr) (fol_end d fs) h2
      exact ⟨rfl, List.append_cancel_left h3⟩
    | bin e a' b' =>
      have ga' : ∀ z ∈ a'.enc, GoodN z := fun z hz => gy z (by simp [D.enc, hz])
      simp only [D.text, List.append_assoc] at h
      obtain ⟨rfl, h2⟩ := open_inj (gx d (by simp [D.enc])) (gy e (by simp [D.enc])) (fol_text ga _) (fol_text ga' _) h
      exact absurd ox.1 (by rw [oy.1]; decide)
  | bin d a b ia ib =>
    intro y r s ox oy gx gy fr fs h
    have ga : ∀ z ∈ a.enc, GoodN z := fun z hz => gx z (by simp [D.enc, hz])
    have gb : ∀ z ∈ b.enc, GoodN z := fun z hz => gx z (by simp [D.enc, hz])
    cases y with
    | leaf e =>
      simp only [D.text, List.append_assoc] at h
      obtain ⟨rfl, h2⟩ := open_inj (gx d (by simp [D.enc])) (gy e (by simp [D.enc])) (fol_text ga _) (fol_end e fs) h
      exact absurd (show parts d.op = 0 from oy) (by rw [ox.1]; decide)
    | un e a' =>
      have ga' : ∀ z ∈ a'.enc, GoodN z := fun z hz => gy z (by simp [D.enc, hz])
      simp only [D.text, List.append_assoc] at h
      obtain ⟨rfl, h2⟩ := open_inj (gx d (by simp [D.enc])) (gy e (by simp [D.enc])) (fol_text ga _) (fol_text ga' _) h
      exact absurd ox.1 (by rw [oy.1]; decide)
    | bin e a' b' =>
      have ga' : ∀ z ∈ a'.enc, GoodN z := fun z hz => gy z (by simp [D.enc, hz])
      have gb' : ∀ z ∈ b'.enc, GoodN z := fun z hz => gy z (by simp [D.enc, hz])
      simp only [D.text, List.append_assoc] at h
      obtain ⟨rfl, h2⟩ := open_inj (gx d (by simp [D.enc])) (gy e (by simp [D.enc])) (fol_text ga _) (fol_text ga' _) h
      obtain ⟨rfl, h3⟩ := ia ox.2.1 oy.2.1 ga ga' (fol_mid d (fol_text gb _)) (fol_mid d (fol_text gb' _)) h2
      obtain ⟨rfl, h4⟩ := ib ox.2.2 oy.2.2 gb gb' (fol_end d fr) (fol_end d fs) (List.append_cancel_left h3)
      exact ⟨rfl, List.append_cancel_left h4⟩
end Go.Proofs.YtddfdmopaeghnabDoor
