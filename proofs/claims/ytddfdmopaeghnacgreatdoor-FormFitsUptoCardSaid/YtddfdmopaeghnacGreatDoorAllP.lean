/- Plain facts on all ways of a doc: each is shown, what is shown is one, they rise. No program, no condition. -/
import Derived.Test.YtddfdmopaeghnacGreatDoorWaysP
namespace Go.Proofs.YtddfdmopaeghnacGreatDoor

/-- All ways of a doc. -/
def D.ways : D → List (List Int)
  | .leaf _ => [[]]
  | .un d a => if d.op = 7 then a.ways else (if a.flat.isSome = true then [[0]] else []) ++ a.ways.map (1 :: ·)
  | .bin d a b => if d.op = 6 then a.ways.flatMap (fun u => b.ways.map (u ++ ·)) else a.ways.map (0 :: ·) ++ b.ways.map (1 :: ·)

def Bits (w : List Int) : Prop := ∀ c ∈ w, c = 0 ∨ c = 1

theorem D.ways_bits {x : D} : ∀ u ∈ x.ways, Bits u := by
  induction x with
  | leaf d => intro u hu; simp [D.ways] at hu; subst hu; intro c hc; cases hc
  | un d a ih =>
    intro u hu
    simp only [D.ways] at hu
    split at hu
    · exact ih u hu
    · rcases List.mem_append.1 hu with hu | hu
      · split at hu
        · simp at hu; subst hu; intro c hc; simp at hc; exact .inl hc
        · cases hu
      · obtain ⟨v, hv, rfl⟩ := List.mem_map.1 hu
        intro c hc
        rcases List.mem_cons.1 hc with rfl | hc
        · exact .inr rfl
        · exact ih v hv c hc
  | bin d a b ia ib =>
    intro u hu
    simp only [D.ways] at hu
    split at hu
    · obtain ⟨v, hv, hu⟩ := List.mem_flatMap.1 hu
      obtain ⟨z, hz, rfl⟩ := List.mem_map.1 hu
      intro c hc
      rcases List.mem_append.1 hc with hc | hc
      · exact ia v hv c hc
      · exact ib z hz c hc
    · rcases List.mem_append.1 hu with hu | hu
      · obtain ⟨v, hv, rfl⟩ := List.mem_map.1 hu
        intro c hc
        rcases List.mem_cons.1 hc with rfl | hc
        · exact .inl rfl
        · exact ia v hv c hc
      · obtain ⟨v, hv, rfl⟩ := List.mem_map.1 hu
        intro c hc
        rcases List.mem_cons.1 hc with rfl | hc
        · exact .inr rfl
        · exact ib v hv c hc

theorem D.ways_ne {x : D} : x.ways ≠ [] := by
  induction x with
  | leaf d => simp [D.ways]
  | un d a ih =>
    simp only [D.ways]
    split
    · exact ih
    · simp [ih]
  | bin d a b ia ib =>
    simp only [D.ways]
    split
    · intro h
      rw [List.flatMap_eq_nil_iff] at h
      cases ha : a.ways with
      | nil => exact ia ha
      | cons u r =>
        have := h u (by rw [ha]; simp)
        simp [ib] at this
    · simp [ia]

/-- Each way is laid. -/
theorem D.lay_way {x : D} : ∀ {dp : Int} {u : List Int}, u ∈ x.ways → ∃ s, x.lay dp u = .ok (s, []) := by
  induction x with
  | leaf d =>
    intro dp u hu
    simp [D.ways] at hu; subst hu
    simp only [D.lay]
    split
    · exact ⟨_, rfl⟩
    · split <;> exact ⟨_, rfl⟩
  | un d a ih =>
    intro dp u hu
    simp only [D.ways] at hu
    simp only [D.lay]
    by_cases h7 : d.op = 7
    · rw [if_pos h7] at hu ⊢; exact ih hu
    · rw [if_neg h7] at hu ⊢
      rcases List.mem_append.1 hu with hu | hu
      · split at hu
        · rename_i hf
          simp at hu; subst hu
          simp only [if_true]
          cases h : a.flat with
          | none => rw [h] at hf; cases hf
          | some s => exact ⟨s, rfl⟩
        · cases hu
      · obtain ⟨v, hv, rfl⟩ := List.mem_map.1 hu
        simp only
        rw [if_neg (by decide)]
        exact ih hv
  | bin d a b ia ib =>
    intro dp u hu
    simp only [D.ways] at hu
    simp only [D.lay]
    by_cases h6 : d.op = 6
    · rw [if_pos h6] at hu ⊢
      obtain ⟨v, hv, hu⟩ := List.mem_flatMap.1 hu
      obtain ⟨z, hz, rfl⟩ := List.mem_map.1 hu
      obtain ⟨s, hs⟩ := ia (dp := dp + d.n) hv
      obtain ⟨t, ht⟩ := ib (dp := dp + d.n) hz
      rw [D.lay_more hs]
      simp only [List.nil_append]
      rw [ht]
      exact ⟨_, rfl⟩
    · rw [if_neg h6] at hu ⊢
      rcases List.mem_append.1 hu with hu | hu
      · obtain ⟨v, hv, rfl⟩ := List.mem_map.1 hu
        simp only
        rw [if_pos trivial]
        exact ia hv
      · obtain ⟨v, hv, rfl⟩ := List.mem_map.1 hu
        simp only
        rw [if_neg (by decide)]
        exact ib hv

/-- What is laid is a way, and what is left. -/
theorem D.way_of {x : D} : ∀ {dp : Int} {w r : List Int} {s : ByteArray}, Bits w → x.lay dp w = .ok (s, r) → ∃ u, u ∈ x.ways ∧ w = u ++ r ∧ x.lay dp u = .ok (s, []) := by
  induction x with
  | leaf d =>
    intro dp w r s _ h
    refine ⟨[], by simp [D.ways], ?_⟩
    simp only [D.lay] at h ⊢
    by_cases h1 : d.op = 1
    · rw [if_pos h1] at h ⊢; cases h; exact ⟨rfl, rfl⟩
    · rw [if_neg h1] at h ⊢
      by_cases h5 : d.op = 5
      · rw [if_pos h5] at h ⊢; cases h; exact ⟨rfl, rfl⟩
      · rw [if_neg h5] at h ⊢; cases h; exact ⟨rfl, rfl⟩
  | un d a ih =>
    intro dp w r s hb h
    simp only [D.lay] at h
    simp only [D.ways, D.lay]
    by_cases h7 : d.op = 7
    · rw [if_pos h7] at h ⊢
      obtain ⟨u, h1, h2, h3⟩ := ih hb h
      exact ⟨u, h1, h2, by rw [if_pos h7]; exact h3⟩
    · rw [if_neg h7] at h ⊢
      cases w with
      | nil => cases h
      | cons c w' =>
        simp only at h
        by_cases hc : c = 0
        · rw [if_pos hc] at h
          cases hf : a.flat with
          | none => rw [hf] at h; cases h
          | some t =>
            rw [hf] at h; cases h
            refine ⟨[0], List.mem_append_left _ (by simp), by rw [hc]; rfl, ?_⟩
            rw [if_neg h7]; rfl
        · rw [if_neg hc] at h
          have hc1 : c = 1 := by have := hb c (by simp); omega
          obtain ⟨u, h1, h2, h3⟩ := ih (fun y hy => hb y (by simp [hy])) h
          refine ⟨1 :: u, List.mem_append_right _ (List.mem_map_of_mem h1), by rw [hc1, h2]; rfl, ?_⟩
          rw [if_neg h7]; simp only; rw [if_neg (by decide)]; exact h3
  | bin d a b ia ib =>
    intro dp w r s hb h
    simp only [D.lay] at h
    simp only [D.ways, D.lay]
    by_cases h6 : d.op = 6
    · rw [if_pos h6] at h ⊢
      cases ha : a.lay (dp + d.n) w with
      | error e => rw [ha] at h; cases h
      | ok p =>
        obtain ⟨s1, w1⟩ := p
        rw [ha] at h
        simp only at h
        cases hbb : b.lay (dp + d.n) w1 with
        | error e => rw [hbb] at h; cases h
        | ok q =>
          obtain ⟨s2, w2⟩ := q
          rw [hbb] at h
          cases h
          obtain ⟨u, h1, h2, h3⟩ := ia hb ha
          obtain ⟨v, g1, g2, g3⟩ := ib (fun y hy => hb y (by rw [h2]; simp [hy])) hbb
          refine ⟨u ++ v, List.mem_flatMap.2 ⟨u, h1, List.mem_map_of_mem g1⟩, by rw [h2, g2, List.append_assoc], ?_⟩
          rw [if_pos h6, D.lay_more h3]
          simp only [List.nil_append]
          rw [g3]
    · rw [if_neg h6] at h ⊢
      cases w with
      | nil => cases h
      | cons c w' =>
        simp only at h
        by_cases hc : c = 0
        · rw [if_pos hc] at h
          obtain ⟨u, h1, h2, h3⟩ := ia (fun y hy => hb y (by simp [hy])) h
          refine ⟨0 :: u, List.mem_append_left _ (List.mem_map_of_mem h1), by rw [hc, h2]; rfl, ?_⟩
          rw [if_neg h6]; simp only; rw [if_pos trivial]; exact h3
        · rw [if_neg hc] at h
          have hc1 : c = 1 := by have := hb c (by simp); omega
          obtain ⟨u, h1, h2, h3⟩ := ib (fun y hy => hb y (by simp [hy])) h
          refine ⟨1 :: u, List.mem_append_right _ (List.mem_map_of_mem h1), by rw [hc1, h2]; rfl, ?_⟩
          rw [if_neg h6]; simp only; rw [if_neg (by decide)]; exact h3

/-- Is one way ahead of another one, neither the beginning of the other? -/
def aheadL : List Int → List Int → Bool
  | a :: r, b :: s => if a = b then aheadL r s else decide (a < b)
  | _, _ => false

theorem ahead_same (u : List Int) {v z : List Int} (h : aheadL v z = true) : aheadL (u ++ v) (u ++ z) = true := by
  induction u with
  | nil => exact h
  | cons a r ih => simpa [aheadL] using ih
theorem ahead_more {u v : List Int} (h : aheadL u v = true) (a b : List Int) : aheadL (u ++ a) (v ++ b) = true := by
  induction u generalizing v with
  | nil => cases v <;> simp [aheadL] at h
  | cons c r ih =>
    cases v with
    | nil => simp [aheadL] at h
    | cons e s =>
      simp only [List.cons_append, aheadL] at h ⊢
      split
      · rename_i he; rw [if_pos he] at h; exact ih h
      · rename_i he; rw [if_neg he] at h; exact h

/-- They rise. -/
theorem D.ways_rise {x : D} : x.ways.Pairwise (fun a b => aheadL a b = true) := by
  have one : ∀ (c : Int) (l : List (List Int)), l.Pairwise (fun a b => aheadL a b = true) → (l.map (c :: ·)).Pairwise (fun a b => aheadL a b = true) := by
    intro c l h
    rw [List.pairwise_map]
    exact h.imp fun hh => by simpa [aheadL] using hh
  have two : ∀ (l m : List (List Int)), l.Pairwise (fun a b => aheadL a b = true) → m.Pairwise (fun a b => aheadL a b = true) → (l.map (0 :: ·) ++ m.map (1 :: ·)).Pairwise (fun a b => aheadL a b = true) := by
    intro l m h1 h2
    rw [List.pairwise_append]
    refine ⟨one 0 l h1, one 1 m h2, ?_⟩
    intro a ha b hb
    obtain ⟨u, _, rfl⟩ := List.mem_map.1 ha
    obtain ⟨v, _, rfl⟩ := List.mem_map.1 hb
    simp [aheadL]
  induction x with
  | leaf d => simp [D.ways]
  | un d a ih =>
    simp only [D.ways]
    split
    · exact ih
    · split
      · have := two [[]] a.ways (by simp) ih
        simpa using this
      · simpa using one 1 a.ways ih
  | bin d a b ia ib =>
    simp only [D.ways]
    split
    · rw [List.pairwise_flatMap]
      refine ⟨fun u _ => ?_, ?_⟩
      · rw [List.pairwise_map]
        exact ib.imp fun hh => ahead_same u hh
      · refine ia.imp ?_
        intro u v huv p hp q hq
        obtain ⟨z, _, rfl⟩ := List.mem_map.1 hp
        obtain ⟨y, _, rfl⟩ := List.mem_map.1 hq
        exact ahead_more huv z y
    · exact two a.ways b.ways ia ib

theorem ahead_irr (u : List Int) : aheadL u u = false := by
  induction u with
  | nil => rfl
  | cons a r ih => simpa [aheadL] using ih
end Go.Proofs.YtddfdmopaeghnacGreatDoor
