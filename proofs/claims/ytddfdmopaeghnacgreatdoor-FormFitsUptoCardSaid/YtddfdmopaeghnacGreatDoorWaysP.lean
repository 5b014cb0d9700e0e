/- Plain facts on laying docs by choices: more choices, deeper, all ways. No program, no condition. -/
import Derived.Test.YtddfdmopaeghnacGreatDoorWayP
import Derived.Laws.Closers25
namespace Go.Proofs.YtddfdmopaeghnacGreatDoor

/-- Choices that are behind stay behind. -/
theorem D.lay_more {x : D} : ∀ {dp : Int} {w r v : List Int} {s : ByteArray}, x.lay dp w = .ok (s, r) → x.lay dp (w ++ v) = .ok (s, r ++ v) := by
  induction x with
  | leaf d =>
    intro dp w r v s h
    simp only [D.lay] at h ⊢
    by_cases h1 : d.op = 1
    · rw [if_pos h1] at h ⊢; cases h; rfl
    · rw [if_neg h1] at h ⊢
      by_cases h5 : d.op = 5
      · rw [if_pos h5] at h ⊢; cases h; rfl
      · rw [if_neg h5] at h ⊢; cases h; rfl
  | un d a ih =>
    intro dp w r v s h
    simp only [D.lay] at h ⊢
    by_cases h7 : d.op = 7
    · rw [if_pos h7] at h ⊢; exact ih h
    · rw [if_neg h7] at h ⊢
      cases w with
      | nil => cases h
      | cons c w' =>
        simp only [List.cons_append] at h ⊢
        by_cases hc : c = 0
        · rw [if_pos hc] at h ⊢
          cases hf : a.flat with
          | none => rw [hf] at h; cases h
          | some t => rw [hf] at h; cases h; rfl
        · rw [if_neg hc] at h ⊢; exact ih h
  | bin d a b ia ib =>
    intro dp w r v s h
    simp only [D.lay] at h ⊢
    by_cases h6 : d.op = 6
    · rw [if_pos h6] at h ⊢
      cases ha : a.lay (dp + d.n) w with
      | error e => rw [ha] at h; cases h
      | ok p =>
        obtain ⟨s1, w1⟩ := p
        rw [ha] at h
        rw [ia ha]
        simp only at h ⊢
        cases hb : b.lay (dp + d.n) w1 with
        | error e => rw [hb] at h; cases h
        | ok q =>
          obtain ⟨s2, w2⟩ := q
          rw [hb] at h
          rw [ib hb]
          cases h; rfl
    · rw [if_neg h6] at h ⊢
      cases w with
      | nil => cases h
      | cons c w' =>
        simp only [List.cons_append] at h ⊢
        by_cases hc : c = 0
        · rw [if_pos hc] at h ⊢; exact ia h
        · rw [if_neg hc] at h ⊢; exact ib h

/-- So many blanks more behind each new line. -/
def addL (n : Nat) (l : List UInt8) : List UInt8 := l.flatMap fun c => if c = 10 then 10 :: List.replicate n 32 else [c]
def addB (n : Nat) (s : ByteArray) : ByteArray := ⟨(addL n s.data.toList).toArray⟩
theorem addL_app (n : Nat) (a b : List UInt8) : addL n (a ++ b) = addL n a ++ addL n b := by simp [addL]
theorem addB_app (n : Nat) (a b : ByteArray) : addB n (a ++ b) = addB n a ++ addB n b := by
  apply ByteArray.ext
  simp [addB, addL_app]
theorem addL_no {l : List UInt8} (n : Nat) (h : ∀ c ∈ l, c ≠ 10) : addL n l = l := by
  induction l with
  | nil => rfl
  | cons c r ih =>
    have h1 := h c (by simp)
    have h2 := ih (fun x hx => h x (by simp [hx]))
    simp only [addL, List.flatMap_cons] at h2 ⊢
    rw [if_neg h1, h2]; rfl
theorem addB_no {s : ByteArray} (n : Nat) (h : ∀ c ∈ s.data.toList, c ≠ 10) : addB n s = s := by
  apply ByteArray.ext
  simp [addB, addL_no n h]

/-- A doc whose words may be. -/
def D.good (x : D) : Prop := ∀ d ∈ x.enc, oneF d.op d.text d.n = 0

theorem oneF_text {d : Nd} (h : oneF d.op d.text d.n = 0) (h1 : d.op = 1) : ∀ c ∈ d.text.data.toList, c ≠ 10 := by
  unfold oneF at h
  rw [if_neg (by omega)] at h
  split at h
  · cases h
  · split at h
    · cases h
    · rename_i hh
      have hp : prtAll d.text = true := by
        cases hp : prtAll d.text with
        | true => rfl
        | false => exact absurd ⟨h1, .inr (.inr hp)⟩ hh
      intro c hc e
      have := List.all_eq_true.1 hp c hc
      subst e
      revert this; decide
theorem oneF_size {d : Nd} (h : oneF d.op d.text d.n = 0) : d.text.size ≤ 20 := by
  by_cases h1 : d.op = 1
  · unfold oneF at h
    rw [if_neg (by omega)] at h
    split at h
    · cases h
    · split at h
      · cases h
      · rename_i hh
        rcases Nat.lt_or_ge 20 d.text.size with h2 | h2
        · exact absurd ⟨h1, .inr (.inl h2)⟩ hh
        · exact h2
  · unfold oneF at h
    split at h
    · cases h
    · split at h
      · cases h
      · rename_i hh
        have ht : d.text.toList = [] := by
          cases ht : d.text.toList with
          | nil => rfl
          | cons a r => exact absurd (.inl ⟨h1, by rw [ht]; simp⟩) hh
        rw [ByteArray.toList_eq] at ht
        have h0 : d.text.data.toList.length = 0 := by rw [ht]; rfl
        have h1 : d.text.data.toList.length = d.text.size := by simp
        omega
theorem oneF_n {d : Nd} (h : oneF d.op d.text d.n = 0) : 0 ≤ d.n ∧ d.n ≤ 8 := by
  unfold oneF at h
  by_cases c1 : d.op < 1 ∨ 9 < d.op
  · rw [if_pos c1] at h; cases h
  · rw [if_neg c1] at h
    split at h
    · cases h
    · split at h
      · cases h
      · split at h
        · cases h
        · omega

theorem D.good_un {d : Nd} {a : D} (h : (D.un d a).good) : a.good := fun e he => h e (by simp [D.enc, he])
theorem D.good_l {d : Nd} {a b : D} (h : (D.bin d a b).good) : a.good := fun e he => h e (by simp [D.enc, he])
theorem D.good_r {d : Nd} {a b : D} (h : (D.bin d a b).good) : b.good := fun e he => h e (by simp [D.enc, he])

theorem D.flat_no {x : D} : ∀ {s : ByteArray}, x.good → x.flat = some s → ∀ c ∈ s.data.toList, c ≠ 10 := by
  induction x with
  | leaf d =>
    intro s hg h
    simp only [D.flat] at h
    split at h
    · rename_i h1; cases h; exact oneF_text (hg d (by simp [D.enc])) h1
    · split at h
      · cases h; intro c hc; simp at hc; subst hc; decide
      · split at h
        · cases h; intro c hc; simp at hc
        · cases h
  | un d a ih => intro s hg h; exact ih (D.good_un hg) h
  | bin d a b ia ib =>
    intro s hg h
    simp only [D.flat] at h
    split at h
    · cases ha : a.flat with
      | none => rw [ha] at h; simp at h
      | some p =>
        cases hb : b.flat with
        | none => rw [ha, hb] at h; simp at h
        | some q =>
          rw [ha, hb] at h
          simp only [Option.some.injEq] at h
          subst h
          intro c hc
          simp only [ByteArray.data_append, Array.toList_append, List.mem_append] at hc
          rcases hc with hc | hc
          · exact ia (D.good_l hg) ha c hc
          · exact ib (D.good_r hg) hb c hc
    · exact ia (D.good_l hg) h

theorem addB_line (n : Nat) (k : Int) (hk : 0 ≤ k) : addB n (⟨#[10]⟩ ++ blanksB k.toNat) = ⟨#[10]⟩ ++ blanksB (k + n).toNat := by
  rw [addB_app]
  have h2 : addB n (blanksB k.toNat) = blanksB k.toNat := addB_no n (by intro c hc; simp [blanksB] at hc; rw [hc.2]; decide)
  rw [h2]
  have h1 : addB n ⟨#[10]⟩ = ⟨#[10]⟩ ++ blanksB n := by
    apply ByteArray.ext
    simp [addB, addL, blanksB]
  rw [h1, ByteArray.append_assoc]
  congr 1
  apply ByteArray.ext
  simp [blanksB]
  omega

/-- So much deeper. -/
theorem D.lay_deep {x : D} {n : Nat} : ∀ {dp : Int} {w r : List Int} {s : ByteArray}, x.good → 0 ≤ dp → x.lay dp w = .ok (s, r) → x.lay (dp + n) w = .ok (addB n s, r) := by
  induction x with
  | leaf d =>
    intro dp w r s hg hd h
    simp only [D.lay] at h ⊢
    by_cases h1 : d.op = 1
    · rw [if_pos h1] at h ⊢; cases h
      rw [addB_no n (oneF_text (hg d (by simp [D.enc])) h1)]
    · rw [if_neg h1] at h ⊢
      by_cases h5 : d.op = 5
      · rw [if_pos h5] at h ⊢; cases h; rw [addB_no n (by simp)]
      · rw [if_neg h5] at h ⊢; cases h; rw [addB_line n dp hd]
  | un d a ih =>
    intro dp w r s hg hd h
    have hn := oneF_n (hg d (by simp [D.enc]))
    have hsw : dp + (n : Int) + d.n = dp + d.n + n := by omega
    simp only [D.lay] at h ⊢
    rw [hsw]
    by_cases h7 : d.op = 7
    · rw [if_pos h7] at h ⊢; exact ih (D.good_un hg) (by omega) h
    · rw [if_neg h7] at h ⊢
      cases w with
      | nil => cases h
      | cons c w' =>
        simp only at h ⊢
        by_cases hc : c = 0
        · rw [if_pos hc] at h ⊢
          cases hf : a.flat with
          | none => rw [hf] at h; cases h
          | some t => rw [hf] at h; cases h; rw [addB_no n (D.flat_no (D.good_un hg) hf)]
        · rw [if_neg hc] at h ⊢; exact ih (D.good_un hg) (by omega) h
  | bin d a b ia ib =>
    intro dp w r s hg hd h
    have hn := oneF_n (hg d (by simp [D.enc]))
    have hsw : dp + (n : Int) + d.n = dp + d.n + n := by omega
    simp only [D.lay] at h ⊢
    rw [hsw]
    by_cases h6 : d.op = 6
    · rw [if_pos h6] at h ⊢
      cases ha : a.lay (dp + d.n) w with
      | error e => rw [ha] at h; cases h
      | ok p =>
        obtain ⟨s1, w1⟩ := p
        rw [ha] at h
        rw [ia (D.good_l hg) (by omega) ha]
        simp only at h ⊢
        cases hb : b.lay (dp + d.n) w1 with
        | error e => rw [hb] at h; cases h
        | ok q =>
          obtain ⟨s2, w2⟩ := q
          rw [hb] at h
          rw [ib (D.good_r hg) (by omega) hb]
          cases h
          simp only [addB_app]
    · rw [if_neg h6] at h ⊢
      cases w with
      | nil => cases h
      | cons c w' =>
        simp only at h ⊢
        by_cases hc : c = 0
        · rw [if_pos hc] at h ⊢; exact ia (D.good_l hg) (by omega) h
        · rw [if_neg hc] at h ⊢; exact ib (D.good_r hg) (by omega) h

/-- How long a text is at most. -/
theorem D.lay_size {x : D} : ∀ {dp : Int} {w r : List Int} {s : ByteArray}, x.good → 0 ≤ dp → x.lay dp w = .ok (s, r) → s.size ≤ x.sz * (21 + (dp.toNat + 8 * x.sz)) := by
  have flat_sz : ∀ y : D, y.good → ∀ t, y.flat = some t → t.size ≤ 20 * y.sz := by
    intro y
    induction y with
    | leaf d =>
      intro hg t ht
      have := oneF_size (hg d (by simp [D.enc]))
      simp only [D.flat] at ht
      split at ht
      · cases ht; simp only [D.sz]; omega
      · split at ht
        · cases ht; simp [ByteArray.size, D.sz]
        · split at ht
          · cases ht; simp
          · cases ht
    | un d a ih => intro hg t ht; have := ih (D.good_un hg) t ht; simp only [D.sz]; omega
    | bin d a b ia ib =>
      intro hg t ht
      simp only [D.flat] at ht
      split at ht
      · cases ha : a.flat with
        | none => rw [ha] at ht; simp at ht
        | some p =>
          cases hb : b.flat with
          | none => rw [ha, hb] at ht; simp at ht
          | some q =>
            rw [ha, hb] at ht
            simp only [Option.some.injEq] at ht
            subst ht
            have h1 := ia (D.good_l hg) p ha
            have h2 := ib (D.good_r hg) q hb
            rw [ByteArray.size_append]
            simp only [D.sz]; omega
      · have := ia (D.good_l hg) t ht; simp only [D.sz]; omega
  have key : ∀ {y : D} {m : Nat} {dp : Int} {w r : List Int} {s : ByteArray}, y.good → 0 ≤ dp → dp.toNat + 8 * y.sz ≤ m → y.lay dp w = .ok (s, r) → s.size ≤ y.sz * (21 + m) := by
    intro y
    induction y with
    | leaf d =>
      intro m dp w r s hg hd hm h
      have := oneF_size (hg d (by simp [D.enc]))
      simp only [D.lay] at h
      simp only [D.sz] at hm ⊢
      split at h
      · cases h; omega
      · split at h
        · cases h; simp
        · cases h
          rw [ByteArray.size_append]
          simp [ByteArray.size, blanksB]
          omega
    | un d a ih =>
      intro m dp w r s hg hd hm h
      have hn := oneF_n (hg d (by simp [D.enc]))
      simp only [D.lay] at h
      simp only [D.sz] at hm ⊢
      have hmul : (a.sz + 1) * (21 + m) = a.sz * (21 + m) + (21 + m) := by rw [Nat.add_mul, Nat.one_mul]
      split at h
      · have := ih (m := m) (D.good_un hg) (by omega) (by omega) h; omega
      · cases w with
        | nil => cases h
        | cons c w' =>
          simp only at h
          split at h
          · cases hf : a.flat with
            | none => rw [hf] at h; cases h
            | some t =>
              rw [hf] at h; cases h
              have h1 := flat_sz a (D.good_un hg) s hf
              have h2 : 20 * a.sz ≤ a.sz * (21 + m) := by rw [Nat.mul_comm]; exact Nat.mul_le_mul_left _ (by omega)
              omega
          · have := ih (m := m) (D.good_un hg) (by omega) (by omega) h; omega
    | bin d a b ia ib =>
      intro m dp w r s hg hd hm h
      have hn := oneF_n (hg d (by simp [D.enc]))
      simp only [D.lay] at h
      simp only [D.sz] at hm ⊢
      have hmul : (a.sz + b.sz + 1) * (21 + m) = a.sz * (21 + m) + b.sz * (21 + m) + (21 + m) := by rw [Nat.add_mul, Nat.add_mul, Nat.one_mul]
      split at h
      · cases ha : a.lay (dp + d.n) w with
        | error e => rw [ha] at h; cases h
        | ok p =>
          obtain ⟨s1, w1⟩ := p
          rw [ha] at h
          simp only at h
          cases hb : b.lay (dp + d.n) w1 with
          | error e => rw [hb] at h; cases h
          | ok q =>
            obtain ⟨s2, w2⟩ := q
            rw [hb] at h
            cases h
            have h1 := ia (m := m) (D.good_l hg) (by omega) (by omega) ha
            have h2 := ib (m := m) (D.good_r hg) (by omega) (by omega) hb
            rw [ByteArray.size_append]
            omega
      · cases w with
        | nil => cases h
        | cons c w' =>
          simp only at h
          split at h
          · have := ia (m := m) (D.good_l hg) (by omega) (by omega) h; omega
          · have := ib (m := m) (D.good_r hg) (by omega) (by omega) h; omega
  intro dp w r s hg hd h
  exact key hg hd (Nat.le_refl _) h
end Go.Proofs.YtddfdmopaeghnacGreatDoor
