/- Plain: a statement's text; its doc in one line is that text, each word of it may be; laid in whatever way it is that text but for blanks and new lines. No program, no condition. -/
import Derived.Test.YtddfdmopaeghnacGreatDoorMkP
import Derived.Test.YtddfdmopaeghnacGreatDoorWayP
namespace Go.Proofs.YtddfdmopaeghnacGreatDoor

def kidX (po ko : Int) (second : Bool) (x : ByteArray) : ByteArray := if boundF po ko second = true then ⟨#[40]⟩ ++ x ++ ⟨#[41]⟩ else x
/-- Kids' texts from a place on, so many. -/
def kidsX (g : Nat → ByteArray) (e : Nat → Nat) : Nat → Nat → ByteArray
  | _, 0 => .empty
  | a, m + 1 => if m = 0 then g a else g a ++ ⟨#[44, 32]⟩ ++ kidsX g e (e a) m
def letB : ByteArray := ⟨#[108, 101, 116, 32]⟩
/-- The text of a node that is no note. -/
def textX (l : List Nd) : Nat → Nat → ByteArray
  | 0, _ => .empty
  | f + 1, i =>
    let d := l.getD i ⟨0, .empty, 0⟩
    if d.op = 1 then ⟨(Lib.itoa d.n).toArray⟩
    else if d.op = 2 then d.text
    else if d.op = 3 then d.text ++ ⟨#[40]⟩ ++ kidsX (textX l f) (tEnd l) (i + 1) d.n.toNat ++ ⟨#[41]⟩
    else if d.op = 4 then ⟨#[91]⟩ ++ kidsX (textX l f) (tEnd l) (i + 1) d.n.toNat ++ ⟨#[93]⟩
    else if d.op = 5 then kidX 5 (opAt l (i + 1)) false (textX l f (i + 1)) ++ ⟨#[32, 43, 32]⟩ ++ kidX 5 (opAt l (tEnd l (i + 1))) true (textX l f (tEnd l (i + 1)))
    else if d.op = 6 then kidX 6 (opAt l (i + 1)) false (textX l f (i + 1)) ++ ⟨#[32, 42, 32]⟩ ++ kidX 6 (opAt l (tEnd l (i + 1))) true (textX l f (tEnd l (i + 1)))
    else if d.op = 7 then letB ++ d.text ++ ⟨#[32, 61, 32]⟩ ++ textX l f (i + 1) ++ ⟨#[59]⟩
    else textX l f (i + 1) ++ ⟨#[59]⟩

/-- A list of nodes is a doc, each node may be, none is a choice of two; in one line it is a text. -/
def Flt (ns : List Nd) (t : ByteArray) : Prop := ∃ x : D, x.ok ∧ x.enc = ns ∧ x.flat = some t ∧ (∀ d ∈ ns, oneF d.op d.text d.n = 0) ∧ ∀ d ∈ ns, d.op ≠ 9

theorem Flt.word {s : ByteArray} (h : oneF 1 s 0 = 0) : Flt (wordN s) s :=
  ⟨.leaf ⟨1, s, 0⟩, rfl, rfl, by simp [D.flat], fun d hd => by simp [wordN] at hd; subst hd; exact h, fun d hd => by simp [wordN] at hd; subst hd; show (1 : Int) ≠ 9; decide⟩
theorem Flt.blank : Flt (opN 2) ⟨#[32]⟩ :=
  ⟨.leaf ⟨2, .empty, 0⟩, rfl, rfl, by simp [D.flat], fun d hd => by simp [opN] at hd; subst hd; decide +kernel, fun d hd => by simp [opN] at hd; subst hd; decide +kernel⟩
theorem Flt.soft : Flt (opN 3) .empty :=
  ⟨.leaf ⟨3, .empty, 0⟩, rfl, rfl, by simp [D.flat], fun d hd => by simp [opN] at hd; subst hd; decide +kernel, fun d hd => by simp [opN] at hd; subst hd; decide +kernel⟩
theorem Flt.both {a b : List Nd} {s t : ByteArray} (ha : Flt a s) (hb : Flt b t) : Flt (bothN a b) (s ++ t) := by
  obtain ⟨x, x1, x2, x3, x4, x5⟩ := ha
  obtain ⟨y, y1, y2, y3, y4, y5⟩ := hb
  refine ⟨.bin ⟨6, .empty, 0⟩ x y, ⟨by decide, x1, y1⟩, by simp [D.enc, bothN, x2, y2], by simp [D.flat, x3, y3], fun d hd => ?_, fun d hd => ?_⟩
  · simp only [bothN, List.mem_cons, List.mem_append] at hd
    rcases hd with rfl | h | h
    · decide +kernel
    · exact x4 d h
    · exact y4 d h
  · simp only [bothN, List.mem_cons, List.mem_append] at hd
    rcases hd with rfl | h | h
    · decide
    · exact x5 d h
    · exact y5 d h
theorem Flt.group {a : List Nd} {s : ByteArray} (ha : Flt a s) : Flt (groupN a) s := by
  obtain ⟨x, x1, x2, x3, x4, x5⟩ := ha
  refine ⟨.un ⟨8, .empty, 0⟩ x, ⟨by decide, x1⟩, by simp [D.enc, groupN, x2], by simp [D.flat, x3], fun d hd => ?_, fun d hd => ?_⟩
  · simp only [groupN, List.mem_cons] at hd
    rcases hd with rfl | h
    · decide +kernel
    · exact x4 d h
  · simp only [groupN, List.mem_cons] at hd
    rcases hd with rfl | h
    · decide
    · exact x5 d h
theorem Flt.deep {a : List Nd} {s : ByteArray} (ha : Flt a s) : Flt (deepN a) s := by
  obtain ⟨x, x1, x2, x3, x4, x5⟩ := ha
  refine ⟨.un ⟨7, .empty, 2⟩ x, ⟨by decide, x1⟩, by simp [D.enc, deepN, x2], by simp [D.flat, x3], fun d hd => ?_, fun d hd => ?_⟩
  · simp only [deepN, List.mem_cons] at hd
    rcases hd with rfl | h
    · decide +kernel
    · exact x4 d h
  · simp only [deepN, List.mem_cons] at hd
    rcases hd with rfl | h
    · decide
    · exact x5 d h
theorem Flt.of_eq {a : List Nd} {s t : ByteArray} (h : Flt a s) (e : s = t) : Flt a t := by subst e; exact h

theorem oneF_word {s : ByteArray} (h0 : 0 < s.size) (h1 : s.size ≤ 20) (h2 : prtAll s = true) : oneF 1 s 0 = 0 := by
  have hs : s.toList ≠ [] := by
    rw [ByteArray.toList_eq]
    intro h
    have h3 : s.data.toList.length = s.size := by simp
    rw [h] at h3
    simp at h3; omega
  unfold oneF
  rw [if_neg (by omega), if_neg (by simp), if_neg ?_, if_neg (by omega)]
  rintro ⟨_, h | h | h⟩
  · exact hs h
  · omega
  · rw [h2] at h; cases h
theorem prtAll_app {a b : ByteArray} (ha : prtAll a = true) (hb : prtAll b = true) : prtAll (a ++ b) = true := by
  unfold prtAll at *
  rw [ByteArray.data_append, Array.toList_append, List.all_append, ha, hb]; rfl
theorem name_facts {s : ByteArray} (h : nameF s = true) : 0 < s.size ∧ s.size ≤ 8 ∧ s.data.toList.all lowC = true := by
  simp only [nameF, Bool.and_eq_true, Bool.not_eq_true', decide_eq_true_eq] at h
  obtain ⟨⟨⟨h1, h2⟩, _⟩, h4⟩ := h
  refine ⟨?_, h2, h4⟩
  rcases Nat.eq_zero_or_pos s.size with h0 | h0
  · rw [ByteArray.toList_eq] at h1
    have h3 : s.data.toList.length = 0 := by simpa using h0
    rw [List.eq_nil_of_length_eq_zero h3] at h1; cases h1
  · exact h0
theorem name_prt {s : ByteArray} (h : nameF s = true) : prtAll s = true := by
  have h1 := (name_facts h).2.2
  unfold prtAll
  rw [List.all_eq_true] at *
  intro c hc
  have h2 := h1 c hc
  simp only [lowC, Bool.and_eq_true, decide_eq_true_eq] at h2
  simp only [prt, Bool.and_eq_true, decide_eq_true_eq]
  omega
theorem dig_lt {u j : Nat} : 48 ≤ (Lib.dg u j).toNat ∧ (Lib.dg u j).toNat ≤ 57 := by
  unfold Lib.dg
  have : u / 10 ^ j % 10 < 10 := Nat.mod_lt _ (by omega)
  generalize u / 10 ^ j % 10 = q at *
  rw [UInt8.toNat_ofNat']
  omega
theorem itoa_digs {n : Int} (h0 : 0 ≤ n) : ∀ c ∈ Lib.itoa n, 48 ≤ c.toNat ∧ c.toNat ≤ 57 := by
  intro c hc
  rw [Lib.itoa, if_neg (by omega), Lib.decDigits_eq] at hc
  obtain ⟨j, _, rfl⟩ := List.mem_map.1 hc
  exact dig_lt
theorem itoa_len6 {n : Int} (h0 : 0 ≤ n) (h : n ≤ 999999) : 0 < (Lib.itoa n).length ∧ (Lib.itoa n).length ≤ 6 := by
  rw [Lib.itoa, if_neg (by omega), Lib.decDigits_length]
  refine ⟨Lib.nDigits_pos _, ?_⟩
  have hu : n.toNat ≤ 999999 := by omega
  generalize n.toNat = u at *
  have main : ∀ k u : Nat, u < 10 ^ (k + 1) → Lib.nDigits u ≤ k + 1 := by
    intro k
    induction k with
    | zero => intro u h; rw [Lib.nDigits_small (by simpa using h)]; omega
    | succ k ih =>
      intro u h
      by_cases h1 : u < 10
      · rw [Lib.nDigits_small h1]; omega
      · rw [Lib.nDigits_big h1]
        have := ih (u / 10) (by rw [Nat.pow_succ] at h; omega)
        omega
  exact main 5 u (by omega)
theorem itoa_word {n : Int} (h0 : 0 ≤ n) (h : n ≤ 999999) : oneF 1 ⟨(Lib.itoa n).toArray⟩ 0 = 0 := by
  have h1 := itoa_len6 h0 h
  have hz : (⟨(Lib.itoa n).toArray⟩ : ByteArray).size = (Lib.itoa n).length := by simp [ByteArray.size]
  refine oneF_word (by omega) (by omega) ?_
  unfold prtAll
  rw [List.all_eq_true]
  intro c hc
  have := itoa_digs h0 c (by simpa using hc)
  simp only [prt, Bool.and_eq_true, decide_eq_true_eq]
  omega

theorem Flt.kid {po ko : Int} {b : Bool} {x : List Nd} {t : ByteArray} (h : Flt x t) : Flt (kidD po ko b x) (kidX po ko b t) := by
  unfold kidD kidX
  split
  · refine (Flt.both (Flt.word (s := ⟨#[40]⟩) (by decide +kernel)) (Flt.both h (Flt.word (s := ⟨#[41]⟩) (by decide +kernel)))).of_eq ?_
    rw [ByteArray.append_assoc]
  · exact h
theorem Flt.kids {l : List Nd} {g : Nat → List Nd} {t : Nat → ByteArray} : ∀ (m a z : Nat), KidsP l a m z → 0 < m → (∀ b, a ≤ b → b < l.length → Flt (g b) (t b)) → Flt (kidsD g (tEnd l) a m) (kidsX t (tEnd l) a m) := by
  intro m
  induction m with
  | zero => intro a z h h0; omega
  | succ m ih =>
    intro a z h _ hg
    obtain ⟨h1, h2, h3⟩ := h
    have h4 := hg a (Nat.le_refl _) h1
    rw [kidsD, kidsX]
    split
    · exact h4
    · have h5 := ih _ _ h3 (by omega) (fun b hb hb2 => hg b (by omega) hb2)
      refine (Flt.both (Flt.both h4 (Flt.word (s := ⟨#[44]⟩) (by decide +kernel))) (Flt.both Flt.blank h5)).of_eq ?_
      rw [ByteArray.append_assoc, ByteArray.append_assoc, ← ByteArray.append_assoc (a := ⟨#[44]⟩)]
      rfl
theorem Flt.listed {o c : ByteArray} {m : Nat} {k : List Nd} {t : ByteArray} (h : 0 < m → Flt k t) (hz : m = 0 → t = .empty) (ho : oneF 1 o 0 = 0) (hc : oneF 1 c 0 = 0) (hoc : oneF 1 (o ++ c) 0 = 0) : Flt (listD o c m k) (o ++ t ++ c) := by
  unfold listD
  split
  · rename_i e
    rw [hz e]
    exact (Flt.word hoc).of_eq (by simp)
  · refine (Flt.group (Flt.both (Flt.word ho) (Flt.both (Flt.deep (Flt.both Flt.soft (h (by omega)))) (Flt.both Flt.soft (Flt.word hc))))).of_eq ?_
    simp [ByteArray.append_assoc]

theorem tone_word {op n : Int} {t : ByteArray} (h : treeOne op t n = 0) (hn : namedF op = true) (h9 : op ≠ 9) : nameF t = true := by
  unfold treeOne at h
  split at h
  · cases h
  · split at h
    · cases h
    · try rw [if_neg h9] at h
      split at h
      · cases h
      · rename_i hh
        cases hf : nameF t with
        | true => rfl
        | false => exact absurd ⟨hn, hf⟩ hh
theorem tone_num {n : Int} {t : ByteArray} (h : treeOne 1 t n = 0) : 0 ≤ n ∧ n ≤ 999999 := by
  unfold treeOne at h
  split at h
  · cases h
  · rename_i hh
    rw [show mostF 1 = 999999 from rfl] at hh
    omega

/-- A statement's doc, in one line, is its text. -/
theorem docT_flat {l : List Nd} (hT : Tr l) : ∀ f i : Nat, l.length ≤ i + f → (hi : i < l.length) → l[i].op ≠ 9 → Flt (docT l f i) (textX l f i) := by
  intro f
  induction f with
  | zero => intro i h1 h2; omega
  | succ f ih =>
    intro i h1 h2 h9
    have hk := hT.kidsP h2
    have hm : (manyL l).getD i 0 = (manyF l[i].op l[i].n).toNat := manyL_at h2 rfl
    have hone := hT.one _ (List.getElem_mem h2)
    have hop : 1 ≤ l[i].op ∧ l[i].op ≤ 9 := by
      by_cases hc : l[i].op < 1 ∨ 9 < l[i].op
      · rw [treeOne, if_pos (by rcases hc with h | h; exact .inl h; exact .inr (.inl h))] at hone; cases hone
      · omega
    rw [hm] at hk
    have ihk : ∀ b, i + 1 ≤ b → b < l.length → Flt (docT l f b) (textX l f b) := fun b hb hl => ih b (by omega) hl (by have := hT.low hl (by omega); omega)
    rw [docT, textX, getD_at h2]
    generalize l[i].op = op at *
    generalize l[i].n = n at *
    generalize l[i].text = t at *
    have hcs : op = 1 ∨ op = 2 ∨ op = 3 ∨ op = 4 ∨ op = 5 ∨ op = 6 ∨ op = 7 ∨ op = 8 := by omega
    have hw : ∀ s : ByteArray, s.size ≤ 10 → prtAll s = true → nameF t = true → oneF 1 (t ++ s) 0 = 0 := fun s h1 h2 h => by
      have h3 := name_facts h
      exact oneF_word (by rw [ByteArray.size_append]; omega) (by rw [ByteArray.size_append]; omega) (prtAll_app (name_prt h) h2)
    rcases hcs with rfl | rfl | rfl | rfl | rfl | rfl | rfl | rfl
    · obtain ⟨n0, n1⟩ := tone_num hone
      simp only [if_true]
      exact Flt.word (itoa_word n0 n1)
    · have hnm := tone_word hone rfl (by decide)
      simp only [show ¬ (2 : Int) = 1 by decide, if_false, if_true]
      have h3 := name_facts hnm
      exact Flt.word (oneF_word h3.1 (by omega) (name_prt hnm))
    · have hnm := tone_word hone rfl (by decide)
      rw [show manyF 3 n = n from rfl] at hk
      simp only [show ¬ (3 : Int) = 1 by decide, show ¬ (3 : Int) = 2 by decide, if_false, if_true]
      refine Flt.listed (fun h0 => Flt.kids _ _ _ hk h0 ihk) (fun h0 => by rw [h0]; rfl) (hw _ (by decide) (by decide) hnm) (by decide +kernel) ?_
      rw [ByteArray.append_assoc]
      exact hw _ (by decide) (by decide) hnm
    · rw [show manyF 4 n = n from rfl] at hk
      simp only [show ¬ (4 : Int) = 1 by decide, show ¬ (4 : Int) = 2 by decide, show ¬ (4 : Int) = 3 by decide, if_false, if_true]
      exact Flt.listed (fun h0 => Flt.kids _ _ _ hk h0 ihk) (fun h0 => by rw [h0]; rfl) (by decide +kernel) (by decide +kernel) (by decide +kernel)
    · obtain ⟨a1, a2, b1, b2, b3⟩ : i + 1 < l.length ∧ i + 1 < tEnd l (i + 1) ∧ tEnd l (i + 1) < l.length ∧ tEnd l (i + 1) < tEnd l (tEnd l (i + 1)) ∧ tEnd l (tEnd l (i + 1)) = tEnd l i := ⟨hk.1, hk.2.1, hk.2.2.1, hk.2.2.2.1, hk.2.2.2.2⟩
      have q1 := ihk _ (Nat.le_refl _) a1
      have q2 := ihk _ (by omega) b1
      simp only [show ¬ (5 : Int) = 1 by decide, show ¬ (5 : Int) = 2 by decide, show ¬ (5 : Int) = 3 by decide, show ¬ (5 : Int) = 4 by decide, if_false, if_true]
      refine (Flt.group (Flt.both q1.kid (Flt.deep (Flt.both Flt.blank (Flt.both (Flt.word (s := ⟨#[43, 32]⟩) (by decide +kernel)) q2.kid))))).of_eq ?_
      rw [show (⟨#[32, 43, 32]⟩ : ByteArray) = ⟨#[32]⟩ ++ ⟨#[43, 32]⟩ by decide]
      simp [ByteArray.append_assoc]
    · obtain ⟨a1, a2, b1, b2, b3⟩ : i + 1 < l.length ∧ i + 1 < tEnd l (i + 1) ∧ tEnd l (i + 1) < l.length ∧ tEnd l (i + 1) < tEnd l (tEnd l (i + 1)) ∧ tEnd l (tEnd l (i + 1)) = tEnd l i := ⟨hk.1, hk.2.1, hk.2.2.1, hk.2.2.2.1, hk.2.2.2.2⟩
      have q1 := ihk _ (Nat.le_refl _) a1
      have q2 := ihk _ (by omega) b1
      simp only [show ¬ (6 : Int) = 1 by decide, show ¬ (6 : Int) = 2 by decide, show ¬ (6 : Int) = 3 by decide, show ¬ (6 : Int) = 4 by decide, show ¬ (6 : Int) = 5 by decide, if_false, if_true]
      refine (Flt.group (Flt.both q1.kid (Flt.deep (Flt.both Flt.blank (Flt.both (Flt.word (s := ⟨#[42, 32]⟩) (by decide +kernel)) q2.kid))))).of_eq ?_
      rw [show (⟨#[32, 42, 32]⟩ : ByteArray) = ⟨#[32]⟩ ++ ⟨#[42, 32]⟩ by decide]
      simp [ByteArray.append_assoc]
    · have hnm := tone_word hone rfl (by decide)
      obtain ⟨a1, a2, b3⟩ : i + 1 < l.length ∧ i + 1 < tEnd l (i + 1) ∧ tEnd l (i + 1) = tEnd l i := ⟨hk.1, hk.2.1, hk.2.2⟩
      have q1 := ihk _ (Nat.le_refl _) a1
      have h3 := name_facts hnm
      simp only [show ¬ (7 : Int) = 1 by decide, show ¬ (7 : Int) = 2 by decide, show ¬ (7 : Int) = 3 by decide, show ¬ (7 : Int) = 4 by decide, show ¬ (7 : Int) = 5 by decide, show ¬ (7 : Int) = 6 by decide, if_false, if_true]
      refine (Flt.group (Flt.both (Flt.word ?_) (Flt.deep (Flt.both Flt.blank (Flt.both q1 (Flt.word (s := ⟨#[59]⟩) (by decide +kernel))))))).of_eq ?_
      · refine oneF_word ?_ ?_ (prtAll_app (prtAll_app (by decide) (name_prt hnm)) (by decide))
        · simp only [ByteArray.size_append]; omega
        · simp only [ByteArray.size_append]
          show 4 + t.size + 2 ≤ 20
          omega
      · rw [show (⟨#[32, 61, 32]⟩ : ByteArray) = ⟨#[32, 61]⟩ ++ ⟨#[32]⟩ by decide]
        simp [ByteArray.append_assoc, letB]
    · obtain ⟨a1, a2, b3⟩ : i + 1 < l.length ∧ i + 1 < tEnd l (i + 1) ∧ tEnd l (i + 1) = tEnd l i := ⟨hk.1, hk.2.1, hk.2.2⟩
      have q1 := ihk _ (Nat.le_refl _) a1
      simp only [show ¬ (8 : Int) = 1 by decide, show ¬ (8 : Int) = 2 by decide, show ¬ (8 : Int) = 3 by decide, show ¬ (8 : Int) = 4 by decide, show ¬ (8 : Int) = 5 by decide, show ¬ (8 : Int) = 6 by decide, show ¬ (8 : Int) = 7 by decide, if_false]
      exact Flt.both q1 (Flt.word (s := ⟨#[59]⟩) (by decide +kernel))

/-- Without blanks and new lines. -/
def densL (s : List UInt8) : List UInt8 := s.filter fun c => !(c == 32) && !(c == 10)
theorem densL_app (a b : List UInt8) : densL (a ++ b) = densL a ++ densL b := List.filter_append ..
theorem dens_line (n : Nat) : densL ((⟨#[10]⟩ ++ blanksB n : ByteArray).data.toList) = [] := by
  rw [ByteArray.data_append, Array.toList_append, densL_app]
  show [] ++ densL (List.replicate n 32) = []
  simp [densL]
theorem lay_dens {x : D} : ∀ {dp : Int} {ws r : List Int} {s t : ByteArray}, (∀ d ∈ x.enc, d.op ≠ 9) → (∀ d ∈ x.enc, oneF d.op d.text d.n = 0) → x.flat = some t → x.lay dp ws = .ok (s, r) → x.ok → densL s.data.toList = densL t.data.toList := by
  induction x with
  | leaf d =>
    intro dp ws r s t h9 ho hf hl hk
    simp only [D.flat] at hf
    simp only [D.lay] at hl
    split at hf
    · rename_i h1
      rw [if_pos h1] at hl
      cases hf; cases hl; rfl
    · rename_i h1
      rw [if_neg h1] at hl
      split at hf
      · rename_i h2
        rw [if_neg (by omega)] at hl
        cases hf; cases hl
        rw [dens_line]; rfl
      · split at hf
        · split at hl
          · cases hf; cases hl; rfl
          · cases hf; cases hl
            rw [dens_line]; rfl
        · cases hf
  | un d a ih =>
    intro dp ws r s t h9 ho hf hl hk
    have g9 : ∀ e ∈ a.enc, e.op ≠ 9 := fun e he => h9 e (by simp [D.enc, he])
    have go : ∀ e ∈ a.enc, oneF e.op e.text e.n = 0 := fun e he => ho e (by simp [D.enc, he])
    simp only [D.flat] at hf
    simp only [D.lay] at hl
    split at hl
    · exact ih g9 go hf hl hk.2
    · split at hl
      · cases hl
      · split at hl
        · rw [hf] at hl
          cases hl; rfl
        · exact ih g9 go hf hl hk.2
  | bin d a b ia ib =>
    intro dp ws r s t h9 ho hf hl hk
    have a9 : ∀ e ∈ a.enc, e.op ≠ 9 := fun e he => h9 e (by simp [D.enc, he])
    have ao : ∀ e ∈ a.enc, oneF e.op e.text e.n = 0 := fun e he => ho e (by simp [D.enc, he])
    have b9 : ∀ e ∈ b.enc, e.op ≠ 9 := fun e he => h9 e (by simp [D.enc, he])
    have bo : ∀ e ∈ b.enc, oneF e.op e.text e.n = 0 := fun e he => ho e (by simp [D.enc, he])
    have h6 : d.op = 6 := by
      have h1 := hk.1
      have h2 := h9 d (by simp [D.enc])
      unfold parts at h1
      split at h1
      · omega
      · split at h1 <;> omega
    simp only [D.flat, h6, if_true] at hf
    simp only [D.lay, h6, if_true] at hl
    cases ha : a.flat with
    | none => rw [ha] at hf; cases hf
    | some sa =>
      cases hb : b.flat with
      | none => rw [ha, hb] at hf; cases hf
      | some sb =>
        rw [ha, hb] at hf
        cases hf
        cases hla : a.lay (dp + d.n) ws with
        | error e => rw [hla] at hl; cases hl
        | ok p =>
          obtain ⟨s1, w1⟩ := p
          rw [hla] at hl
          cases hlb : b.lay (dp + d.n) w1 with
          | error e => simp only [hlb] at hl; cases hl
          | ok q =>
            obtain ⟨s2, w2⟩ := q
            simp only [hlb] at hl
            cases hl
            rw [ByteArray.data_append, ByteArray.data_append, Array.toList_append, Array.toList_append, densL_app, densL_app, ia a9 ao ha hla hk.2.1, ib b9 bo hb hlb hk.2.2]
end Go.Proofs.YtddfdmopaeghnacGreatDoor
