/- Plain facts for the laws on the cheapest way: least, first, with more room, in a group, of two, behind a new line. No program, no condition. -/
import Derived.Test.YtddfdmopaeghnacDoorBestP
import Derived.Test.YtddfdmopaeghnacDoorPartsP
import Derived.Test.YtddfdmopaeghnacDoorFlatShP
namespace Go.Proofs.YtddfdmopaeghnacDoor

def bU (w : Nat) (x : D) : List Int := bestU w [(x, 0)] 0
def bC (w : Nat) (x : D) : Nat × Nat := bestC w [(x, 0)] 0
def bT (w : Nat) (x : D) : ByteArray := ⟨(textK [(x, 0)] (bU w x)).toArray⟩

theorem textK_one {x : D} {dp : Int} {u : List Int} {s : ByteArray} {r : List Int} (h : x.lay dp u = .ok (s, r)) : textK [(x, dp)] u = s.data.toList := by
  simp [textK, layK, h]
theorem bU_mem (w : Nat) (x : D) : bU w x ∈ x.ways := by
  have := bestU_mem w [(x, 0)] 0
  rwa [waysK_one] at this
theorem bU_is (w : Nat) (x : D) : best1 (fun u => cst w 0 (textK [(x, 0)] u)) x.ways = some (bU w x) := by
  have := bestU_is w [(x, 0)] 0
  rwa [waysK_one] at this
theorem bC_is (w : Nat) (x : D) : bC w x = cst w 0 (textK [(x, 0)] (bU w x)) := rfl
theorem bT_toList (w : Nat) (x : D) : (bT w x).data.toList = textK [(x, 0)] (bU w x) := by simp [bT]
theorem bC_T (w : Nat) (x : D) : bC w x = cst w 0 (bT w x).data.toList := by rw [bT_toList]; rfl

theorem bits_bad {u : List Int} (h : Bits u) : badBit u = false := by
  simp only [badBit, List.any_eq_false, decide_eq_true_eq]
  intro c hc
  have := h c hc
  omega
theorem bits_good {u : List Int} (h : badBit u = false) : Bits u := by
  intro c hc
  simp only [badBit, List.any_eq_false, decide_eq_true_eq] at h
  have := h c hc
  omega
/-- The cheapest way is one, and shows its text. -/
theorem Doc.best_shown {l : List Nd} {x : D} (hd : Doc l x) (w : Nat) : Shown l x (bU w x) (bT w x) := by
  obtain ⟨s, hs⟩ := D.lay_way (dp := 0) (bU_mem w x)
  have : bT w x = s := by
    rw [bT, textK_one hs]
  rw [this]
  exact Shown.of hd (bits_bad (D.ways_bits _ (bU_mem w x))) hs
theorem Shown.way {l : List Nd} {x : D} {u : List Int} {s : ByteArray} (h : Shown l x u s) : u ∈ x.ways := by
  obtain ⟨v, hv, e, _⟩ := D.way_of (bits_good h.bits) h.lay
  rw [List.append_nil] at e
  exact e ▸ hv
/-- No other way costs less. -/
theorem Shown.least {l : List Nd} {x : D} {u : List Int} {s : ByteArray} (h : Shown l x u s) (w : Nat) : cLess (cst w 0 s.data.toList) (bC w x) = false := by
  have := best1_least (bU_is w x) u h.way
  rw [textK_one h.lay] at this
  exact this
theorem ahead_asym : ∀ {u v : List Int}, aheadL u v = true → aheadL v u = false
  | [], _, h => by simp [aheadL] at h
  | _ :: _, [], h => by simp [aheadL] at h
  | a :: r, b :: s, h => by
    simp only [aheadL] at h ⊢
    by_cases e : a = b
    · subst e
      simp only [if_true] at h ⊢
      exact ahead_asym h
    · rw [if_neg e] at h
      rw [if_neg (Ne.symm e)]
      have := of_decide_eq_true h
      exact decide_eq_false (by omega)
/-- None ahead of it costs as much. -/
theorem Shown.first {l : List Nd} {x : D} {u : List Int} {s : ByteArray} (h : Shown l x u s) {w : Nat} (he : cst w 0 s.data.toList = bC w x) : aheadL u (bU w x) = false := by
  have h1 := best1_first (R := fun a b => aheadL a b = true) D.ways_rise (bU_is w x) u h.way (by rw [textK_one h.lay]; exact he)
  rcases h1 with rfl | h1
  · exact ahead_irr _
  · exact ahead_asym h1

theorem cst_wider {w v : Nat} (h : w ≤ v) (col : Nat) (s : List UInt8) : cLess (cst w col s) (cst v col s) = false := by
  rw [cLess_no]
  have := ovr_wider h s col
  simp only [cst]
  omega
theorem cLess_trans {a b c : Nat × Nat} (h1 : cLess b a = false) (h2 : cLess c b = false) : cLess c a = false := by
  rw [cLess_no] at *
  omega
/-- A column more: it costs no more. -/
theorem best_wider (w : Nat) (x : D) : cLess (bC w x) (bC (w + 1) x) = false := by
  have h := best1_least (bU_is (w + 1) x) _ (bU_mem w x)
  exact cLess_trans h (cst_wider (Nat.le_succ w) 0 _)
theorem lay_gr {x : D} {dp : Int} {u : List Int} : (D.un ndGr x).lay dp (1 :: u) = x.lay (dp + 0) u := by
  simp only [D.lay]
  rfl
/-- In a group it costs no more. -/
theorem best_group (w : Nat) (x : D) : cLess (bC w x) (bC w (.un ndGr x)) = false := by
  obtain ⟨s, hs⟩ := D.lay_way (dp := 0) (bU_mem w x)
  have hm : (1 :: bU w x) ∈ (D.un ndGr x).ways := by
    have h7 : ¬ ndGr.op = 7 := by decide
    simp only [D.ways, if_neg h7]
    exact List.mem_append_right _ (List.mem_map.2 ⟨_, bU_mem w x, rfl⟩)
  have h := best1_least (bU_is w (.un ndGr x)) _ hm
  have h1 : (D.un ndGr x).lay 0 (1 :: bU w x) = .ok (s, []) := by rw [lay_gr]; simpa using hs
  rw [textK_one h1] at h
  rw [bC_is w x, textK_one hs]
  exact h
def nd9 : Nd := ⟨9, .empty, 0⟩
theorem Doc.ei {a b : List Nd} {x y : D} (ha : Doc a x) (hb : Doc b y) (hl : a.length + b.length < 400) : Doc (nd9 :: (a ++ b)) (.bin nd9 x y) := by
  refine ⟨⟨by decide, ha.ok, hb.ok⟩, by rw [D.enc, ha.enc, hb.enc], ?_, by simp; omega⟩
  intro d hd
  rcases List.mem_cons.1 hd with rfl | hd
  · decide +kernel
  · rcases List.mem_append.1 hd with hd | hd
    · exact ha.one d hd
    · exact hb.one d hd
/-- What is one of two costs as much as the less of both. -/
theorem best_either (w : Nat) (x y : D) : bC w (.bin nd9 x y) = if cLess (bC w y) (bC w x) = true then bC w y else bC w x := by
  have h6 : ¬ nd9.op = 6 := by decide
  have l0 : ∀ u, (D.bin nd9 x y).lay 0 (0 :: u) = x.lay 0 u := fun u => by simp only [D.lay, if_neg h6, if_true]; rfl
  have l1 : ∀ u, (D.bin nd9 x y).lay 0 (1 :: u) = y.lay 0 u := fun u => by
    have : ¬ (1 : Int) = 0 := by decide
    simp only [D.lay, if_neg h6, if_neg this]; rfl
  have t0 : ∀ u, textK [(.bin nd9 x y, 0)] (0 :: u) = textK [(x, 0)] u := fun u => by simp only [textK, layK, l0]
  have t1 : ∀ u, textK [(.bin nd9 x y, 0)] (1 :: u) = textK [(y, 0)] u := fun u => by simp only [textK, layK, l1]
  have hb := bU_is w (.bin nd9 x y)
  simp only [D.ways, if_neg h6] at hb
  rw [best1_app, best1_map, best1_map] at hb
  simp only [t0, t1] at hb
  rw [bU_is, bU_is] at hb
  simp only [Option.map_some, t0, t1] at hb
  have e : cLess (cst w 0 (textK [(y, 0)] (bU w y))) (cst w 0 (textK [(x, 0)] (bU w x))) = cLess (bC w y) (bC w x) := rfl
  rw [e] at hb
  split
  · rename_i h
    rw [if_pos h] at hb
    rw [bC_is w (.bin nd9 x y), ← Option.some.inj hb, t1]; rfl
  · rename_i h
    rw [if_neg h] at hb
    rw [bC_is w (.bin nd9 x y), ← Option.some.inj hb, t0]; rfl

theorem best1_prod {f f1 f2 : List Int → Nat × Nat} {B : List (List Int)} {b : List Int} (hb : best1 f2 B = some b) : ∀ {A : List (List Int)} {a : List Int}, best1 f1 A = some a → (∀ u ∈ A, ∀ v ∈ B, f (u ++ v) = cAdd (f1 u) (f2 v)) →
    best1 f (A.flatMap fun u => B.map (u ++ ·)) = some (a ++ b)
  | [], _, h, _ => by simp [best1] at h
  | u :: r, a, h, hf => by
    have hu : best1 f (B.map (u ++ ·)) = some (u ++ b) := by
      rw [best1_map, best1_shift (f1 u) (fun v hv => hf u (by simp) v hv), hb]; rfl
    rw [List.flatMap_cons, best1_app, hu]
    simp only [best1] at h
    split at h
    · rename_i hn
      have := best1_none hn; subst this
      simp at h; subst h
      simp [best1]
    · rename_i y hy
      have ih := best1_prod hb hy (fun z hz => hf z (by simp [hz]))
      rw [ih]
      have eb := best1_mem hb
      simp only [hf u (by simp) b eb, hf y (List.mem_cons_of_mem _ (best1_mem hy)) b eb, cLess_add_r]
      split at h
      · rename_i hl
        simp at h; subst h
        rw [if_pos hl]
      · rename_i hl
        simp at h; subst h
        rw [if_neg hl]

theorem lay_two {p : Nd} {a b : D} {dp : Int} {u : List Int} (h6 : p.op = 6) : (D.bin p a b).lay dp u = match a.lay (dp + p.n) u with
    | .error e => .error e
    | .ok (s, w') => match b.lay (dp + p.n) w' with
      | .error e => .error e
      | .ok (t, w'') => .ok (s ++ t, w'') := by
  simp only [D.lay, h6, if_true]
  cases a.lay (dp + p.n) u with
  | error e => rfl
  | ok q => rfl
/-- Behind a new line all is as from the beginning. -/
theorem best_parts (w : Nat) (x y : D) {p c q : Nd} (h6 : p.op = 6) (z : (0 : Int) + p.n = 0) (hc : c.op = 4) (h6q : q.op = 6) (zq : (0 : Int) + q.n = 0) : bU w (.bin p x (.bin q (.leaf c) y)) = bU w x ++ bU w y ∧ bC w (.bin p x (.bin q (.leaf c) y)) = ((bC w x).1 + (bC w y).1, (bC w x).2 + (bC w y).2 + 1) := by

  have key : ∀ u ∈ x.ways, ∀ v ∈ y.ways, textK [(.bin p x (.bin q (.leaf c) y), 0)] (u ++ v) = textK [(x, 0)] u ++ 10 :: textK [(y, 0)] v := fun u hu v hv => by
    obtain ⟨s, hs⟩ := D.lay_way (dp := 0) hu
    obtain ⟨t, ht⟩ := D.lay_way (dp := 0) hv
    have e1 := D.lay_more (v := v) hs
    have hl : (D.leaf c).lay 0 v = .ok (⟨#[10]⟩ ++ blanksB 0, v) := by
      have c1 : ¬ c.op = 1 := by omega
      have c5 : ¬ c.op = 5 := by omega
      simp only [D.lay, if_neg c1, if_neg c5]; rfl
    have hb0 : (D.bin q (.leaf c) y).lay 0 v = .ok (⟨#[10]⟩ ++ blanksB 0 ++ t, []) := by
      rw [lay_two h6q, zq, hl]
      simp only [ht]
    have h : (D.bin p x (.bin q (.leaf c) y)).lay 0 (u ++ v) = .ok (s ++ (⟨#[10]⟩ ++ blanksB 0 ++ t), []) := by
      rw [lay_two h6, z, e1]
      simp only [List.nil_append, hb0]
    rw [textK_one h, textK_one hs, textK_one ht]
    simp [blanksB]
  have kc : ∀ u ∈ x.ways, ∀ v ∈ y.ways, cst w 0 (textK [(.bin p x (.bin q (.leaf c) y), 0)] (u ++ v)) = cAdd (cAdd (0, 1) (cst w 0 (textK [(x, 0)] u))) (cst w 0 (textK [(y, 0)] v)) := fun u hu v hv => by
    rw [key u hu v hv, cst_app]
    simp only [cst, cAdd, ovr, lns, if_true]
    ext <;> simp <;> omega
  have hw : (D.bin p x (.bin q (.leaf c) y)).ways = x.ways.flatMap fun u => y.ways.map (u ++ ·) := by
    simp only [D.ways, h6, h6q, if_true]
    congr 1
    funext u
    simp
  have hx1 : best1 (fun u => cAdd (0, 1) (cst w 0 (textK [(x, 0)] u))) x.ways = some (bU w x) := by
    rw [best1_shift (0, 1) (g := fun u => cst w 0 (textK [(x, 0)] u)) (fun u _ => rfl), bU_is]
  have hb := bU_is w (.bin p x (.bin q (.leaf c) y))
  rw [hw, best1_prod (bU_is w y) hx1 kc] at hb
  have hb' := (Option.some.inj hb).symm
  refine ⟨hb', ?_⟩
  rw [bC_is, hb', kc _ (bU_mem w x) _ (bU_mem w y)]
  simp only [cAdd, bC_is]
  ext <;> simp <;> omega
end Go.Proofs.YtddfdmopaeghnacDoor
