/- Plain facts on the cheapest way: what a text costs from a column on, the first of the cheapest, step by step. No program, no condition. -/
import Derived.Test.YtddfdmopaeghnacGreatDoorFindP
import Derived.Test.YtddfdmopaeghnacGreatDoorCstP
namespace Go.Proofs.YtddfdmopaeghnacGreatDoor

/-- The first of those that cost least. -/
def best1 (f : List Int → Nat × Nat) : List (List Int) → Option (List Int)
  | [] => none
  | u :: r => match best1 f r with
    | none => some u
    | some v => if cLess (f v) (f u) = true then some v else some u

theorem best1_app (f : List Int → Nat × Nat) : ∀ (a b : List (List Int)), best1 f (a ++ b) = match best1 f a, best1 f b with
    | none, y => y
    | x, none => x
    | some u, some v => if cLess (f v) (f u) = true then some v else some u
  | [], b => by simp [best1]
  | u :: r, b => by
    simp only [List.cons_append, best1, best1_app f r b]
    cases h1 : best1 f r with
    | none =>
      cases h2 : best1 f b with
      | none => rfl
      | some v => simp
    | some x =>
      cases h2 : best1 f b with
      | none =>
        simp only
        split <;> rfl
      | some v =>
        simp only
        by_cases p : cLess (f v) (f x) = true
        · simp only [if_pos p]
          by_cases q : cLess (f x) (f u) = true
          · simp only [if_pos q, if_pos p]
            have : cLess (f v) (f u) = true := by rw [cLess_iff] at *; omega
            rw [if_pos this]
          · simp only [if_neg q]
        · simp only [if_neg p]
          by_cases q : cLess (f x) (f u) = true
          · simp only [if_pos q, if_neg p]
          · simp only [if_neg q]
            have : ¬ cLess (f v) (f u) = true := by
              rw [Bool.not_eq_true, cLess_no] at *; omega
            rw [if_neg this]
theorem best1_map (f : List Int → Nat × Nat) (g : List Int → List Int) : ∀ l : List (List Int), best1 f (l.map g) = (best1 (fun u => f (g u)) l).map g
  | [] => rfl
  | u :: r => by
    simp only [List.map_cons, best1, best1_map f g r]
    cases best1 (fun u => f (g u)) r with
    | none => rfl
    | some v =>
      simp only [Option.map_some]
      split <;> rfl
theorem best1_mem {f : List Int → Nat × Nat} : ∀ {l : List (List Int)} {v : List Int}, best1 f l = some v → v ∈ l
  | [], _, h => by simp [best1] at h
  | u :: r, v, h => by
    simp only [best1] at h
    split at h
    · simp at h; simp [h]
    · rename_i x hx
      split at h
      · simp at h; subst h; exact List.mem_cons_of_mem _ (best1_mem hx)
      · simp at h; simp [h]
theorem best1_none {f : List Int → Nat × Nat} : ∀ {l : List (List Int)}, best1 f l = none → l = []
  | [], _ => rfl
  | u :: r, h => by
    simp only [best1] at h
    split at h
    · simp at h
    · split at h <;> simp at h
theorem best1_some {f : List Int → Nat × Nat} {l : List (List Int)} (h : l ≠ []) : ∃ v, best1 f l = some v ∧ v ∈ l := by
  cases hb : best1 f l with
  | none => exact absurd (best1_none hb) h
  | some v => exact ⟨v, rfl, best1_mem hb⟩
theorem best1_shift {f g : List Int → Nat × Nat} (c : Nat × Nat) : ∀ {l : List (List Int)}, (∀ u ∈ l, f u = cAdd c (g u)) → best1 f l = best1 g l
  | [], _ => rfl
  | u :: r, h => by
    have ih := best1_shift (l := r) c (fun v hv => h v (by simp [hv]))
    simp only [best1, ih]
    cases hb : best1 g r with
    | none => rfl
    | some v => simp only [h u (by simp), h v (List.mem_cons_of_mem _ (best1_mem hb)), cLess_add]
theorem best1_congr {f g : List Int → Nat × Nat} {l : List (List Int)} (h : ∀ u ∈ l, f u = g u) : best1 f l = best1 g l :=
  best1_shift (0, 0) (fun u hu => by rw [h u hu, cAdd_zero])
theorem best1_least {f : List Int → Nat × Nat} : ∀ {l : List (List Int)} {v : List Int}, best1 f l = some v → ∀ u ∈ l, cLess (f u) (f v) = false
  | [], _, h => by simp [best1] at h
  | x :: r, v, h => by
    intro u hu
    simp only [best1] at h
    split at h
    · rename_i hn
      simp at h; subst h
      have := best1_none hn; subst this
      simp at hu; subst hu; exact cLess_irr _
    · rename_i y hy
      have ih := best1_least hy
      split at h
      · rename_i hl
        simp at h; subst h
        rcases List.mem_cons.1 hu with rfl | hu
        · rw [cLess_iff] at hl; rw [cLess_no]; omega
        · exact ih u hu
      · rename_i hl
        simp at h; subst h
        rcases List.mem_cons.1 hu with rfl | hu
        · exact cLess_irr _
        · have := ih u hu
          rw [Bool.not_eq_true, cLess_no] at hl; rw [cLess_no] at this ⊢; omega
/-- Of those that cost as much none is ahead. -/
theorem best1_first {R : List Int → List Int → Prop} {f : List Int → Nat × Nat} : ∀ {l : List (List Int)} {v : List Int}, l.Pairwise R → best1 f l = some v → ∀ u ∈ l, f u = f v → u = v ∨ R v u
  | [], _, _, h => by simp [best1] at h
  | x :: r, v, hp, h => by
    intro u hu he
    obtain ⟨h1, h2⟩ := List.pairwise_cons.1 hp
    simp only [best1] at h
    split at h
    · rename_i hn
      simp at h; subst h
      have := best1_none hn; subst this
      simp at hu; exact .inl hu
    · rename_i y hy
      split at h
      · rename_i hl
        simp at h; subst h
        rcases List.mem_cons.1 hu with rfl | hu
        · rw [he, cLess_irr] at hl; cases hl
        · exact best1_first h2 hy u hu he
      · simp at h; subst h
        rcases List.mem_cons.1 hu with rfl | hu
        · exact .inl rfl
        · exact .inr (h1 u hu)

/-- What is laid of what is still to come, by choices; nothing, if these are none. -/
def textK (K : List (D × Int)) (u : List Int) : List UInt8 := match layK K u .empty with
  | .ok (s, _) => s.data.toList
  | .error _ => []

theorem toList_app (a b : ByteArray) : (a ++ b).data.toList = a.data.toList ++ b.data.toList := by
  simp
theorem layK_acc : ∀ (K : List (D × Int)) (ws : List Int) (acc : ByteArray), layK K ws acc = match layK K ws .empty with
    | .error e => .error e
    | .ok (s, r) => .ok (acc ++ s, r)
  | [], ws, acc => by simp [layK]
  | (x, dp) :: K, ws, acc => by
    simp only [layK]
    cases x.lay dp ws with
    | error e => rfl
    | ok p =>
      obtain ⟨s, w'⟩ := p
      simp only
      rw [layK_acc K w' (acc ++ s), layK_acc K w' (.empty ++ s)]
      cases layK K w' .empty with
      | error e => rfl
      | ok q =>
        obtain ⟨t, r⟩ := q
        simp [ByteArray.append_assoc]
theorem layK_way : ∀ {K : List (D × Int)} {u : List Int}, u ∈ waysK K → ∃ s, layK K u .empty = .ok (s, [])
  | [], u, h => by
    simp [waysK] at h; subst h
    exact ⟨_, rfl⟩
  | (x, dp) :: K, u, h => by
    simp only [waysK, List.mem_flatMap, List.mem_map] at h
    obtain ⟨a, ha, b, hb, rfl⟩ := h
    obtain ⟨s, hs⟩ := D.lay_way (dp := dp) ha
    obtain ⟨t, ht⟩ := layK_way hb
    have h1 := D.lay_more (v := b) hs
    simp only [layK, h1]
    rw [List.nil_append, layK_acc, ht]
    exact ⟨_, rfl⟩
theorem textK_of {K : List (D × Int)} {u : List Int} {s : ByteArray} {r : List Int} (h : layK K u .empty = .ok (s, r)) : textK K u = s.data.toList := by
  rw [textK, h]
/-- Behind a piece. -/
theorem textK_step {K K' : List (D × Int)} {u u' : List Int} {txt : ByteArray} (h : ∀ acc, layK K u acc = layK K' u' (acc ++ txt)) (hu : u' ∈ waysK K') : textK K u = txt.data.toList ++ textK K' u' := by
  obtain ⟨s, hs⟩ := layK_way hu
  have h1 := h .empty
  rw [layK_acc K', hs] at h1
  rw [textK_of h1, textK_of hs, toList_app, toList_app]
  simp

/-- The first of the cheapest ways of what is still to come, from a column on; what it costs. -/
def bestU (w : Nat) (K : List (D × Int)) (col : Nat) : List Int := (best1 (fun u => cst w col (textK K u)) (waysK K)).getD []
def bestC (w : Nat) (K : List (D × Int)) (col : Nat) : Nat × Nat := cst w col (textK K (bestU w K col))

theorem bestU_is (w : Nat) (K : List (D × Int)) (col : Nat) : best1 (fun u => cst w col (textK K u)) (waysK K) = some (bestU w K col) := by
  obtain ⟨v, hv, _⟩ := best1_some (f := fun u => cst w col (textK K u)) (waysK_ne K)
  rw [bestU, hv]; rfl
theorem bestU_mem (w : Nat) (K : List (D × Int)) (col : Nat) : bestU w K col ∈ waysK K := best1_mem (bestU_is w K col)
theorem best_end (w col : Nat) : bestU w [] col = [] ∧ bestC w [] col = (0, 0) := by
  have h : bestU w [] col = [] := by
    have := bestU_mem w [] col
    simpa [waysK] using this
  refine ⟨h, ?_⟩
  rw [bestC, h]
  rfl
theorem best_step {l : List Nd} {i i' : Nat} {K K' : List (D × Int)} {txt : ByteArray} (h : StepTo l i K txt i' K') (hw : waysK K = waysK K') (w col : Nat) :
    bestU w K col = bestU w K' (colOf col txt.data.toList) ∧ bestC w K col = cAdd (cst w col txt.data.toList) (bestC w K' (colOf col txt.data.toList)) := by
  have key : ∀ u ∈ waysK K', cst w col (textK K u) = cAdd (cst w col txt.data.toList) (cst w (colOf col txt.data.toList) (textK K' u)) := fun u hu => by
    rw [textK_step (h.2.2.2 u) hu, cst_app]
  have h1 : bestU w K col = bestU w K' (colOf col txt.data.toList) := by
    have := bestU_is w K col
    rw [hw, best1_shift _ key, bestU_is] at this
    exact (Option.some.inj this).symm
  refine ⟨h1, ?_⟩
  rw [bestC, h1, key _ (bestU_mem _ _ _)]
  rfl
/-- At a choice: what each of the two costs. -/
theorem best_pick {l : List Nd} {i0 i1 : Nat} {K K0 K1 : List (D × Int)} {t0 t1 : ByteArray} {ok0 : Bool} (hp : PartTo l K ok0 i0 i1 K0 K1)
    (h0 : ok0 = true → ∀ ws acc, layK K (0 :: ws) acc = layK K0 ws (acc ++ t0)) (h1 : ∀ ws acc, layK K (1 :: ws) acc = layK K1 ws (acc ++ t1)) (w col : Nat) :
    let c0 := cAdd (cst w col t0.data.toList) (bestC w K0 (colOf col t0.data.toList))
    let c1 := cAdd (cst w col t1.data.toList) (bestC w K1 (colOf col t1.data.toList))
    (ok0 = true ∧ cLess c1 c0 = false → bestU w K col = 0 :: bestU w K0 (colOf col t0.data.toList) ∧ bestC w K col = c0) ∧
    (ok0 = false ∨ cLess c1 c0 = true → bestU w K col = 1 :: bestU w K1 (colOf col t1.data.toList) ∧ bestC w K col = c1) := by
  intro c0 c1
  have k1 : ∀ u ∈ waysK K1, cst w col (textK K (1 :: u)) = cAdd (cst w col t1.data.toList) (cst w (colOf col t1.data.toList) (textK K1 u)) := fun u hu => by
    rw [textK_step (h1 u) hu, cst_app]
  have b1 : best1 (fun u => cst w col (textK K u)) ((waysK K1).map (1 :: ·)) = some (1 :: bestU w K1 (colOf col t1.data.toList)) := by
    rw [best1_map, best1_shift _ k1, bestU_is]; rfl
  have e1 : cst w col (textK K (1 :: bestU w K1 (colOf col t1.data.toList))) = c1 := k1 _ (bestU_mem _ _ _)
  have hb := bestU_is w K col
  rw [hp.2.2.2.2, best1_app, b1] at hb
  cases ok0 with
  | false =>
    simp only [Bool.false_eq_true, if_false, best1] at hb
    have hb' := (Option.some.inj hb).symm
    refine ⟨fun h => (by cases h.1), fun _ => ⟨hb', ?_⟩⟩
    rw [bestC, hb', e1]
  | true =>
    have k0 : ∀ u ∈ waysK K0, cst w col (textK K (0 :: u)) = cAdd (cst w col t0.data.toList) (cst w (colOf col t0.data.toList) (textK K0 u)) := fun u hu => by
      rw [textK_step (h0 rfl u) hu, cst_app]
    have b0 : best1 (fun u => cst w col (textK K u)) ((waysK K0).map (0 :: ·)) = some (0 :: bestU w K0 (colOf col t0.data.toList)) := by
      rw [best1_map, best1_shift _ k0, bestU_is]; rfl
    have e0 : cst w col (textK K (0 :: bestU w K0 (colOf col t0.data.toList))) = c0 := k0 _ (bestU_mem _ _ _)
    simp only [if_true, b0, e0, e1] at hb
    refine ⟨fun h => ?_, fun h => ?_⟩
    · rw [h.2] at hb
      simp only [Bool.false_eq_true, if_false] at hb
      have hb' := (Option.some.inj hb).symm
      exact ⟨hb', by rw [bestC, hb', e0]⟩
    · have h' : cLess c1 c0 = true := by
        rcases h with h | h
        · cases h
        · exact h
      rw [h'] at hb
      simp only [if_true] at hb
      have hb' := (Option.some.inj hb).symm
      exact ⟨hb', by rw [bestC, hb', e1]⟩
end Go.Proofs.YtddfdmopaeghnacGreatDoor
