/- Plain facts for the walk of way.find: all ways from a place on. No program, no condition. -/
import Derived.Test.YtddfdmopaeghnacGreatDoorAllP
import Derived.Test.YtddfdmopaeghnacGreatDoorShowP
namespace Go.Proofs.YtddfdmopaeghnacGreatDoor

/-- All ways of what is still to be laid. -/
def waysK : List (D × Int) → List (List Int)
  | [] => [[]]
  | (x, _) :: K => x.ways.flatMap fun u => (waysK K).map (u ++ ·)

theorem waysK_one (x : D) (dp : Int) : waysK [(x, dp)] = x.ways := by
  simp only [waysK, List.map_cons, List.append_nil, List.map_nil]
  induction x.ways with
  | nil => rfl
  | cons a r ih => simp [ih]
theorem flatMap_nil_one (f : List (List Int)) : ([[]] : List (List Int)).flatMap (fun u => f.map (u ++ ·)) = f := by simp

/-- What goes on without a choice. -/
def WalkTo (l : List Nd) (K : List (D × Int)) (i' : Nat) (K' : List (D × Int)) : Prop := Rep l i' K' ∧ szK K' < szK K ∧ waysK K = waysK K'

theorem walk_leaf {l : List Nd} {x : D} (hd : Doc l x) {i : Nat} {K : List (D × Int)} (hr : Rep l i K) (hi : i < l.length) (ho : parts l[i].op = 0) : ∃ K', WalkTo l K (nextAt l i) K' := by
  obtain ⟨K', rfl, hr'⟩ := hr.lt hi
  have hlf := hd.leaf_ hi ho
  refine ⟨K', hr', by rw [hlf]; simp only [szK, D.sz]; omega, ?_⟩
  rw [hlf]
  simp only [waysK, D.ways]
  exact flatMap_nil_one _
theorem flatMap_two (a b : List (List Int)) (f : List (List Int)) : (a.flatMap (fun u => b.map (u ++ ·))).flatMap (fun u => f.map (u ++ ·)) = a.flatMap (fun u => (b.flatMap (fun v => f.map (v ++ ·))).map (u ++ ·)) := by
  rw [List.flatMap_assoc]
  congr 1
  funext u
  rw [List.flatMap_map, List.map_flatMap]
  congr 1
  funext v
  rw [List.map_map]
  congr 1
  funext z
  simp
theorem walk_both {l : List Nd} {x : D} (hd : Doc l x) {i : Nat} {K : List (D × Int)} (hr : Rep l i K) (hi : i < l.length) (h6 : l[i].op = 6) : ∃ K', WalkTo l K (i + 1) K' := by
  obtain ⟨K', rfl, hr'⟩ := hr.lt hi
  have hp2 : parts l[i].op = 2 := by rw [h6]; rfl
  obtain ⟨_, _, hdo, _⟩ := hd.plan_bin hi hp2
  refine ⟨_, Rep.both hd hi h6 hr', by rw [hdo]; simp only [szK, D.sz]; omega, ?_⟩
  rw [hdo]
  simp only [waysK, D.ways, h6, if_true]
  exact flatMap_two _ _ _
theorem walk_deep {l : List Nd} {x : D} (hd : Doc l x) {i : Nat} {K : List (D × Int)} (hr : Rep l i K) (hi : i < l.length) (h7 : l[i].op = 7) : ∃ K', WalkTo l K (i + 1) K' := by
  obtain ⟨K', rfl, hr'⟩ := hr.lt hi
  have hp1 : parts l[i].op = 1 := by rw [h7]; rfl
  obtain ⟨_, hdo, _⟩ := hd.plan_un hi hp1
  refine ⟨_, Rep.un hd hi hp1 hr', by rw [hdo]; simp only [szK, D.sz]; omega, ?_⟩
  rw [hdo]
  simp only [waysK, D.ways, h7, if_true]

/-- The ways behind a choice. -/
def PartTo (l : List Nd) (K : List (D × Int)) (ok0 : Bool) (i0 i1 : Nat) (K0 K1 : List (D × Int)) : Prop :=
  Rep l i0 K0 ∧ Rep l i1 K1 ∧ szK K0 < szK K ∧ szK K1 < szK K ∧ waysK K = (if ok0 = true then (waysK K0).map (0 :: ·) else []) ++ (waysK K1).map (1 :: ·)

theorem flatMap_front (c : Int) (a f : List (List Int)) : (a.map (c :: ·)).flatMap (fun u => f.map (u ++ ·)) = (a.flatMap (fun u => f.map (u ++ ·))).map (c :: ·) := by
  rw [List.flatMap_map, List.map_flatMap]
  congr 1
  funext u
  rw [List.map_map]
  rfl
theorem part_either {l : List Nd} {x : D} (hd : Doc l x) {i : Nat} {K : List (D × Int)} (hr : Rep l i K) (hi : i < l.length) (h9 : l[i].op = 9) : ∃ K0 K1, PartTo l K true (i + 1) (endAt l (i + 1)) K0 K1 := by
  obtain ⟨K', rfl, hr'⟩ := hr.lt hi
  have hp2 : parts l[i].op = 2 := by rw [h9]; rfl
  obtain ⟨_, _, hdo, _⟩ := hd.plan_bin hi hp2
  refine ⟨_, _, Rep.either hd hi h9 hr', Rep.bin hd hi hp2 hr', by rw [hdo]; simp only [szK, D.sz]; omega, by rw [hdo]; simp only [szK, D.sz]; omega, ?_⟩
  rw [hdo]
  have h6 : ¬ l[i].op = 6 := by omega
  simp only [waysK, D.ways, if_neg h6, if_true]
  rw [List.flatMap_append, flatMap_front, flatMap_front]
theorem part_group {l : List Nd} {x : D} (hd : Doc l x) {i : Nat} {K : List (D × Int)} (hr : Rep l i K) (hi : i < l.length) (h8 : l[i].op = 8) : ∃ K0 K1, PartTo l K (docAt l (i + 1)).flat.isSome (nextAt l i) (i + 1) K0 K1 := by
  obtain ⟨K', rfl, hr'⟩ := hr.lt hi
  have hp1 : parts l[i].op = 1 := by rw [h8]; rfl
  obtain ⟨_, hdo, _⟩ := hd.plan_un hi hp1
  refine ⟨_, _, hr', Rep.un hd hi hp1 hr', by rw [hdo]; simp only [szK, D.sz]; omega, by rw [hdo]; simp only [szK, D.sz]; omega, ?_⟩
  rw [hdo]
  have h7 : ¬ l[i].op = 7 := by omega
  simp only [waysK, D.ways, if_neg h7]
  rw [List.flatMap_append, flatMap_front]
  congr 1
  split
  · simp
  · rfl

theorem waysK_ne (K : List (D × Int)) : waysK K ≠ [] := by
  induction K with
  | nil => simp [waysK]
  | cons p K ih =>
    obtain ⟨x, dp⟩ := p
    simp only [waysK]
    intro h
    have := D.ways_ne (x := x)
    cases hx : x.ways with
    | nil => exact this hx
    | cons u r =>
      rw [hx] at h
      simp at h
      exact ih h.1
end Go.Proofs.YtddfdmopaeghnacGreatDoor
