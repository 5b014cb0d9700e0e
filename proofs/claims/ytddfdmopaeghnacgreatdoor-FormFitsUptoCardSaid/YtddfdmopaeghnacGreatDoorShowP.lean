/- Plain facts on showing a way: what one step lays, what is left; the answer. No program, no condition. -/
import Derived.Test.YtddfdmopaeghnacGreatDoorWaysP
namespace Go.Proofs.YtddfdmopaeghnacGreatDoor

theorem Rep.uniq {l : List Nd} {i : Nat} {K : List (D × Int)} (h : Rep l i K) : ∀ {K'}, Rep l i K' → K = K' := by
  induction h with
  | done =>
    intro K' h'
    exact (h'.ge (Nat.le_refl _)).1.symm
  | at_ i K hi _ ih =>
    intro K' h'
    obtain ⟨K2, e, hr⟩ := h'.lt hi
    rw [e, ih hr]

open Classical in
/-- How many nodes are still to come at a place. -/
noncomputable def leftOf (l : List Nd) (i : Nat) : Nat := if h : ∃ K, Rep l i K then szK h.choose else 0
theorem leftOf_eq {l : List Nd} {i : Nat} {K : List (D × Int)} (h : Rep l i K) : leftOf l i = szK K := by
  have hex : ∃ K, Rep l i K := ⟨K, h⟩
  unfold leftOf
  rw [dif_pos hex, h.uniq hex.choose_spec]

theorem szK_pos {l : List Nd} {i : Nat} {K : List (D × Int)} (h : Rep l i K) (hi : i < l.length) : 0 < szK K := by
  obtain ⟨K', rfl, _⟩ := h.lt hi
  have := (docAt l i).sz_pos
  simp only [szK]; omega

/-- What is laid at a place without a choice, and where it goes on. -/
def StepTo (l : List Nd) (_i : Nat) (K : List (D × Int)) (txt : ByteArray) (i' : Nat) (K' : List (D × Int)) : Prop :=
  Rep l i' K' ∧ szK K' < szK K ∧ txt.size + 3300 * szK K' ≤ 3300 * szK K ∧ ∀ ws acc, layK K ws acc = layK K' ws (acc ++ txt)

theorem app_empty (a : ByteArray) : a ++ ByteArray.empty = a := by simp

theorem Doc.leaf_ {l : List Nd} {x : D} (hd : Doc l x) {i : Nat} (hi : i < l.length) (hp : parts l[i].op = 0) : docAt l i = .leaf l[i] := by
  rcases hd.parts_ hi with ⟨_, h⟩ | ⟨h, _⟩ | ⟨h, _⟩
  · exact h
  · omega
  · omega

theorem step_word {l : List Nd} {x : D} (hd : Doc l x) {i : Nat} {K : List (D × Int)} {t : ByteArray} {n : Int} (hr : Rep l i K) (hi : i < l.length) (hnd : l[i] = ⟨1, t, n⟩) : ∃ K', StepTo l i K t (nextAt l i) K' := by
  obtain ⟨K', rfl, hr'⟩ := hr.lt hi
  have hlf := hd.leaf_ hi (by rw [hnd]; rfl)
  have hone := hd.one _ (List.getElem_mem hi)
  rw [hnd] at hone
  have hsz := oneF_size (d := ⟨1, t, n⟩) hone
  simp only at hsz
  refine ⟨K', hr', by rw [hlf]; simp only [szK, D.sz]; omega, by rw [hlf]; simp only [szK, D.sz]; omega, fun ws acc => ?_⟩
  rw [hlf, hnd]
  simp only [layK, D.lay, if_true]
theorem step_zero {l : List Nd} {x : D} (hd : Doc l x) {i : Nat} {K : List (D × Int)} {t : ByteArray} {n : Int} (hr : Rep l i K) (hi : i < l.length) (hnd : l[i] = ⟨5, t, n⟩) : ∃ K', StepTo l i K .empty (nextAt l i) K' := by
  obtain ⟨K', rfl, hr'⟩ := hr.lt hi
  have hlf := hd.leaf_ hi (by rw [hnd]; rfl)
  refine ⟨K', hr', by rw [hlf]; simp only [szK, D.sz]; omega, by rw [hlf]; simp only [szK, D.sz, ByteArray.size_empty]; omega, fun ws acc => ?_⟩
  rw [hlf, hnd]
  rfl
theorem step_line {l : List Nd} {x : D} (hd : Doc l x) {i : Nat} {K : List (D × Int)} {op : Int} {t : ByteArray} {n : Int} (hr : Rep l i K) (hi : i < l.length) (hnd : l[i] = ⟨op, t, n⟩) (ho : op = 2 ∨ op = 3 ∨ op = 4) :
    ∃ K', StepTo l i K (⟨#[10]⟩ ++ blanksB (deepAt l i).toNat) (nextAt l i) K' := by
  obtain ⟨K', rfl, hr'⟩ := hr.lt hi
  have hp0 : parts l[i].op = 0 := by rw [hnd]; rcases ho with rfl | rfl | rfl <;> rfl
  have hlf := hd.leaf_ hi hp0
  have hdb := hd.deep_bd i hi
  have h4 := hd.len
  have hbz : (⟨#[10]⟩ ++ blanksB (deepAt l i).toNat : ByteArray).size ≤ 3300 := by
    rw [ByteArray.size_append]
    have e1 : (⟨#[10]⟩ : ByteArray).size = 1 := rfl
    have e2 : (blanksB (deepAt l i).toNat).size = (deepAt l i).toNat := by simp [blanksB, ByteArray.size]
    rw [e1, e2]; omega
  refine ⟨K', hr', by rw [hlf]; simp only [szK, D.sz]; omega, by rw [hlf]; simp only [szK, D.sz]; omega, fun ws acc => ?_⟩
  rw [hlf, hnd]
  rcases ho with rfl | rfl | rfl <;> rfl
theorem step_both {l : List Nd} {x : D} (hd : Doc l x) {i : Nat} {K : List (D × Int)} {t : ByteArray} {n : Int} (hr : Rep l i K) (hi : i < l.length) (hnd : l[i] = ⟨6, t, n⟩) : ∃ K', StepTo l i K .empty (i + 1) K' := by
  obtain ⟨K', rfl, hr'⟩ := hr.lt hi
  have h6 : l[i].op = 6 := by rw [hnd]
  have hp2 : parts l[i].op = 2 := by rw [hnd]; rfl
  obtain ⟨_, _, hdo, _⟩ := hd.plan_bin hi hp2
  refine ⟨_, Rep.both hd hi h6 hr', by rw [hdo]; simp only [szK, D.sz]; omega, by rw [hdo]; simp only [szK, D.sz, ByteArray.size_empty]; omega, fun ws acc => ?_⟩
  rw [hdo, layK_both h6, app_empty]
theorem step_deep {l : List Nd} {x : D} (hd : Doc l x) {i : Nat} {K : List (D × Int)} {t : ByteArray} {n : Int} (hr : Rep l i K) (hi : i < l.length) (hnd : l[i] = ⟨7, t, n⟩) : ∃ K', StepTo l i K .empty (i + 1) K' := by
  obtain ⟨K', rfl, hr'⟩ := hr.lt hi
  have h7 : l[i].op = 7 := by rw [hnd]
  have hp1 : parts l[i].op = 1 := by rw [hnd]; rfl
  obtain ⟨_, hdo, _⟩ := hd.plan_un hi hp1
  refine ⟨_, Rep.un hd hi hp1 hr', by rw [hdo]; simp only [szK, D.sz]; omega, by rw [hdo]; simp only [szK, D.sz, ByteArray.size_empty]; omega, fun ws acc => ?_⟩
  rw [hdo, app_empty]
  simp only [layK, D.lay, h7, if_true]

/-- A choice at a place. -/
def PickTo (l : List Nd) (_i : Nat) (K : List (D × Int)) (c : Int) (txt : ByteArray) (i' : Nat) (K' : List (D × Int)) : Prop :=
  Rep l i' K' ∧ szK K' < szK K ∧ txt.size + 3300 * szK K' ≤ 3300 * szK K ∧ ∀ ws acc, layK K (c :: ws) acc = layK K' ws (acc ++ txt)

theorem pick_none {l : List Nd} {x : D} (hd : Doc l x) {i : Nat} {K : List (D × Int)} {op : Int} {t : ByteArray} {n : Int} (hr : Rep l i K) (hi : i < l.length) (hnd : l[i] = ⟨op, t, n⟩) (ho : op = 8 ∨ op = 9) (acc : ByteArray) : layK K [] acc = .error 2 := by
  obtain ⟨K', rfl, hr'⟩ := hr.lt hi
  rcases ho with rfl | rfl
  · have hp1 : parts l[i].op = 1 := by rw [hnd]; rfl
    obtain ⟨_, hdo, _⟩ := hd.plan_un hi hp1
    rw [hdo, hnd]; rfl
  · have hp2 : parts l[i].op = 2 := by rw [hnd]; rfl
    obtain ⟨_, _, hdo, _⟩ := hd.plan_bin hi hp2
    rw [hdo, hnd]; rfl
theorem pick_either {l : List Nd} {x : D} (hd : Doc l x) {i : Nat} {K : List (D × Int)} {t : ByteArray} {n c : Int} (hr : Rep l i K) (hi : i < l.length) (hnd : l[i] = ⟨9, t, n⟩) (hc : c = 0 ∨ c = 1) : ∃ K', PickTo l i K c .empty (if c = 0 then i + 1 else endAt l (i + 1)) K' := by
  obtain ⟨K', rfl, hr'⟩ := hr.lt hi
  have h9 : l[i].op = 9 := by rw [hnd]
  have hp2 : parts l[i].op = 2 := by rw [hnd]; rfl
  obtain ⟨_, _, hdo, _⟩ := hd.plan_bin hi hp2
  rcases hc with rfl | rfl
  · refine ⟨_, Rep.either hd hi h9 hr', by rw [hdo]; simp only [szK, D.sz]; omega, by rw [hdo]; simp only [szK, D.sz, ByteArray.size_empty]; omega, fun ws acc => ?_⟩
    rw [hdo, app_empty]
    simp only [layK, D.lay, h9, if_true]
    rfl
  · refine ⟨_, Rep.bin hd hi hp2 hr', by rw [hdo]; simp only [szK, D.sz]; omega, by rw [hdo]; simp only [szK, D.sz, ByteArray.size_empty]; omega, fun ws acc => ?_⟩
    rw [hdo, app_empty]
    simp only [layK, D.lay, h9]
    rfl
theorem pick_lines {l : List Nd} {x : D} (hd : Doc l x) {i : Nat} {K : List (D × Int)} {t : ByteArray} {n : Int} (hr : Rep l i K) (hi : i < l.length) (hnd : l[i] = ⟨8, t, n⟩) : ∃ K', PickTo l i K 1 .empty (i + 1) K' := by
  obtain ⟨K', rfl, hr'⟩ := hr.lt hi
  have h8 : l[i].op = 8 := by rw [hnd]
  have hp1 : parts l[i].op = 1 := by rw [hnd]; rfl
  obtain ⟨_, hdo, _⟩ := hd.plan_un hi hp1
  refine ⟨_, Rep.un hd hi hp1 hr', by rw [hdo]; simp only [szK, D.sz]; omega, by rw [hdo]; simp only [szK, D.sz, ByteArray.size_empty]; omega, fun ws acc => ?_⟩
  rw [hdo, app_empty]
  simp only [layK, D.lay, h8]
  rfl
theorem Doc.good_at {l : List Nd} {x : D} (hd : Doc l x) {i : Nat} (hi : i < l.length) : (docAt l i).good := by
  obtain ⟨r, h1, _⟩ := hd.at_ hi
  intro d hdm
  have : d ∈ l.drop i := by rw [h1]; exact List.mem_append_left _ hdm
  exact hd.one d (List.mem_of_mem_drop this)
theorem flat_size {y : D} : y.good → ∀ t, y.flat = some t → t.size ≤ 20 * y.sz := by
  induction y with
  | leaf d =>
    intro hg t ht
    have := oneF_size (hg d (by simp [D.enc]))
    simp only [D.flat] at ht
    split at ht
    · cases ht; simp only [D.sz]; omega
    · split at ht
      · cases ht; simp [ByteArray.size, D.sz]
      · split at ht
        · cases ht; simp
        · cases ht
  | un d a ih => intro hg t ht; have := ih (D.good_un hg) t ht; simp only [D.sz]; omega
  | bin d a b ia ib =>
    intro hg t ht
    simp only [D.flat] at ht
    split at ht
    · cases ha : a.flat with
      | none => rw [ha] at ht; simp at ht
      | some p =>
        cases hb : b.flat with
        | none => rw [ha, hb] at ht; simp at ht
        | some q =>
          rw [ha, hb] at ht
          simp only [Option.some.injEq] at ht
          subst ht
          have h1 := ia (D.good_l hg) p ha
          have h2 := ib (D.good_r hg) q hb
          rw [ByteArray.size_append]
          simp only [D.sz]; omega
    · have := ia (D.good_l hg) t ht; simp only [D.sz]; omega
theorem pick_flat {l : List Nd} {x : D} (hd : Doc l x) {i : Nat} {K : List (D × Int)} {t s : ByteArray} {n : Int} (hr : Rep l i K) (hi : i < l.length) (hnd : l[i] = ⟨8, t, n⟩) (hf : (docAt l (i + 1)).flat = some s) : ∃ K', PickTo l i K 0 s (nextAt l i) K' := by
  obtain ⟨K', rfl, hr'⟩ := hr.lt hi
  have h8 : l[i].op = 8 := by rw [hnd]
  have hp1 : parts l[i].op = 1 := by rw [hnd]; rfl
  obtain ⟨hil, hdo, _⟩ := hd.plan_un hi hp1
  have hsz := flat_size (hd.good_at hil) s hf
  refine ⟨K', hr', by rw [hdo]; simp only [szK, D.sz]; omega, by rw [hdo]; simp only [szK, D.sz]; omega, fun ws acc => ?_⟩
  rw [hdo]
  simp only [layK, D.lay, h8]
  rw [if_neg (by decide)]
  simp only [if_true, hf]
theorem pick_bad {l : List Nd} {x : D} (hd : Doc l x) {i : Nat} {K : List (D × Int)} {t : ByteArray} {n : Int} (hr : Rep l i K) (hi : i < l.length) (hnd : l[i] = ⟨8, t, n⟩) (hf : (docAt l (i + 1)).flat = none) (ws : List Int) (acc : ByteArray) : layK K (0 :: ws) acc = .error 4 := by
  obtain ⟨K', rfl, hr'⟩ := hr.lt hi
  have h8 : l[i].op = 8 := by rw [hnd]
  have hp1 : parts l[i].op = 1 := by rw [hnd]; rfl
  obtain ⟨hil, hdo, _⟩ := hd.plan_un hi hp1
  rw [hdo]
  simp only [layK, D.lay, h8]
  rw [if_neg (by decide)]
  simp only [if_true, hf]

/-- A way of a doc that may be: the text, or the fault. -/
def showD (x : D) (ws : List Int) : Except Int ByteArray := match x.lay 0 ws with
  | .error e => .error e
  | .ok (s, []) => .ok s
  | .ok (_, _ :: _) => .error 2
def endK : Except Int (ByteArray × List Int) → Except Int ByteArray
  | .error e => .error e
  | .ok (s, []) => .ok s
  | .ok (_, _ :: _) => .error 2
theorem showD_K (x : D) (ws : List Int) : showD x ws = endK (layK [(x, 0)] ws .empty) := by
  unfold showD
  simp only [layK]
  cases x.lay 0 ws with
  | error e => rfl
  | ok p =>
    obtain ⟨s, r⟩ := p
    simp only
    cases r with
    | nil => simp [endK]
    | cons c r => rfl
def badBit (ws : List Int) : Bool := ws.any fun c => decide (c ≠ 0 ∧ c ≠ 1)
/-- What way.Show answers. -/
def showF (l : List Nd) (ws : List Int) : Except Int ByteArray := if checkF l ≠ 0 then .error (checkF l) else if badBit ws = true then .error 1 else showD (docAt l 0) ws
end Go.Proofs.YtddfdmopaeghnacGreatDoor
