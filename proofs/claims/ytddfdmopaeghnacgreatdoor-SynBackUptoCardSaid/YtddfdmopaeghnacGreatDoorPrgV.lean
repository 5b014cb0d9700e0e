/- Walk: tree.All. Conditions: the slices lie below the call's own blocks; the texts are shorter than 4294967281 bytes; internal/bytealg.MaxLen holds some number. -/
import Derived.Test.YtddfdmopaeghnacGreatDoorTreeC
namespace Go.Proofs.YtddfdmopaeghnacGreatDoor
open Go.RowKit

def isNote : List Nd → Bool
  | [] => false
  | d :: _ => decide (d.op = 9)
def progK : List (List Nd) → Nat → Bool → Nat × Int
  | [], _, _ => (0, 0)
  | t :: r, i, pn => if treeF t ≠ 0 then (i, treeF t) else if (pn && isNote t) = true then (i, 2) else progK r (i + 1) (isNote t)
def progF (p : List (List Nd)) : Nat × Int := if 20 < p.length then (0, 3) else progK p 0 false

theorem progK_step {p : List (List Nd)} {k : Nat} {pn : Bool} {u : List Nd} (hu : p[k]? = some u) : progK (p.drop k) k pn = if treeF u ≠ 0 then (k, treeF u) else if (pn && isNote u) = true then (k, 2) else progK (p.drop (k + 1)) (k + 1) (isNote u) := by
  obtain ⟨h1, h2⟩ := List.getElem?_eq_some_iff.1 hu
  rw [List.drop_eq_getElem_cons h1, h2, progK]
theorem progK_end {p : List (List Nd)} {k : Nat} {pn : Bool} (h : p.length ≤ k) : progK (p.drop k) k pn = (0, 0) := by rw [List.drop_eq_nil_of_le h]; rfl

/-- A program in memory. -/
structure Prg (w : World) (B : Nat) (A : Option Addr) (l : List (List Nd)) : Prop where
  sl : ∃ vs : List Value, Sl w B 1 A l.length vs ∧ ∀ (j : Nat) v, vs[j]? = some v → ∃ Aj cj u, l[j]? = some u ∧ v = .slice Aj u.length cj ∧ Nds w B Aj u ∧ Short u
  le : l.length ≤ maxLen
theorem Prg.past {w w' : World} {A : Option Addr} {l : List (List Nd)} (h : Prg w w.heap.size A l) (hb : Below w.heap.size w w') : Prg w' w'.heap.size A l := by
  obtain ⟨⟨vs, h1, h2⟩, h3⟩ := h
  exact ⟨⟨vs, h1.past hb, fun j v hv => let ⟨Aj, cj, u, g1, g2, g3, g4⟩ := h2 j v hv; ⟨Aj, cj, u, g1, g2, g3.past hb, g4⟩⟩, h3⟩
theorem Prg.one {w wr : World} {A : Option Addr} {l : List (List Nd)} (h : Prg w w.heap.size A l) (hB : Below w.heap.size w wr) {k : Nat} (hk : k < l.length) :
    ∃ b off Aj cj u, A = some ⟨b, off, none⟩ ∧ b < wr.heap.size ∧ l[k]? = some u ∧ wr.cell? ⟨b, off + k, none⟩ = some (.slice Aj u.length cj) ∧ Nds wr wr.heap.size Aj u ∧ Short u := by
  obtain ⟨⟨vs, h1, h2⟩, h3⟩ := h
  obtain ⟨b, off, v, e1, e2, e3, e4⟩ := h1.one hk
  obtain ⟨Aj, cj, u, g1, rfl, g3, g4⟩ := h2 k v e3
  exact ⟨b, off, Aj, cj, u, e1, Nat.lt_of_lt_of_le e2 hB.size, g1, (hB.cell (p := ⟨b, off + k, none⟩) e2).trans e4, g3.past hB, g4⟩

theorem treeF_pos {u : List Nd} (h : treeF u = 0) : 0 < u.length := by
  have := (Tr.of_check h).root
  rcases Nat.eq_zero_or_pos u.length with h1 | h1
  · rw [posAt_ge (by omega)] at this; cases this
  · exact h1
/-- A statement's first node. -/
theorem Nds.first {w : World} {A : Option Addr} {u : List Nd} (hu : Nds w w.heap.size A u) (h : treeF u = 0) : ∃ b off op, A = some ⟨b, off, none⟩ ∧ b < w.heap.size ∧ isNote u = decide (op = 9) ∧ w.cell? ⟨b, off, none⟩ = some (.int .i64 op) := by
  have h0 := treeF_pos h
  obtain ⟨b, off, op, t, n, h1, h2, h3, h4, h5, _⟩ := hu.node (Below.refl _ _) h0
  refine ⟨b, off, op, h1, h2, ?_, by simpa using h5⟩
  cases u with
  | nil => simp at h0
  | cons d r =>
    simp only [List.getElem_cons_zero] at h3
    rw [h3]; rfl

theorem tcheck_ok (l : List Nd) (A : Option Addr) (c : Nat) (w : World) (hl : Nds w w.heap.size A l) (hsh : Short l) (hm : MaxL w) (h : treeF l = 0) :
    Calls Tryz.prog 41 #[.slice A l.length c] w (Ret w .nilIface) := by rw [errV_zero h]; exact tcheck_any l A c w hl hsh hm
theorem tcheck_bad (l : List Nd) (A : Option Addr) (c : Nat) (w : World) (hl : Nds w w.heap.size A l) (hsh : Short l) (hm : MaxL w) (h : treeF l ≠ 0) :
    Calls Tryz.prog 41 #[.slice A l.length c] w (Ret w (.iface 43 (.int .i64 (treeF l)))) := by rw [errV_pos h]; exact tcheck_any l A c w hl hsh hm

/-- What is known ahead of a statement. -/
def Ahead (p : List (List Nd)) (k : Nat) (pn : Bool) : Prop := progF p = progK (p.drop k) k pn ∧ (k = 0 → pn = false) ∧ ∀ j u, k = j + 1 → p[j]? = some u → treeF u = 0 ∧ isNote u = pn
theorem Ahead.next {p : List (List Nd)} {k : Nat} {pn : Bool} {u : List Nd} (h : Ahead p k pn) (hu : p[k]? = some u) (h0 : treeF u = 0) (hn : (pn && isNote u) = false) : Ahead p (k + 1) (isNote u) := by
  refine ⟨?_, fun h => absurd h (by omega), fun j v hj hv => ?_⟩
  · rw [h.1, progK_step hu, if_neg (by simp [h0]), if_neg (by simp [hn])]
  · obtain rfl : j = k := by omega
    rw [hu] at hv; cases hv
    exact ⟨h0, rfl⟩
theorem Ahead.bad {p : List (List Nd)} {k : Nat} {pn : Bool} {u : List Nd} (h : Ahead p k pn) (hu : p[k]? = some u) (h0 : treeF u ≠ 0) : progF p = (k, treeF u) := by rw [h.1, progK_step hu, if_pos h0]
theorem Ahead.two {p : List (List Nd)} {k : Nat} {pn : Bool} {u : List Nd} (h : Ahead p k pn) (hu : p[k]? = some u) (h0 : treeF u = 0) (hn : (pn && isNote u) = true) : progF p = (k, 2) := by rw [h.1, progK_step hu, if_neg (by simp [h0]), if_pos hn]

def AllTo (p : List (List Nd)) (w : World) (e : Ending) (w' : World) : Prop := e = .returned (.tuple #[.int .i64 (progF p).1, errV (progF p).2]) ∧ Below w.heap.size w w'
theorem AllTo.of {p : List (List Nd)} {w w' : World} {i : Nat} {k : Int} {v : Value} (h : progF p = (i, k)) (hv : v = errV k) (hb : Below w.heap.size w w') : AllTo p w (.returned (.tuple #[.int .i64 i, v])) w' := by
  unfold AllTo; rw [h, hv]; exact ⟨rfl, hb⟩

set_option maxRecDepth 100000 in
set_option maxHeartbeats 4000000 in
theorem all_any (p : List (List Nd)) (A : Option Addr) (c : Nat) (w : World) (hp : Prg w w.heap.size A p) (hm : MaxL w) :
    Calls Tryz.prog 46 #[.slice A p.length c] w (AllTo p w) := by
  have hml := hp.le
  unfold maxLen at hml
  by_cases h20 : 20 < p.length
  · have hF : progF p = (0, 3) := by rw [progF, if_pos h20]
    have HF := Lib.hid hF; clear hF
    go_enter Tryz.func46, Tryz.ntmps46
    go_wp2
    go_ret2
    exact AllTo.of HF.out rfl (Below.refl _ _)
  · have hF : Ahead p 0 false := ⟨by rw [progF, if_neg h20]; rfl, fun _ => rfl, fun j u h => by cases h⟩
    have HF := Lib.hid hF; clear hF
    have HP := Lib.hid hp; clear hp
    have HM := Lib.hid hm; clear hm
    go_enter Tryz.func46, Tryz.ntmps46
    go_wp2
    go_loopw [13] (fun i wr => ∃ (k : Nat) (pn : Bool), k ≤ p.length ∧ i = .int .i64 k ∧ Ahead p k pn ∧ Below w.heap.size w wr) (fun i _ => p.length - (intOf i).toNat)
    case atStart => exact ⟨0, false, by omega, rfl, HF.out, Below.refl _ _⟩
    case round =>
      obtain ⟨k, pn, hk, rfl, ha, hB⟩ := hrel
      have HA := Lib.hid ha; clear ha
      have hsz := hB.size
      by_cases hlt : k < p.length
      · obtain ⟨b, off, Ak, ck, u, rfl, hb, hu, hc, hN, hS⟩ := HP.out.one hB hlt
        have HU := Lib.hid hu; clear hu
        have HNU := Lib.hid hN
        by_cases h0 : treeF u = 0
        · have HCK := Lib.hid (tcheck_ok u Ak ck wr hN hS (HM.out.past hB) h0)
          obtain ⟨b2, off2, op, rfl, hb2, hin, d1⟩ := hN.first h0
          have hu0 := treeF_pos h0
          have H0 := Lib.hid h0; have HIN := Lib.hid hin
          clear h0 hin hN hS
          cases k with
          | zero =>
            rw [Nat.add_zero] at hc
            have HNX := Lib.hid (HA.out.next HU.out H0.out (by rw [HA.out.2.1 rfl]; rfl))
            go_wp2_with (go_at_call 41; refine HCK.out.mono ?_; rintro e w1 ⟨rfl, hB1⟩; have e0 := (hB1.cell (p := ⟨b, off, none⟩) hb).trans hc; have e1 := (hB1.cell (p := ⟨b2, off2, none⟩) hb2).trans d1)
            go_roundw
            case measure => simp [intOf]; omega
            case rel => exact ⟨0 + 1, _, by omega, by go_num, HNX.out, hB.trans (hB1.mono hsz)⟩
          | succ j =>
            obtain ⟨b', off', Aj, cj, u', hq, hb', hu', hc', hN', hS'⟩ := HP.out.one hB (k := j) (by omega)
            cases hq
            obtain ⟨h0', hin'⟩ := HA.out.2.2 j u' rfl hu'
            obtain ⟨b3, off3, op', rfl, hb3, hin3, d1'⟩ := hN'.first h0'
            have hu0' := treeF_pos h0'
            have HPN : Hid (pn = decide (op' = 9)) := Lib.hid (by rw [← hin', hin3])
            clear hin' hin3 h0' hu' hN' hS' hb'
            have k7 : (j : Int) + 1 - 1 = (j : Int) := by omega
            have k8 : IntKind.i64.wrap (j : Int) = (j : Int) := IntWalk.i64_in _ (by omega)
            by_cases h9 : op = 9
            · subst h9
              by_cases h9' : op' = 9
              · subst h9'
                have HR := Lib.hid (HA.out.two HU.out H0.out (by rw [HPN.out, HIN.out]; rfl))
                go_wp2_with (go_at_call 41; refine HCK.out.mono ?_; rintro e w1 ⟨rfl, hB1⟩; have e0 := (hB1.cell (p := ⟨b, off + (j + 1), none⟩) hb).trans hc; have e1 := (hB1.cell (p := ⟨b2, off2, none⟩) hb2).trans d1; have e2 := (hB1.cell (p := ⟨b, off + j, none⟩) hb).trans hc'; have e3 := (hB1.cell (p := ⟨b3, off3, none⟩) hb3).trans d1')
                go_ret2
                exact AllTo.of HR.out rfl (hB.trans (hB1.mono hsz))
              · have h9b : (op' == 9) = false := by simpa using h9'
                have HNX := Lib.hid (HA.out.next HU.out H0.out (by rw [HPN.out, decide_eq_false h9']; rfl))
                go_wp2_with (go_at_call 41; refine HCK.out.mono ?_; rintro e w1 ⟨rfl, hB1⟩; have e0 := (hB1.cell (p := ⟨b, off + (j + 1), none⟩) hb).trans hc; have e1 := (hB1.cell (p := ⟨b2, off2, none⟩) hb2).trans d1; have e2 := (hB1.cell (p := ⟨b, off + j, none⟩) hb).trans hc'; have e3 := (hB1.cell (p := ⟨b3, off3, none⟩) hb3).trans d1')
                go_roundw
                case measure => simp [intOf]; omega
                case rel => exact ⟨j + 1 + 1, _, by omega, by go_num, HNX.out, hB.trans (hB1.mono hsz)⟩
            · have h9b : (op == 9) = false := by simpa using h9
              have HNX := Lib.hid (HA.out.next HU.out H0.out (by rw [HIN.out, decide_eq_false h9, Bool.and_false]))
              go_wp2_with (go_at_call 41; refine HCK.out.mono ?_; rintro e w1 ⟨rfl, hB1⟩; have e0 := (hB1.cell (p := ⟨b, off + (j + 1), none⟩) hb).trans hc; have e1 := (hB1.cell (p := ⟨b2, off2, none⟩) hb2).trans d1; have e2 := (hB1.cell (p := ⟨b, off + j, none⟩) hb).trans hc'; have e3 := (hB1.cell (p := ⟨b3, off3, none⟩) hb3).trans d1')
              go_roundw
              case measure => simp [intOf]; omega
              case rel => exact ⟨j + 1 + 1, _, by omega, by go_num, HNX.out, hB.trans (hB1.mono hsz)⟩
        · have HCK := Lib.hid (tcheck_bad u Ak ck wr hN hS (HM.out.past hB) h0)
          have HR := Lib.hid (HA.out.bad HU.out h0)
          have HEV := Lib.hid (errV_pos h0)
          clear h0 hN hS
          go_wp2_with (go_at_call 41; refine HCK.out.mono ?_; rintro e w1 ⟨rfl, hB1⟩)
          go_ret2
          exact AllTo.of HR.out HEV.out (hB.trans (hB1.mono hsz))
      · have HR : Hid (progF p = (0, 0)) := Lib.hid (by rw [HA.out.1, progK_end (by omega)])
        go_wp2
        go_ret2
        exact AllTo.of HR.out rfl hB

end Go.Proofs.YtddfdmopaeghnacGreatDoor
