/- Walk of the law WayIs: it returns true (over way.Of's contract). Conditions: both slices lie below the call's own blocks; errors.errorType reads as the program's text lays it. -/
import Derived.Test.YtddfdmopaeghnabDoorAllR
import Derived.Test.YtddfdmopaeghnabDoorAllW
import Derived.Test.YtddfdmopaeghnabDoorLayU
import Derived.Test.YtddfdmopaeghnabDoorRefF
import Derived.Test.YtddfdmopaeghnabDoorTold
import Derived.Test.YtddfdmopaeghnabDoorErrW
namespace Go.Proofs.YtddfdmopaeghnabDoor
open Go.RowKit

theorem wp_namedV {P : Program} {c : Code} {Q : Exit → Act → World → Prop} {a : Act} {w : World} (S : World → Prop) (hS : S w) (h : ∀ w', S w' → Code.wp P c Q a w') : Code.wp P c Q a w := h w hS

theorem D.lay_ne {x : D} : ∀ {dp : Int} {w : List Int} {k : Int}, x.lay dp w = .error k → k ≠ 0 := by
  induction x with
  | leaf d => intro dp w k h; simp only [D.lay] at h; split at h; · cases h
              · split at h <;> cases h
  | un d a ih =>
    intro dp w k h
    simp only [D.lay] at h
    split at h
    · exact ih h
    · cases w with
      | nil => cases h; decide
      | cons c w =>
        simp only at h
        split at h
        · split at h
          · cases h
          · cases h; decide
        · exact ih h
  | bin d a b ia ib =>
    intro dp w k h
    simp only [D.lay] at h
    split at h
    · split at h
      · rename_i e he
        cases h
        exact ia he
      · rename_i s w' he
        split at h
        · rename_i e he2
          cases h
          exact ib he2
        · cases h
    · cases w with
      | nil => cases h; decide
      | cons c w =>
        simp only at h
        split at h
        · exact ia h
        · exact ib h
theorem showD_ne {x : D} {ws : List Int} {k : Int} (h : showD x ws = .error k) : k ≠ 0 := by
  unfold showD at h
  split at h
  · rename_i e he
    cases h
    exact D.lay_ne he
  · cases h
  · cases h; decide

/-- way.Show of a doc that may be says what the reference says. -/
theorem show_ref (hof : OfSaid) {l : List Nd} {x : D} (hd : Doc l x) (A : Option Addr) (n c : Nat) (hn : l.length = n) (ws : List Int) (M : Option Addr) (m cm : Nat) (hm : ws.length = m) (hcm : m ≤ cm) (w : World) (hl : Nds w w.heap.size A l) (hM : NumsI w w.heap.size M ws) :
    Calls Tryd.prog 22 #[.slice A n c, .slice M m cm] w (Ret w (.tuple #[.string (showRef x ws).1, errV (showRef x ws).2])) := by
  by_cases hb : badBit ws = true
  · refine (show_bit l A n c hn ws M m cm hm w hl hM hd.check hb).mono ?_
    rintro e w' ⟨rfl, h⟩
    refine ⟨?_, h⟩
    simp only [showRef, if_pos hb]
    rfl
  · have hb' : badBit ws = false := by simpa using hb
    refine (show_good hof hd A n c hn ws M m cm hm hcm w hl hM hb').mono ?_
    rintro e w' ⟨rfl, h⟩
    refine ⟨?_, h⟩
    simp only [showRef, if_neg hb]
    cases hs : showD x ws with
    | ok s => rfl
    | error k => simp only [errV_pos (showD_ne hs)]

theorem rowsI_nil (w : World) : RowsI w w.heap.size none [] := ⟨⟨[], ⟨rfl, fun h => by simp at h⟩, fun j v h => by simp at h⟩, by simp⟩

set_option maxRecDepth 100000 in
set_option maxHeartbeats 4000000 in
theorem wayIs_any (hof : OfSaid) (a : List Nd) (ws : List Int) (A M : Option Addr) (c cm : Nat) (w : World) (ha : Nds w w.heap.size A a) (hM : NumsI w w.heap.size M ws) (hcm : ws.length ≤ cm) (ht : ErrT w) (hg : 0 + 1 ≤ w.heap.size) :
    Calls Tryd.prog 8 #[.slice A a.length c, .slice M ws.length cm] w (Ret w (.bool true)) := by
  have HT : Hid (∀ w' : World, Below w.heap.size w w' → ErrT w' ∧ 0 + 1 ≤ w'.heap.size) := Lib.hid (fun w' hb => ⟨ht.past hg hb, Nat.le_trans hg hb.size⟩)
  have HA := Lib.hid ha; have HM := Lib.hid hM
  have HB : Hid (Below w.heap.size w w) := Lib.hid (Below.refl _ _)
  have HF := Lib.hid (fun (w' : World) h => docfault_any a A c w' h)
  clear ha hM ht
  by_cases he : checkF a = 0
  case neg =>
    have HSB : Hid (∀ w' : World, Nds w' w'.heap.size A a → Calls Tryd.prog 22 #[.slice A a.length c, .slice M ws.length cm] w' (Ret w' (.tuple #[.string .empty, .iface 24 (.int .i64 (checkF a))]))) := Lib.hid (fun (w' : World) h => (show_bad a A a.length c rfl M ws.length cm w' h he).mono (fun _ _ h => h))
    have HAB := Lib.hid (fun (w' : World) h => all_bad a A a.length c rfl w' h he)
    have k1 : (checkF a == 0) = false := by simpa using he
    have HES := Lib.hid (fun (w' : World) h1 h2 => error_same (checkF a) he w' h1 h2)
    have HWS := Lib.hid (fun (w' : World) => ways_any [] [] 0 0 rfl rfl none none 0 0 w' (rowsI_nil w') (rowsI_nil w'))
    generalize checkF a = q at *
    clear he
    go_enter Tryd.func8, Tryd.ntmps8
    go_wp2_with (first
      | (go_at_call 23; refine (HF.out _ (HA.out.past HB.out)).mono ?_; rintro e w1 ⟨rfl, hB⟩; have HB := Lib.hid (HB.out.trans (hB.mono HB.out.size)); clear hB)
      | (go_at_call 22; refine (HSB.out _ (HA.out.past HB.out)).mono ?_; rintro e w1 ⟨rfl, hB⟩; have HB := Lib.hid (HB.out.trans (hB.mono HB.out.size)); clear hB)
      | (go_at_call 31; refine (HAB.out _ (HA.out.past HB.out)).mono ?_; rintro e w1 ⟨rfl, hB⟩; have HB := Lib.hid (HB.out.trans (hB.mono HB.out.size)); clear hB)
      | (go_at_call 13; refine (HES.out _ (HT.out _ HB.out).1 (HT.out _ HB.out).2).mono ?_; rintro e w1 ⟨rfl, hB⟩; have HB := Lib.hid (HB.out.trans (hB.mono HB.out.size)); clear hB)
      | (go_at_call 32; refine (HWS.out _).mono ?_; rintro e w1 ⟨rfl, hB⟩; have HB := Lib.hid (HB.out.trans (hB.mono HB.out.size)); clear hB))
    go_ret
    exact ⟨rfl, HB.out⟩
  obtain ⟨x, da⟩ := Doc.of_check he
  rw [he] at HF
  have HSO := Lib.hid (fun (w' : World) h1 h2 => showof_any da A a.length c rfl ws M ws.length cm rfl hcm w' h1 h2)
  have HSH := Lib.hid (fun (w' : World) h1 h2 => show_ref hof da A a.length c rfl ws M ws.length cm rfl hcm w' h1 h2)
  have HAO := Lib.hid (fun (w' : World) h => allof_any da A a.length c rfl w' h)
  have HAL := Lib.hid (fun (w' : World) h => all_good hof da A a.length c rfl w' h)
  have HES : Hid (∀ w' : World, ErrT w' → 0 + 1 ≤ w'.heap.size → Calls Tryd.prog 13 #[errV (showRef x ws).2, .int .i64 (showRef x ws).2] w' (Ret w' (.bool true))) := Lib.hid (fun (w' : World) h1 h2 => by
    have h := same_error (showRef x ws).2 (showRef x ws).2 w' h1 h2
    rwa [beq_self_eq_true] at h)
  have HWW : Hid (∀ (A1 A2 : Option Addr) (c1 c2 : Nat) (w' : World), RowsI w' w'.heap.size A1 x.ways → RowsI w' w'.heap.size A2 x.ways → Calls Tryd.prog 32 #[.slice A1 x.ways.length c1, .slice A2 x.ways.length c2] w' (Ret w' (.bool true))) := Lib.hid (fun A1 A2 c1 c2 w' h1 h2 => by
    have h := ways_any x.ways x.ways _ _ rfl rfl A1 A2 c1 c2 w' h1 h2
    rwa [decide_eq_true rfl] at h)
  have HWN := Lib.hid (fun (w' : World) => ways_any [] [] 0 0 rfl rfl none none 0 0 w' (rowsI_nil w') (rowsI_nil w'))
  generalize (showRef x ws).1 = S1 at *
  generalize (showRef x ws).2 = q at *
  generalize x.ways = W at *
  clear da he hof
  go_enter Tryd.func8, Tryd.ntmps8
  go_upto_region 8 with (first
    | (go_at_call 23; refine (HF.out _ (HA.out.past HB.out)).mono ?_; rintro e w1 ⟨rfl, hB⟩; have HB := Lib.hid (HB.out.trans (hB.mono HB.out.size)); clear hB)
    | (go_at_call 29; refine (HSO.out _ (HA.out.past HB.out) (HM.out.past HB.out)).mono ?_; rintro e w1 ⟨rfl, hB⟩; have HB := Lib.hid (HB.out.trans (hB.mono HB.out.size)); clear hB)
    | (go_at_call 30; refine (HAO.out _ (HA.out.past HB.out)).mono ?_; rintro e w1 ⟨hB, hres⟩; have HB := Lib.hid (HB.out.trans (hB.mono HB.out.size)); clear hB; rcases hres with ⟨hlen, A1, c1, rfl, hc1, hri⟩ | ⟨hlen, rfl⟩))
  · have HRI := Lib.hid hri
    clear hri
    go_upto_region 16 with (first
      | (go_at_call 22; refine (HSH.out _ (HA.out.past HB.out) (HM.out.past HB.out)).mono ?_; rintro e w2 ⟨rfl, hB⟩; have HB := Lib.hid (HB.out.trans (hB.mono HB.out.size)); have HRI := Lib.hid (HRI.out.past hB); clear hB)
      | (go_at_call 13; refine (HES.out _ (HT.out _ HB.out).1 (HT.out _ HB.out).2).mono ?_; rintro e w2 ⟨rfl, hB⟩; have HB := Lib.hid (HB.out.trans (hB.mono HB.out.size)); have HRI := Lib.hid (HRI.out.past hB); clear hB)
      | (go_at_call 31; refine (HAL.out _ (HA.out.past HB.out)).mono ?_; rintro e w2 ⟨hB, hres⟩; have HB := Lib.hid (HB.out.trans (hB.mono HB.out.size)); have HRI := Lib.hid (HRI.out.past hB); clear hB; rcases hres with ⟨hlen2, A2, c2, rfl, hri2⟩ | ⟨hlen2, rfl⟩))
    · have HR2 := Lib.hid hri2
      clear hri2
      go_wp2_with (first
        | (go_at_call 13; refine (error_nil _ (HT.out _ HB.out).1 (HT.out _ HB.out).2).mono ?_; rintro e w3 ⟨rfl, hB⟩; have HB := Lib.hid (HB.out.trans (hB.mono HB.out.size)); have HRI := Lib.hid (HRI.out.past hB); have HR2 := Lib.hid (HR2.out.past hB); clear hB)
        | (go_at_call 32; refine (HWW.out _ _ _ _ _ HR2.out HRI.out).mono ?_; rintro e w4 ⟨rfl, hB⟩; have HB := Lib.hid (HB.out.trans (hB.mono HB.out.size)); clear hB))
      go_ret
      exact ⟨rfl, HB.out⟩
    · exact absurd hlen (by omega)
  · have HRI : Hid (RowsI w1 w1.heap.size none []) := Lib.hid (rowsI_nil w1)
    go_upto_region 16 with (first
      | (go_at_call 22; refine (HSH.out _ (HA.out.past HB.out) (HM.out.past HB.out)).mono ?_; rintro e w2 ⟨rfl, hB⟩; have HB := Lib.hid (HB.out.trans (hB.mono HB.out.size)); have HRI := Lib.hid (HRI.out.past hB); clear hB)
      | (go_at_call 13; refine (HES.out _ (HT.out _ HB.out).1 (HT.out _ HB.out).2).mono ?_; rintro e w2 ⟨rfl, hB⟩; have HB := Lib.hid (HB.out.trans (hB.mono HB.out.size)); have HRI := Lib.hid (HRI.out.past hB); clear hB)
      | (go_at_call 31; refine (HAL.out _ (HA.out.past HB.out)).mono ?_; rintro e w2 ⟨hB, hres⟩; have HB := Lib.hid (HB.out.trans (hB.mono HB.out.size)); have HRI := Lib.hid (HRI.out.past hB); clear hB; rcases hres with ⟨hlen2, A2, c2, rfl, hri2⟩ | ⟨hlen2, rfl⟩))
    · exact absurd hlen (by omega)
    · go_wp2_with (first
        | (go_at_call 13; refine (error_same 3 (by decide) _ (HT.out _ HB.out).1 (HT.out _ HB.out).2).mono ?_; rintro e w3 ⟨rfl, hB⟩; have HB := Lib.hid (HB.out.trans (hB.mono HB.out.size)); clear hB)
        | (go_at_call 32; refine (HWN.out _).mono ?_; rintro e w4 ⟨rfl, hB⟩; have HB := Lib.hid (HB.out.trans (hB.mono HB.out.size)); clear hB))
      go_ret
      exact ⟨rfl, HB.out⟩
end Go.Proofs.YtddfdmopaeghnabDoor
