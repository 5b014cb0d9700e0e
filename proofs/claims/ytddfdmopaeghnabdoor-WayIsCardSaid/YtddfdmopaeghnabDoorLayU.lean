/- Walk of the reference's ShowOf. Conditions: both slices lie below the call's own blocks; the slice of nodes is a doc that may be. -/
import Derived.Test.YtddfdmopaeghnabDoorLayV
namespace Go.Proofs.YtddfdmopaeghnabDoor
open Go.RowKit

theorem badR_more {ws : List Int} {k : Nat} (ha : badBit (ws.take k) = false) (hk : k < ws.length) {v : Int} (hv : ws[k] = v) (h : v = 0 ∨ v = 1) : badBit (ws.take (k + 1)) = false := by
  unfold badBit at ha ⊢
  rw [List.take_succ_eq_append_getElem hk, List.any_append, ha, hv]
  rcases h with rfl | rfl <;> rfl
theorem badR_yes {ws : List Int} {k : Nat} (hk : k < ws.length) {v : Int} (hv : ws[k] = v) (h : v ≠ 0 ∧ v ≠ 1) : badBit ws = true := by
  unfold badBit
  rw [List.any_eq_true]
  exact ⟨ws[k], List.getElem_mem hk, by rw [hv]; exact decide_eq_true h⟩
theorem bitsR_of {ws : List Int} (h : badBit ws = false) : Bits ws := by
  intro c hc
  unfold badBit at h
  rw [List.any_eq_false] at h
  have := h c hc
  simp at this
  by_cases h0 : c = 0
  · exact .inl h0
  · exact .inr (this h0)

/-- A way's text and fault as the reference has them. -/
def showRef (x : D) (ws : List Int) : ByteArray × Int := if badBit ws = true then (.empty, 1) else match showD x ws with
  | .ok s => (s, 0)
  | .error k => (.empty, k)
theorem Lay.new {A : Option Addr} {c : Nat} {l : List Nd} {M : Option Addr} {cm : Nat} {ws : List Int} {w : World} (hl : Nds w w.heap.size A l) (hM : NumsI w w.heap.size M ws) (hcm : ws.length ≤ cm) :
    Lay w.heap.size A c l ws .empty (w.alloc (.cells #[.slice A l.length c, .slice M ws.length cm, .string .empty, .int .i64 0] 120)) :=
  ⟨⟨M, cm, heap_new rfl, hM.under ((Below.refl _ _).alloc (Nat.le_refl _) _) (Nat.le_refl _), hcm⟩, hl.under_ ((Below.refl _ _).alloc (Nat.le_refl _) _) (Nat.le_refl _)⟩

set_option maxRecDepth 100000 in
set_option maxHeartbeats 4000000 in
theorem showof_any {l : List Nd} {x : D} (hd : Doc l x) (A : Option Addr) (n c : Nat) (hn : l.length = n) (ws : List Int) (M : Option Addr) (m cm : Nat) (hm : ws.length = m) (hcm : m ≤ cm) (w : World) (hl : Nds w w.heap.size A l) (hM : NumsI w w.heap.size M ws) :
    Calls Tryd.prog 29 #[.slice A n c, .slice M m cm] w (Ret w (.tuple #[.string (showRef x ws).1, .int .i64 (showRef x ws).2])) := by
  subst hn hm
  have hm63 := hM.2
  unfold maxLen at hm63
  have h400 := hd.len
  have hp0 := hd.pos
  have hs0 : (docAt l 0).sz = l.length := by rw [hd.root, hd.szx]
  have hrt := hd.root
  have HM := Lib.hid hM; have HN := Lib.hid hl; have HD := Lib.hid hd
  obtain ⟨r, hr⟩ : ∃ r, showRef x ws = r := ⟨_, rfl⟩
  have HR := Lib.hid hr
  rw [hr]
  clear hl hM hd hr
  go_enter Tryd.func29, Tryd.ntmps29
  go_wp2_with fail
  go_loop [6] (fun i => ∃ k : Nat, k ≤ ws.length ∧ i = .int .i64 k ∧ badBit (ws.take k) = false) (fun i => ws.length - (intOf i).toNat)
  case atStart => exact ⟨0, by omega, rfl, rfl⟩
  case round =>
    obtain ⟨k, hk, rfl, ha⟩ := hrel
    have HA := Lib.hid ha; clear ha
    by_cases hlt : k < ws.length
    · obtain ⟨b, off, v, rfl, hb, hv, hcell⟩ := HM.out.one (Below.refl _ _) hlt
      have HV := Lib.hid hv; clear hv
      by_cases h0 : v = 0
      · subst h0
        have HG := Lib.hid (badR_more HA.out hlt HV.out (.inl rfl))
        go_wp2
        go_round
        case rel => exact ⟨k + 1, by omega, by go_num, HG.out⟩
        case measure => simp [intOf]; omega
      · by_cases h1 : v = 1
        · subst h1
          have HG := Lib.hid (badR_more HA.out hlt HV.out (.inr rfl))
          go_wp2
          go_round
          case rel => exact ⟨k + 1, by omega, by go_num, HG.out⟩
          case measure => simp [intOf]; omega
        · have k1 : (v != 0) = true := by simpa using h0
          have k2 : (v != 1) = true := by simpa using h1
          have HBY : Hid (r = (.empty, 1)) := Lib.hid (by rw [← HR.out, showRef, if_pos (badR_yes hlt HV.out ⟨h0, h1⟩)])
          clear h0 h1
          go_wp2
          go_ret2
          exact ⟨by rw [HBY.out]; rfl, (by repeat (first | exact Below.refl _ _ | assumption | apply Below.drew | refine below_drewN ?_ _ | apply Below.setCell _ (by first | omega | (simp; done) | (simp; omega)) | apply Below.alloc _ (by first | omega | (simp; done) | (simp; omega))))⟩
    · have hbb : badBit ws = false := by
        have := HA.out
        rwa [List.take_of_length_le (by omega)] at this
      have HBT := Lib.hid (bitsR_of hbb)
      have hr2 : r = (match showD x ws with | .ok s => (s, 0) | .error k => (.empty, k)) := by
        rw [← HR.out, showRef, if_neg (by rw [hbb]; decide)]
      have hla := fun (g : Nat) => lay_any HD.out g A c l.length
      have HLA := Lib.hid hla
      have HNE := Lib.hid (Lay.new (c := c) HN.out HM.out (cm := cm))
      unfold showD at hr2
      rw [← hrt] at hr2
      have HLC : Hid (∀ w' : World, Lay w.heap.size A c l ws .empty w' → Calls Tryd.prog 61 #[.pointer (some ⟨w.heap.size, 0, none⟩), .int .i64 0, .int .i64 0] w' (LayTo w.heap.size A c l .empty ((docAt l 0).lay 0 ws) w')) := Lib.hid (fun w' h => HLA.out w.heap.size 0 0 0 0 ws .empty w' rfl rfl hp0 (by omega) h HBT.out (by omega) (by show 0 + _ ≤ _; omega))
      generalize (docAt l 0).lay 0 ws = q at *
      clear hbb hla HLA
      cases q with
      | error k =>
        simp only at hr2
        have HR2 := Lib.hid hr2
        clear hr2
        go_wp2_with (go_at_call 61; refine (HLC.out _ (HNE.out hcm)).mono ?_; rintro e w1 ⟨rfl, hB, h1, h2⟩; have HE1 := Lib.hid (h2 k rfl); obtain ⟨c0, c3⟩ := HE1.out.cells; have hk0 : (k != 0) = true := (by simpa using HE1.out.ne); have hk1 : (k == 0) = false := (by simpa using HE1.out.ne); clear h1 h2)
        go_region
        all_goals
          go_wp2
          go_ret2
          exact ⟨by rw [HR2.out]; rfl, (((Below.refl _ _).alloc (Nat.le_refl _) _).trans hB).trans (below_drewN (Below.refl _ _) 1)⟩
      | ok p =>
        obtain ⟨s, rest⟩ := p
        cases rest with
        | nil =>
          simp only at hr2
          have HR2 := Lib.hid hr2
          clear hr2
          go_wp2_with (go_at_call 61; refine (HLC.out _ (HNE.out hcm)).mono ?_; rintro e w1 ⟨rfl, hB, h1, h2⟩; have HE1 := Lib.hid (h1 s [] rfl); obtain ⟨WA, WC, hk1, -, -⟩ := HE1.out.blk; obtain ⟨c0, c2, c3, -, -⟩ := HE1.out.cells; have c1 : w1.cell? ⟨w.heap.size, 1, none⟩ = some (.slice WA 0 WC) := (by rw [Lib.cell_of_heap hk1]; rfl); clear h1 h2 hk1)
          go_ret2
          exact ⟨by rw [HR2.out]; rfl, ((Below.refl _ _).alloc (Nat.le_refl _) _).trans hB⟩
        | cons v rest =>
          simp only at hr2
          have HR2 := Lib.hid hr2
          clear hr2
          go_wp2_with (go_at_call 61; refine (HLC.out _ (HNE.out hcm)).mono ?_; rintro e w1 ⟨rfl, hB, h1, h2⟩; have HE1 := Lib.hid (h1 s (v :: rest) rfl); obtain ⟨WA, WC, hk1, hk2, -⟩ := HE1.out.blk; obtain ⟨c0, c2, c3, -, f3⟩ := HE1.out.cells; have hz := hk2.2; unfold maxLen at hz; simp only [List.length_cons] at hz; have c1 : w1.cell? ⟨w.heap.size, 1, none⟩ = some (.slice WA (rest.length + 1) WC) := (by rw [Lib.cell_of_heap hk1]; rfl); clear h1 h2 hk1 hk2)
          have hE3 := HE1.out.fault (e := 2) (by decide)
          obtain ⟨e0, e3⟩ := hE3.cells
          clear hE3
          go_region
          all_goals
            go_wp2
            go_ret2
            exact ⟨by rw [HR2.out]; rfl, ((((Below.refl _ _).alloc (Nat.le_refl _) _).trans hB).trans (set_belowG _ _ _ _)).trans (below_drewN (Below.refl _ _) 1)⟩
end Go.Proofs.YtddfdmopaeghnabDoor
