/- Walk of the law WayShows: it returns true (over way.Of's contract). Conditions: the slices lie below the call's own blocks. -/
import Derived.Test.YtddfdmopaeghnaaAllW
import Derived.Test.YtddfdmopaeghnaaAheadQ
namespace Go.Proofs.Ytddfdmopaeghnaa
open Go.RowKit

def nd8 : Nd := ⟨8, .empty, 0⟩
theorem Doc.grpL : Doc [nd8, ndL] (.un nd8 (.leaf ndL)) :=
  ⟨⟨rfl, Doc.leafL.ok⟩, by rw [D.enc, ← Doc.leafL.enc], fun d hd => by
    rcases List.mem_cons.1 hd with rfl | hd
    · decide +kernel
    · exact Doc.leafL.one _ hd, by simp⟩
theorem ways_grpL : (D.un nd8 (.leaf ndL)).ways = [[1]] := by rfl

theorem bad_of_bits {ws : List Int} (h : Bits ws) : badBit ws = false := by
  unfold badBit
  rw [List.any_eq_false]
  intro c hc
  rcases h c hc with rfl | rfl <;> decide
theorem shown_way {l : List Nd} {x : D} (hd : Doc l x) {u : List Int} (hu : u ∈ x.ways) : ∃ s, Shown l x u s := by
  obtain ⟨s, hs⟩ := D.lay_way (dp := 0) hu
  exact ⟨s, Shown.of hd (bad_of_bits (D.ways_bits u hu)) hs⟩
theorem ways_in {l : List Nd} {x : D} (hd : Doc l x) {ws : List Int} {s : ByteArray} (h : showF l ws = .ok s) : Shown l x ws s ∧ ws ∈ x.ways := by
  obtain ⟨y, hy⟩ := showF_ok h
  have hxy : y = x := by rw [← hd.root, ← hy.doc.root]
  subst hxy
  obtain ⟨u, hu, he, _⟩ := D.way_of (bits_of hy.bits) hy.lay
  rw [List.append_nil] at he
  exact ⟨hy, he ▸ hu⟩
theorem ways_out {l : List Nd} {x : D} (hd : Doc l x) {ws : List Int} {q : Int} (h : showF l ws = .error q) : ws ∉ x.ways := fun hu => by
  obtain ⟨s, hs⟩ := shown_way hd hu
  rw [hs.showF_] at h
  cases h

theorem RowsI.lit1 (w : World) (g g' : Nat) (hg : w.heap.size = g) (hg' : w.heap.size + 1 = g') :
    RowsI ((w.alloc (.cells #[.int .i64 1] 3)).alloc (.cells #[.slice (some ⟨g, 0, none⟩) 1 1] 35)) ((w.alloc (.cells #[.int .i64 1] 3)).alloc (.cells #[.slice (some ⟨g, 0, none⟩) 1 1] 35)).heap.size (some ⟨g', 0, none⟩) [[1]] := by
  subst hg hg'
  have h0 : NumsI (w.alloc (.cells #[.int .i64 1] 3)) (w.alloc (.cells #[.int .i64 1] 3)).heap.size (some ⟨w.heap.size, 0, none⟩) [1] := ⟨Sl.lit (sz := 1) w #[.int .i64 1] 3 1 rfl, by simp [maxLen]⟩
  have h1 := Sl.lit (sz := 1) (w.alloc (.cells #[.int .i64 1] 3)) #[.slice (some ⟨w.heap.size, 0, none⟩) 1 1] 35 1 rfl
  refine ⟨⟨[.slice (some ⟨w.heap.size, 0, none⟩) 1 1], by simpa using h1, fun j v hv => ?_⟩, by simp [maxLen]⟩
  cases j with
  | zero =>
    simp at hv
    subst hv
    exact ⟨_, 1, [1], rfl, rfl, Nat.le_refl _, h0.past ((Below.refl _ _).alloc (Nat.le_refl _) _)⟩
  | succ j => simp at hv

theorem take_mem {L : List (List Int)} {k : Nat} {u ws : List Int} (hu : L[k]? = some u) : (ws ∈ L.take (k + 1)) ↔ (ws ∈ L.take k ∨ u = ws) := by
  obtain ⟨hk, he⟩ := List.getElem?_eq_some_iff.1 hu
  rw [List.take_succ_eq_append_getElem hk, List.mem_append, he]
  simp [eq_comm]
theorem rise_at {x : D} {k : Nat} {u v : List Int} (hu : x.ways[k]? = some u) (hv : x.ways[k + 1]? = some v) : aheadL u v = true := by
  obtain ⟨h1, rfl⟩ := List.getElem?_eq_some_iff.1 hu
  obtain ⟨h2, rfl⟩ := List.getElem?_eq_some_iff.1 hv
  exact List.pairwise_iff_getElem.1 D.ways_rise k (k + 1) h1 h2 (by omega)

/-- The fact the law begins with. -/
theorem fact_all (hof : OfSaid) (w : World) (A : Option Addr) (hl : Nds w w.heap.size A [nd8, ndL]) :
    Calls Try.prog 16 #[.slice A 2 2] w fun e w' => ∃ A' c', e = .returned (.tuple #[.slice A' 1 c', .nilIface]) ∧ RowsI w' w'.heap.size A' [[1]] ∧ Below w.heap.size w w' :=
  (all_good hof Doc.grpL A 2 2 rfl w hl).mono fun e w' ⟨hb, h⟩ => by
    rw [ways_grpL] at h
    rcases h with ⟨_, A', c', he, hr⟩ | ⟨h, _⟩
    · exact ⟨A', c', he, hr, hb⟩
    · simp at h

set_option maxRecDepth 100000 in
set_option maxHeartbeats 8000000 in
theorem wayShows_any (hof : OfSaid) (a : List Nd) (u : List Int) (A U : Option Addr) (c cu : Nat) (w : World) (ha : Nds w w.heap.size A a) (hu : NumsI w w.heap.size U u) (hcu : u.length ≤ cu) :
    Calls Try.prog 7 #[.slice A a.length c, .slice U u.length cu] w (Ret w (.bool true)) := by
  have hD1 : nd8.text.size ≤ maxLen := by decide +kernel
  have hL1 : ndL.text.size ≤ maxLen := by decide +kernel
  have L1 := Lib.hid (Nds.lit2 w nd8 ndL w.heap.size rfl hD1 hL1)
  clear hD1 hL1
  have HOF := Lib.hid hof
  have HA := Lib.hid ha; have HU := Lib.hid hu
  have hla := HA.out.2.1
  have hlu := HU.out.2
  unfold maxLen at hla hlu
  clear ha hu hof
  go_enter Try.func7, Try.ntmps7
  go_wp2_with fail
  refine (fact_all HOF.out _ _ L1.out).mono ?_
  rintro e w1 ⟨A1, c1, rfl, hr1, hB1⟩
  have hB1' : Below w.heap.size w w1 := ((Below.refl _ _).alloc (Nat.le_refl _) _).trans (hB1.mono (by simp))
  have HR1 := Lib.hid hr1
  clear hB1 L1 hr1
  go_wp2_with fail
  refine (ways_any [[1]] [[1]] 1 1 rfl rfl A1 _ c1 1 _ (HR1.out.past (((Below.refl _ _).alloc (Nat.le_refl _) _).alloc (by simp) _)) (RowsI.lit1 w1 _ _ rfl rfl)).mono ?_
  rintro e w2 ⟨rfl, hB2⟩
  have hB2' : Below w.heap.size w w2 := hB1'.trans ((((Below.refl _ _).alloc (Nat.le_refl _) _).alloc (by simp) _ |>.trans (hB2.mono (by simp; omega))).mono hB1'.size)
  clear hB2 hB1' HR1
  rw [show (decide (([[1]] : List (List Int)) = [[1]])) = true from rfl]
  by_cases ea : checkF a = 0
  · obtain ⟨x, da⟩ := Doc.of_check ea
    have DA := Lib.hid da
    have h4a := da.len
    have hne := D.ways_ne (x := x)
    clear ea da
    go_wp2_with fail
    refine (all_good HOF.out DA.out A a.length c rfl _ (HA.out.past hB2')).mono ?_
    rintro e w3 ⟨hB3, h3⟩
    have hB3' := hB2'.trans (hB3.mono hB2'.size)
    rcases h3 with ⟨h300, A3, c3, rfl, hr3⟩ | ⟨h300, rfl⟩
    · have HR3 := Lib.hid hr3
      have HA3 := Lib.hid (HA.out.past hB3')
      have HU3 := Lib.hid (HU.out.past hB3')
      have hpos : 0 < x.ways.length := List.length_pos_iff.2 hne
      have k1 : decide (x.ways.length = 0) = false := decide_eq_false (by omega)
      have k2 : decide ((x.ways.length : Int) = 0) = false := decide_eq_false (by omega)
      have k5 : ((x.ways.length : Int) == 0) = false := by rw [beq_eq_false_iff_ne]; omega
      have HW : Hid (∀ k v, x.ways[k]? = some v → ∃ s, Shown a x v s) := Lib.hid (fun k v hv => shown_way DA.out (List.mem_of_getElem? hv))
      have HRISE : Hid (∀ k v z, x.ways[k]? = some v → x.ways[k + 1]? = some z → aheadL v z = true) := Lib.hid (fun k v z h1 h2 => rise_at h1 h2)
      have HIN : Hid (∀ s, showF a u = .ok s → Shown a x u s ∧ u ∈ x.ways) := Lib.hid (fun s h => ways_in DA.out h)
      have HOUT : Hid (∀ q, showF a u = .error q → u ∉ x.ways) := Lib.hid (fun q h => ways_out DA.out h)
      clear hr3 hB3 hB2' hne
      generalize x.ways = LW at *
      go_wp2_with fail
      go_loopw [10] (fun s10 wr => ∃ k : Nat, k ≤ LW.length ∧ s10 = .int .i64 k ∧ Below w3.heap.size w3 wr) (fun s10 _ => LW.length - (intOf s10).toNat)
      case atStart => exact ⟨0, Nat.zero_le _, rfl, Below.refl _ _⟩
      case round =>
        obtain ⟨k, hk, rfl, hBw⟩ := hrel
        by_cases hlt : k < LW.length
        · obtain ⟨b1, off, Aj, cj, v, rfl, hv, d1, hcj, hn1⟩ := HR3.out.one hBw hlt
          obtain ⟨sv, hsv⟩ := HW.out k v hv
          have HSV := Lib.hid hsv; have HN1 := Lib.hid hn1; have HV := Lib.hid hv
          clear hsv hn1 hv
          go_wp2_with fail
          refine (show_ok HOF.out HSV.out A a.length c rfl Aj v.length cj rfl hcj wr (HA3.out.past hBw) HN1.out).mono ?_
          rintro e w4 ⟨rfl, hB4⟩
          have hB4' := hBw.trans (hB4.mono hBw.size)
          go_upto_region 14 with fail
          cases k with
          | zero =>
            go_quiet (fail)
            go_wp2_with fail
            go_roundw
            case rel => exact ⟨1, by omega, by first | rfl | go_num, below_drewN hB4' _⟩
            case measure => simp [intOf]; omega
          | succ j =>
            obtain ⟨b2, off2, Bj, dj, v2, e2, hv2, d2, hdj, hn2⟩ := HR3.out.one hB4' (k := j) (by omega)
            obtain ⟨b3, off3, Cj, ej, v3, e3, hv3, d3, hej, hn3⟩ := HR3.out.one hB4' hlt
            cases e2; cases e3
            have HRS := Lib.hid (HRISE.out j v2 v3 hv2 hv3)
            have HAH := Lib.hid (fun (q : Nat) => ahead_q v2 v3 v2.length v3.length rfl rfl Bj Cj dj ej (w4.drewN q) (hn2.past (below_drewN (Below.refl _ _) q)) (hn3.past (below_drewN (Below.refl _ _) q)))
            rw [HRS.out] at HAH
            have k3 : decide ((0 : Int) < ((j + 1 : Nat) : Int)) = true := decide_eq_true (by omega)
            have k4 : IntKind.i64.wrap (((j + 1 : Nat) : Int) - 1) = ((j : Nat) : Int) := by have e : (((j + 1 : Nat) : Int) - 1) = ((j : Nat) : Int) := (by omega); rw [e]; exact IntWalk.i64_in _ (by omega)
            have k6 : decide (0 < j + 1) = true := decide_eq_true (by omega)
            have k7 : IntKind.i64.wrap ((j : Int) + 1 - 1) = (j : Int) := by have e : ((j : Int) + 1 - 1) = (j : Int) := (by omega); rw [e]; exact IntWalk.i64_in _ (by omega)
            have k8 : ((j + 1 : Nat) : Int) = (j : Int) + 1 := by omega
            clear hv2 hv3 hn2 hn3 HRS d1
            go_quiet ((go_at_call 18; exact Calls.quiet_of (HAH.out _)))
            clear k3 k4 k6 k7 k8
            go_wp2_with fail
            go_roundw
            case rel => exact ⟨j + 1 + 1, by omega, by first | rfl | go_num, below_drewN hB4' _⟩
            case measure => simp [intOf]; omega
        · have hk5 : (∃ q, showF a u = .error q) ∨ (∃ t, showF a u = .ok t) := by
            cases showF a u with
            | error q => exact .inl ⟨q, rfl⟩
            | ok t => exact .inr ⟨t, rfl⟩
          rcases hk5 with ⟨q, hsb⟩ | ⟨t, hsb⟩
          case' inl =>
            have HMEM := Lib.hid (HOUT.out q hsb)
            have HSB := Lib.hid hsb
            clear hsb
            go_wp2_with fail
            refine (show_no HOF.out HSB.out A a.length c rfl U u.length cu rfl hcu wr (HA3.out.past hBw) (HU3.out.past hBw)).mono ?_
            rintro e w5 ⟨rfl, hB5⟩
          case' inr =>
            obtain ⟨hsh, hmem⟩ := HIN.out t hsb
            have HMEM := Lib.hid hmem
            have HSB := Lib.hid hsh
            clear hsb hsh hmem
            go_wp2_with fail
            refine (show_ok HOF.out HSB.out A a.length c rfl U u.length cu rfl hcu wr (HA3.out.past hBw) (HU3.out.past hBw)).mono ?_
            rintro e w5 ⟨rfl, hB5⟩
          all_goals
            have hB5' := hBw.trans (hB5.mono hBw.size)
            go_wp2_with fail
            go_loopw [15, 16, 17] (fun s15 s16 _ wr => ∃ (k : Nat) (r : Bool), k ≤ LW.length ∧ s16 = .int .i64 k ∧ s15 = .bool r ∧ (r = true ↔ u ∈ LW.take k) ∧ Below w3.heap.size w3 wr) (fun _ s16 _ _ => LW.length - (intOf s16).toNat)
            case atStart => exact ⟨0, false, Nat.zero_le _, rfl, rfl, by simp, hB5'⟩
            case round =>
              rename_i wr
              obtain ⟨m, r, hm, rfl, rfl, hr, hBm⟩ := hrel
              by_cases hlt2 : m < LW.length
              · obtain ⟨b1, off, Aj, cj, v, rfl, hv, d1, hcj, hn1⟩ := HR3.out.one hBm hlt2
                have HTM := Lib.hid (take_mem (ws := u) hv)
                have HRR := Lib.hid hr
                have HIC := Lib.hid (ints_any v u v.length u.length rfl rfl Aj U cj cu wr hn1 (HU3.out.past hBm))
                clear hv hn1 hr
                by_cases hvu : v = u
                · rw [decide_eq_true hvu] at HIC
                  have HVU := Lib.hid hvu
                  clear hvu
                  cases r
                  all_goals
                    go_wp2_with (go_at_call 19; refine HIC.out.mono ?_; rintro e w6 ⟨rfl, hB6⟩)
                    go_roundw
                    case rel => exact ⟨m + 1, true, by omega, by first | rfl | go_num, rfl, by rw [HTM.out]; simp [HVU.out], hBm.trans (hB6.mono hBm.size)⟩
                    case measure => simp [intOf]; omega
                · rw [decide_eq_false hvu] at HIC
                  have HVU := Lib.hid hvu
                  clear hvu
                  cases r
                  all_goals
                    go_wp2_with (go_at_call 19; refine HIC.out.mono ?_; rintro e w6 ⟨rfl, hB6⟩)
                    go_roundw
                    case rel => exact ⟨m + 1, _, by omega, by first | rfl | go_num, rfl, by rw [HTM.out, ← HRR.out]; simp [HVU.out], hBm.trans (hB6.mono hBm.size)⟩
                    case measure => simp [intOf]; omega
              · have hall : LW.take m = LW := List.take_of_length_le (by omega)
                rw [hall] at hr
                have hrv : (r = true ∧ u ∈ LW) ∨ (r = false ∧ u ∉ LW) := by
                  cases r with
                  | false => exact .inr ⟨rfl, fun h => by have := hr.2 h; cases this⟩
                  | true => exact .inl ⟨rfl, hr.1 rfl⟩
                clear hr
                rcases hrv with ⟨rfl, h⟩ | ⟨rfl, h⟩
                all_goals
                  first
                    | exact absurd HMEM.out h
                    | exact absurd h HMEM.out
                    | (clear h
                       go_wp2_with fail
                       go_ret
                       exact ⟨rfl, hB3'.trans (hBm.mono hB3'.size)⟩)
    · go_wp2_with fail
      go_ret
      exact ⟨rfl, hB3'⟩
  · have EA := Lib.hid ea; clear ea
    go_wp2_with fail
    refine (all_bad a A a.length c rfl _ (HA.out.past hB2') EA.out).mono ?_
    rintro e w3 ⟨rfl, hB3⟩
    have hB3' := hB2'.trans (hB3.mono hB2'.size)
    go_wp2_with fail
    go_ret
    exact ⟨rfl, hB3'⟩
end Go.Proofs.Ytddfdmopaeghnaa
