/- Walk: fill.Fill. Conditions: the slice of words lies below the call's own blocks; the words and the width may be. -/
import Derived.Test.YtddfdmopaeghnaaDoorFillZ
namespace Go.Proofs.YtddfdmopaeghnaaDoor
open Go.RowKit

theorem ScanF.yes {width : Int} {l : List ByteArray} {i K : Nat} {xs ys : List Value} {q v : Int} (hx : xs.length = (l.length + 1) * 1) (hy : ys.length = l.length * 1) (hi : i < l.length) (h : scanAt width l i (K - i) = (q, K - i)) (hv : v = ((K - i : Nat) : Int)) :
    ScanF width l i (K + 1 - i - 1) (xs.set i (.int .i64 q)) (ys.set i (.int .i64 v)) := by
  subst hv
  rw [show K + 1 - i - 1 = K - i by omega]
  refine ⟨?_, fun _ => ?_⟩
  · rw [List.getElem?_set_self (by omega), h]
  · rw [List.getElem?_set_self (by omega), h]
theorem ScanF.no {width : Int} {l : List ByteArray} {i K : Nat} {xs ys : List Value} (h : scanAt width l i (K - i) = scanAt width l i (K - i - 1)) (hs : ScanF width l i (K - i - 1) xs ys) (hq : 0 < K - i - 1) : ScanF width l i (K + 1 - i - 1) xs ys := by
  rw [show K + 1 - i - 1 = K - i by omega]
  exact ⟨by rw [h]; exact hs.1, fun _ => by rw [h]; exact hs.2 hq⟩

/-- Lines were filled. -/
def FillTo (xs : List ByteArray) (w : World) (e : Ending) (w' : World) : Prop := ∃ A c, e = .returned (.tuple #[.slice A xs.length c, .nilIface]) ∧ Txs w' w'.heap.size A xs ∧ Below w.heap.size w w'

theorem made_row {w : World} {B g n : Nat} (h : w.ownsRow B 3 1 (.slice (some ⟨g, 0, none⟩) n n) n (madeCells (Value.int .i64 0).cells (n * 1)).toList) : IRow w B g n (List.replicate n (.int .i64 0)) := by
  have e : (madeCells (Value.int .i64 0).cells (n * 1)).toList = List.replicate n (.int .i64 0) := by
    rw [Nat.mul_one]; exact toList_madeCells_one _ _
  rw [e] at h
  exact h

set_option maxRecDepth 100000 in
set_option maxHeartbeats 4000000 in
theorem fill_ok (l : List ByteArray) (A : Option Addr) (n c : Nat) (hn : l.length = n) (hcap : n ≤ c) (width : Int) (w : World) (hl : Txs w w.heap.size A l) (hf : Few width l) (he : checkedF l width = 0) :
    Calls Tryd.prog 23 #[.slice A n c, .int .i64 width] w (FillTo (fillW width l) w) := by
  have HC := Lib.hid (checked_any l A n c hn width w hl)
  rw [he, ← errV_zero rfl] at HC
  have hw1 := hf.lo
  have hw2 := hf.hi
  have hl60 := hf.len
  obtain ⟨i0, hi0, hz0, hz1, hz2⟩ := info_parts int_info
  obtain ⟨iS, hiS, hzS, hzS1, hzS2⟩ := info_parts str_info
  subst hn
  have HL := Lib.hid hl; have HF := Lib.hid hf
  clear hl hf he
  go_enter Tryd.func23, Tryd.ntmps23
  go_wp2_with (first
    | (go_at_call 47; refine HC.out.mono ?_; rintro e w1 ⟨rfl, hB1⟩; have hs1 := hB1.size)
    | (at_make; (fail_if_success have hz := hR2); refine wpList_make_full _ rfl (.tmp 24) (.tmp 24) 44 rfl w.heap.size 3 i0 (.int .i64 0) 1 Tryd.underlying44 hi0 hz0 hz1 .i64 .i64 _ _ (l.length + 1) rfl rfl rfl rfl (by rw [hz2]; omega) (by simp only [maxLen]; omega) hs1 ?_; intro w2 hown hg; have hR2 : True := trivial; have HR2 := Lib.hid (made_row hown); have HB2 : Hid (Below w.heap.size w w2) := Lib.hid (hB1.grown hg hs1 (by simp)); have hs2 := HB2.out.size; clear hown hg)
    | (at_make; refine wpList_make_full _ rfl (.tmp 26) (.tmp 26) 44 rfl w.heap.size 3 i0 (.int .i64 0) 1 Tryd.underlying44 hi0 hz0 hz1 .i64 .i64 _ _ l.length rfl rfl rfl rfl (by rw [hz2]; omega) (by simp only [maxLen]; omega) hs2 ?_; intro w3 hown hg; have HR3 := Lib.hid (made_row hown); have HB3 : Hid (Below w.heap.size w w3) := Lib.hid (HB2.out.grown hg hs2 (by simp)); have HR2' : Hid (IRow w3 w.heap.size w1.heap.size (l.length + 1) (List.replicate (l.length + 1) (.int .i64 0))) := Lib.hid (World.ownsRow.kept HR2.out hg (.inr (by simp [Value.ownBlock]))); clear hown hg))
  obtain ⟨gl, hgl⟩ : ∃ g, w1.heap.size = g := ⟨_, rfl⟩
  obtain ⟨gm, hgm⟩ : ∃ g, w2.heap.size = g := ⟨_, rfl⟩
  have hgt := HR2.out.lt.2
  rw [hgl] at HR2' hgt ⊢
  rw [hgm] at HR3 hgt ⊢
  have hne : gl ≠ gm := by omega
  have hne2 : ¬ gl = gm := hne
  have hne3 : ¬ gm = gl := fun e => hne e.symm
  have HNE := Lib.hid hne
  have hdz : DoneF width l l.length (List.replicate (l.length + 1) (.int .i64 0)) (List.replicate l.length (.int .i64 0)) := by
    refine ⟨fun j h1 h2 => ?_, fun j h1 h2 => by omega⟩
    obtain rfl : j = l.length := by omega
    rw [least_end]; simp
  have HZ := Lib.hid hdz
  clear hgl hgm hgt hne HR2 HB2 hs2 hdz HC hi0 hz0 hz1 hz2
  generalize List.replicate (l.length + 1) (Value.int .i64 0) = xs0 at *
  generalize List.replicate l.length (Value.int .i64 0) = ys0 at *
  go_loopw [10] (fun i wr => ∃ (m : Nat) (xs ys : List Value), m ≤ l.length ∧ i = .int .i64 ((m : Int) - 1) ∧ IRow wr w.heap.size gl (l.length + 1) xs ∧ IRow wr w.heap.size gm l.length ys ∧ DoneF width l m xs ys ∧ Below w.heap.size w wr) (fun i _ => (intOf i + 1).toNat)
  case atStart => exact ⟨l.length, _, _, Nat.le_refl _, rfl, HR2'.out, HR3.out, HZ.out, HB3.out⟩
  case round =>
    obtain ⟨m, xs, ys, hm, rfl, hx, hy, hd, hB⟩ := hrel
    have HX := Lib.hid hx; have HY := Lib.hid hy; have HD := Lib.hid hd; have HB := Lib.hid hB
    have hsz := hB.size
    clear hx hy hd hB HR2' HR3 HZ HB3
    cases m with
    | zero =>
      rw [show (((0 : Nat) : Int) - 1) = -1 from rfl]
      go_wp2
      have ho0 : wr.ownsRow w.heap.size 9 1 (.slice none 0 0) 0 [] := World.ownsRow_nil _ _ _ _
      have HO0 := Lib.hid ho0; clear ho0
      go_loopw [13, 14] (fun v i w' => ∃ (k : Nat) (done : List ByteArray), k ≤ l.length ∧ i = .int .i64 k ∧ w'.ownsRow w.heap.size 9 1 v done.length (done.map .string) ∧ done.length ≤ k ∧ fillW width l = done ++ linesAt width l k ∧ (∀ t ∈ done, t.size ≤ 1300) ∧ IRow w' w.heap.size gm l.length ys ∧ Below w.heap.size w w') (fun _ i _ => l.length - (intOf i).toNat)
      case atStart => exact ⟨0, [], by omega, rfl, HO0.out, by simp, rfl, by simp, HY.out, HB.out⟩
      case round =>
        obtain ⟨k, done, hk, rfl, ho, hdk, hfl, hsm, hy, hB⟩ := hrel
        have HO := Lib.hid ho; have HFL := Lib.hid hfl; have HSM := Lib.hid hsm; have HYr := Lib.hid hy; have HBr := Lib.hid hB
        have hszr := hB.size
        clear ho hfl hsm hy hB HO0 HX HB
        by_cases hlt : k < l.length
        · obtain ⟨b, off, rfl, hb, _⟩ := HL.out.1.2 (by omega)
          have hat := HF.out.at_ hlt
          have hm1 := hat.2.2.1
          have hm2 := hat.2.2.2.1
          clear hat
          have hys := HD.out.2 k (by omega) hlt
          have x1 : wr.cell? ⟨gm, k, none⟩ = some (.int .i64 (manyAt width l k : Nat)) := by rw [HYr.out.cell hlt]; exact hys
          have hst := HF.out.lines_step hlt
          have HLS := Lib.hid hst; clear hst
          have hltm := HYr.out.lt.2
          generalize manyAt width l k = mk at *
          have HYS := Lib.hid hys; clear hys
          have hsub := sub_len (l := l) (i := k) (k := k + mk) (by omega) hm2
          rw [show k + mk - k = mk by omega] at hsub
          have hjs := joinTo_size (l := (l.drop k).take mk) (fun t ht => HF.out.small t (List.mem_of_mem_drop (List.mem_of_mem_take ht))) (by omega) mk
          rw [joinTo_end (by omega)] at hjs
          have HJ : Hid (∀ w2, Below w.heap.size w w2 → Calls Tryd.prog 50 #[.slice (some ⟨b, off + k, none⟩) mk (c - k), .string ⟨#[32]⟩] w2 fun e w3 => e = .returned (.string (joinW ((l.drop k).take mk))) ∧ Below w2.heap.size w2 w3) := Lib.hid (fun w2 hb2 => by
            have htx := sub_txs (HL.out.past hb2) (i := k) (k := k + mk) (by omega) hm2
            rw [show k + mk - k = mk by omega] at htx
            have h := Tryd.strings_Join b (off + k) (c - k) ((l.drop k).take mk) ⟨#[32]⟩ w2 (fun j x hj => by
              obtain ⟨b', off', e, _, hc⟩ := htx.1.2 (by omega)
              cases e
              exact hc j _ (by rw [List.getElem?_map, hj]; rfl)) (Nat.lt_of_lt_of_le hb hb2.size) (by omega) (by omega) (by
                have h2 : (Lib.join (((l.drop k).take mk).map (·.data.toList)) [32]).length = (joinW ((l.drop k).take mk)).size := by
                  show _ = (Lib.join (((l.drop k).take mk).map (·.data.toList)) [32]).toArray.size
                  rw [List.size_toArray]
                show (Lib.join (((l.drop k).take mk).map (·.data.toList)) [32]).length ≤ _
                omega)
            rw [hsub] at h
            exact h)
          have HSUB := Lib.hid hsub; clear hsub
          generalize joinW ((l.drop k).take mk) = J at *
          have hck : ¬ c = k := by omega
          have k2 : (k : Int) ≤ (k : Int) + (mk : Int) := by omega
          have k3 : (k : Int) + (mk : Int) ≤ (l.length : Int) := by omega
          have k5 : (k : Int) < (l.length : Int) := by omega
          go_wp2_with (first
            | (go_at_call 50; refine (HJ.out _ HBr.out).mono ?_; rintro e w4 ⟨rfl, hB4⟩; have hsz4 := hB4.size; have HO4 := Lib.hid (own_below HO.out hB4); have HY4 : Hid (IRow w4 w.heap.size gm l.length ys) := Lib.hid (own_below HYr.out hB4); have HB4 := Lib.hid (HBr.out.trans (hB4.mono hszr)); clear hB4)
            | (at_builtin; refine wpList_app _ rfl (.tmp 91) (.tmp 102) _ rfl w.heap.size 9 iS (.string .empty) 1 16 Tryd.underlying43 hiS hzS hzS1 hzS2 rfl (by decide) _ done.length _ rfl (HO4.out.alloc _) _ _ 1 1 [.string J] rfl (Sl.lit (sz := 1) _ #[.string J] 9 1 rfl) (by simp [Value.oneCell']) (by simp only [maxLen]; omega) (by omega) (by simp; omega) ?_; intro v5 w5 hown5 hgr5 _; have HB5 : Hid (Below w.heap.size w w5) := Lib.hid (below_app (HB4.out.alloc HB4.out.size _) (HO4.out.alloc _) hgr5 (HB4.out.alloc HB4.out.size _).size (Nat.le_refl _)); have HY5 : Hid (IRow w5 w.heap.size gm l.length ys) := Lib.hid ((World.ownsRow.alloc HY4.out _).kept hgr5 (rows_apart HY4.out HO4.out (by decide))); have HO5 := Lib.hid hown5; have x5 : w5.cell? ⟨gm, k, none⟩ = some (.int .i64 (mk : Nat)) := (by rw [HY5.out.cell hlt]; exact HYS.out); clear hown5 hgr5))
          go_wp2
          go_roundw
          case measure => simp [intOf]; omega
          case rel => exact ⟨k + mk, done ++ [J], by omega, by go_num, by simpa using HO5.out, by simp; omega, by rw [HFL.out, HLS.out, List.append_assoc]; rfl, (fun t ht => by
            rcases List.mem_append.1 ht with ht | ht
            · exact HSM.out t ht
            · simp at ht; subst ht; exact hjs), HY5.out, HB5.out⟩
        · have hen := lines_end (width := width) (l := l) (i := k) (by omega)
          have HE := Lib.hid hen; clear hen
          obtain ⟨A3, c3, hv3⟩ := own_slice HO.out
          subst hv3
          go_wp2
          go_ret2
          have e : fillW width l = done := by rw [HFL.out, HE.out, List.append_nil]
          refine ⟨A3, c3, by rw [e]; rfl, ?_, HBr.out⟩
          rw [e]
          refine ⟨?_, by simp only [maxLen]; omega, fun t ht => by have := HSM.out t ht; simp only [maxLen]; omega⟩
          have := Sl.of_own HO.out
          exact this
    | succ i =>
      rw [show (((i + 1 : Nat) : Int) - 1) = (i : Int) from by omega]
      obtain ⟨b, off, rfl, hb, _⟩ := HL.out.1.2 (by omega)
      obtain ⟨u1, hu1⟩ := HX.out.some_ (j := i) (by omega)
      have hf1 := HX.out.free i
      have hlt1 := HX.out.lt.2
      have hlt2 := HY.out.lt.2
      go_wp2
      have HX1 := Lib.hid (HX.out.set i (.int .i64 (-1)))
      have HY1 := Lib.hid (HY.out.other (g' := gl) (fun e => HNE.out e.symm) i (.int .i64 (-1)))
      have HD1 := Lib.hid (HD.out.set1 (i := i) (.int .i64 (-1)))
      have HS1 : Hid (ScanF width l i 0 (xs.set i (.int .i64 (-1))) ys) := Lib.hid ⟨by rw [List.getElem?_set_self (by rw [HX.out.1]; omega)]; rfl, fun h => by omega⟩
      have HB1 := Lib.hid (HB.out.setCell (p := ⟨gl, i, none⟩) HX.out.lt.1 (.int .i64 (-1)))
      clear hu1 hf1 HX HY HD HB
      generalize wr.setCell ⟨gl, i, none⟩ (.int .i64 (-1)) = wo at *
      generalize xs.set i (.int .i64 (-1)) = xs1 at *
      go_loopw [11, 12] (fun k _ wr => ∃ (K : Nat) (xs ys : List Value), i + 1 ≤ K ∧ K ≤ l.length + 1 ∧ k = .int .i64 (K : Nat) ∧ IRow wr w.heap.size gl (l.length + 1) xs ∧ IRow wr w.heap.size gm l.length ys ∧ DoneF width l (i + 1) xs ys ∧ ScanF width l i (K - i - 1) xs ys ∧ Below w.heap.size w wr) (fun k _ _ => l.length + 1 - (intOf k).toNat)
      case atStart => exact ⟨i + 1, xs1, ys, by omega, by omega, by go_num, HX1.out, HY1.out, HD1.out, by rw [show i + 1 - i - 1 = 0 by omega]; exact HS1.out, HB1.out⟩
      case round =>
        obtain ⟨K, xs, ys, hK1, hK2, rfl, hx, hy, hd, hsc, hB⟩ := hrel
        have HX := Lib.hid hx; have HY := Lib.hid hy; have HD := Lib.hid hd; have HB := Lib.hid hB; have HS := Lib.hid hsc
        have hszr := hB.size
        clear hx hy hd hB hsc HX1 HY1 HD1 HS1 HB1
        by_cases hlt : K ≤ l.length
        · have x1 : wr.cell? ⟨gl, i, none⟩ = some (.int .i64 (scanAt width l i (K - i - 1)).1) := by rw [HX.out.cell (by omega)]; exact HS.out.1
          have x2 : wr.cell? ⟨gl, K, none⟩ = some (.int .i64 (leastAt width l K)) := by rw [HX.out.cell (by omega)]; exact HD.out.1 K (by omega) hlt
          obtain ⟨u2, hu2⟩ := HY.out.some_ (j := i) (by omega)
          have f1 := HX.out.free i
          have f2 := HY.out.free i
          have hbd := HF.out.scan_bd (i := i) (K - i - 1) (by omega)
          have hct := HF.out.cost (i := i) (k := K) (by omega) hlt
          have hle := HF.out.least hlt
          have hlg := HF.out.long (i := i) (k := K) (by omega) hlt
          have hcs : costAt width l i K = badW (longW ((l.drop i).take (K - i))) width ((K : Int) == (l.length : Int)) + leastAt width l K := by
            have e : decide (K = l.length) = ((K : Int) == (l.length : Int)) := by rw [beq_dec, Bool.eq_iff_iff]; simp; omega
            rw [costAt, e]
          have hbb : badW (longW ((l.drop i).take (K - i))) width (decide (K = l.length)) = badW (longW ((l.drop i).take (K - i))) width ((K : Int) == (l.length : Int)) := by
            have e : decide (K = l.length) = ((K : Int) == (l.length : Int)) := by rw [beq_dec, Bool.eq_iff_iff]; simp; omega
            rw [e]
          rw [hbb] at hct
          have HY1 := Lib.hid (fun h => scan_yes (width := width) (l := l) (i := i) (K := K) (by omega) h)
          have HN1 := Lib.hid (fun h => scan_no (width := width) (l := l) (i := i) (K := K) (by omega) h)
          have HLN : Hid (∀ nq, Calls Tryd.prog 49 #[.slice (some ⟨b, off + i, none⟩) (K - i) (c - i)] (wr.drewN nq) fun e w' => e = .returned (.int .i64 (longW ((l.drop i).take (K - i)))) ∧ w' = wr.drewN nq) := Lib.hid (fun nq =>
            (long_any ((l.drop i).take (K - i)) (some ⟨b, off + i, none⟩) (K - i) (c - i) (sub_len (by omega) hlt) (wr.drewN nq) (sub_txs (HL.out.past (w' := wr.drewN nq) (below_drewN HB.out nq)) (by omega) hlt) (by omega) (fun t ht => HF.out.small t (List.mem_of_mem_drop (List.mem_of_mem_take ht)))).mono fun _ _ ⟨h1, h2⟩ => ⟨h1, h2.symm⟩)
          have HBD : Hid (∀ nq, Calls Tryd.prog 48 #[.int .i64 (longW ((l.drop i).take (K - i))), .int .i64 width, .bool ((K : Int) == (l.length : Int))] (wr.drewN nq) fun e w' => e = .returned (.int .i64 (badW (longW ((l.drop i).take (K - i))) width ((K : Int) == (l.length : Int)))) ∧ w' = wr.drewN nq) := Lib.hid (fun nq =>
            (bad_any (longW ((l.drop i).take (K - i))) width ((K : Int) == (l.length : Int)) (wr.drewN nq) hlg.1 hlg.2 hw1 hw2).mono fun _ _ ⟨h1, h2⟩ => ⟨h1, h2.symm⟩)
          have HCS := Lib.hid hcs
          clear hcs hbb hlg
          generalize badW (longW ((l.drop i).take (K - i))) width ((K : Int) == (l.length : Int)) = bd at *
          generalize longW ((l.drop i).take (K - i)) = LG at *
          generalize leastAt width l K = lK at *
          generalize hS : scanAt width l i (K - i - 1) = S at *
          obtain ⟨S1, S2⟩ := S
          simp only at x1 hbd
          have HSE := Lib.hid hS
          have HZS : Hid (K - i - 1 = 0 → S1 = -1) := Lib.hid (fun h => by rw [h] at hS; have := congrArg Prod.fst hS; exact this.symm)
          clear hS
          have hci : ¬ c = i := by omega
          have k1 : IntKind.i64.wrap (bd + lK) = bd + lK := IntWalk.i64_in _ (by omega)
          have k2 : (i : Int) ≤ (K : Int) := by omega
          have k3 : (K : Int) ≤ (l.length : Int) := by omega
          have k4 : (K : Int) < (l.length : Int) + 1 := by omega
          have k5 : (i : Int) < (l.length : Int) := by omega
          go_wp2
          go_quiet (first
            | (go_at_call 49; exact Calls.quiet_of_same (HLN.out _))
            | (go_at_call 48; exact Calls.quiet_of_same (HBD.out _)))
          clear k1
          by_cases t1 : S1 < 0
          · have z1 : decide (S1 < 0) = true := decide_eq_true t1
            have hsy := HY1.out (.inl t1)
            rw [HCS.out] at hsy
            have HSY := Lib.hid hsy; clear hsy t1
            go_wp2
            go_roundw
            case measure => simp [intOf]; omega
            case rel => exact ⟨K + 1, _, _, by omega, by omega, by go_num, ((HX.out.drewN _).set i _).other HNE.out i _, ((HY.out.drewN _).other (fun e => HNE.out e.symm) i _).set i _, HD.out.set _ _, ScanF.yes HX.out.1 HY.out.1 (by omega) HSY.out (by omega), ((below_drewN HB.out _).setCell (p := ⟨gl, i, none⟩) HX.out.lt.1 _).setCell (p := ⟨gm, i, none⟩) HY.out.lt.1 _⟩
          · have z1 : decide (S1 < 0) = false := decide_eq_false t1
            by_cases t2 : bd + lK ≤ S1
            · have z2 : decide (bd + lK ≤ S1) = true := decide_eq_true t2
              have hsy := HY1.out (.inr (by rw [HCS.out]; exact t2))
              rw [HCS.out] at hsy
              have HSY := Lib.hid hsy; clear hsy t1 t2
              go_wp2
              go_roundw
              case measure => simp [intOf]; omega
              case rel => exact ⟨K + 1, _, _, by omega, by omega, by go_num, ((HX.out.drewN _).set i _).other HNE.out i _, ((HY.out.drewN _).other (fun e => HNE.out e.symm) i _).set i _, HD.out.set _ _, ScanF.yes HX.out.1 HY.out.1 (by omega) HSY.out (by omega), ((below_drewN HB.out _).setCell (p := ⟨gl, i, none⟩) HX.out.lt.1 _).setCell (p := ⟨gm, i, none⟩) HY.out.lt.1 _⟩
            · have z2 : decide (bd + lK ≤ S1) = false := decide_eq_false t2
              have hq : 0 < K - i - 1 := by
                rcases Nat.eq_zero_or_pos (K - i - 1) with h0 | h0
                · have := HZS.out h0; omega
                · exact h0
              have hsn := HN1.out (by rw [HCS.out]; omega)
              have HSN := Lib.hid hsn; have HQ := Lib.hid hq; clear hsn t1 t2 hq
              go_wp2
              go_roundw
              case measure => simp [intOf]; omega
              case rel => exact ⟨K + 1, xs, ys, by omega, by omega, by go_num, HX.out.drewN _, HY.out.drewN _, HD.out, ScanF.no (by rw [HSN.out, HSE.out]) HS.out HQ.out, below_drewN HB.out _⟩
        · obtain rfl : K = l.length + 1 := by omega
          go_wp2
          go_roundw
          case measure => simp [intOf]
          case rel => exact ⟨i, xs, ys, by omega, by go_num, HX.out, HY.out, HD.out.more HF.out (by omega) (by rw [show l.length - i = l.length + 1 - i - 1 by omega]; exact HS.out), HB.out⟩
end Go.Proofs.YtddfdmopaeghnaaDoor
