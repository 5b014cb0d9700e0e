/- Walk: the reference's FillOf. Conditions: the slice of words lies below the call's own blocks; the words and the width may be. -/
import Derived.Test.YtddfdmopaeghnaaDoorFillA
namespace Go.Proofs.YtddfdmopaeghnaaDoor
open Go.RowKit

/-- From place m on the row holds the least costs. -/
def DoneR (width : Int) (l : List ByteArray) (m : Nat) (xs : List Value) : Prop := ∀ j, m ≤ j → j ≤ l.length → xs[j]? = some (.int .i64 (leastAt width l j))
theorem DoneR.set {width : Int} {l : List ByteArray} {i : Nat} {xs : List Value} (h : DoneR width l (i + 1) xs) (v : Value) : DoneR width l (i + 1) (xs.set i v) :=
  fun j h1 h2 => by rw [List.getElem?_set_ne (by omega)]; exact h j h1 h2
theorem DoneR.more {width : Int} {l : List ByteArray} {i : Nat} {xs : List Value} (hf : Few width l) (hi : i < l.length) (h : DoneR width l (i + 1) xs) (hs : xs[i]? = some (.int .i64 (scanAt width l i (l.length - i)).1)) : DoneR width l i xs := by
  obtain ⟨e1, _⟩ := hf.at_ hi
  intro j h1 h2
  rcases Nat.eq_or_lt_of_le h1 with rfl | h3
  · rw [hs, e1]
  · exact h j h3 h2

/-- Some draws later. -/
def Drawn (w w' : World) : Prop := ∃ n, w' = w.drewN n
theorem Drawn.refl (w : World) : Drawn w w := ⟨0, rfl⟩
theorem Drawn.drewN {a b : World} (h : Drawn a b) (n : Nat) : Drawn a (b.drewN n) := by
  obtain ⟨m, rfl⟩ := h
  exact ⟨m + n, by rw [World.drewN_drewN]⟩
theorem Drawn.irow {a b : World} (h : Drawn a b) {B g n : Nat} {xs : List Value} (hx : IRow a B g n xs) : IRow b B g n xs := by obtain ⟨m, rfl⟩ := h; exact hx
theorem Drawn.own {a b : World} (h : Drawn a b) {B n : Nat} {e : TypeId} {v : Value} {xs : List Value} (hx : a.ownsRow B e 1 v n xs) : b.ownsRow B e 1 v n xs := by obtain ⟨m, rfl⟩ := h; exact hx
theorem Drawn.below {a b : World} (h : Drawn a b) {B : Nat} {w : World} (hx : Below B w a) : Below B w b := by obtain ⟨m, rfl⟩ := h; exact below_drewN hx m

/-- Lines of the reference. -/
def FillRef (xs : List ByteArray) (w : World) (e : Ending) (w' : World) : Prop := ∃ A c, e = .returned (.slice A xs.length c) ∧ Txs w' w'.heap.size A xs ∧ Below w.heap.size w w'

theorem scan_step (width : Int) (l : List ByteArray) (i q : Nat) : (scanAt width l i (q + 1)).1 = if (scanAt width l i q).1 < 0 ∨ costAt width l i (i + q + 1) < (scanAt width l i q).1 then costAt width l i (i + q + 1) else (scanAt width l i q).1 := by
  rw [scanAt]
  by_cases h1 : (scanAt width l i q).1 < 0
  · rw [if_pos (.inl h1), if_pos (.inl h1)]
  · by_cases h2 : costAt width l i (i + q + 1) < (scanAt width l i q).1
    · rw [if_pos (.inr (by omega)), if_pos (.inr h2)]
    · rw [if_neg (c := _ < 0 ∨ costAt width l i (i + q + 1) < _) (by omega)]
      by_cases h3 : costAt width l i (i + q + 1) ≤ (scanAt width l i q).1
      · rw [if_pos (.inr h3)]; simp only; omega
      · rw [if_neg (by omega)]

set_option maxRecDepth 100000 in
set_option maxHeartbeats 4000000 in
theorem fillOf_ok (l : List ByteArray) (A : Option Addr) (n c : Nat) (hn : l.length = n) (hcap : n ≤ c) (width : Int) (w : World) (hl : Txs w w.heap.size A l) (hf : Few width l) :
    Calls Tryd.prog 21 #[.slice A n c, .int .i64 width] w (FillRef (fillW width l) w) := by
  have hw1 := hf.lo
  have hw2 := hf.hi
  have hl60 := hf.len
  obtain ⟨i0, hi0, hz0, hz1, hz2⟩ := info_parts int_info
  obtain ⟨iS, hiS, hzS, hzS1, hzS2⟩ := info_parts str_info
  subst hn
  have HL := Lib.hid hl; have HF := Lib.hid hf
  clear hl hf
  go_enter Tryd.func21, Tryd.ntmps21
  go_wp2_with (at_make; refine wpList_make_full _ rfl (.tmp 16) (.tmp 16) 44 rfl w.heap.size 3 i0 (.int .i64 0) 1 Tryd.underlying44 hi0 hz0 hz1 .i64 .i64 _ _ (l.length + 1) rfl rfl rfl rfl (by rw [hz2]; omega) (by simp only [maxLen]; omega) (Nat.le_refl _) ?_; intro w2 hown hg; have HR2 := Lib.hid (made_row hown); have HB2 : Hid (Below w.heap.size w w2) := Lib.hid ((Below.refl _ _).grown hg (Nat.le_refl _) (by simp)); have hs2 := HB2.out.size; clear hown hg)
  obtain ⟨gl, hgl⟩ : ∃ g, w.heap.size = g := ⟨_, rfl⟩
  have HB0 : Hid (IRow w2 gl gl (l.length + 1) (List.replicate (l.length + 1) (.int .i64 0))) := by rw [hgl] at HR2; exact HR2
  have HGL := Lib.hid hgl
  have hdz : DoneR width l l.length (List.replicate (l.length + 1) (.int .i64 0)) := by
    intro j h1 h2
    obtain rfl : j = l.length := by omega
    rw [least_end]; simp
  have HZ := Lib.hid hdz
  rw [hgl]
  clear hgl HR2 hdz hi0 hz0 hz1 hz2
  generalize List.replicate (l.length + 1) (Value.int .i64 0) = xs0 at *
  go_loopw [7] (fun i wr => ∃ (m : Nat) (xs : List Value), m ≤ l.length ∧ i = .int .i64 ((m : Int) - 1) ∧ IRow wr gl gl (l.length + 1) xs ∧ DoneR width l m xs ∧ Below w.heap.size w wr) (fun i _ => (intOf i + 1).toNat)
  case atStart => exact ⟨l.length, _, Nat.le_refl _, rfl, HB0.out, HZ.out, HB2.out⟩
  case round =>
    obtain ⟨m, xs, hm, rfl, hx, hd, hB⟩ := hrel
    have HX := Lib.hid hx; have HD := Lib.hid hd; have HB := Lib.hid hB
    have hsz := hB.size
    clear hx hd hB HB0 HZ HB2
    cases m with
    | zero =>
      rw [show (((0 : Nat) : Int) - 1) = -1 from rfl]
      go_wp2
      have ho0 : wr.ownsRow w.heap.size 9 1 (.slice none 0 0) 0 [] := World.ownsRow_nil _ _ _ _
      have HO0 := Lib.hid ho0; clear ho0
      go_loopw [10, 11, 12] (fun v i _ w' => ∃ (k : Nat) (done : List ByteArray), k ≤ l.length ∧ i = .int .i64 k ∧ w'.ownsRow w.heap.size 9 1 v done.length (done.map .string) ∧ done.length ≤ k ∧ fillW width l = done ++ linesAt width l k ∧ (∀ t ∈ done, t.size ≤ 1300) ∧ IRow w' gl gl (l.length + 1) xs ∧ Below w.heap.size w w') (fun _ i _ _ => l.length - (intOf i).toNat)
      case atStart => exact ⟨0, [], by omega, rfl, HO0.out, by simp, rfl, by simp, HX.out, HB.out⟩
      case round =>
        obtain ⟨k, done, hk, rfl, ho, hdk, hfl, hsm, hx, hB⟩ := hrel
        have HO := Lib.hid ho; have HFL := Lib.hid hfl; have HSM := Lib.hid hsm; have HXr := Lib.hid hx; have HBr := Lib.hid hB
        have hszr := hB.size
        clear ho hfl hsm hx hB HO0 HX HB
        by_cases hlt : k < l.length
        · obtain ⟨b, off, rfl, hb, _⟩ := HL.out.1.2 (by omega)
          have hat := HF.out.at_ hlt
          have hm1 := hat.2.2.1
          have hm2 := hat.2.2.2.1
          have hc1 := hat.2.2.2.2.1
          have hc2 := hat.2.2.2.2.2
          clear hat
          have hst := HF.out.lines_step hlt
          have HLS := Lib.hid hst; clear hst
          have hltm := HXr.out.lt.2
          have hls := HF.out.least (i := k) (by omega)
          have x0 : wr.cell? ⟨gl, k, none⟩ = some (.int .i64 (leastAt width l k)) := by rw [HXr.out.cell (by omega)]; exact HD.out k (by omega) (by omega)
          generalize manyAt width l k = mk at *
          have HC1 := Lib.hid hc1; have HC2 := Lib.hid hc2; clear hc1 hc2
          generalize hLK : leastAt width l k = LS at *
          clear hLK
          go_wp2
          obtain ⟨wo, rfl⟩ : ∃ wo : World, wo = wr := ⟨_, rfl⟩
          go_loopw [12] (fun m w' => ∃ j : Nat, mk ≤ j ∧ k + j ≤ l.length ∧ m = .int .i64 j ∧ Drawn wo w') (fun m _ => (intOf m).toNat)
          case atStart => exact ⟨l.length - k, by omega, by omega, by go_num, Drawn.refl _⟩
          case round =>
            obtain ⟨j, hj1, hj2, rfl, hdr⟩ := hrel
            have HXw := Lib.hid (hdr.irow HXr.out)
            have HBw := Lib.hid (hdr.below HBr.out)
            have HOw := Lib.hid (hdr.own HO.out)
            have HDR := Lib.hid hdr
            have x0' : wr.cell? ⟨gl, k, none⟩ = some (.int .i64 LS) := by obtain ⟨_, rfl⟩ := hdr; exact x0
            have hltw := HXw.out.lt.2
            clear hdr
            have x2 : wr.cell? ⟨gl, k + j, none⟩ = some (.int .i64 (leastAt width l (k + j))) := by rw [HXw.out.cell (by omega)]; exact HD.out (k + j) (by omega) (by omega)
            have hct := HF.out.cost (i := k) (k := k + j) (by omega) (by omega)
            have hle := HF.out.least (i := k + j) (by omega)
            have hsb : (l.drop k).take (k + j - k) = (l.drop k).take j := by rw [show k + j - k = j by omega]
            have hdec : decide (k + j = l.length) = ((k : Int) + (j : Int) == (l.length : Int)) := by rw [beq_dec, Bool.eq_iff_iff]; simp; omega
            have hcs : costAt width l k (k + j) = badW (longW ((l.drop k).take j)) width ((k : Int) + (j : Int) == (l.length : Int)) + leastAt width l (k + j) := by rw [costAt, hsb, hdec]
            rw [hsb, hdec] at hct
            have hsl := sub_len (l := l) (i := k) (k := k + j) (by omega) (by omega)
            rw [show k + j - k = j by omega] at hsl
            have HLN : Hid (∀ m, Calls Tryd.prog 45 #[.slice (some ⟨b, off + k, none⟩) j (c - k), .int .i64 width, .bool ((k : Int) + (j : Int) == (l.length : Int))] (wr.drewN m) fun e w' => e = .returned (.int .i64 (badW (longW ((l.drop k).take j)) width ((k : Int) + (j : Int) == (l.length : Int)))) ∧ w' = wr.drewN m) := Lib.hid (fun m => by
              have htx := sub_txs (HL.out.past (w' := wr.drewN m) (below_drewN HBw.out m)) (i := k) (k := k + j) (by omega) (by omega)
              rw [show k + j - k = j by omega] at htx
              exact (badness_any ((l.drop k).take j) (some ⟨b, off + k, none⟩) j (c - k) hsl width ((k : Int) + (j : Int) == (l.length : Int)) (wr.drewN m) htx (by omega) (by omega) (fun t ht => HF.out.small t (List.mem_of_mem_drop (List.mem_of_mem_take ht))) hw1 hw2).mono fun _ _ ⟨h1, h2⟩ => ⟨h1, h2.symm⟩)
            have HCS := Lib.hid hcs
            have HSL := Lib.hid hsl
            clear hcs hsb hdec hsl
            generalize badW (longW ((l.drop k).take j)) width ((k : Int) + (j : Int) == (l.length : Int)) = bd at *
            generalize leastAt width l (k + j) = lK at *
            have hck : ¬ c = k := by omega
            have k1 : IntKind.i64.wrap (bd + lK) = bd + lK := IntWalk.i64_in _ (by omega)
            have k2 : IntKind.i64.wrap ((k : Int) + (j : Int)) = (k : Int) + (j : Int) := IntWalk.i64_in _ (by omega)
            have k3 : ((k : Int) + (j : Int)).toNat = k + j := by omega
            have k4 : (0 : Int) ≤ (k : Int) + (j : Int) := by omega
            have k5 : (k : Int) + (j : Int) < (l.length : Int) + 1 := by omega
            have k6 : (k : Int) + (j : Int) ≤ (l.length : Int) := by omega
            have k7 : (k : Int) ≤ (k : Int) + (j : Int) := by omega
            have k8 : (k : Int) < (l.length : Int) + 1 := by omega
            by_cases hjm : j = mk
            · subst hjm
              have z1 : (bd + lK != LS) = false := by
                have h := HC1.out
                rw [HCS.out] at h
                simp [h]
              have hjs := joinTo_size (l := (l.drop k).take j) (fun t ht => HF.out.small t (List.mem_of_mem_drop (List.mem_of_mem_take ht))) (by rw [HSL.out]; omega) j
              rw [joinTo_end (by rw [HSL.out]; exact Nat.le_refl _)] at hjs
              have HJ : Hid (∀ m, Calls Tryd.prog 46 #[.slice (some ⟨b, off + k, none⟩) j (c - k)] (wr.drewN m) fun e w3 => e = .returned (.string (joinW ((l.drop k).take j))) ∧ wr.drewN m = w3) := Lib.hid (fun m => by
                have htx := sub_txs (HL.out.past (w' := wr.drewN m) (below_drewN HBw.out m)) (i := k) (k := k + j) (by omega) (by omega)
                rw [show k + j - k = j by omega] at htx
                exact joined_any ((l.drop k).take j) (some ⟨b, off + k, none⟩) j (c - k) HSL.out (wr.drewN m) htx (by omega) (fun t ht => HF.out.small t (List.mem_of_mem_drop (List.mem_of_mem_take ht))))
              generalize joinW ((l.drop k).take j) = J at *
              go_wp2
              go_quiet ((go_at_call 45; exact Calls.quiet_of_same (HLN.out _)))
              clear k1 k2 k3 k4 k5 k6 k7 k8
              go_wp2_with (first
                | (go_at_call 46; refine (HJ.out _).mono ?_; rintro e w4 ⟨rfl, rfl⟩)
                | (at_builtin; refine wpList_app _ rfl (.tmp 104) (.tmp 112) _ rfl w.heap.size 9 iS (.string .empty) 1 16 Tryd.underlying43 hiS hzS hzS1 hzS2 rfl (by decide) _ done.length _ rfl (World.ownsRow.alloc (Drawn.own ⟨_, rfl⟩ HOw.out) _) _ _ 1 1 [.string J] rfl (Sl.lit (sz := 1) _ #[.string J] 9 1 rfl) (by simp [Value.oneCell']) (by simp only [maxLen]; omega) (by omega) (by have := HBw.out.size; simp; omega) ?_; intro v5 w5 hown5 hgr5 _; have HB5 : Hid (Below w.heap.size w w5) := Lib.hid (below_app ((below_drewN HBw.out _).alloc HBw.out.size _) (World.ownsRow.alloc (Drawn.own ⟨_, rfl⟩ HOw.out) _) hgr5 (((below_drewN HBw.out _).alloc HBw.out.size _).size) (Nat.le_refl _)); have HX5 : Hid (IRow w5 gl gl (l.length + 1) xs) := Lib.hid ((World.ownsRow.alloc (IRow.drewN HXw.out _) _).kept hgr5 (rows_apart HXw.out HOw.out (by decide))); have HO5 := Lib.hid hown5; clear hown5 hgr5))
              go_roundw
              case measure => simp [intOf]; omega
              case rel => exact ⟨k + j, done ++ [J], by omega, by go_num, by simpa using HO5.out, by simp; omega, by rw [HFL.out, HLS.out, List.append_assoc]; rfl, (fun t ht => by
                rcases List.mem_append.1 ht with ht | ht
                · exact HSM.out t ht
                · simp at ht; subst ht; exact hjs), HX5.out, HB5.out⟩
            · have z1 : (bd + lK != LS) = true := by
                have h := HC2.out j (by omega) hj2
                rw [HCS.out] at h
                simpa using h
              go_wp2
              go_quiet ((go_at_call 45; exact Calls.quiet_of_same (HLN.out _)))
              clear k1 k2 k3 k4 k5 k6 k7 k8
              go_wp2
              go_roundw
              case measure => simp [intOf]; omega
              case rel => exact ⟨j - 1, by omega, by omega, by go_num, HDR.out.drewN _⟩
        · have hen := lines_end (width := width) (l := l) (i := k) (by omega)
          have HE := Lib.hid hen; clear hen
          obtain ⟨A3, c3, hv3⟩ := own_slice HO.out
          subst hv3
          go_wp2
          go_ret
          have e : fillW width l = done := by rw [HFL.out, HE.out, List.append_nil]
          refine ⟨A3, c3, by rw [e]; rfl, ?_, HBr.out⟩
          rw [e]
          refine ⟨?_, by simp only [maxLen]; omega, fun t ht => by have := HSM.out t ht; simp only [maxLen]; omega⟩
          have := Sl.of_own HO.out
          exact this
    | succ i =>
      rw [show (((i + 1 : Nat) : Int) - 1) = (i : Int) from by omega]
      obtain ⟨b, off, rfl, hb, _⟩ := HL.out.1.2 (by omega)
      obtain ⟨u1, hu1⟩ := HX.out.some_ (j := i) (by omega)
      have hf1 := HX.out.free i
      have hlt1 := HX.out.lt.2
      go_wp2
      have HX1 := Lib.hid (HX.out.set i (.int .i64 (-1)))
      have HD1 := Lib.hid (HD.out.set (i := i) (.int .i64 (-1)))
      have HS1 : Hid ((xs.set i (.int .i64 (-1)))[i]? = some (.int .i64 (scanAt width l i 0).1)) := Lib.hid (by rw [List.getElem?_set_self (by rw [HX.out.1]; omega)]; rfl)
      have HB1 := Lib.hid (HB.out.setCell (p := ⟨gl, i, none⟩) (by rw [HGL.out]; exact Nat.le_refl _) (.int .i64 (-1)))
      clear hu1 hf1 HX HD HB
      generalize wr.setCell ⟨gl, i, none⟩ (.int .i64 (-1)) = wo at *
      generalize xs.set i (.int .i64 (-1)) = xs1 at *
      go_loopw [8, 9] (fun k _ wr => ∃ (q : Nat) (xs : List Value), i + q ≤ l.length ∧ k = .int .i64 ((q + 1 : Nat)) ∧ IRow wr gl gl (l.length + 1) xs ∧ DoneR width l (i + 1) xs ∧ xs[i]? = some (.int .i64 (scanAt width l i q).1) ∧ Below w.heap.size w wr) (fun k _ _ => l.length + 1 - (intOf k).toNat)
      case atStart => exact ⟨0, xs1, by omega, rfl, HX1.out, HD1.out, HS1.out, HB1.out⟩
      case round =>
        obtain ⟨q, xs, hq, rfl, hx, hd, hsc, hB⟩ := hrel
        have HX := Lib.hid hx; have HD := Lib.hid hd; have HB := Lib.hid hB; have HS := Lib.hid hsc
        have hszr := hB.size
        clear hx hd hB hsc HX1 HD1 HS1 HB1
        rw [show (((q + 1 : Nat)) : Int) = (q : Int) + 1 from by omega]
        by_cases hlt : i + q < l.length
        · have x1 : wr.cell? ⟨gl, i, none⟩ = some (.int .i64 (scanAt width l i q).1) := by rw [HX.out.cell (by omega)]; exact HS.out
          have x2 : wr.cell? ⟨gl, i + (q + 1), none⟩ = some (.int .i64 (leastAt width l (i + q + 1))) := by rw [HX.out.cell (by omega)]; exact HD.out (i + q + 1) (by omega) (by omega)
          have f1 := HX.out.free i
          have hbd := HF.out.scan_bd (i := i) q (by omega)
          have hct := HF.out.cost (i := i) (k := i + q + 1) (by omega) (by omega)
          have hle := HF.out.least (i := i + q + 1) (by omega)
          have hst := scan_step width l i q
          have hsb : (l.drop i).take (i + q + 1 - i) = (l.drop i).take (q + 1) := by rw [show i + q + 1 - i = q + 1 by omega]
          have hdec : decide (i + q + 1 = l.length) = ((i : Int) + ((q : Int) + 1) == (l.length : Int)) := by rw [beq_dec, Bool.eq_iff_iff]; simp; omega
          have hcs : costAt width l i (i + q + 1) = badW (longW ((l.drop i).take (q + 1))) width ((i : Int) + ((q : Int) + 1) == (l.length : Int)) + leastAt width l (i + q + 1) := by rw [costAt, hsb, hdec]
          rw [hsb, hdec] at hct
          have hsl := sub_len (l := l) (i := i) (k := i + q + 1) (by omega) (by omega)
          rw [show i + q + 1 - i = q + 1 by omega] at hsl
          have HLN : Hid (∀ nq, Calls Tryd.prog 45 #[.slice (some ⟨b, off + i, none⟩) (q + 1) (c - i), .int .i64 width, .bool ((i : Int) + ((q : Int) + 1) == (l.length : Int))] (wr.drewN nq) fun e w' => e = .returned (.int .i64 (badW (longW ((l.drop i).take (q + 1))) width ((i : Int) + ((q : Int) + 1) == (l.length : Int)))) ∧ w' = wr.drewN nq) := Lib.hid (fun nq => by
            have htx := sub_txs (HL.out.past (w' := wr.drewN nq) (below_drewN HB.out nq)) (i := i) (k := i + q + 1) (by omega) (by omega)
            rw [show i + q + 1 - i = q + 1 by omega] at htx
            exact (badness_any ((l.drop i).take (q + 1)) (some ⟨b, off + i, none⟩) (q + 1) (c - i) hsl width ((i : Int) + ((q : Int) + 1) == (l.length : Int)) (wr.drewN nq) htx (by omega) (by omega) (fun t ht => HF.out.small t (List.mem_of_mem_drop (List.mem_of_mem_take ht))) hw1 hw2).mono fun _ _ ⟨h1, h2⟩ => ⟨h1, h2.symm⟩)
          have HCS := Lib.hid hcs; have HST := Lib.hid hst
          clear hcs hst hsb hdec hsl
          generalize badW (longW ((l.drop i).take (q + 1))) width ((i : Int) + ((q : Int) + 1) == (l.length : Int)) = bd at *
          generalize leastAt width l (i + q + 1) = lK at *
          generalize (scanAt width l i q).1 = S1 at *
          have hci : ¬ c = i := by omega
          have k1 : IntKind.i64.wrap (bd + lK) = bd + lK := IntWalk.i64_in _ (by omega)
          have k2 : IntKind.i64.wrap ((i : Int) + ((q : Int) + 1)) = (i : Int) + ((q : Int) + 1) := IntWalk.i64_in _ (by omega)
          have k3 : ((i : Int) + ((q : Int) + 1)).toNat = i + (q + 1) := by omega
          have k4 : (0 : Int) ≤ (i : Int) + ((q : Int) + 1) := by omega
          have k5 : (i : Int) + ((q : Int) + 1) < (l.length : Int) + 1 := by omega
          have k6 : (i : Int) + ((q : Int) + 1) ≤ (l.length : Int) := by omega
          have k7 : (i : Int) ≤ (i : Int) + ((q : Int) + 1) := by omega
          go_wp2
          go_quiet ((go_at_call 45; exact Calls.quiet_of_same (HLN.out _)))
          clear k1 k2 k3 k4 k5 k6 k7
          by_cases t1 : S1 < 0
          · have z1 : decide (S1 < 0) = true := decide_eq_true t1
            have hsy := HST.out
            rw [if_pos (.inl t1), HCS.out] at hsy
            have HSY := Lib.hid hsy; clear hsy t1
            go_wp2
            go_roundw
            case measure => simp [intOf]; omega
            case rel => exact ⟨q + 1, _, by omega, by go_num, (HX.out.drewN _).set i _, HD.out.set _, by rw [List.getElem?_set_self (by rw [HX.out.1]; omega), HSY.out], (below_drewN HB.out _).setCell (p := ⟨gl, i, none⟩) (by rw [HGL.out]; exact Nat.le_refl _) _⟩
          · have z1 : decide (S1 < 0) = false := decide_eq_false t1
            by_cases t2 : bd + lK < S1
            · have z2 : decide (bd + lK < S1) = true := decide_eq_true t2
              have hsy := HST.out
              rw [if_pos (.inr (by rw [HCS.out]; exact t2)), HCS.out] at hsy
              have HSY := Lib.hid hsy; clear hsy t1 t2
              go_wp2
              go_roundw
              case measure => simp [intOf]; omega
              case rel => exact ⟨q + 1, _, by omega, by go_num, (HX.out.drewN _).set i _, HD.out.set _, by rw [List.getElem?_set_self (by rw [HX.out.1]; omega), HSY.out], (below_drewN HB.out _).setCell (p := ⟨gl, i, none⟩) (by rw [HGL.out]; exact Nat.le_refl _) _⟩
            · have z2 : decide (bd + lK < S1) = false := decide_eq_false t2
              have hsy := HST.out
              rw [if_neg (by rw [HCS.out]; omega)] at hsy
              have HSY := Lib.hid hsy; clear hsy t1 t2
              go_wp2
              go_roundw
              case measure => simp [intOf]; omega
              case rel => exact ⟨q + 1, xs, by omega, by go_num, HX.out.drewN _, HD.out, by rw [HSY.out]; exact HS.out, below_drewN HB.out _⟩
        · obtain rfl : q = l.length - i := by omega
          have k1 : ¬ ((l.length - i : Nat) : Int) + 1 ≤ (l.length : Int) - (i : Int) := by omega
          go_wp2
          go_roundw
          case measure => simp [intOf]
          case rel => exact ⟨i, xs, by omega, by go_num, HX.out, HD.out.more HF.out (by omega) HS.out, HB.out⟩
end Go.Proofs.YtddfdmopaeghnaaDoor
