/- Walk of the law LexParts: it returns true. Conditions: errors.errorType reads as the program's text lays it; the texts' own sizes. -/
import Derived.Test.YtddfdmopaeghnabDoorLexN
import Derived.Test.YtddfdmopaeghnabDoorInts0
import Derived.Test.YtddfdmopaeghnabDoorErrW
namespace Go.Proofs.YtddfdmopaeghnabDoor
open Go.RowKit

theorem wp_namedL {P : Program} {c : Code} {Q : Exit → Act → World → Prop} {a : Act} {w : World} (S : World → Prop) (hS : S w) (h : ∀ w', S w' → Code.wp P c Q a w') : Code.wp P c Q a w := h w hS

theorem str_one (l : List ByteArray) : ∀ u ∈ l.map Value.string, u.oneCell' = true := by
  intro u hu
  obtain ⟨x, _, rfl⟩ := List.mem_map.1 hu
  rfl
theorem factA_any (w : World) : Calls Tryd.prog 18 #[.string ⟨#[32, 97]⟩] w fun e w' => ∃ A c A2 c2, e = .returned (.tuple #[.slice A 1 c, .slice A2 1 c2, .int .i64 0, .nilIface]) ∧
    Txs w' w'.heap.size A [⟨#[97]⟩] ∧ NumsI w' w'.heap.size A2 [1] ∧ Below w.heap.size w w' :=
  (lex_ok_c factA_ok w (by simp only [maxLen]; decide)).mono fun e w' ⟨A, c, A2, c2, he, ht, hp, hb⟩ => by
    have hn := numsI_places hp (by rw [factA_ws]; simp [maxLen])
    rw [factA_ws] at he ht hn
    exact ⟨A, c, A2, c2, he, ht, hn, hb⟩
theorem factA_lit (w : World) : Txs (w.alloc (.cells #[.string ⟨#[97]⟩] 9)) (w.alloc (.cells #[.string ⟨#[97]⟩] 9)).heap.size (some ⟨w.heap.size, 0, none⟩) [⟨#[97]⟩] :=
  ⟨Sl.lit (sz := 1) w _ _ 1 rfl, by simp [maxLen], fun t ht => by simp at ht; subst ht; simp only [maxLen]; decide⟩
theorem factA_lit2 (w : World) : NumsI (w.alloc (.cells #[.int .i64 1] 3)) (w.alloc (.cells #[.int .i64 1] 3)).heap.size (some ⟨w.heap.size, 0, none⟩) [1] :=
  ⟨Sl.lit (sz := 1) w _ _ 1 rfl, by simp [maxLen]⟩

set_option maxRecDepth 100000 in
set_option maxHeartbeats 4000000 in
theorem lexParts_any (s t : ByteArray) (w : World) (hs : s.size ≤ 4611686018427387903) (ht2 : t.size ≤ 4611686018427387903) (ht : ErrT w) (hg : 0 + 1 ≤ w.heap.size) :
    Calls Tryd.prog 5 #[.string s, .string t] w (Ret w (.bool true)) := by
  have HT : Hid (∀ w' : World, Below w.heap.size w w' → ErrT w' ∧ 0 + 1 ≤ w'.heap.size) := Lib.hid (fun w' hb => ⟨ht.past hg hb, Nat.le_trans hg hb.size⟩)
  have HS := Lib.hid (fun w' => lex_any s w' (by simp only [maxLen]; omega))
  have HTT := Lib.hid (fun w' => lex_any t w' (by simp only [maxLen]; omega))
  clear ht
  go_enter Tryd.func5, Tryd.ntmps5
  go_upto_region 6 with (first
    | (go_at_call 18; refine (factA_any _).mono ?_; rintro e w1 ⟨A1, c1, A2, c2, rfl, ht1, hn1, hB1⟩; have HT1 := Lib.hid ht1; have HN1 := Lib.hid hn1; have HB1 := Lib.hid hB1; clear ht1 hn1 hB1)
    | (go_at_call 19; refine (texts_same _ 1 rfl _ _ _ _ _ (HT1.out.past ((Below.refl _ _).alloc (Nat.le_refl _) _)) (factA_lit _)).mono ?_; rintro e w2 ⟨rfl, hB2⟩; have hB12 := ((Below.refl w1.heap.size w1).alloc (Nat.le_refl _) (.cells #[.string ⟨#[97]⟩] 9)).trans (hB2.mono (by simp)); have HB12 := Lib.hid hB12; clear hB2 hB12)
    | (go_at_call 20; refine (ints_any [1] [1] 1 1 rfl rfl _ _ _ _ _ ((HN1.out.past HB12.out).past ((Below.refl _ _).alloc (Nat.le_refl _) _)) (factA_lit2 _)).mono ?_; rw [decide_eq_true rfl]; rintro e w3 ⟨rfl, hB3⟩; have hB23 := ((Below.refl w2.heap.size w2).alloc (Nat.le_refl _) (.cells #[.int .i64 1] 3)).trans (hB3.mono (by simp)); have HB3 : Hid (Below w.heap.size w w3) := Lib.hid ((HB1.out.trans (HB12.out.mono HB1.out.size)).trans (hB23.mono (by have := HB1.out.size; have := HB12.out.size; omega))); clear hB3 hB23))
  refine wp_namedL (fun wx => Below w.heap.size w wx) HB3.out ?_
  rintro wx hBx
  have HX := Lib.hid hBx
  clear hBx HB1 HB12 HB3 HT1 HN1
  by_cases hes : (lexE s).1 = 0
  case neg =>
    have HSB := Lib.hid (fun w' => lex_bad_c hes w' (by simp only [maxLen]; omega))
    generalize (lexE s).1 = q at *
    generalize (lexE s).2 = q2 at *
    by_cases het : (lexE t).1 = 0
    · have HTO := Lib.hid (fun w' => lex_ok_c het w' (by simp only [maxLen]; omega))
      clear hes het HS HTT
      go_wp2_with (first
        | (go_at_call 18; (fail_if_success have hz := hB4); refine (HSB.out _).mono ?_; rintro e w4 ⟨rfl, hB4⟩)
        | (go_at_call 18; refine (HTO.out _).mono ?_; rintro e w5 ⟨A3, c3, A4, c4, rfl, -, -, hB5⟩))
      go_ret
      exact ⟨rfl, HX.out.trans ((hB4.trans (hB5.mono hB4.size)).mono HX.out.size)⟩
    · have HTB := Lib.hid (fun w' => lex_bad_c het w' (by simp only [maxLen]; omega))
      generalize (lexE t).1 = r at *
      generalize (lexE t).2 = r2 at *
      clear hes het HS HTT
      go_wp2_with (first
        | (go_at_call 18; (fail_if_success have hz := hB4); refine (HSB.out _).mono ?_; rintro e w4 ⟨rfl, hB4⟩)
        | (go_at_call 18; refine (HTB.out _).mono ?_; rintro e w5 ⟨rfl, hB5⟩))
      go_ret
      exact ⟨rfl, HX.out.trans ((hB4.trans (hB5.mono hB4.size)).mono HX.out.size)⟩
  have HSO := Lib.hid (fun w' => lex_ok_c hes w' (by simp only [maxLen]; omega))
  by_cases het : (lexE t).1 = 0
  case neg =>
    have HTB := Lib.hid (fun w' => lex_bad_c het w' (by simp only [maxLen]; omega))
    generalize (lexE t).1 = r at *
    generalize (lexE t).2 = r2 at *
    clear hes het HS HTT
    go_wp2_with (first
      | (go_at_call 18; (fail_if_success have hz := hB4); refine (HSO.out _).mono ?_; rintro e w4 ⟨A3, c3, A4, c4, rfl, -, -, hB4⟩)
      | (go_at_call 18; refine (HTB.out _).mono ?_; rintro e w5 ⟨rfl, hB5⟩))
    go_ret
    exact ⟨rfl, HX.out.trans ((hB4.trans (hB5.mono hB4.size)).mono HX.out.size)⟩
  have HTO := Lib.hid (fun w' => lex_ok_c het w' (by simp only [maxLen]; omega))
  have hz1 := (lexE_parts hes).1
  have hz2 := (lexE_parts het).1
  have hn1 := lexWs_count hes
  have hn2 := lexWs_count het
  have hgz := glue_size s t
  have hgw := glue_words hes het
  have hgp := glue_places hes het
  have hge := glue_fault hes het
  have hgl : (lexWs (glue s t)).length = (lexWs s).length + (lexWs t).length := by rw [glue_ws hes het]; simp
  have HPT := Lib.hid (fun p hp => place_le (s := t) p hp)
  have HWZ : Hid (∀ z ∈ wordBs (lexWs s) ++ wordBs (lexWs t), z.size ≤ maxLen) := Lib.hid (fun z hz => by
    rcases List.mem_append.1 hz with hz | hz <;> obtain ⟨p, hp, rfl⟩ := List.mem_map.1 hz
    · have := (lexWs_len hz1 p hp).1
      show p.2.toArray.size ≤ maxLen
      simp [maxLen]; omega
    · have := (lexWs_len hz2 p hp).1
      show p.2.toArray.size ≤ maxLen
      simp [maxLen]; omega)
  have hcat1 : ∀ w', (Op.stringOp .add s ⟨#[10]⟩).run Tryd.prog w' = .ok (.string (s ++ ⟨#[10]⟩)) w' := fun w' => run_string_add_sum w' s ⟨#[10]⟩ (by show s.size + 1 ≤ _; omega)
  have hcat2 : ∀ w', (Op.stringOp .add (s ++ ⟨#[10]⟩) t).run Tryd.prog w' = .ok (.string (glue s t)) w' := fun w' => run_string_add_sum w' _ t (by rw [ByteArray.size_append]; show s.size + 1 + t.size ≤ _; omega)
  by_cases heg : (lexE (glue s t)).1 = 0
  case neg =>
    have HGB := Lib.hid (fun w' => lex_bad_c heg w' (by simp only [maxLen]; omega))
    rw [hge heg] at HGB
    generalize (lexE (glue s t)).2 = r2 at *
    clear hge hgw hgp hgl hes het heg HS HTT HPT HWZ
    generalize glue s t = G at *
    go_wp2_with (first
      | (go_at_call 18; (fail_if_success have hz := hB4); refine (HSO.out _).mono ?_; rintro e w4 ⟨A3, c3, A4, c4, rfl, -, -, hB4⟩)
      | (go_at_call 18; (fail_if_success have hz := hB5); refine (HTO.out _).mono ?_; rintro e w5 ⟨A5, c5, A6, c6, rfl, -, -, hB5⟩)
      | (go_at_call 18; refine (HGB.out _).mono ?_; rintro e w6 ⟨rfl, hB6⟩; have HB6 : Hid (Below w.heap.size w w6) := Lib.hid (HX.out.trans (((hB4.trans (hB5.mono hB4.size)).trans (hB6.mono (Nat.le_trans hB4.size hB5.size))).mono HX.out.size)))
      | (go_at_call 13; refine (error_same 3 (by decide) _ (HT.out _ HB6.out).1 (HT.out _ HB6.out).2).mono ?_; rintro e w7 ⟨rfl, hB7⟩))
    go_ret
    exact ⟨rfl, HB6.out.trans (hB7.mono HB6.out.size)⟩
  have HGO := Lib.hid (fun w' => lex_ok_c heg w' (by simp only [maxLen]; omega))
  have HGW := Lib.hid hgw; have HGP := Lib.hid hgp; have HGL := Lib.hid hgl
  clear hge hgw hgp hgl hes het heg HS HTT
  obtain ⟨G, hG⟩ : ∃ G, glue s t = G := ⟨_, rfl⟩
  rw [hG] at hcat2 HGO HGW HGP HGL hgz
  clear hG
  go_upto_region 13 with (first
    | (go_at_call 18; (fail_if_success have hz := hB4); refine (HSO.out _).mono ?_; rintro e w4 ⟨A3, c3, A4, c4, rfl, ht4, hp4, hB4⟩; have HT4 := Lib.hid ht4; have HP4 := Lib.hid hp4; clear ht4 hp4)
    | (go_at_call 18; (fail_if_success have hz := hB5); refine (HTO.out _).mono ?_; rintro e w5 ⟨A5, c5, A6, c6, rfl, ht5, hp5, hB5⟩; have HT5 := Lib.hid ht5; have HP5 := Lib.hid hp5; clear ht5 hp5)
    | (go_at_call 18; refine (HGO.out _).mono ?_; rintro e w6 ⟨A7, c7, A8, c8, rfl, ht6, hp6, hB6⟩; have HT6 := Lib.hid ht6; have HP6 := Lib.hid hp6; clear ht6 hp6))
  have hm1 : (lexWs s).length ≤ maxLen := by simp only [maxLen]; omega
  have hm2 : (lexWs t).length ≤ maxLen := by simp only [maxLen]; omega
  have hb6 : Below w.heap.size w w6 := HX.out.trans (((hB4.trans (hB5.mono hB4.size)).trans (hB6.mono (Nat.le_trans hB4.size hB5.size))).mono HX.out.size)
  have t4 := (HT4.out.past hB5).past hB6
  have t5 := HT5.out.past hB6
  have n4 := ((numsI_places HP4.out hm1).past hB5).past hB6
  have n5 := (numsI_places HP5.out hm2).past hB6
  have t6 := HT6.out
  have n6 := numsI_places HP6.out (by rw [HGL.out]; simp only [maxLen]; omega)
  rw [HGW.out] at t6
  rw [HGP.out] at n6
  rw [HGL.out]
  have e1 : (wordBs (lexWs s)).length = (lexWs s).length := by simp [wordBs]
  have e2 : (wordBs (lexWs t)).length = (lexWs t).length := by simp [wordBs]
  have e3 : (placesL (lexWs s)).length = (lexWs s).length := by simp [placesL]
  have e4 : (placesL (lexWs t)).length = (lexWs t).length := by simp [placesL]
  have HPB : Hid (∀ z ∈ placesL (lexWs t), 0 ≤ z ∧ z ≤ 60000) := Lib.hid (fun z hz => by
    obtain ⟨p, hp, rfl⟩ := List.mem_map.1 hz
    have := HPT.out p hp
    omega)
  have HB6 := Lib.hid hb6
  clear HT4 HT5 HT6 HP4 HP5 HP6 HGW HGP HGL HPT hb6 hB4 hB5 hB6 HSO HTO HGO hm1 hm2 HX
  generalize (lexWs s).length = n1 at *
  generalize (lexWs t).length = n2 at *
  generalize wordBs (lexWs s) = W1 at *
  generalize wordBs (lexWs t) = W2 at *
  generalize placesL (lexWs s) = P1 at *
  generalize placesL (lexWs t) = P2 at *
  obtain ⟨i0, hi0, hzz0, hzz1, hzz2⟩ := info_parts int_info
  obtain ⟨iS, hiS, hzS, hzS1, hzS2⟩ := info_parts str_info
  have NE : Hid ((9 : TypeId) ≠ 3) := Lib.hid (by decide)
  have HT4 := Lib.hid t4; have HT5 := Lib.hid t5; have HN4 := Lib.hid n4; have HN5 := Lib.hid n5; have HT6 := Lib.hid t6; have HN6 := Lib.hid n6
  have s4 := t4.1; have s5 := t5.1; have s6 := n4.1
  rw [e1] at s4
  rw [e2] at s5
  rw [e3] at s6
  have S4 := Lib.hid s4; have S5 := Lib.hid s5; have S6 := Lib.hid s6
  have E1 := Lib.hid e1; have E2 := Lib.hid e2; have E3 := Lib.hid e3; have E4 := Lib.hid e4
  clear t4 t5 n4 n5 t6 n6 s4 s5 s6 e1 e2 e3 e4
  go_upto_region 19 with (first
    | (at_builtin; (fail_if_success have hz := H1); refine wpList_app _ rfl (.tmp 82) (.tmp 83) _ rfl w6.heap.size 9 iS (.string .empty) 1 16 Tryd.underlying37 hiS hzS hzS1 hzS2 rfl (by decide) _ 0 _ rfl (World.ownsRow_nil _ _ _ _) _ A3 n1 c3 (W1.map .string) rfl S4.out (str_one W1) (by simp only [maxLen]; omega) (by omega) (Nat.le_refl _) ?_; intro v1 w7 hown1 hg1 hat1; clear hat1; have HB7 : Hid (Below w6.heap.size w6 w7) := Lib.hid (below_app (Below.refl _ _) (World.ownsRow_nil w6 w6.heap.size 9 1) hg1 (Nat.le_refl _) (Nat.le_refl w6.heap.size)); have H1 := Lib.hid hown1; clear hown1 hg1)
    | (at_builtin; (fail_if_success have hz := H2); refine wpList_app _ rfl (.tmp 85) (.tmp 86) _ rfl w6.heap.size 9 iS (.string .empty) 1 16 Tryd.underlying37 hiS hzS hzS1 hzS2 rfl (by decide) _ (0 + n1) _ rfl H1.out _ A5 n2 c5 (W2.map .string) rfl (S5.out.past HB7.out) (str_one W2) (by simp only [maxLen]; omega) (by omega) HB7.out.size ?_; intro v2 w8 hown2 hg2 hat2; clear hat2; have HB8 : Hid (Below w6.heap.size w6 w8) := Lib.hid (below_app HB7.out H1.out hg2 HB7.out.size (Nat.le_refl _)); have H2 : Hid (w8.ownsRow w6.heap.size 9 1 v2 (n1 + n2) ((W1 ++ W2).map .string)) := Lib.hid (by simpa using hown2); clear hown2 hg2)
    | (at_builtin; refine wpList_app _ rfl (.tmp 88) (.tmp 89) _ rfl w6.heap.size 3 i0 (.int .i64 0) 1 8 Tryd.underlying38 hi0 hzz0 hzz1 hzz2 rfl (by decide) _ 0 _ rfl (World.ownsRow_nil _ _ _ _) _ A4 n1 c4 (P1.map (.int .i64)) rfl (S6.out.past HB8.out) (int_one P1) (by simp only [maxLen]; omega) (by omega) HB8.out.size ?_; intro v3 w9 hown3 hg3 hat3; clear hat3; have HB9 : Hid (Below w6.heap.size w6 w9) := Lib.hid (below_app HB8.out (World.ownsRow_nil w8 w6.heap.size 3 1) hg3 HB8.out.size (Nat.le_refl w6.heap.size)); have H2 := Lib.hid (H2.out.kept hg3 (rows_apart H2.out (World.ownsRow_nil _ w6.heap.size 3 1) NE.out)); have H3 : Hid (w9.ownsRow w6.heap.size 3 1 v3 n1 (P1.map (.int .i64))) := Lib.hid (by simpa using hown3); clear hown3 hg3))
  have hv1 : (n1 : Int) ≤ 60000 := by omega
  go_loopw [24, 25] (fun pv i wr => ∃ k : Nat, k ≤ n2 ∧ i = .int .i64 k ∧ wr.ownsRow w6.heap.size 3 1 pv (n1 + k) ((P1 ++ (P2.take k).map (fun a => a + (s.size : Int) + 1)).map (.int .i64)) ∧ wr.ownsRow w6.heap.size 9 1 v2 (n1 + n2) ((W1 ++ W2).map .string) ∧ Below w6.heap.size w6 wr) (fun _ i _ => n2 - (intOf i).toNat)
  case atStart => exact ⟨0, by omega, rfl, by simpa using H3.out, H2.out, HB9.out⟩
  case round =>
    rename_i wr
    obtain ⟨k, hk, rfl, hpr, hwr, hbr⟩ := hrel
    have HPR := Lib.hid hpr; have HWR := Lib.hid hwr; have HBR := Lib.hid hbr
    clear hpr hwr H1 H2 H3 HB7 HB8 HB9
    by_cases hlt : k < n2
    · have hk4 : k < P2.length := by rw [E4.out]; exact hlt
      obtain ⟨b, off, v, rfl, hb, hv, hcell⟩ := HN5.out.one HBR.out hk4
      obtain ⟨hv0, hv6⟩ := HPB.out v (by rw [← hv]; exact List.getElem_mem hk4)
      have HTK : Hid (P1 ++ (P2.take (k + 1)).map (fun a => a + (s.size : Int) + 1) = (P1 ++ (P2.take k).map (fun a => a + (s.size : Int) + 1)) ++ [v + (s.size : Int) + 1]) := Lib.hid (by rw [List.take_succ_eq_append_getElem hk4, hv, List.map_append, List.append_assoc]; rfl)
      generalize P1 ++ (P2.take k).map (fun a => a + (s.size : Int) + 1) = L at *
      have k1 : IntKind.i64.wrap (v + (s.size : Int)) = v + (s.size : Int) := IntWalk.i64_in _ (by omega)
      have k2 : IntKind.i64.wrap (v + (s.size : Int) + 1) = v + (s.size : Int) + 1 := IntWalk.i64_in _ (by omega)
      have hsr := HBR.out.size
      have hbw : b < wr.heap.size := by omega
      clear hv hk4
      go_wp2_with (at_builtin; refine wpList_app _ rfl (.tmp 97) (.tmp 106) _ rfl w6.heap.size 3 i0 (.int .i64 0) 1 8 Tryd.underlying38 hi0 hzz0 hzz1 hzz2 rfl (by decide) _ (n1 + k) _ rfl (World.ownsRow.alloc HPR.out _) _ _ 1 1 [.int .i64 (v + (s.size : Int) + 1)] rfl (Sl.lit (sz := 1) _ #[.int .i64 (v + (s.size : Int) + 1)] 3 1 rfl) (by simp [Value.oneCell']) (by simp only [maxLen]; omega) (by omega) (by simp; omega) ?_; intro v5 w10 hown5 hg5 hat5; clear hat5; have HB10 : Hid (Below w6.heap.size w6 w10) := Lib.hid (below_app (HBR.out.alloc hsr _) (World.ownsRow.alloc HPR.out _) hg5 (HBR.out.alloc hsr _).size (Nat.le_refl _)); have HW10 := Lib.hid ((World.ownsRow.alloc HWR.out _).kept hg5 (rows_apart HWR.out HPR.out NE.out)); have HP10 := Lib.hid hown5; clear hown5 hg5)
      go_roundw
      case measure => simp [intOf]; omega
      case rel => exact ⟨k + 1, by omega, by go_num, by rw [HTK.out, List.map_append]; exact HP10.out, HW10.out, HB10.out⟩
    · obtain rfl : k = n2 := by omega
      have htk : P2.take k = P2 := List.take_of_length_le (by rw [E4.out]; exact Nat.le_refl _)
      rw [htk] at HPR
      obtain ⟨A9, c9, hpv⟩ := own_slice HPR.out
      obtain ⟨A10, c10, hwv⟩ := own_slice HWR.out
      subst hpv hwv
      have hsr := HBR.out.size
      have htw : Txs wr wr.heap.size A10 (W1 ++ W2) := by
        have hl : (W1 ++ W2).length = n1 + k := by rw [List.length_append, E1.out, E2.out]
        exact ⟨by rw [hl]; exact Sl.of_own HWR.out, by rw [hl]; simp only [maxLen]; omega, HWZ.out⟩
      have hll : (P1 ++ P2.map (fun a => a + (s.size : Int) + 1)).length = n1 + k := by rw [List.length_append, List.length_map, E3.out, E4.out]
      have hnp : NumsI wr wr.heap.size A9 (P1 ++ P2.map (fun a => a + (s.size : Int) + 1)) := ⟨by rw [hll]; exact Sl.of_own HPR.out, by rw [hll]; simp only [maxLen]; omega⟩
      have hwl : (W1 ++ W2).length = n1 + k := by rw [List.length_append, E1.out, E2.out]
      have HTW := Lib.hid htw; have HNP := Lib.hid hnp
      have HII := Lib.hid (fun (w' : World) h1 h2 => ints_any (P1 ++ P2.map (fun a => a + (s.size : Int) + 1)) (P1 ++ P2.map (fun a => a + (s.size : Int) + 1)) (n1 + k) (n1 + k) hll hll A8 A9 c8 c9 w' h1 h2)
      rw [decide_eq_true rfl] at HII
      clear htw hnp
      go_wp2_with (first
        | (go_at_call 19; refine (texts_same (W1 ++ W2) (n1 + k) hwl _ _ _ _ _ (HT6.out.past HBR.out) HTW.out).mono ?_; rintro e w11 ⟨rfl, hB11⟩)
        | (go_at_call 20; refine (HII.out _ ((HN6.out.past HBR.out).past hB11) (HNP.out.past hB11)).mono ?_; rintro e w12 ⟨rfl, hB12⟩))
      go_ret
      exact ⟨rfl, HB6.out.trans ((HBR.out.trans ((hB11.trans (hB12.mono hB11.size)).mono hsr)).mono HB6.out.size)⟩
end Go.Proofs.YtddfdmopaeghnabDoor
