/- Walk: way.Show. Condition: both slices lie below the call's own blocks. -/
import Derived.Test.YtddfdmopaeghnacGreatDoorWayW
import Derived.Test.YtddfdmopaeghnacGreatDoorShowP
import Derived.Test.YtddfdmopaeghnacGreatDoorAllP
import Derived.Test.YtddfdmopaeghnacGreatDoorBld
import Derived.Test.YtddfdmopaeghnacGreatDoorNums
import Derived.Test.YtddfdmopaeghnacGreatDoorOfS
namespace Go.Proofs.YtddfdmopaeghnacGreatDoor
open Go.RowKit

theorem badBit_more {ws : List Int} {k : Nat} (ha : badBit (ws.take k) = false) (hk : k < ws.length) {v : Int} (hv : ws[k] = v) (h : v = 0 ∨ v = 1) : badBit (ws.take (k + 1)) = false := by
  unfold badBit at ha ⊢
  rw [List.take_succ_eq_append_getElem hk, List.any_append, ha, hv]
  rcases h with rfl | rfl <;> rfl
theorem badBit_yes {ws : List Int} {k : Nat} (hk : k < ws.length) {v : Int} (hv : ws[k] = v) (h : v ≠ 0 ∧ v ≠ 1) : badBit ws = true := by
  unfold badBit
  rw [List.any_eq_true]
  exact ⟨ws[k], List.getElem_mem hk, by rw [hv]; exact decide_eq_true h⟩

def ShowTo (r : Except Int ByteArray) (w : World) (e : Ending) (w' : World) : Prop := e = .returned (match r with | .ok s => .tuple #[.string s, .nilIface] | .error q => .tuple #[.string .empty, .iface 43 (.int .i64 q)]) ∧ Below w.heap.size w w'

set_option maxRecDepth 100000 in
set_option maxHeartbeats 2000000 in
theorem show_bad (l : List Nd) (A : Option Addr) (n c : Nat) (hn : l.length = n) (M : Option Addr) (m cm : Nat) (w : World) (hl : Nds w w.heap.size A l) (he : checkF l ≠ 0) :
    Calls Tryz.prog 16 #[.slice A n c, .slice M m cm] w (ShowTo (.error (checkF l)) w) := by
  subst hn
  have HC := Lib.hid (check_any l A c w hl)
  rw [← errV_pos he] at HC
  generalize checkF l = q at *
  clear he hl
  go_enter Tryz.func16, Tryz.ntmps16
  go_wp2_with (go_at_call 43; refine HC.out.mono ?_; rintro e w1 ⟨rfl, hB1⟩)
  go_ret2
  exact ⟨rfl, (by repeat (first | exact Below.refl _ _ | assumption | apply Below.drew | refine below_drewN ?_ _ | apply Below.setCell _ (by first | omega | (simp; done) | (simp; omega)) | apply Below.alloc _ (by first | omega | (simp; done) | (simp; omega))))⟩

set_option maxRecDepth 100000 in
set_option maxHeartbeats 2000000 in
theorem show_bit (l : List Nd) (A : Option Addr) (n c : Nat) (hn : l.length = n) (ws : List Int) (M : Option Addr) (m cm : Nat) (hm : ws.length = m) (w : World) (hl : Nds w w.heap.size A l) (hM : NumsI w w.heap.size M ws) (he : checkF l = 0) (hb : badBit ws = true) :
    Calls Tryz.prog 16 #[.slice A n c, .slice M m cm] w (ShowTo (.error 1) w) := by
  subst hn hm
  have HC := Lib.hid (check_any l A c w hl)
  rw [he, ← errV_zero rfl] at HC
  have hm63 := hM.2
  unfold maxLen at hm63
  have HM := Lib.hid hM; have HBB := Lib.hid hb
  clear he hl hM hb
  go_enter Tryz.func16, Tryz.ntmps16
  go_wp2_with (go_at_call 43; refine HC.out.mono ?_; rintro e w1 ⟨rfl, hB1⟩)
  have HM1 := Lib.hid (HM.out.past hB1)
  go_loop [25] (fun i => ∃ k : Nat, k ≤ ws.length ∧ i = .int .i64 k ∧ badBit (ws.take k) = false) (fun i => ws.length - (intOf i).toNat)
  case atStart => exact ⟨0, by omega, rfl, rfl⟩
  case round =>
    obtain ⟨k, hk, rfl, ha⟩ := hrel
    have HA := Lib.hid ha; clear ha
    by_cases hlt : k < ws.length
    · obtain ⟨b, off, v, rfl, hb, hv, hcell⟩ := HM1.out.one (Below.refl _ _) hlt
      have HV := Lib.hid hv; clear hv
      by_cases h0 : v = 0
      · subst h0
        have HG := Lib.hid (badBit_more HA.out hlt HV.out (.inl rfl))
        go_wp2
        go_round
        case rel => exact ⟨k + 1, by omega, by go_num, HG.out⟩
        case measure => simp [intOf]; omega
      · by_cases h1 : v = 1
        · subst h1
          have HG := Lib.hid (badBit_more HA.out hlt HV.out (.inr rfl))
          go_wp2
          go_round
          case rel => exact ⟨k + 1, by omega, by go_num, HG.out⟩
          case measure => simp [intOf]; omega
        · have k1 : (v != 0) = true := by simpa using h0
          have k2 : (v != 1) = true := by simpa using h1
          clear h0 h1
          go_wp2
          go_ret2
          exact ⟨rfl, (by repeat (first | exact Below.refl _ _ | assumption | apply Below.drew | refine below_drewN ?_ _ | apply Below.setCell _ (by first | omega | (simp; done) | (simp; omega)) | apply Below.alloc _ (by first | omega | (simp; done) | (simp; omega))))⟩
    · exfalso
      have := HA.out
      rw [List.take_of_length_le (by omega), HBB.out] at this
      cases this

theorem bits_tail {v : Int} {r : List Int} (h : Bits (v :: r)) : (v = 0 ∨ v = 1) ∧ Bits r := ⟨h v (by simp), fun c hc => h c (by simp [hc])⟩
theorem bits_of {ws : List Int} (h : badBit ws = false) : Bits ws := by
  intro c hc
  unfold badBit at h
  rw [List.any_eq_false] at h
  have := h c hc
  simp at this
  by_cases h0 : c = 0
  · exact .inl h0
  · exact .inr (this h0)

set_option maxRecDepth 100000 in
set_option maxHeartbeats 8000000 in
theorem show_good (hof : OfSaid) {l : List Nd} {x : D} (hd : Doc l x) (A : Option Addr) (n c : Nat) (hn : l.length = n) (ws : List Int) (M : Option Addr) (m cm : Nat) (hm : ws.length = m) (hcm : m ≤ cm) (w : World) (hl : Nds w w.heap.size A l) (hM : NumsI w w.heap.size M ws) (hb : badBit ws = false) :
    Calls Tryz.prog 16 #[.slice A n c, .slice M m cm] w (ShowTo (showD x ws) w) := by
  subst hn hm
  have HC := Lib.hid (check_any l A c w hl)
  rw [hd.check, ← errV_zero rfl] at HC
  have hm63 := hM.2
  unfold maxLen at hm63
  have h400 := hd.len
  have HOF := Lib.hid hof
  have HM := Lib.hid hM; have HN := Lib.hid hl; have HD := Lib.hid hd
  have HBT := Lib.hid (bits_of hb)
  clear hl hM hb hd hof
  go_enter Tryz.func16, Tryz.ntmps16
  go_wp2_with (go_at_call 43; refine HC.out.mono ?_; rintro e w1 ⟨rfl, hB1⟩)
  have HM1 := Lib.hid (HM.out.past hB1)
  have HN1 := Lib.hid (HN.out.past hB1)
  clear HM HN HC
  go_loop [25] (fun i => ∃ k : Nat, k ≤ ws.length ∧ i = .int .i64 k) (fun i => ws.length - (intOf i).toNat)
  case atStart => exact ⟨0, by omega, rfl⟩
  case round =>
    obtain ⟨k, hk, rfl⟩ := hrel
    by_cases hlt : k < ws.length
    · obtain ⟨b, off, v, rfl, hb, hv, hcell⟩ := HM1.out.one (Below.refl _ _) hlt
      have h01 : v = 0 ∨ v = 1 := by rw [← hv]; exact HBT.out _ (List.getElem_mem hlt)
      clear hv
      rcases h01 with rfl | rfl
      all_goals
        go_wp2
        go_round
        case rel => exact ⟨k + 1, by omega, by go_num⟩
        case measure => simp [intOf]; omega
    · go_wp2_with (go_at_call 50; refine (HOF.out l x A c _ HN1.out HD.out).mono ?_; rintro e w2 ⟨gp, rfl, hgp, hpl, hB2⟩; have HPL0 := Lib.hid hpl; clear hpl)
      have HB12 := Lib.hid (hB1.trans (hB2.mono hB1.size))
      have HM2 := Lib.hid (HM1.out.past hB2)
      have HN2 := Lib.hid (HN1.out.past hB2)
      have HPL := HPL0
      have hbn := Bld.new w2
      have hb0 : Below w2.heap.size w2 (w2.alloc (.cells #[.pointer none, .slice none 0 0] 104)) := (Below.refl _ _).alloc (Nat.le_refl _) _
      have HBN := Lib.hid hbn; have HB0 := Lib.hid hb0
      have h0 : endK (layK [(x, 0)] ws .empty) = showD x ws := (showD_K x ws).symm
      have hsx : l.length = x.sz := by rw [HD.out.enc, D.len_enc]
      have HS0 := Lib.hid h0; have HSX := Lib.hid hsx
      clear hbn hb0 h0 hsx HM1 HN1 HPL0 hB1 hB2 hgp
      generalize showD x ws = RES at *
      generalize w2.alloc (.cells #[.pointer none, .slice none 0 0] 104) = w3 at *
      go_loopw [1, 11] (fun way i wr => ∃ (q : Nat) (A' : Option Addr) (c' : Nat) (ws' : List Int) (acc : ByteArray) (K : List (D × Int)), i = .int .i64 q ∧ way = .slice A' ws'.length c' ∧ ws'.length ≤ c' ∧ NumsI w2 w2.heap.size A' ws' ∧ Bits ws' ∧ Rep l q K ∧ endK (layK K ws' acc) = RES ∧ acc.size + 3300 * szK K ≤ 1400000 ∧ Bld w2.heap.size w2.heap.size acc wr ∧ Below w2.heap.size w2 wr) (fun _ i _ => leftOf l (intOf i).toNat)
      case atStart => exact ⟨0, M, cm, ws, .empty, [(x, 0)], rfl, rfl, hcm, HM2.out, HBT.out, HD.out.rep0, HS0.out, by simp only [szK, ByteArray.size_empty]; have := HSX.out; omega, HBN.out, HB0.out⟩
      case round =>
        obtain ⟨q, A', c', ws', acc, K, rfl, rfl, hlc, hnw, hbi, hrp, hen, hac, hbd, hbe⟩ := hrel
        have HNW := Lib.hid hnw; have HBI := Lib.hid hbi; have HR := Lib.hid hrp; have HE := Lib.hid hen; have HBd := Lib.hid hbd; have HBel := Lib.hid hbe
        have hszr := hbe.size
        have hnw63 := hnw.2
        unfold maxLen at hnw63
        clear hnw hbi hrp hen hbd hbe HBN HB0 HS0
        by_cases hlt : q < l.length
        · obtain ⟨op, t, nn, hND, hops⟩ : ∃ op t nn, l[q] = Nd.mk op t nn ∧ (op = 1 ∨ op = 2 ∨ op = 3 ∨ op = 4 ∨ op = 5 ∨ op = 6 ∨ op = 7 ∨ op = 8 ∨ op = 9) := ⟨l[q].op, l[q].text, l[q].n, rfl, HD.out.ops hlt rfl⟩
          rcases hops with rfl | rfl | rfl | rfl | rfl | rfl | rfl | rfl | rfl
          · -- op 1
            obtain ⟨K', hr', hsz', hac', hly'⟩ := step_word HD.out HR.out hlt hND
            have hr2 := HE.out
            rw [hly'] at hr2
            have HR' := Lib.hid hr'; have HE' := Lib.hid hr2
            have HM1 : Hid (leftOf l (nextAt l q) < leftOf l q) := Lib.hid (by rw [leftOf_eq HR.out, leftOf_eq hr']; exact hsz')
            clear hr' hly' hr2 hsz'
            have HPC := Lib.hid (fun w' (hp : IsPlan w' gp A c l) (hl : Nds w' w'.heap.size A l) => piece_word HD.out w' hp hl hlt hND)
            generalize nextAt l q = NX at *
            clear hND
            go_wp2_with (first
              | (go_at_call 51; refine (HPC.out _ (HPL.out.past HBel.out) (HN2.out.past HBel.out)).mono ?_; rintro e w3 ⟨rfl, hB3⟩; have HB3 := Lib.hid (HBel.out.trans (hB3.mono HBel.out.size)); have HBD3 := Lib.hid (HBd.out.past hB3); clear hB3)
              | (go_at_call 47; refine (bld_write _ _ _ _ _ HBD3.out (by omega)).mono ?_; rintro e w5 ⟨rfl, hb5, hB5⟩; have HB5 := Lib.hid hb5; have HB6 := Lib.hid (HB3.out.trans hB5); clear hb5 hB5))
            go_roundw
            case measure => simpa [intOf] using HM1.out
            case rel => exact ⟨NX, A', c', ws', _, K', by go_num, rfl, hlc, HNW.out, HBI.out, HR'.out, HE'.out, by rw [ByteArray.size_append]; omega, HB5.out, HB6.out⟩
          · -- op 2
            obtain ⟨K', hr', hsz', hac', hly'⟩ := step_line HD.out HR.out hlt hND (.inl rfl)
            have hr2 := HE.out
            rw [hly'] at hr2
            have HR' := Lib.hid hr'; have HE' := Lib.hid hr2
            have HM1 : Hid (leftOf l (nextAt l q) < leftOf l q) := Lib.hid (by rw [leftOf_eq HR.out, leftOf_eq hr']; exact hsz')
            clear hr' hly' hr2 hsz'
            have HPC := Lib.hid (fun w' (hp : IsPlan w' gp A c l) (hl : Nds w' w'.heap.size A l) => piece_line HD.out w' hp hl hlt hND (.inl rfl))
            generalize nextAt l q = NX at *
            generalize (⟨#[10]⟩ ++ blanksB (deepAt l q).toNat : ByteArray) = BL at *
            clear hND
            go_wp2_with (first
              | (go_at_call 51; refine (HPC.out _ (HPL.out.past HBel.out) (HN2.out.past HBel.out)).mono ?_; rintro e w3 ⟨rfl, hB3⟩; have HB3 := Lib.hid (HBel.out.trans (hB3.mono HBel.out.size)); have HBD3 := Lib.hid (HBd.out.past hB3); clear hB3)
              | (go_at_call 47; refine (bld_write _ _ _ _ _ HBD3.out (by omega)).mono ?_; rintro e w5 ⟨rfl, hb5, hB5⟩; have HB5 := Lib.hid hb5; have HB6 := Lib.hid (HB3.out.trans hB5); clear hb5 hB5))
            go_roundw
            case measure => simpa [intOf] using HM1.out
            case rel => exact ⟨NX, A', c', ws', _, K', by go_num, rfl, hlc, HNW.out, HBI.out, HR'.out, HE'.out, by rw [ByteArray.size_append]; omega, HB5.out, HB6.out⟩
          · -- op 3
            obtain ⟨K', hr', hsz', hac', hly'⟩ := step_line HD.out HR.out hlt hND (.inr (.inl rfl))
            have hr2 := HE.out
            rw [hly'] at hr2
            have HR' := Lib.hid hr'; have HE' := Lib.hid hr2
            have HM1 : Hid (leftOf l (nextAt l q) < leftOf l q) := Lib.hid (by rw [leftOf_eq HR.out, leftOf_eq hr']; exact hsz')
            clear hr' hly' hr2 hsz'
            have HPC := Lib.hid (fun w' (hp : IsPlan w' gp A c l) (hl : Nds w' w'.heap.size A l) => piece_line HD.out w' hp hl hlt hND (.inr (.inl rfl)))
            generalize nextAt l q = NX at *
            generalize (⟨#[10]⟩ ++ blanksB (deepAt l q).toNat : ByteArray) = BL at *
            clear hND
            go_wp2_with (first
              | (go_at_call 51; refine (HPC.out _ (HPL.out.past HBel.out) (HN2.out.past HBel.out)).mono ?_; rintro e w3 ⟨rfl, hB3⟩; have HB3 := Lib.hid (HBel.out.trans (hB3.mono HBel.out.size)); have HBD3 := Lib.hid (HBd.out.past hB3); clear hB3)
              | (go_at_call 47; refine (bld_write _ _ _ _ _ HBD3.out (by omega)).mono ?_; rintro e w5 ⟨rfl, hb5, hB5⟩; have HB5 := Lib.hid hb5; have HB6 := Lib.hid (HB3.out.trans hB5); clear hb5 hB5))
            go_roundw
            case measure => simpa [intOf] using HM1.out
            case rel => exact ⟨NX, A', c', ws', _, K', by go_num, rfl, hlc, HNW.out, HBI.out, HR'.out, HE'.out, by rw [ByteArray.size_append]; omega, HB5.out, HB6.out⟩
          · -- op 4
            obtain ⟨K', hr', hsz', hac', hly'⟩ := step_line HD.out HR.out hlt hND (.inr (.inr rfl))
            have hr2 := HE.out
            rw [hly'] at hr2
            have HR' := Lib.hid hr'; have HE' := Lib.hid hr2
            have HM1 : Hid (leftOf l (nextAt l q) < leftOf l q) := Lib.hid (by rw [leftOf_eq HR.out, leftOf_eq hr']; exact hsz')
            clear hr' hly' hr2 hsz'
            have HPC := Lib.hid (fun w' (hp : IsPlan w' gp A c l) (hl : Nds w' w'.heap.size A l) => piece_line HD.out w' hp hl hlt hND (.inr (.inr rfl)))
            generalize nextAt l q = NX at *
            generalize (⟨#[10]⟩ ++ blanksB (deepAt l q).toNat : ByteArray) = BL at *
            clear hND
            go_wp2_with (first
              | (go_at_call 51; refine (HPC.out _ (HPL.out.past HBel.out) (HN2.out.past HBel.out)).mono ?_; rintro e w3 ⟨rfl, hB3⟩; have HB3 := Lib.hid (HBel.out.trans (hB3.mono HBel.out.size)); have HBD3 := Lib.hid (HBd.out.past hB3); clear hB3)
              | (go_at_call 47; refine (bld_write _ _ _ _ _ HBD3.out (by omega)).mono ?_; rintro e w5 ⟨rfl, hb5, hB5⟩; have HB5 := Lib.hid hb5; have HB6 := Lib.hid (HB3.out.trans hB5); clear hb5 hB5))
            go_roundw
            case measure => simpa [intOf] using HM1.out
            case rel => exact ⟨NX, A', c', ws', _, K', by go_num, rfl, hlc, HNW.out, HBI.out, HR'.out, HE'.out, by rw [ByteArray.size_append]; omega, HB5.out, HB6.out⟩
          · -- op 5
            obtain ⟨K', hr', hsz', hac', hly'⟩ := step_zero HD.out HR.out hlt hND
            have hr2 := HE.out
            rw [hly'] at hr2
            have HR' := Lib.hid hr'; have HE' := Lib.hid hr2
            have HM1 : Hid (leftOf l (nextAt l q) < leftOf l q) := Lib.hid (by rw [leftOf_eq HR.out, leftOf_eq hr']; exact hsz')
            clear hr' hly' hr2 hsz'
            have HPC := Lib.hid (fun w' (hp : IsPlan w' gp A c l) (hl : Nds w' w'.heap.size A l) => piece_zero HD.out w' hp hl hlt hND)
            generalize nextAt l q = NX at *
            clear hND
            go_wp2_with (first
              | (go_at_call 51; refine (HPC.out _ (HPL.out.past HBel.out) (HN2.out.past HBel.out)).mono ?_; rintro e w3 ⟨rfl, hB3⟩; have HB3 := Lib.hid (HBel.out.trans (hB3.mono HBel.out.size)); have HBD3 := Lib.hid (HBd.out.past hB3); clear hB3)
              | (go_at_call 47; refine (bld_write _ _ _ _ _ HBD3.out (by omega)).mono ?_; rintro e w5 ⟨rfl, hb5, hB5⟩; have HB5 := Lib.hid hb5; have HB6 := Lib.hid (HB3.out.trans hB5); clear hb5 hB5))
            go_roundw
            case measure => simpa [intOf] using HM1.out
            case rel => exact ⟨NX, A', c', ws', _, K', by go_num, rfl, hlc, HNW.out, HBI.out, HR'.out, HE'.out, by rw [ByteArray.size_append]; omega, HB5.out, HB6.out⟩
          · -- op 6
            obtain ⟨K', hr', hsz', hac', hly'⟩ := step_both HD.out HR.out hlt hND
            have hr2 := HE.out
            rw [hly'] at hr2
            have HR' := Lib.hid hr'; have HE' := Lib.hid hr2
            have HM1 : Hid (leftOf l (q + 1) < leftOf l q) := Lib.hid (by rw [leftOf_eq HR.out, leftOf_eq hr']; exact hsz')
            clear hr' hly' hr2 hsz'
            have HPC := Lib.hid (fun w' (hp : IsPlan w' gp A c l) (hl : Nds w' w'.heap.size A l) => piece_part HD.out w' hp hl hlt hND (.inl rfl))
            clear hND
            go_wp2_with (first
              | (go_at_call 51; refine (HPC.out _ (HPL.out.past HBel.out) (HN2.out.past HBel.out)).mono ?_; rintro e w3 ⟨rfl, hB3⟩; have HB3 := Lib.hid (HBel.out.trans (hB3.mono HBel.out.size)); have HBD3 := Lib.hid (HBd.out.past hB3); clear hB3)
              | (go_at_call 47; refine (bld_write _ _ _ _ _ HBD3.out (by omega)).mono ?_; rintro e w5 ⟨rfl, hb5, hB5⟩; have HB5 := Lib.hid hb5; have HB6 := Lib.hid (HB3.out.trans hB5); clear hb5 hB5))
            go_roundw
            case measure => simpa [intOf] using HM1.out
            case rel => exact ⟨q + 1, A', c', ws', _, K', by go_num, rfl, hlc, HNW.out, HBI.out, HR'.out, HE'.out, by rw [ByteArray.size_append]; omega, HB5.out, HB6.out⟩
          · -- op 7
            obtain ⟨K', hr', hsz', hac', hly'⟩ := step_deep HD.out HR.out hlt hND
            have hr2 := HE.out
            rw [hly'] at hr2
            have HR' := Lib.hid hr'; have HE' := Lib.hid hr2
            have HM1 : Hid (leftOf l (q + 1) < leftOf l q) := Lib.hid (by rw [leftOf_eq HR.out, leftOf_eq hr']; exact hsz')
            clear hr' hly' hr2 hsz'
            have HPC := Lib.hid (fun w' (hp : IsPlan w' gp A c l) (hl : Nds w' w'.heap.size A l) => piece_part HD.out w' hp hl hlt hND (.inr rfl))
            clear hND
            go_wp2_with (first
              | (go_at_call 51; refine (HPC.out _ (HPL.out.past HBel.out) (HN2.out.past HBel.out)).mono ?_; rintro e w3 ⟨rfl, hB3⟩; have HB3 := Lib.hid (HBel.out.trans (hB3.mono HBel.out.size)); have HBD3 := Lib.hid (HBd.out.past hB3); clear hB3)
              | (go_at_call 47; refine (bld_write _ _ _ _ _ HBD3.out (by omega)).mono ?_; rintro e w5 ⟨rfl, hb5, hB5⟩; have HB5 := Lib.hid hb5; have HB6 := Lib.hid (HB3.out.trans hB5); clear hb5 hB5))
            go_roundw
            case measure => simpa [intOf] using HM1.out
            case rel => exact ⟨q + 1, A', c', ws', _, K', by go_num, rfl, hlc, HNW.out, HBI.out, HR'.out, HE'.out, by rw [ByteArray.size_append]; omega, HB5.out, HB6.out⟩
          · -- op 8
            have HPC := Lib.hid (fun w' (hp : IsPlan w' gp A c l) (hl : Nds w' w'.heap.size A l) => piece_choice HD.out w' hp hl hlt hND (.inl rfl))
            cases ws' with
            | nil =>
              have hno := pick_none HD.out HR.out hlt hND (.inl rfl) acc
              have hres := HE.out
              rw [hno] at hres
              have HRES := Lib.hid hres
              clear hno hres hND
              go_wp2_with (go_at_call 51; refine (HPC.out _ (HPL.out.past HBel.out) (HN2.out.past HBel.out)).mono ?_; rintro e w3 ⟨rfl, hB3⟩; have HB3 := Lib.hid (HBel.out.trans (hB3.mono HBel.out.size)); have HBD3 := Lib.hid (HBd.out.past hB3); clear hB3)
              go_ret2
              exact ⟨by rw [← HRES.out]; rfl, HB12.out.trans (HB3.out.mono HB12.out.size)⟩
            | cons v r =>
              obtain ⟨h01, hbr⟩ := bits_tail HBI.out
              have HBr := Lib.hid hbr
              have hln : (v :: r).length = r.length + 1 := rfl
              rw [hln] at hlc hnw63 ⊢
              obtain ⟨b2, off2, rfl, hb2, hcw⟩ := HNW.out.1.2 (by simp)
              have x0 : w2.cell? ⟨b2, off2, none⟩ = some (.int .i64 v) := hcw 0 _ rfl
              clear hcw hbr hln
              rcases h01 with rfl | rfl
              · have HCH := Lib.hid (fun w' (hp : IsPlan w' gp A c l) (hl : Nds w' w'.heap.size A l) => choose_flat HD.out w' hp hl hlt hND)
                cases hfl : (docAt l (q + 1)).flat with
                | none =>
                  have hbad := pick_bad HD.out HR.out hlt hND hfl r acc
                  have hres := HE.out
                  rw [hbad] at hres
                  have HRES := Lib.hid hres
                  have hla : lineAt l (q + 1) = (.empty, false) := by rw [lineAt, hfl]; rfl
                  rw [hla] at HCH
                  clear hbad hres hND hfl hla
                  go_wp2_with (first
                    | (go_at_call 51; refine (HPC.out _ (HPL.out.past HBel.out) (HN2.out.past HBel.out)).mono ?_; rintro e w3 ⟨rfl, hB3⟩; have HB3 := Lib.hid (HBel.out.trans (hB3.mono HBel.out.size)); have HBD3 := Lib.hid (HBd.out.past hB3); clear hB3; have y0 := (HB3.out.cell (p := ⟨b2, off2, none⟩) hb2).trans x0)
                    | (go_at_call 52; refine (HCH.out _ (HPL.out.past HB3.out) (HN2.out.past HB3.out)).mono ?_; rintro e w4 ⟨rfl, hB4⟩; have HB4 := Lib.hid (HB3.out.trans (hB4.mono HB3.out.size)); have HBD4 := Lib.hid (HBD3.out.past hB4); clear hB4))
                  go_ret2
                  exact ⟨by rw [← HRES.out]; rfl, HB12.out.trans (HB4.out.mono HB12.out.size)⟩
                | some s =>
                  have hla : lineAt l (q + 1) = (s, true) := by rw [lineAt, hfl]; rfl
                  rw [hla] at HCH
                  obtain ⟨K', hr', hsz', hac', hly'⟩ := pick_flat HD.out HR.out hlt hND hfl
                  have hr2 := HE.out
                  rw [hly'] at hr2
                  clear hfl hla
                  have HR' := Lib.hid hr'; have HE' := Lib.hid hr2
                  have HML : Hid (leftOf l (nextAt l q) < leftOf l q) := Lib.hid (by rw [leftOf_eq HR.out, leftOf_eq hr']; exact hsz')
                  clear hr' hly' hr2 hsz'
                  generalize nextAt l q = NX at *
                  clear hND
                  have k7 : (1 : Int) ≤ (r.length : Int) + 1 := by omega
                  go_wp2_with (first
                    | (go_at_call 51; refine (HPC.out _ (HPL.out.past HBel.out) (HN2.out.past HBel.out)).mono ?_; rintro e w3 ⟨rfl, hB3⟩; have HB3 := Lib.hid (HBel.out.trans (hB3.mono HBel.out.size)); have HBD3 := Lib.hid (HBd.out.past hB3); clear hB3; have y0 := (HB3.out.cell (p := ⟨b2, off2, none⟩) hb2).trans x0)
                    | (go_at_call 52; refine (HCH.out _ (HPL.out.past HB3.out) (HN2.out.past HB3.out)).mono ?_; rintro e w4 ⟨rfl, hB4⟩; have HB4 := Lib.hid (HB3.out.trans (hB4.mono HB3.out.size)); have HBD4 := Lib.hid (HBD3.out.past hB4); clear hB4))
                  go_quiet (fail)
                  have HBQ := Lib.hid (HBD4.out.past (below_drewN (Below.refl _ _) nq))
                  have HBR := Lib.hid (below_drewN HB4.out nq)
                  clear k7
                  go_wp2_with (go_at_call 47; refine (bld_write _ _ _ _ _ HBQ.out (by omega)).mono ?_; rintro e w5 ⟨rfl, hb5, hB5⟩; have HB5 := Lib.hid hb5; have HB6 := Lib.hid (HBR.out.trans hB5); clear hb5 hB5)
                  go_roundw
                  case measure => simpa [intOf] using HML.out
                  case rel => exact ⟨NX, _, c' - 1, r, _, K', rfl, rfl, by omega, HNW.out.tail (by simp only [List.length_cons]; omega), HBr.out, HR'.out, HE'.out, by rw [ByteArray.size_append]; omega, HB5.out, HB6.out⟩
              · have HCH := Lib.hid (fun w' (hp : IsPlan w' gp A c l) (hl : Nds w' w'.heap.size A l) => choose_lines HD.out w' hp hl hlt hND)
                obtain ⟨K', hr', hsz', hac', hly'⟩ := pick_lines HD.out HR.out hlt hND
                have hr2 := HE.out
                rw [hly'] at hr2
                have HR' := Lib.hid hr'; have HE' := Lib.hid hr2
                have HML : Hid (leftOf l (q + 1) < leftOf l q) := Lib.hid (by rw [leftOf_eq HR.out, leftOf_eq hr']; exact hsz')
                clear hr' hly' hr2 hsz'
                clear hND
                have k7 : (1 : Int) ≤ (r.length : Int) + 1 := by omega
                go_wp2_with (first
                  | (go_at_call 51; refine (HPC.out _ (HPL.out.past HBel.out) (HN2.out.past HBel.out)).mono ?_; rintro e w3 ⟨rfl, hB3⟩; have HB3 := Lib.hid (HBel.out.trans (hB3.mono HBel.out.size)); have HBD3 := Lib.hid (HBd.out.past hB3); clear hB3; have y0 := (HB3.out.cell (p := ⟨b2, off2, none⟩) hb2).trans x0)
                  | (go_at_call 52; refine (HCH.out _ (HPL.out.past HB3.out) (HN2.out.past HB3.out)).mono ?_; rintro e w4 ⟨rfl, hB4⟩; have HB4 := Lib.hid (HB3.out.trans (hB4.mono HB3.out.size)); have HBD4 := Lib.hid (HBD3.out.past hB4); clear hB4))
                go_quiet (fail)
                have HBQ := Lib.hid (HBD4.out.past (below_drewN (Below.refl _ _) nq))
                have HBR := Lib.hid (below_drewN HB4.out nq)
                clear k7
                go_wp2_with (go_at_call 47; refine (bld_write _ _ _ _ _ HBQ.out (by omega)).mono ?_; rintro e w5 ⟨rfl, hb5, hB5⟩; have HB5 := Lib.hid hb5; have HB6 := Lib.hid (HBR.out.trans hB5); clear hb5 hB5)
                go_roundw
                case measure => simpa [intOf] using HML.out
                case rel => exact ⟨q + 1, _, c' - 1, r, _, K', by go_num, rfl, by omega, HNW.out.tail (by simp only [List.length_cons]; omega), HBr.out, HR'.out, HE'.out, by rw [ByteArray.size_append]; omega, HB5.out, HB6.out⟩
          · -- op 9
            have HPC := Lib.hid (fun w' (hp : IsPlan w' gp A c l) (hl : Nds w' w'.heap.size A l) => piece_choice HD.out w' hp hl hlt hND (.inr rfl))
            cases ws' with
            | nil =>
              have hno := pick_none HD.out HR.out hlt hND (.inr rfl) acc
              have hres := HE.out
              rw [hno] at hres
              have HRES := Lib.hid hres
              clear hno hres hND
              go_wp2_with (go_at_call 51; refine (HPC.out _ (HPL.out.past HBel.out) (HN2.out.past HBel.out)).mono ?_; rintro e w3 ⟨rfl, hB3⟩; have HB3 := Lib.hid (HBel.out.trans (hB3.mono HBel.out.size)); have HBD3 := Lib.hid (HBd.out.past hB3); clear hB3)
              go_ret2
              exact ⟨by rw [← HRES.out]; rfl, HB12.out.trans (HB3.out.mono HB12.out.size)⟩
            | cons v r =>
              obtain ⟨h01, hbr⟩ := bits_tail HBI.out
              have HBr := Lib.hid hbr
              have hln : (v :: r).length = r.length + 1 := rfl
              rw [hln] at hlc hnw63 ⊢
              obtain ⟨b2, off2, rfl, hb2, hcw⟩ := HNW.out.1.2 (by simp)
              have x0 : w2.cell? ⟨b2, off2, none⟩ = some (.int .i64 v) := hcw 0 _ rfl
              clear hcw hbr hln
              have HCH := Lib.hid (fun w' (hp : IsPlan w' gp A c l) (hl : Nds w' w'.heap.size A l) => choose_either HD.out w' v h01 hp hl hlt hND)
              obtain ⟨K', hr', hsz', hac', hly'⟩ := pick_either HD.out HR.out hlt hND h01
              have hr2 := HE.out
              rw [hly'] at hr2
              have HR' := Lib.hid hr'; have HE' := Lib.hid hr2
              have HML : Hid (leftOf l (if v = 0 then q + 1 else endAt l (q + 1)) < leftOf l q) := Lib.hid (by rw [leftOf_eq HR.out, leftOf_eq hr']; exact hsz')
              clear hr' hly' hr2 hsz'
              generalize (if v = 0 then q + 1 else endAt l (q + 1)) = NX at *
              clear hND h01
              have k7 : (1 : Int) ≤ (r.length : Int) + 1 := by omega
              go_wp2_with (first
                | (go_at_call 51; refine (HPC.out _ (HPL.out.past HBel.out) (HN2.out.past HBel.out)).mono ?_; rintro e w3 ⟨rfl, hB3⟩; have HB3 := Lib.hid (HBel.out.trans (hB3.mono HBel.out.size)); have HBD3 := Lib.hid (HBd.out.past hB3); clear hB3; have y0 := (HB3.out.cell (p := ⟨b2, off2, none⟩) hb2).trans x0)
                | (go_at_call 52; refine (HCH.out _ (HPL.out.past HB3.out) (HN2.out.past HB3.out)).mono ?_; rintro e w4 ⟨rfl, hB4⟩; have HB4 := Lib.hid (HB3.out.trans (hB4.mono HB3.out.size)); have HBD4 := Lib.hid (HBD3.out.past hB4); clear hB4))
              go_quiet (fail)
              have HBQ := Lib.hid (HBD4.out.past (below_drewN (Below.refl _ _) nq))
              have HBR := Lib.hid (below_drewN HB4.out nq)
              clear k7
              go_wp2_with (go_at_call 47; refine (bld_write _ _ _ _ _ HBQ.out (by omega)).mono ?_; rintro e w5 ⟨rfl, hb5, hB5⟩; have HB5 := Lib.hid hb5; have HB6 := Lib.hid (HBR.out.trans hB5); clear hb5 hB5)
              go_roundw
              case measure => simpa [intOf] using HML.out
              case rel => exact ⟨NX, _, c' - 1, r, _, K', rfl, rfl, by omega, HNW.out.tail (by simp only [List.length_cons]; omega), HBr.out, HR'.out, HE'.out, by rw [ByteArray.size_append]; omega, HB5.out, HB6.out⟩
        · obtain ⟨rfl, hql⟩ := HR.out.ge (by omega)
          have hres := HE.out
          simp only [layK] at hres
          cases ws' with
          | nil =>
            have HRES := Lib.hid hres
            clear hres
            go_wp2_with (go_at_call 49; refine (bld_string _ _ _ _ HBd.out).mono ?_; rintro e w5 ⟨rfl, hB5⟩)
            go_ret2
            exact ⟨by rw [← HRES.out]; rfl, HB12.out.trans ((HBel.out.trans hB5).mono HB12.out.size)⟩
          | cons v r =>
            have HRES := Lib.hid hres
            clear hres
            go_wp2
            go_ret2
            exact ⟨by rw [← HRES.out]; rfl, HB12.out.trans (HBel.out.mono HB12.out.size)⟩
end Go.Proofs.YtddfdmopaeghnacGreatDoor
