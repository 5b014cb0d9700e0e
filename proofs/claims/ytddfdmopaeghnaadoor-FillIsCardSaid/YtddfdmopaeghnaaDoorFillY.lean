/- Walks: the reference's WordsFault, Joined, badness, RaggedOf. Conditions: the slices lie below the call's own blocks; the words are few and short. -/
import Derived.Test.YtddfdmopaeghnaaDoorFillX
namespace Go.Proofs.YtddfdmopaeghnaaDoor
open Go.RowKit

theorem word_size {t : ByteArray} : (t.toList.isEmpty = true) ↔ t.size < 1 := by
  rw [ByteArray.toList_eq]
  have h : t.data.toList.length = t.size := by simp
  cases hl : t.data.toList with
  | nil => rw [hl] at h; exact ⟨fun _ => by simp only [List.length_nil] at h; omega, fun _ => rfl⟩
  | cons a r => rw [hl] at h; exact ⟨fun h' => by (cases h'), fun h' => by simp only [List.length_cons] at h; omega⟩
theorem wordF_short {t : ByteArray} (h : t.size < 1 ∨ 20 < t.size) : wordF t = false := by
  unfold wordF
  rcases h with h | h
  · have h2 := word_size.2 h
    rw [h2]; rfl
  · have h2 : decide (t.size ≤ 20) = false := by simp; omega
    rw [h2]; simp
theorem wordF_odd {t : ByteArray} {k : Nat} (hk : k < t.size) (h : t[k].toNat < 33 ∨ 126 < t[k].toNat) : wordF t = false := by
  have h1 : visC t[k] = false := by unfold visC; simp; omega
  unfold wordF
  rw [all_no hk h1]; simp
theorem wordF_good {t : ByteArray} (h1 : 1 ≤ t.size) (h2 : t.size ≤ 20) (h3 : t.data.toList.all visC = true) : wordF t = true := by
  have e1 : t.toList.isEmpty = false := by
    cases h : t.toList.isEmpty with
    | false => rfl
    | true => have := word_size.1 h; omega
  unfold wordF
  rw [e1, h3]
  simp; omega


set_option maxRecDepth 100000 in
set_option maxHeartbeats 2000000 in
theorem wordsFault_any (l : List ByteArray) (A : Option Addr) (n c : Nat) (hn : l.length = n) (w : World) (hl : Txs w w.heap.size A l) :
    Calls Tryd.prog 19 #[.slice A n c] w fun e w' => e = .returned (.int .i64 (wordsF l)) ∧ w = w' := by
  have hm := hl.2.1
  unfold maxLen at hm
  subst hn
  by_cases h60 : 60 < l.length
  · have k1 : decide (60 < l.length) = true := by simpa using h60
    have hw : wordsF l = 3 := by rw [wordsF, if_pos h60]
    have HW := Lib.hid hw; clear hw
    go_enter Tryd.func19, Tryd.ntmps19
    go_wp2
    go_ret
    exact ⟨by rw [HW.out]; rfl, rfl⟩
  · have k1 : decide (60 < l.length) = false := by simpa using h60
    have HN := Lib.hid hl; clear hl
    go_enter Tryd.func19, Tryd.ntmps19
    go_wp2
    go_loop [3, 4] (fun i _ => ∃ k : Nat, k ≤ l.length ∧ i = .int .i64 k ∧ (l.take k).all wordF = true) (fun i _ => l.length - (intOf i).toNat)
    case atStart => exact ⟨0, by omega, rfl, rfl⟩
    case round =>
      obtain ⟨k, hk, rfl, ha⟩ := hrel
      have HA := Lib.hid ha; clear ha
      by_cases hlt : k < l.length
      · obtain ⟨b, off, t, rfl, hb, ht, hts, hc⟩ := HN.out.one (Below.refl _ _) hlt
        unfold maxLen at hts
        have HNO : Hid (wordF t = false → wordsF l = 5) := Lib.hid (fun h => words_no h60 hlt (by rw [ht]; exact h))
        have HMO : Hid (wordF t = true → (l.take (k + 1)).all wordF = true) := Lib.hid (fun h => words_more hlt HA.out (by rw [ht]; exact h))
        clear ht
        by_cases h1 : t.size < 1
        · have k2 : decide (t.size < 1) = true := decide_eq_true h1
          have k3 : decide ((t.size : Int) < 1) = true := decide_eq_true (by omega)
          have HB := Lib.hid (HNO.out (wordF_short (.inl h1)))
          go_wp2
          go_ret
          exact ⟨by rw [HB.out]; rfl, rfl⟩
        · have k2 : decide (t.size < 1) = false := decide_eq_false h1
          have k3 : decide ((t.size : Int) < 1) = false := decide_eq_false (by omega)
          by_cases h2 : 20 < t.size
          · have k4 : decide (20 < t.size) = true := decide_eq_true h2
            have k5 : decide ((20 : Int) < (t.size : Int)) = true := decide_eq_true (by omega)
            have HB := Lib.hid (HNO.out (wordF_short (.inr h2)))
            go_wp2
            go_ret
            exact ⟨by rw [HB.out]; rfl, rfl⟩
          · have k4 : decide (20 < t.size) = false := decide_eq_false h2
            have k5 : decide ((20 : Int) < (t.size : Int)) = false := decide_eq_false (by omega)
            go_wp2
            go_loop [4] (fun j => ∃ m : Nat, m ≤ t.size ∧ j = .int .i64 m ∧ (t.data.toList.take m).all visC = true) (fun j => t.size - (intOf j).toNat)
            case atStart => exact ⟨0, by omega, rfl, rfl⟩
            case round =>
              obtain ⟨m, hm2, rfl, hv⟩ := hrel
              have HV := Lib.hid hv; clear hv
              by_cases hlt2 : m < t.size
              · have HO := Lib.hid (wordF_odd hlt2)
                have HM : Hid (33 ≤ t[m].toNat ∧ t[m].toNat ≤ 126 → (t.data.toList.take (m + 1)).all visC = true) := Lib.hid (fun h => all_more HV.out hlt2 (by unfold visC; simp; omega))
                by_cases hc1 : t[m].toNat < 33
                · have HB := Lib.hid (HNO.out (HO.out (.inl hc1)))
                  have q1 : decide (t[m].toNat < 33) = true := decide_eq_true hc1
                  have q2 : decide ((t[m].toNat : Int) < 33) = true := decide_eq_true (by omega)
                  go_wp2
                  go_ret
                  exact ⟨by rw [HB.out]; rfl, rfl⟩
                · have q1 : decide (t[m].toNat < 33) = false := decide_eq_false hc1
                  have q2 : decide ((t[m].toNat : Int) < 33) = false := decide_eq_false (by omega)
                  by_cases hc2 : 126 < t[m].toNat
                  · have HB := Lib.hid (HNO.out (HO.out (.inr hc2)))
                    have q3 : decide (126 < t[m].toNat) = true := decide_eq_true hc2
                    have q4 : decide ((126 : Int) < (t[m].toNat : Int)) = true := decide_eq_true (by omega)
                    go_wp2
                    go_ret
                    exact ⟨by rw [HB.out]; rfl, rfl⟩
                  · have q3 : decide (126 < t[m].toNat) = false := decide_eq_false hc2
                    have q4 : decide ((126 : Int) < (t[m].toNat : Int)) = false := decide_eq_false (by omega)
                    have HB := Lib.hid (HM.out ⟨by omega, by omega⟩)
                    go_wp2
                    go_round
                    case rel => exact ⟨m + 1, by omega, by go_num, HB.out⟩
                    case measure => simp [intOf]; omega
              · have HG := Lib.hid (HMO.out (wordF_good (by omega) (by omega) (all_yes HV.out (by omega))))
                go_wp2
                go_round
                case rel => exact ⟨k + 1, by omega, by go_num, HG.out⟩
                case measure => simp [intOf]; omega
      · have hz := words_yes h60 (show l.length ≤ k by omega) HA.out
        have HZ := Lib.hid hz; clear hz
        go_wp2
        go_ret
        exact ⟨by rw [HZ.out]; rfl, rfl⟩

/-- The first words joined. -/
def joinTo (l : List ByteArray) (k : Nat) : ByteArray := joinW (l.take k)
theorem joinTo_zero (l : List ByteArray) : joinTo l 0 = .empty := by rfl
theorem joinTo_end {l : List ByteArray} {k : Nat} (h : l.length ≤ k) : joinTo l k = joinW l := by rw [joinTo, List.take_of_length_le h]
theorem joinTo_one {l : List ByteArray} (h : 0 < l.length) : joinTo l 1 = l[0] := by
  cases l with
  | nil => simp at h
  | cons t r =>
    show joinW [t] = t
    unfold joinW
    rw [List.map_cons, List.map_nil, Lib.join_one]
theorem joinTo_succ {l : List ByteArray} {k : Nat} (h0 : 0 < k) (hk : k < l.length) : joinTo l (k + 1) = joinTo l k ++ ⟨#[32]⟩ ++ l[k] := by
  cases l with
  | nil => simp at hk
  | cons t r =>
    obtain ⟨j, rfl⟩ : ∃ j, k = j + 1 := ⟨k - 1, by omega⟩
    have hj : j < r.length := by simpa using hk
    apply ByteArray.ext
    apply Array.toList_inj.1
    unfold joinTo joinW
    simp only [List.take_succ_cons, List.map_cons, Lib.join_cons, ByteArray.data_append, Array.toList_append, List.getElem_cons_succ, List.map_take]
    rw [Lib.joinTail_take_succ _ _ j r[j].data.toList (by simp [hj])]
    simp
theorem joinTo_size {l : List ByteArray} (h20 : ∀ t ∈ l, t.size ≤ 20) (h60 : l.length ≤ 60) (k : Nat) : (joinTo l k).size ≤ 1300 := by
  rcases Nat.eq_zero_or_pos (l.take k).length with h0 | h0
  · have : l.take k = [] := List.eq_nil_of_length_eq_zero h0
    unfold joinTo
    rw [this]; decide
  · have h1 := joinW_size (l.take k) h0
    have h2 := long_bd (l := l.take k) (fun t ht => h20 t (List.mem_of_mem_take ht)) (by rw [List.length_take]; omega) h0
    unfold joinTo
    omega

set_option maxHeartbeats 1000000 in
theorem joined_any (l : List ByteArray) (A : Option Addr) (n c : Nat) (hn : l.length = n) (w : World) (hl : Txs w w.heap.size A l) (h60 : n ≤ 60) (h20 : ∀ t ∈ l, t.size ≤ 20) :
    Calls Tryd.prog 46 #[.slice A n c] w fun e w' => e = .returned (.string (joinW l)) ∧ w = w' := by
  subst hn
  have HN := Lib.hid hl; have HS := Lib.hid h20; clear hl h20
  go_enter Tryd.func46, Tryd.ntmps46
  go_wp2
  go_loop [3, 4] (fun s i => ∃ k : Nat, k ≤ l.length ∧ i = .int .i64 k ∧ s = .string (joinTo l k)) (fun _ i => l.length - (intOf i).toNat)
  case atStart => exact ⟨0, Nat.zero_le _, rfl, by rw [joinTo_zero]; rfl⟩
  case round =>
    obtain ⟨k, hk, rfl, rfl⟩ := hrel
    have hsz := joinTo_size HS.out h60 k
    by_cases hlt : k < l.length
    · obtain ⟨b, off, t, rfl, hb, ht, hts, hc⟩ := HN.out.one (Below.refl _ _) hlt
      have h2 := HS.out _ (List.getElem_mem hlt)
      rw [ht] at h2
      rcases Nat.eq_zero_or_pos k with hk0 | hk0
      · subst hk0
        have hst := joinTo_one hlt
        rw [ht] at hst
        have HST := Lib.hid hst
        rw [joinTo_zero]
        rw [Nat.add_zero] at hc
        clear ht hst hsz
        go_wp2
        go_round
        case rel => exact ⟨1, by omega, rfl, by rw [HST.out]⟩
        case measure => simp [intOf]; omega
      · have hst := joinTo_succ hk0 hlt
        rw [ht] at hst
        have HST := Lib.hid hst
        have k1 : decide (0 < k) = true := decide_eq_true hk0
        have k2 : decide ((0 : Int) < (k : Int)) = true := decide_eq_true (by omega)
        clear ht hst
        generalize joinTo l k = J at *
        go_wp2
        go_round
        case rel => exact ⟨k + 1, by omega, by go_num, by rw [HST.out]⟩
        case measure => simp [intOf]; omega
    · have hz := joinTo_end (show l.length ≤ k by omega)
      have HZ := Lib.hid hz; clear hz
      go_wp2
      go_ret
      exact ⟨by rw [HZ.out]; rfl, rfl⟩

set_option maxHeartbeats 400000 in
theorem badness_any (l : List ByteArray) (A : Option Addr) (n c : Nat) (hn : l.length = n) (width : Int) (last : Bool) (w : World) (hl : Txs w w.heap.size A l) (h0 : 0 < n) (h60 : n ≤ 60) (h20 : ∀ t ∈ l, t.size ≤ 20) (h1 : 1 ≤ width) (h2 : width ≤ 100) :
    Calls Tryd.prog 45 #[.slice A n c, .int .i64 width, .bool last] w fun e w' => e = .returned (.int .i64 (badW (longW l) width last)) ∧ w = w' := by
  have HJ := Lib.hid (joined_any l A n c hn w hl h60 h20)
  obtain ⟨g1, g2⟩ := long_bd h20 (by omega) (show 0 < l.length by omega)
  have hs := joinW_size l (by omega)
  generalize joinW l = J at *
  generalize longW l = L at *
  subst hs
  clear hl h20
  by_cases h : width < (J.size : Int)
  · have k1 : decide (width < (J.size : Int)) = true := decide_eq_true h
    rw [badW, if_pos h]
    go_enter Tryd.func45, Tryd.ntmps45
    go_wp2_with (go_at_call 46; refine HJ.out.mono ?_; rintro e w' ⟨rfl, rfl⟩)
    go_ret
    exact ⟨rfl, rfl⟩
  · have k1 : decide (width < (J.size : Int)) = false := decide_eq_false h
    rw [badW, if_neg h]
    cases last with
    | true =>
      go_enter Tryd.func45, Tryd.ntmps45
      go_wp2_with (go_at_call 46; refine HJ.out.mono ?_; rintro e w' ⟨rfl, rfl⟩)
      go_ret
      exact ⟨rfl, rfl⟩
    | false =>
      obtain ⟨g3, g4⟩ := mul_bd (a := width - (J.size : Int)) (by omega) (by omega)
      go_enter Tryd.func45, Tryd.ntmps45
      go_wp2_with (go_at_call 46; refine HJ.out.mono ?_; rintro e w' ⟨rfl, rfl⟩)
      go_ret
      exact ⟨rfl, rfl⟩

def RagOf (r : Option Int) (w : World) (e : Ending) (w' : World) : Prop := ∃ v : Int, e = .returned (.tuple #[.int .i64 v, .bool r.isSome]) ∧ (∀ s, r = some s → v = s) ∧ w = w'

set_option maxHeartbeats 2000000 in
theorem raggedOf_any (l : List ByteArray) (many : List Int) (A : Option Addr) (n c : Nat) (hn : l.length = n) (hcap : n ≤ c) (M : Option Addr) (m cm : Nat) (hm : many.length = m) (width : Int) (w : World)
    (hl : Txs w w.heap.size A l) (hM : NumsI w w.heap.size M many) (hf : Few width l) :
    Calls Tryd.prog 22 #[.slice A n c, .slice M m cm, .int .i64 width] w (RagOf (raggedW width l many 0) w) := by
  have hw1 := hf.lo
  have hw2 := hf.hi
  have hl60 := hf.len
  have hm63 := hM.2
  unfold maxLen at hm63
  subst hn hm
  have HL := Lib.hid hl; have HM := Lib.hid hM; have HF := Lib.hid hf
  clear hl hM hf
  go_enter Tryd.func22, Tryd.ntmps22
  go_wp2
  go_loop [0, 8, 9] (fun ws s i => ∃ (k : Nat) (A' : Option Addr) (c' : Nat) (l' : List ByteArray) (sm : Int), k ≤ many.length ∧ i = .int .i64 k ∧ ws = .slice A' l'.length c' ∧ l'.length ≤ c' ∧ l'.length ≤ 60 ∧ s = .int .i64 sm ∧ Txs w w.heap.size A' l' ∧ (∀ t ∈ l', t.size ≤ 20) ∧
    raggedW width l many 0 = raggedW width l' (many.drop k) sm ∧ 0 ≤ sm ∧ sm ≤ 1300000 * (60 - l'.length)) (fun _ _ i => many.length - (intOf i).toNat)
  case atStart => exact ⟨0, A, c, l, 0, by omega, rfl, rfl, hcap, hl60, rfl, HL.out, HF.out.small, rfl, by omega, by omega⟩
  case round =>
    obtain ⟨k, A', c', l', sm, hk, rfl, rfl, hc', hl', rfl, htx, h20, hr, hs0, hs1⟩ := hrel
    have HT := Lib.hid htx; have H20 := Lib.hid h20; have HR := Lib.hid hr
    clear htx h20 hr
    by_cases hlt : k < many.length
    · obtain ⟨b, off, v, rfl, hb, hv, hcell⟩ := HM.out.one (Below.refl _ _) hlt
      by_cases h1 : v < 1
      · have hno := ragged_no (width := width) (l := l') (s := sm) hlt hv (.inl h1)
        have k1 : decide (v < 1) = true := by simpa using h1
        have HN := Lib.hid hno; clear hno hv
        go_wp2
        go_ret2
        exact ⟨0, by rw [HR.out, HN.out]; rfl, (fun s hs => by (rw [HR.out, HN.out] at hs; cases hs)), rfl⟩
      · have k1 : decide (v < 1) = false := by simpa using h1
        by_cases h2 : (l'.length : Int) < v
        · have hno := ragged_no (width := width) (l := l') (s := sm) hlt hv (.inr h2)
          have k2 : decide ((l'.length : Int) < v) = true := by simpa using h2
          have HN := Lib.hid hno; clear hno hv
          go_wp2
          go_ret2
          exact ⟨0, by rw [HR.out, HN.out]; rfl, (fun s hs => by (rw [HR.out, HN.out] at hs; cases hs)), rfl⟩
        · obtain ⟨j, rfl⟩ : ∃ j : Nat, v = j := ⟨v.toNat, by omega⟩
          have h3 : 1 ≤ j := by omega
          have h4 : j ≤ l'.length := by omega
          have k2 : decide ((l'.length : Int) < (j : Int)) = false := by simpa using h2
          have k3 : decide (l'.length < j) = false := by simp; omega
          clear h1 h2
          obtain ⟨b2, off2, rfl, hb2, _⟩ := HT.out.1.2 (by omega)
          have hst := ragged_step (width := width) (l := l') (s := sm) hlt hv h3 h4
          have HST := Lib.hid hst; clear hst hv
          have hlong := long_bd (l := l'.take j) (fun t ht => H20.out t (List.mem_of_mem_take ht)) (by rw [List.length_take]; omega) (by rw [List.length_take]; omega)
          have hLN := badness_any (l'.take j) (some ⟨b2, off2, none⟩) j c' (by rw [List.length_take]; omega) width ((j : Int) == (l'.length : Int)) w (HT.out.head h4) (by omega) (by omega) (fun t ht => H20.out t (List.mem_of_mem_take ht)) hw1 hw2
          have HLN := Lib.hid hLN; clear hLN
          have hbn := badW_nn (n := longW (l'.take j)) (b := ((j : Int) == (l'.length : Int))) (show 0 ≤ width by omega)
          have hbl := badW_le (b := ((j : Int) == (l'.length : Int))) hlong.1 hlong.2 hw1 hw2
          clear hlong
          generalize badW (longW (l'.take j)) width ((j : Int) == (l'.length : Int)) = bd at *
          go_wp2_with (go_at_call 45; refine HLN.out.mono ?_; rintro e w2 ⟨rfl, rfl⟩)
          go_round
          case rel => exact ⟨k + 1, _, c' - j, l'.drop j, sm + bd, by omega, by go_num, by rw [List.length_drop], by rw [List.length_drop]; omega, by rw [List.length_drop]; omega, rfl, HT.out.cut_if j hc', fun t ht => H20.out t (List.mem_of_mem_drop ht), by rw [HR.out, HST.out], by omega, by rw [List.length_drop]; omega⟩
          case measure => simp [intOf]; omega
    · have hge : many.length ≤ k := by omega
      have hen := ragged_end (width := width) (l := l') (many := many) (k := k) (s := sm) hge
      by_cases h0 : l'.length = 0
      · rw [if_pos h0] at hen
        have HE := Lib.hid hen; clear hen
        have k1 : ((l'.length : Int) == 0) = true := by rw [beq_dec]; exact decide_eq_true (by omega)
        have H0 := Lib.hid h0; clear h0
        go_wp2
        go_ret2
        exact ⟨sm, by rw [HR.out, HE.out]; rfl, (fun s hs => by (rw [HR.out, HE.out] at hs; exact Option.some.inj hs)), rfl⟩
      · rw [if_neg h0] at hen
        have HE := Lib.hid hen; clear hen
        have k1 : ((l'.length : Int) == 0) = false := by rw [beq_dec]; exact decide_eq_false (by omega)
        go_wp2
        go_ret2
        exact ⟨sm, by rw [HR.out, HE.out]; rfl, (fun s hs => by (rw [HR.out, HE.out] at hs; cases hs)), rfl⟩
end Go.Proofs.YtddfdmopaeghnaaDoor
