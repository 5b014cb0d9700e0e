/- Walks: fill's word, Check; tree's most, named, Many, Name. Condition: a slice of texts lies below the call's own blocks. -/
import Derived.Test.YtddfdmopaeghnacGreatDoorDocW
import Derived.Test.YtddfdmopaeghnacGreatDoorTreeP
namespace Go.Proofs.YtddfdmopaeghnacGreatDoor
open Go.RowKit

/-- A slice of texts. -/
def Txs (w : World) (B : Nat) (A : Option Addr) (l : List ByteArray) : Prop := Sl w B 1 A l.length (l.map .string) ∧ l.length ≤ maxLen ∧ ∀ t ∈ l, t.size ≤ maxLen

theorem Txs.one {w wr : World} {B : Nat} {A : Option Addr} {l : List ByteArray} (h : Txs w B A l) (hB : Below B w wr) {k : Nat} (hk : k < l.length) :
    ∃ b off t, A = some ⟨b, off, none⟩ ∧ b < B ∧ l[k] = t ∧ t.size ≤ maxLen ∧ wr.cell? ⟨b, off + k, none⟩ = some (.string t) := by
  obtain ⟨b, off, u, h1, h2, h3, h4⟩ := h.1.one hk
  refine ⟨b, off, l[k], h1, h2, rfl, h.2.2 _ (List.getElem_mem hk), ?_⟩
  rw [hB.cell (p := ⟨b, off + k, none⟩) h2, h4]
  simp [hk] at h3
  rw [h3]

theorem Txs.past {w w' : World} {A : Option Addr} {l : List ByteArray} (h : Txs w w.heap.size A l) (hb : Below w.heap.size w w') : Txs w' w'.heap.size A l := ⟨h.1.past hb, h.2⟩

theorem all_yes {p : UInt8 → Bool} {s : ByteArray} {k : Nat} (ha : (s.data.toList.take k).all p = true) (hk : s.size ≤ k) : s.data.toList.all p = true := by
  rw [List.take_of_length_le (by simp; omega)] at ha; exact ha
theorem all_more {p : UInt8 → Bool} {s : ByteArray} {k : Nat} (ha : (s.data.toList.take k).all p = true) (hk : k < s.size) (hp : p s[k] = true) : (s.data.toList.take (k + 1)).all p = true := by
  have hk' : k < s.data.toList.length := by simpa using hk
  rw [List.take_succ_eq_append_getElem hk', List.all_append, ha]
  show (true && (p s[k] && true)) = true
  rw [hp]; rfl
theorem all_no {p : UInt8 → Bool} {s : ByteArray} {k : Nat} (hk : k < s.size) (hp : p s[k] = false) : s.data.toList.all p = false := by
  have hk' : k < s.data.toList.length := by simpa using hk
  rw [List.all_eq_false]
  exact ⟨s[k], List.mem_of_getElem (i := k) (h := hk') rfl, by simp [hp]⟩

set_option maxHeartbeats 1000000 in
theorem word_any (s : ByteArray) (w : World) (hs : s.size ≤ maxLen) :
    Calls Tryz.prog 177 #[.string s] w fun e w' => e = .returned (.bool (wordF s)) ∧ w = w' := by
  unfold maxLen at hs
  by_cases he : s.toList = []
  · have hw : wordF s = false := by simp [wordF, he]
    rw [hw]
    have he2 : s.toList.isEmpty = true := by simp [he]
    go_enter Tryz.func177, Tryz.ntmps177
    go_wp2
    go_ret
    exact ⟨rfl, rfl⟩
  · have he2 : s.toList.isEmpty = false := by simpa using he
    by_cases h20 : 20 < s.size
    · have hw : wordF s = false := by
        have hd : decide (s.size ≤ 20) = false := by simp; omega
        rw [wordF, hd]; simp
      rw [hw]
      go_enter Tryz.func177, Tryz.ntmps177
      go_wp2
      go_ret
      exact ⟨rfl, rfl⟩
    · have hw : wordF s = s.data.toList.all visC := by
        have hd : decide (s.size ≤ 20) = true := by simp; omega
        rw [wordF, hd, he2]; simp
      have HW := Lib.hid hw; clear hw
      go_enter Tryz.func177, Tryz.ntmps177
      go_wp2
      go_loop [3, 13] (fun _ i => ∃ k : Nat, k ≤ s.size ∧ i = .int .i64 k ∧ (s.data.toList.take k).all visC = true) (fun _ i => s.size - (intOf i).toNat)
      case atStart => exact ⟨0, Nat.zero_le _, rfl, rfl⟩
      case round =>
        obtain ⟨k, hk, rfl, ha⟩ := hrel
        have HA := Lib.hid ha; clear ha
        by_cases hlt : k < s.size
        · have hg : (33 ≤ s[k].toNat ∧ s[k].toNat ≤ 126) → (s.data.toList.take (k + 1)).all visC = true := fun h => all_more HA.out hlt (by unfold visC; simp; omega)
          have hb : (s[k].toNat < 33 ∨ 126 < s[k].toNat) → s.data.toList.all visC = false := fun h => all_no hlt (by unfold visC; rcases h with h | h <;> simp <;> omega)
          have HG := Lib.hid hg; clear hg
          have HB := Lib.hid hb; clear hb
          go_wp2
          all_goals first
            | (go_round
               case rel => exact ⟨k + 1, by omega, by go_num, HG.out (by omega)⟩
               case measure => simp [intOf]; omega)
            | (go_ret
               exact ⟨by rw [HW.out, HB.out (by omega)]; rfl, rfl⟩)
        · go_wp2
          go_ret
          exact ⟨by rw [HW.out, all_yes HA.out (by omega)]; rfl, rfl⟩

theorem words_no {l : List ByteArray} {k : Nat} (h : ¬ 60 < l.length) (hk : k < l.length) (hb : wordF l[k] = false) : wordsF l = 5 := by
  rw [wordsF, if_neg h, if_neg]
  intro ha
  have := List.all_eq_true.1 ha _ (List.getElem_mem hk)
  rw [hb] at this; cases this
theorem words_yes {l : List ByteArray} {k : Nat} (h : ¬ 60 < l.length) (hk : l.length ≤ k) (ha : (l.take k).all wordF = true) : wordsF l = 0 := by
  rw [List.take_of_length_le hk] at ha
  rw [wordsF, if_neg h, if_pos ha]
theorem words_more {l : List ByteArray} {k : Nat} (hk : k < l.length) (ha : (l.take k).all wordF = true) (hb : wordF l[k] = true) : (l.take (k + 1)).all wordF = true := by
  rw [List.take_succ_eq_append_getElem hk, List.all_append, ha]
  show (true && (wordF l[k] && true)) = true
  rw [hb]; rfl

set_option maxHeartbeats 1000000 in
theorem words_any (l : List ByteArray) (A : Option Addr) (n c : Nat) (hn : l.length = n) (w : World) (hl : Txs w w.heap.size A l) :
    Calls Tryz.prog 133 #[.slice A n c] w fun e w' => e = .returned (errV (wordsF l)) ∧ w = w' := by
  subst hn
  have hm := hl.2.1
  unfold maxLen at hm
  have HN := Lib.hid hl; clear hl
  by_cases h60 : 60 < l.length
  · have hw : wordsF l = 3 := by rw [wordsF, if_pos h60]
    rw [hw]
    go_enter Tryz.func133, Tryz.ntmps133
    go_wp2
    go_ret
    exact ⟨rfl, rfl⟩
  · go_enter Tryz.func133, Tryz.ntmps133
    go_wp2
    go_loop [4, 11] (fun _ i => ∃ k : Nat, k ≤ l.length ∧ i = .int .i64 k ∧ (l.take k).all wordF = true) (fun _ i => l.length - (intOf i).toNat)
    case atStart => exact ⟨0, Nat.zero_le _, rfl, rfl⟩
    case round =>
      obtain ⟨k, hk, rfl, ha⟩ := hrel
      have HA := Lib.hid ha; clear ha
      by_cases hlt : k < l.length
      · obtain ⟨b, off, t, rfl, hb, ht, hts, hc⟩ := HN.out.one (Below.refl _ _) hlt
        cases hw : wordF t with
        | true =>
          have HG := Lib.hid (words_more hlt HA.out (by rw [ht]; exact hw)); clear ht
          have HW := Lib.hid hw; clear hw
          go_wp2_with (go_at_call 177; refine (word_any _ _ hts).mono ?_; rw [HW.out]; rintro e w' ⟨rfl, rfl⟩)
          go_round
          case rel => exact ⟨k + 1, by omega, by go_num, HG.out⟩
          case measure => simp [intOf]; omega
        | false =>
          have HG := Lib.hid (words_no h60 hlt (by rw [ht]; exact hw)); clear ht
          have HW := Lib.hid hw; clear hw
          go_wp2_with (go_at_call 177; refine (word_any _ _ hts).mono ?_; rw [HW.out]; rintro e w' ⟨rfl, rfl⟩)
          go_ret
          exact ⟨by rw [HG.out]; rfl, rfl⟩
      · go_wp2
        go_ret
        exact ⟨by rw [words_yes h60 (by omega) HA.out]; rfl, rfl⟩

set_option maxHeartbeats 1000000 in
theorem most_any (op : Int) (w : World) : Calls Tryz.prog 131 #[.int .i64 op] w fun e w' => e = .returned (.int .i64 (mostF op)) ∧ w = w' := by
  go_enter Tryz.func131, Tryz.ntmps131
  go_wp2
  all_goals go_ret
  all_goals simp_all [mostF]

set_option maxHeartbeats 1000000 in
theorem named_any (op : Int) (w : World) : Calls Tryz.prog 132 #[.int .i64 op] w fun e w' => e = .returned (.bool (namedF op)) ∧ w = w' := by
  have hop : op = 2 ∨ op = 3 ∨ op = 7 ∨ op = 9 ∨ (op ≠ 2 ∧ op ≠ 3 ∧ op ≠ 7 ∧ op ≠ 9) := by omega
  rcases hop with rfl | rfl | rfl | rfl | ⟨h1, h2, h3, h4⟩
  case inr.inr.inr.inr =>
    have e1 : (op == 2) = false := by simpa using h1
    have e2 : (op == 3) = false := by simpa using h2
    have e3 : (op == 7) = false := by simpa using h3
    have e4 : (op == 9) = false := by simpa using h4
    have hn : namedF op = false := by simp [namedF, h1, h2, h3, h4]
    rw [hn]
    clear h1 h2 h3 h4 hn
    go_enter Tryz.func132, Tryz.ntmps132
    go_wp2
    go_ret
    exact ⟨rfl, rfl⟩
  all_goals
    go_enter Tryz.func132, Tryz.ntmps132
    go_wp2
    go_ret
    exact ⟨rfl, rfl⟩

set_option maxHeartbeats 1000000 in
theorem name_any (s : ByteArray) (w : World) (hs : s.size ≤ maxLen) :
    Calls Tryz.prog 135 #[.string s] w fun e w' => e = .returned (.bool (nameF s)) ∧ w = w' := by
  unfold maxLen at hs
  by_cases he : s.toList = []
  · have hw : nameF s = false := by simp [nameF, he]
    rw [hw]
    have he2 : s.toList.isEmpty = true := by simp [he]
    go_enter Tryz.func135, Tryz.ntmps135
    go_wp2
    go_ret
    exact ⟨rfl, rfl⟩
  · have he2 : s.toList.isEmpty = false := by simpa using he
    by_cases h20 : 8 < s.size
    · have hw : nameF s = false := by
        have hd : decide (s.size ≤ 8) = false := by simp; omega
        rw [nameF, hd]; simp
      rw [hw]
      go_enter Tryz.func135, Tryz.ntmps135
      go_wp2
      go_ret
      exact ⟨rfl, rfl⟩
    · cases hl : (s.toList == [108, 101, 116]) with
      | true =>
        have hw : nameF s = false := by simp [nameF, hl]
        rw [hw]
        go_enter Tryz.func135, Tryz.ntmps135
        go_wp2
        go_ret
        exact ⟨rfl, rfl⟩
      | false =>
        have hw : nameF s = s.data.toList.all lowC := by
          have hd : decide (s.size ≤ 8) = true := by simp; omega
          rw [nameF, hd, he2, hl]; simp
        have HW := Lib.hid hw; clear hw
        go_enter Tryz.func135, Tryz.ntmps135
        go_wp2
        go_loop [3, 17] (fun _ i => ∃ k : Nat, k ≤ s.size ∧ i = .int .i64 k ∧ (s.data.toList.take k).all lowC = true) (fun _ i => s.size - (intOf i).toNat)
        case atStart => exact ⟨0, Nat.zero_le _, rfl, rfl⟩
        case round =>
          obtain ⟨k, hk, rfl, ha⟩ := hrel
          have HA := Lib.hid ha; clear ha
          by_cases hlt : k < s.size
          · have hg : (97 ≤ s[k].toNat ∧ s[k].toNat ≤ 122) → (s.data.toList.take (k + 1)).all lowC = true := fun h => all_more HA.out hlt (by unfold lowC; simp; omega)
            have hb : (s[k].toNat < 97 ∨ 122 < s[k].toNat) → s.data.toList.all lowC = false := fun h => all_no hlt (by unfold lowC; rcases h with h | h <;> simp <;> omega)
            have HG := Lib.hid hg; clear hg
            have HB := Lib.hid hb; clear hb
            go_wp2
            all_goals first
              | (go_round
                 case rel => exact ⟨k + 1, by omega, by go_num, HG.out (by omega)⟩
                 case measure => simp [intOf]; omega)
              | (go_ret
                 exact ⟨by rw [HW.out, HB.out (by omega)]; rfl, rfl⟩)
          · go_wp2
            go_ret
            exact ⟨by rw [HW.out, all_yes HA.out (by omega)]; rfl, rfl⟩

set_option maxHeartbeats 1000000 in
theorem many_any (op n : Int) (t : ByteArray) (w : World) : Calls Tryz.prog 79 #[.agg #[.int .i64 op, .string t, .int .i64 n]] w (Ret w (.int .i64 (manyF op n))) := by
  go_enter Tryz.func79, Tryz.ntmps79
  go_wp2
  all_goals go_ret
  all_goals refine ⟨?_, (by repeat (first | exact Below.refl _ _ | assumption | apply Below.drew | refine below_drewN ?_ _ | apply Below.setCell _ (by first | omega | (simp; done) | (simp; omega)) | apply Below.alloc _ (by first | omega | (simp; done) | (simp; omega))))⟩
  all_goals simp_all [manyF]
  all_goals omega
end Go.Proofs.YtddfdmopaeghnacGreatDoor
