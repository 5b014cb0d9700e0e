/- Walks of package tree: Words, one, Check, End, Kids; pargetrysame.Ints. Conditions: a slice of nodes lies below the call's own blocks; its texts are shorter than 4294967281 bytes; internal/bytealg.MaxLen holds some number. -/
import Derived.Test.YtddfdmopaeghnacGreatDoorTreeW
import Derived.Test.YtddfdmopaeghnacGreatDoorShelf
import Derived.Lib.SplitLaws
import Derived.BigQuiet
import Derived.Deep.QuietTactic
namespace Go.Proofs.YtddfdmopaeghnacGreatDoor
open Go.RowKit

/-- internal/bytealg.MaxLen holds some number. -/
def MaxL (w : World) : Prop := 1 + 1 ≤ w.heap.size ∧ ∃ m, w.cell? ⟨1, 0, none⟩ = some (.int .i64 m)
theorem MaxL.past {w w' : World} (h : MaxL w) (hb : Below w.heap.size w w') : MaxL w' := by
  obtain ⟨h1, m, hm⟩ := h
  exact ⟨Nat.le_trans h1 hb.size, m, (hb.cell (p := ⟨1, 0, none⟩) (Nat.lt_of_lt_of_le (Nat.lt_succ_self _) h1)).trans hm⟩

theorem splitB_size (sep : ByteArray) (save : Nat) : ∀ (k : Nat) (s : ByteArray), ∀ x ∈ Lib.splitB sep save k s, x.size ≤ s.size := by
  intro k
  induction k with
  | zero => intro s x hx; rw [Lib.splitB_zero] at hx; simp at hx; subst hx; exact Nat.le_refl _
  | succ k ih =>
    intro s x hx
    unfold Lib.splitB at hx
    split at hx
    · simp at hx; subst hx; exact Nat.le_refl _
    · rcases List.mem_cons.1 hx with rfl | hx
      · rw [ByteArray.size_extract]; omega
      · have := ih _ x hx; rw [ByteArray.size_extract] at this; omega

theorem sl_texts (w : World) (xs : List ByteArray) (hm : xs.length ≤ maxLen) (hs : ∀ t ∈ xs, t.size ≤ maxLen) : Txs (w.alloc (.cells (xs.map Value.string).toArray 9)) (w.alloc (.cells (xs.map Value.string).toArray 9)).heap.size (some ⟨w.heap.size, 0, none⟩) xs := by
  have h := Sl.lit (sz := 1) w (xs.map Value.string).toArray 9 xs.length (by simp)
  exact ⟨h, hm, hs⟩

/-- The words of a note's text, in memory. -/
def NoteTo (t : ByteArray) (w : World) (e : Ending) (w' : World) : Prop := ∃ A c, e = .returned (.slice A (noteL t).length c) ∧ Txs w' w'.heap.size A (noteL t) ∧ Below w.heap.size w w'

set_option maxHeartbeats 1000000 in
theorem twords_any (t : ByteArray) (w : World) (hs : t.size < 4294967281) (hm : MaxL w) :
    Calls Tryz.prog 134 #[.string t] w (NoteTo t w) := by
  obtain ⟨_, m, hm⟩ := hm
  by_cases he : t.toList = []
  · have he2 : t.toList.isEmpty = true := by simp [he]
    have hn : noteL t = [] := by rw [noteL, if_pos he]
    clear hm
    go_enter Tryz.func134, Tryz.ntmps134
    go_wp2
    go_ret
    exact ⟨none, 0, by rw [hn]; rfl, by rw [hn]; exact ⟨Sl.nil_, by simp [maxLen], by simp⟩, Below.refl _ _⟩
  · have he2 : t.toList.isEmpty = false := by simpa using he
    have hn : noteL t = Lib.splitB spB 0 (Lib.countB t spB) t := by rw [noteL, if_neg he]
    have hl : (noteL t).length = Lib.countB t spB + 1 := by rw [hn]; exact Lib.splitB_all spB (by decide) 0 _ t rfl
    have hle : Lib.countB t spB ≤ t.size := Lib.countB_le spB (by decide) t.size t (Nat.le_refl _)
    have hz : ∀ x ∈ noteL t, x.size ≤ t.size := by rw [hn]; exact splitB_size spB 0 _ t
    have HL := Lib.hid hl; have HN := Lib.hid hn; have HM := Lib.hid hm; have HZ := Lib.hid hz
    clear hl hn hm hz
    go_enter Tryz.func134, Tryz.ntmps134
    go_wp2_with (go_at_call 130; refine (Tryz.strings_Split t spB m _ hs HM.out (by decide)).mono ?_; rintro e w1 ⟨rfl, rfl⟩)
    go_ret
    refine ⟨some ⟨w.heap.size, 0, none⟩, Lib.countB t spB + 1, by rw [HL.out]; rfl, ?_, (by repeat (first | exact Below.refl _ _ | assumption | apply Below.drew | refine below_drewN ?_ _ | apply Below.setCell _ (by first | omega | (simp; done) | (simp; omega)) | apply Below.alloc _ (by first | omega | (simp; done) | (simp; omega))))⟩
    rw [← HN.out]
    exact sl_texts w (noteL t) (by rw [HL.out]; simp only [maxLen]; omega) fun x hx => by have := HZ.out x hx; simp only [maxLen]; omega
theorem most_is {op m : Int} (h : mostF op = m) (w : World) : Calls Tryz.prog 131 #[.int .i64 op] w fun e w' => e = .returned (.int .i64 m) ∧ w = w' := by subst h; exact most_any op w
theorem named_is {op : Int} {b : Bool} (h : namedF op = b) (w : World) : Calls Tryz.prog 132 #[.int .i64 op] w fun e w' => e = .returned (.bool b) ∧ w = w' := by subst h; exact named_any op w
theorem name_is {t : ByteArray} {b : Bool} (h : nameF t = b) (hs : t.size ≤ maxLen) (w : World) : Calls Tryz.prog 135 #[.string t] w fun e w' => e = .returned (.bool b) ∧ w = w' := by subst h; exact name_any t w hs

theorem mostF_nn {op : Int} (h : 0 ≤ mostF op) : op = 1 ∨ op = 3 ∨ op = 4 := by
  unfold mostF at h
  split at h
  · omega
  · split at h
    · omega
    · omega
theorem mostF_bd (op : Int) : -1 ≤ mostF op ∧ mostF op ≤ 999999 := by
  unfold mostF; split <;> (try split) <;> omega

theorem tone_1 {op n : Int} {t : ByteArray} (h : op < 1 ∨ 9 < op ∨ (0 ≤ mostF op ∧ (n < 0 ∨ mostF op < n))) : treeOne op t n = 1 := by rw [treeOne, if_pos h]
theorem tone_2 {op n : Int} {t : ByteArray} (h : ¬ (op < 1 ∨ 9 < op ∨ (0 ≤ mostF op ∧ (n < 0 ∨ mostF op < n)))) (h2 : (mostF op < 0 ∧ n ≠ 0) ∨ (namedF op = false ∧ t.toList ≠ [])) : treeOne op t n = 2 := by rw [treeOne, if_neg h, if_pos h2]
theorem tone_3 {op n : Int} {t : ByteArray} (h : ¬ (op < 1 ∨ 9 < op ∨ (0 ≤ mostF op ∧ (n < 0 ∨ mostF op < n)))) (h2 : ¬ ((mostF op < 0 ∧ n ≠ 0) ∨ (namedF op = false ∧ t.toList ≠ []))) :
    treeOne op t n = if op = 9 then wordsF (noteL t) else if namedF op = true ∧ nameF t = false then 5 else 0 := by rw [treeOne, if_neg h, if_neg h2]

set_option maxHeartbeats 4000000 in
set_option maxRecDepth 100000 in
theorem tone_any (op n : Int) (t : ByteArray) (w : World) (hs : t.size < 4294967281) (hm : MaxL w) :
    Calls Tryz.prog 78 #[.agg #[.int .i64 op, .string t, .int .i64 n]] w (Ret w (errV (treeOne op t n))) := by
  have hts : t.size ≤ maxLen := by simp only [maxLen]; omega
  have HM := Lib.hid hm; clear hm
  obtain ⟨m, hmo⟩ : ∃ m, mostF op = m := ⟨_, rfl⟩
  have HMo := Lib.hid (most_is hmo)
  have hmb := mostF_bd op
  by_cases h1 : op < 1
  · rw [tone_1 (.inl h1)]
    clear hmb hmo
    go_enter Tryz.func78, Tryz.ntmps78
    go_wp2_with (go_at_call 131; refine (HMo.out _).mono ?_; rintro e w' ⟨rfl, rfl⟩)
    go_ret
    exact ⟨rfl, (by repeat (first | exact Below.refl _ _ | assumption | apply Below.drew | refine below_drewN ?_ _ | apply Below.setCell _ (by first | omega | (simp; done) | (simp; omega)) | apply Below.alloc _ (by first | omega | (simp; done) | (simp; omega))))⟩
  by_cases h9 : 9 < op
  · rw [tone_1 (.inr (.inl h9))]
    clear hmb hmo
    go_enter Tryz.func78, Tryz.ntmps78
    go_wp2_with (go_at_call 131; refine (HMo.out _).mono ?_; rintro e w' ⟨rfl, rfl⟩)
    go_ret
    exact ⟨rfl, (by repeat (first | exact Below.refl _ _ | assumption | apply Below.drew | refine below_drewN ?_ _ | apply Below.setCell _ (by first | omega | (simp; done) | (simp; omega)) | apply Below.alloc _ (by first | omega | (simp; done) | (simp; omega))))⟩
  by_cases hr : 0 ≤ m ∧ n < 0
  · obtain ⟨hr1, hr2⟩ := hr
    rw [tone_1 (.inr (.inr ⟨by omega, .inl hr2⟩))]
    clear hmb hmo
    go_enter Tryz.func78, Tryz.ntmps78
    go_wp2_with (go_at_call 131; refine (HMo.out _).mono ?_; rintro e w' ⟨rfl, rfl⟩)
    go_ret
    exact ⟨rfl, (by repeat (first | exact Below.refl _ _ | assumption | apply Below.drew | refine below_drewN ?_ _ | apply Below.setCell _ (by first | omega | (simp; done) | (simp; omega)) | apply Below.alloc _ (by first | omega | (simp; done) | (simp; omega))))⟩
  by_cases hr2 : 0 ≤ m ∧ m < n
  · obtain ⟨hr1, hr2⟩ := hr2
    have hr3 : ¬ n < 0 := by omega
    rw [tone_1 (.inr (.inr ⟨by omega, .inr (by omega)⟩))]
    clear hmb hmo hr
    go_enter Tryz.func78, Tryz.ntmps78
    go_wp2_with (go_at_call 131; refine (HMo.out _).mono ?_; rintro e w' ⟨rfl, rfl⟩)
    go_ret
    exact ⟨rfl, (by repeat (first | exact Below.refl _ _ | assumption | apply Below.drew | refine below_drewN ?_ _ | apply Below.setCell _ (by first | omega | (simp; done) | (simp; omega)) | apply Below.alloc _ (by first | omega | (simp; done) | (simp; omega))))⟩
  have hn1 : ¬ (op < 1 ∨ 9 < op ∨ (0 ≤ mostF op ∧ (n < 0 ∨ mostF op < n))) := by omega
  by_cases hr3 : m < 0 ∧ n ≠ 0
  · obtain ⟨hm0, hn0⟩ := hr3
    rw [tone_2 hn1 (.inl ⟨by omega, hn0⟩)]
    have hnb : (n != 0) = true := by simpa using hn0
    clear hmb hmo hr hr2 hn1 hn0
    go_enter Tryz.func78, Tryz.ntmps78
    go_wp2_with (go_at_call 131; refine (HMo.out _).mono ?_; rintro e w' ⟨rfl, rfl⟩)
    go_ret
    exact ⟨rfl, (by repeat (first | exact Below.refl _ _ | assumption | apply Below.drew | refine below_drewN ?_ _ | apply Below.setCell _ (by first | omega | (simp; done) | (simp; omega)) | apply Below.alloc _ (by first | omega | (simp; done) | (simp; omega))))⟩
  have hcs : (0 ≤ m ∧ ¬ n < 0 ∧ ¬ m < n ∧ ¬ m < 0) ∨ (m < 0 ∧ n = 0) := by omega
  have h9' : op = 9 → m < 0 := by rintro rfl; rw [← hmo]; decide
  have hA : ∀ b, namedF op = b → (((mostF op < 0 ∧ n ≠ 0) ∨ (namedF op = false ∧ t.toList ≠ [])) ↔ (b = false ∧ t.toList ≠ [])) := by
    intro b hb
    rw [hb]
    constructor
    · rintro (h | h)
      · exact absurd ⟨by omega, h.2⟩ hr3
      · exact h
    · exact .inr
  have h1' : 1 ≤ op := by omega
  have h9'' : op ≤ 9 := by omega
  have HTE := Lib.hid hA; clear hA
  have HN1 := Lib.hid hn1; clear hn1
  have HBD := Lib.hid hmb; clear hmb hmo hr hr2 hr3
  cases hnm : namedF op with
  | false =>
    have HNa := Lib.hid (named_is hnm)
    have hne : op ≠ 9 := by rintro rfl; exact absurd hnm (by decide)
    have hne2 : (op == 9) = false := by simpa using hne
    by_cases he : t.toList = []
    · have he2 : t.toList.isEmpty = true := by simp [he]
      have HR : Hid (treeOne op t n = 0) := Lib.hid (by rw [tone_3 HN1.out (fun h => ((HTE.out _ hnm).1 h).2 he), if_neg hne, if_neg (by simp [hnm])])
      clear hne h9' hnm
      rcases hcs with ⟨a1, a2, a3, a4⟩ | ⟨a1, rfl⟩
      all_goals
        go_enter Tryz.func78, Tryz.ntmps78
        go_wp2_with (first | (go_at_call 131; refine (HMo.out _).mono ?_; rintro e w' ⟨rfl, rfl⟩) | (go_at_call 132; refine (HNa.out _).mono ?_; rintro e w' ⟨rfl, rfl⟩))
        go_ret
        exact ⟨by rw [HR.out]; rfl, (by repeat (first | exact Below.refl _ _ | assumption | apply Below.drew | refine below_drewN ?_ _ | apply Below.setCell _ (by first | omega | (simp; done) | (simp; omega)) | apply Below.alloc _ (by first | omega | (simp; done) | (simp; omega))))⟩
    · have he2 : t.toList.isEmpty = false := by simpa using he
      have HR : Hid (treeOne op t n = 2) := Lib.hid (tone_2 HN1.out ((HTE.out _ hnm).2 ⟨rfl, he⟩))
      clear hne h9' hnm
      rcases hcs with ⟨a1, a2, a3, a4⟩ | ⟨a1, rfl⟩
      all_goals
        go_enter Tryz.func78, Tryz.ntmps78
        go_wp2_with (first | (go_at_call 131; refine (HMo.out _).mono ?_; rintro e w' ⟨rfl, rfl⟩) | (go_at_call 132; refine (HNa.out _).mono ?_; rintro e w' ⟨rfl, rfl⟩))
        go_ret
        exact ⟨by rw [HR.out]; rfl, (by repeat (first | exact Below.refl _ _ | assumption | apply Below.drew | refine below_drewN ?_ _ | apply Below.setCell _ (by first | omega | (simp; done) | (simp; omega)) | apply Below.alloc _ (by first | omega | (simp; done) | (simp; omega))))⟩
  | true =>
    have HNa := Lib.hid (named_is hnm)
    have hn2 : ¬ ((mostF op < 0 ∧ n ≠ 0) ∨ (namedF op = false ∧ t.toList ≠ [])) := fun h => by have := ((HTE.out _ hnm).1 h).1; cases this
    by_cases h9e : op = 9
    · subst h9e
      obtain ⟨a1, rfl⟩ : m < 0 ∧ n = 0 := by
        have := h9' rfl
        rcases hcs with ⟨_, _, _, a4⟩ | h
        · exact absurd this a4
        · exact h
      have HR : Hid (treeOne 9 t 0 = wordsF (noteL t)) := Lib.hid (by rw [tone_3 HN1.out hn2, if_pos rfl])
      clear hcs h9' hnm hn2
      go_enter Tryz.func78, Tryz.ntmps78
      go_wp2_with (first
        | (go_at_call 131; refine (HMo.out _).mono ?_; rintro e w' ⟨rfl, rfl⟩)
        | (go_at_call 132; refine (HNa.out _).mono ?_; rintro e w' ⟨rfl, rfl⟩)
        | (go_at_call 134; refine (twords_any t _ hs (HM.out.past (by repeat (first | exact Below.refl _ _ | assumption | apply Below.drew | refine below_drewN ?_ _ | apply Below.setCell _ (by first | omega | (simp; done) | (simp; omega)) | apply Below.alloc _ (by first | omega | (simp; done) | (simp; omega)))))).mono ?_; rintro e w1 ⟨A1, c1, rfl, htx, hB1⟩; have HT := Lib.hid htx; clear htx)
        | (go_at_call 133; refine (words_any _ A1 _ c1 rfl _ HT.out).mono ?_; rintro e w2 ⟨rfl, rfl⟩))
      go_ret
      exact ⟨by rw [HR.out]; rfl, (((Below.refl _ _).alloc (Nat.le_refl _) _).trans (hB1.mono (by simp)))⟩
    · have hne2 : (op == 9) = false := by simpa using h9e
      cases hna : nameF t with
      | false =>
        have HNm := Lib.hid (name_is hna hts)
        have HR : Hid (treeOne op t n = 5) := Lib.hid (by rw [tone_3 HN1.out hn2, if_neg h9e, if_pos ⟨hnm, hna⟩])
        clear h9e h9' hnm hn2 hna
        rcases hcs with ⟨a1, a2, a3, a4⟩ | ⟨a1, rfl⟩
        all_goals
          go_enter Tryz.func78, Tryz.ntmps78
          go_wp2_with (first | (go_at_call 131; refine (HMo.out _).mono ?_; rintro e w' ⟨rfl, rfl⟩) | (go_at_call 132; refine (HNa.out _).mono ?_; rintro e w' ⟨rfl, rfl⟩) | (go_at_call 135; refine (HNm.out _).mono ?_; rintro e w' ⟨rfl, rfl⟩))
          go_ret
          exact ⟨by rw [HR.out]; rfl, (by repeat (first | exact Below.refl _ _ | assumption | apply Below.drew | refine below_drewN ?_ _ | apply Below.setCell _ (by first | omega | (simp; done) | (simp; omega)) | apply Below.alloc _ (by first | omega | (simp; done) | (simp; omega))))⟩
      | true =>
        have HNm := Lib.hid (name_is hna hts)
        have HR : Hid (treeOne op t n = 0) := Lib.hid (by rw [tone_3 HN1.out hn2, if_neg h9e, if_neg (by simp [hna])])
        clear h9e h9' hnm hn2 hna
        rcases hcs with ⟨a1, a2, a3, a4⟩ | ⟨a1, rfl⟩
        all_goals
          go_enter Tryz.func78, Tryz.ntmps78
          go_wp2_with (first | (go_at_call 131; refine (HMo.out _).mono ?_; rintro e w' ⟨rfl, rfl⟩) | (go_at_call 132; refine (HNa.out _).mono ?_; rintro e w' ⟨rfl, rfl⟩) | (go_at_call 135; refine (HNm.out _).mono ?_; rintro e w' ⟨rfl, rfl⟩))
          go_ret
          exact ⟨by rw [HR.out]; rfl, (by repeat (first | exact Below.refl _ _ | assumption | apply Below.drew | refine below_drewN ?_ _ | apply Below.setCell _ (by first | omega | (simp; done) | (simp; omega)) | apply Below.alloc _ (by first | omega | (simp; done) | (simp; omega))))⟩
end Go.Proofs.YtddfdmopaeghnacGreatDoor
