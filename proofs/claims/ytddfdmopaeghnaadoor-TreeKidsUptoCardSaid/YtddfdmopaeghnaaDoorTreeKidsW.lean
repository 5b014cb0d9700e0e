/- Walk of the law TreeKids: true, whatever the nodes. Conditions: the slice lies below the call's own blocks; its texts are shorter than 4294967281 bytes; internal/bytealg.MaxLen holds some number. -/
import Derived.Test.YtddfdmopaeghnaaDoorTreeU
namespace Go.Proofs.YtddfdmopaeghnaaDoor
open Go.RowKit

/-- How often each place is a kid, when the nodes below m are counted, and q kids of m. -/
def cnt (l : List Nd) (m q j : Nat) : Nat := cntTo l j m + ((kidsAt l m).take q).count j
def rowQ (l : List Nd) (m q : Nat) : List Value := (List.range l.length).map fun j => .int .i64 (cnt l m q j : Nat)

theorem cntTo_mono (l : List Nd) (j : Nat) : ∀ (f m : Nat), cntTo l j m ≤ cntTo l j (m + f) := by
  intro f
  induction f with
  | zero => intro m; exact Nat.le_refl _
  | succ f ih => intro m; have := ih m; rw [show m + (f + 1) = m + f + 1 by omega, cntTo]; omega

theorem cnt_le {l : List Nd} (hT : Tr l) {m q j : Nat} (hm : m < l.length) (hj : j < l.length) : cnt l m q j ≤ 1 := by
  have h1 : ((kidsAt l m).take q).count j ≤ (kidsAt l m).count j := (List.take_sublist q (kidsAt l m)).count_le j
  have h2 := cntTo_mono l j (l.length - (m + 1)) (m + 1)
  rw [show m + 1 + (l.length - (m + 1)) = l.length by omega, hT.cnt hj] at h2
  have h3 : cntTo l j (m + 1) = cntTo l j m + (kidsAt l m).count j := rfl
  unfold cnt
  split at h2 <;> omega

theorem kids_le {l : List Nd} (hT : Tr l) {m : Nat} (hm : m < l.length) : (kidsAt l m).length ≤ 6 := by
  rw [hT.kids_len hm]
  have h := manyF_bd (hT.one _ (List.getElem_mem hm))
  have h2 := manyL_at hm (show l[m] = Nd.mk l[m].op l[m].text l[m].n from rfl)
  omega
theorem rowQ_at {l : List Nd} {m q j : Nat} (hj : j < l.length) : (rowQ l m q)[j]? = some (.int .i64 (cnt l m q j : Nat)) := by simp [rowQ, hj]
theorem rowQ_len (l : List Nd) (m q : Nat) : (rowQ l m q).length = l.length := by simp [rowQ]

theorem rowQ_step {l : List Nd} {m q a : Nat} (hq : q < (kidsAt l m).length) (ha : (kidsAt l m)[q] = a) : (rowQ l m q).set a (.int .i64 ((cnt l m q a : Nat) + 1 : Int)) = rowQ l m (q + 1) := by
  have hc : ∀ j, cnt l m (q + 1) j = cnt l m q j + if a = j then 1 else 0 := by
    intro j
    unfold cnt
    rw [List.take_succ_eq_append_getElem hq, List.count_append, ha, List.count_singleton]
    by_cases e : a = j
    · subst e; simp; omega
    · simp [e]
  apply List.ext_getElem?
  intro j
  by_cases hj : j < l.length
  · rw [rowQ_at hj, hc]
    by_cases e : a = j
    · subst e
      rw [List.getElem?_set_self (by rw [rowQ_len]; exact hj), if_pos rfl]; rfl
    · rw [List.getElem?_set_ne e, rowQ_at hj, if_neg e]; rfl
  · rw [List.getElem?_eq_none (by rw [List.length_set, rowQ_len]; omega), List.getElem?_eq_none (by rw [rowQ_len]; omega)]

theorem rowQ_next (l : List Nd) (m : Nat) : rowQ l m (kidsAt l m).length = rowQ l (m + 1) 0 := by
  unfold rowQ
  congr 1
  funext j
  unfold cnt
  rw [List.take_length, List.take_zero]; rfl

theorem rowQ_start (l : List Nd) : rowQ l 0 0 = List.replicate l.length (.int .i64 0) := by
  apply List.ext_getElem?
  intro j
  by_cases hj : j < l.length
  · rw [rowQ_at hj]; simp [hj, cnt, cntTo]
  · rw [List.getElem?_eq_none (by rw [rowQ_len]; omega), List.getElem?_eq_none (by simp; omega)]

/-- The statement of the law's fact. -/
def fact0 : List Nd := [⟨8, .empty, 0⟩, ⟨5, .empty, 0⟩, ⟨1, .empty, 0⟩, ⟨1, .empty, 0⟩]
theorem fact0_tr : Tr fact0 := Tr.of_check (by simp [fact0, treeF, tchk, treeOne, mostF, namedF, manyF, ByteArray.toList_eq])
theorem fact0_kids : kidsAt fact0 1 = [2, 3] := by decide

theorem fact0_nds (w : World) : Nds (w.alloc (.cells #[.int .i64 8, .string .empty, .int .i64 0, .int .i64 5, .string .empty, .int .i64 0, .int .i64 1, .string .empty, .int .i64 0, .int .i64 1, .string .empty, .int .i64 0] 71))
    (w.alloc (.cells #[.int .i64 8, .string .empty, .int .i64 0, .int .i64 5, .string .empty, .int .i64 0, .int .i64 1, .string .empty, .int .i64 0, .int .i64 1, .string .empty, .int .i64 0] 71)).heap.size (some ⟨w.heap.size, 0, none⟩) fact0 :=
  ⟨Sl.lit (sz := 3) w _ _ 4 rfl, by simp [fact0, maxLen], by simp [fact0, maxLen]⟩
theorem fact0_short : Short fact0 := by simp [Short, fact0]
theorem nums_lit (w : World) : Nums (w.alloc (.cells #[.int .i64 2, .int .i64 3] 3)) (w.alloc (.cells #[.int .i64 2, .int .i64 3] 3)).heap.size (some ⟨w.heap.size, 0, none⟩) [2, 3] :=
  ⟨Sl.lit (sz := 1) w _ _ 2 rfl, by simp [maxLen]⟩
theorem Nums.past {w w' : World} {A : Option Addr} {l : List Int} (h : Nums w w.heap.size A l) (hb : Below w.heap.size w w') : Nums w' w'.heap.size A l := ⟨h.1.past hb, h.2⟩

/-- The law's fact: what Kids gives of it. -/
theorem fact0_any (A0 : Option Addr) (c : Nat) (w : World) (hl : Nds w w.heap.size A0 fact0) (hm : MaxL w) :
    Calls Tryd.prog 31 #[.slice A0 4 c, .int .i64 1] w fun e w' => ∃ A c, e = .returned (.tuple #[.slice A 2 c, .nilIface]) ∧ Nums w' w'.heap.size A [2, 3] ∧ Below w.heap.size w w' := by
  refine (tkids_any fact0 fact0_tr A0 c 1 w hl fact0_short hm (by decide)).mono ?_
  rintro e w' ⟨A, c2, rfl, ho, hb⟩
  rw [fact0_kids] at ho ⊢
  exact ⟨A, c2, rfl, ⟨Sl.of_own ho, by simp [maxLen]⟩, hb⟩

set_option maxHeartbeats 400000 in
set_option maxRecDepth 100000 in
theorem treeKids_bad (l : List Nd) (A : Option Addr) (c : Nat) (w : World) (hl : Nds w w.heap.size A l) (hsh : Short l) (hm : MaxL w) (hb : treeF l ≠ 0) :
    Calls Tryd.prog 8 #[.slice A l.length c] w (Ret w (.bool true)) := by
  have HC := Lib.hid (fun w' h1 h2 => tcheck_any l A c w' h1 hsh h2)
  rw [← errV_pos hb] at HC
  have HN := Lib.hid hl; have HM := Lib.hid hm
  clear hl hm hsh
  generalize treeF l = k at *
  clear hb
  go_enter Tryd.func8, Tryd.ntmps8
  go_wp2_with (first
    | (go_at_call 31; refine (fact0_any _ _ _ (fact0_nds _) (HM.out.past (by repeat (first | exact Below.refl _ _ | assumption | apply Below.drew | refine below_drewN ?_ _ | apply Below.setCell _ (by first | omega | (simp; done) | (simp; omega)) | apply Below.alloc _ (by first | omega | (simp; done) | (simp; omega)))))).mono ?_; rintro e w1 ⟨A1, c1, rfl, hn1, hB1⟩; have HN1 := Lib.hid hn1; clear hn1; have hB1w : Below w.heap.size w w1 := ((Below.refl _ _).alloc (Nat.le_refl _) _).trans (hB1.mono (by simp)); clear hB1)
    | (go_at_call 32; refine (ints_any [2, 3] [2, 3] 2 2 rfl rfl _ _ _ _ _ (HN1.out.past (by repeat (first | exact Below.refl _ _ | assumption | apply Below.drew | refine below_drewN ?_ _ | apply Below.setCell _ (by first | omega | (simp; done) | (simp; omega)) | apply Below.alloc _ (by first | omega | (simp; done) | (simp; omega))))) (nums_lit _)).mono ?_; rintro e w2 ⟨rfl, hB2⟩; have hB2w : Below w.heap.size w w2 := (hB1w.alloc hB1w.size _).trans (hB2.mono (by have := hB1w.size; simp; omega)); clear hB2)
    | (go_at_call 33; refine (HC.out _ (HN.out.past hB2w) (HM.out.past hB2w)).mono ?_; rintro e w3 ⟨rfl, hB3⟩))
  go_ret
  exact ⟨rfl, hB2w.trans (hB3.mono hB2w.size)⟩

theorem own_far {w w' : World} {base g n : Nat} {e : TypeId} {v : Value} {xs : List Value} {sz : Nat} (h : w.ownsRow base e sz v n xs) (hg : w.grownBy w' (some g)) (hlt : g < base) : w'.ownsRow base e sz v n xs :=
  h.kept hg (by
    cases hv : v.ownBlock with
    | none => exact .inl rfl
    | some k => exact .inr fun he => by cases he; have := (h.lt g hv).1; omega)

set_option maxHeartbeats 1000000 in
set_option maxRecDepth 100000 in
theorem treeKids_ok (l : List Nd) (hT : Tr l) (A : Option Addr) (c : Nat) (w : World) (hl : Nds w w.heap.size A l) (hsh : Short l) (hm : MaxL w) :
    Calls Tryd.prog 8 #[.slice A l.length c] w (Ret w (.bool true)) := by
  have h40 := hT.len
  obtain ⟨i0, hi0, hz0, hz1, hz2⟩ := info_parts int_info
  have HC := Lib.hid (fun w' h1 h2 => tcheck_any l A c w' h1 hsh h2)
  rw [hT.chk, ← errV_zero rfl] at HC
  have HN := Lib.hid hl; have HM := Lib.hid hm; have HT := Lib.hid hT; have HS := Lib.hid hsh
  clear hl hm hsh hT
  go_enter Tryd.func8, Tryd.ntmps8
  go_wp2_with (first
    | (go_at_call 31; refine (fact0_any _ _ _ (fact0_nds _) (HM.out.past (by repeat (first | exact Below.refl _ _ | assumption | apply Below.drew | refine below_drewN ?_ _ | apply Below.setCell _ (by first | omega | (simp; done) | (simp; omega)) | apply Below.alloc _ (by first | omega | (simp; done) | (simp; omega)))))).mono ?_; rintro e w1 ⟨A1, c1, rfl, hn1, hB1⟩; have HN1 := Lib.hid hn1; clear hn1; have hB1w : Below w.heap.size w w1 := ((Below.refl _ _).alloc (Nat.le_refl _) _).trans (hB1.mono (by simp)); clear hB1)
    | (go_at_call 32; refine (ints_any [2, 3] [2, 3] 2 2 rfl rfl _ _ _ _ _ (HN1.out.past (by repeat (first | exact Below.refl _ _ | assumption | apply Below.drew | refine below_drewN ?_ _ | apply Below.setCell _ (by first | omega | (simp; done) | (simp; omega)) | apply Below.alloc _ (by first | omega | (simp; done) | (simp; omega))))) (nums_lit _)).mono ?_; rintro e w2 ⟨rfl, hB2⟩; have hB2w : Below w.heap.size w w2 := (hB1w.alloc hB1w.size _).trans (hB2.mono (by have := hB1w.size; simp; omega)); clear hB2)
    | (go_at_call 33; refine (HC.out _ (HN.out.past hB2w) (HM.out.past hB2w)).mono ?_; rintro e w3 ⟨rfl, hB3⟩; have hB3w : Below w.heap.size w w3 := hB2w.trans (hB3.mono hB2w.size); clear hB3)
    | (at_make; refine wpList_make_full _ rfl (.tmp 34) (.tmp 34) 44 rfl w.heap.size 3 i0 (.int .i64 0) 1 Tryd.underlying44 hi0 hz0 hz1 .i64 .i64 _ _ l.length rfl rfl rfl rfl (by rw [hz2]; omega) (by simp only [maxLen]; omega) hB3w.size ?_; intro w4 hown hg; have hB4w : Below w.heap.size w w4 := hB3w.grown hg hB3w.size (by simp)))
  obtain ⟨g, hge⟩ : ∃ g, g = w3.heap.size := ⟨_, rfl⟩
  rw [← hge] at hown ⊢
  have hgl := (hown.lt g rfl).2
  have hwg : w.heap.size ≤ g := (hown.lt g rfl).1
  have hmz : (madeCells (Value.int .i64 0).cells (l.length * 1)).toList = List.replicate l.length (.int .i64 0) := by
    show (madeCells #[.int .i64 0] (l.length * 1)).toList = _
    rw [Nat.mul_one, toList_madeCells_one]
  rw [hmz] at hown
  have HO := Lib.hid hown
  clear hown hg hge hmz hB1w hB2w hB3w hi0 hz0 hz1 hz2
  go_loopw [7, 8, 9, 10] (fun i _ _ _ wr => ∃ m : Nat, m ≤ l.length ∧ i = .int .i64 m ∧ wr.ownsRow w.heap.size 3 1 (.slice (some ⟨g, 0, none⟩) l.length l.length) l.length (rowQ l m 0) ∧ Below w.heap.size w wr ∧ g < wr.heap.size) (fun i _ _ _ _ => l.length - (intOf i).toNat)
  case atStart => exact ⟨0, by omega, rfl, by rw [rowQ_start]; exact HO.out, hB4w, hgl⟩
  case round =>
    obtain ⟨m, hml, rfl, hown, hB, hgs⟩ := hrel
    have HR := Lib.hid hown; clear hown
    by_cases hlt : m < l.length
    · go_wp2_with (go_at_call 31; refine (tkids_any l HT.out A c m _ (HN.out.past hB) HS.out (HM.out.past hB) hlt).mono ?_; rintro e w5 ⟨A5, c5, rfl, hk, hB5⟩)
      have hR5 := own_below HR.out hB5
      have hB5w : Below w.heap.size w w5 := hB.trans (hB5.mono hB.size)
      have hgs5 : g < w5.heap.size := Nat.lt_of_lt_of_le hgs hB5.size
      obtain ⟨B5, hB5e⟩ : ∃ B5, B5 = wr.heap.size := ⟨_, rfl⟩
      have hgs5' : g < B5 := by omega
      rw [← hB5e] at hk
      have HK := Lib.hid hk; have HR5 := Lib.hid hR5
      clear hk hR5 hB5 hB5e
      have hn5 := kids_le HT.out hlt
      generalize hks : (kidsAt l m).length = n5 at *
      have HKS := Lib.hid hks; clear hks
      go_loopw [10] (fun j wr => ∃ q : Nat, q ≤ n5 ∧ j = .int .i64 q ∧ wr.ownsRow w.heap.size 3 1 (.slice (some ⟨g, 0, none⟩) l.length l.length) l.length (rowQ l m q) ∧ wr.ownsRow B5 3 1 (.slice A5 n5 c5) n5 (natV (kidsAt l m)) ∧ Below w.heap.size w wr ∧ g < wr.heap.size) (fun j _ => n5 - (intOf j).toNat)
      case atStart => exact ⟨0, by omega, rfl, HR5.out, HK.out, hB5w, hgs5⟩
      case round =>
        obtain ⟨q, hq, rfl, hr, hk, hB, hgs⟩ := hrel
        have HR := Lib.hid hr; have HK2 := Lib.hid hk; clear hr hk
        by_cases hqt : q < n5
        · have hql : q < (kidsAt l m).length := by rw [HKS.out]; exact hqt
          obtain ⟨a, ha⟩ : ∃ a, (kidsAt l m)[q] = a := ⟨_, rfl⟩
          obtain ⟨hma, hal⟩ := kidsAt_bd (l := l) (i := m) a (by rw [← ha]; exact List.getElem_mem hql)
          obtain ⟨bk, off, u, rfl, hbk, hu, hc⟩ := (Sl.of_own HK2.out).one hqt
          have hu2 : u = .int .i64 (a : Nat) := by
            simp [natV, hql] at hu
            rw [← hu, ha]
          subst hu2
          have hct : wr.cell? ⟨g, a, none⟩ = some (.int .i64 (cnt l m q a : Nat)) := by rw [HR.out.cellAt a (by omega)]; exact rowQ_at hal
          have hc1 := cnt_le HT.out (q := q) hlt hal
          have hf := HR.out.frozenAt a
          obtain ⟨st1, st2⟩ := HR.out.stored a (.int .i64 ((cnt l m q a : Nat) + 1 : Int))
          rw [rowQ_step hql ha] at st1
          have hk3 := own_far HK2.out st2 hgs5'
          have HS1 := Lib.hid st1; have HK3 := Lib.hid hk3
          clear st1 st2 hk3 hu ha hql
          generalize cnt l m q a = v at *
          go_wp2
          go_roundw
          case measure => simp [intOf]; omega
          case rel => exact ⟨q + 1, by omega, by go_num, HS1.out, HK3.out, hB.setCell hwg _, by simp [World.setCell]; omega⟩
        · obtain rfl : q = n5 := by omega
          have hrn := HR.out
          rw [← HKS.out, rowQ_next] at hrn
          have HRN := Lib.hid hrn; clear hrn
          go_wp2
          go_roundw
          case measure => simp [intOf]; omega
          case rel => exact ⟨m + 1, by omega, by go_num, HRN.out, hB, hgs⟩
    · obtain rfl : m = l.length := by omega
      have hend : ∀ j, j < l.length → wr.cell? ⟨g, j, none⟩ = some (.int .i64 (if j = 0 then 0 else 1)) := by
        intro j hj
        rw [HR.out.cellAt j (by omega), rowQ_at hj]
        have h1 := HT.out.cnt hj
        have h2 : (kidsAt l l.length).take 0 = [] := List.take_zero
        unfold cnt
        rw [h2, h1]
        by_cases e : j = 0 <;> simp [e]
      have HE := Lib.hid hend; clear hend
      go_wp2
      go_loop [11] (fun j => ∃ k : Nat, k ≤ l.length ∧ j = .int .i64 k) (fun j => l.length - (intOf j).toNat)
      case atStart => exact ⟨0, by omega, rfl⟩
      case round =>
        obtain ⟨k, hk, rfl⟩ := hrel
        by_cases hkl : k < l.length
        · by_cases hk0 : k = 0
          · have hc := HE.out k hkl
            rw [if_pos hk0] at hc
            have hk1 : (k : Int) ≤ 0 := by omega
            have hk2 : decide (0 < k) = false := by simp; omega
            have hk3 : decide (0 < (k : Int)) = false := by simp; omega
            clear hk0
            go_wp2
            go_round
            case rel => exact ⟨k + 1, by omega, by go_num⟩
            case measure => simp [intOf]; omega
          · have hc := HE.out k hkl
            rw [if_neg hk0] at hc
            have hk1 : 0 < k := by omega
            clear hk0
            go_wp2
            go_round
            case rel => exact ⟨k + 1, by omega, by go_num⟩
            case measure => simp [intOf]; omega
        · go_wp2
          go_ret
          exact ⟨rfl, hB⟩
end Go.Proofs.YtddfdmopaeghnaaDoor
