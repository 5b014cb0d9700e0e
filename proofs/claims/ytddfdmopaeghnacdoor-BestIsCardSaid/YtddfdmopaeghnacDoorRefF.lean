/- Walk of the reference's DocFault. Condition: the slice of nodes lies below the call's own blocks. -/
import Derived.Test.YtddfdmopaeghnacDoorRefW
import Derived.Laws.Closers25
import Derived.Deep.RegionWith
namespace Go.Proofs.YtddfdmopaeghnacDoor
open Go.RowKit

theorem list_size (t : ByteArray) : t.toList = [] ↔ t.size = 0 := by
  rw [ByteArray.toList_eq]
  show _ ↔ t.data.size = 0
  rw [← Array.length_toList]; exact List.length_eq_zero_iff.symm

/-- A node's fault, its bytes all printable. -/
theorem oneF_good {op n : Int} {t : ByteArray} (hp : prtAll t = true) : oneF op t n = if op < 1 ∨ 9 < op then 1 else if (op ≠ 1 ∧ 0 < t.size) ∨ (op ≠ 7 ∧ n ≠ 0) then 2 else if op = 1 ∧ (t.size < 1 ∨ 20 < t.size) then 5 else if n < 0 ∨ 8 < n then 1 else 0 := by
  have h1 : (op ≠ 1 ∧ t.toList ≠ []) ↔ (op ≠ 1 ∧ 0 < t.size) := by rw [Ne, Ne, list_size]; constructor <;> (rintro ⟨a, b⟩; exact ⟨a, by omega⟩)
  have h2 : (t.toList = [] ∨ 20 < t.size ∨ prtAll t = false) ↔ (t.size < 1 ∨ 20 < t.size) := by rw [list_size, hp]; simp; try omega
  unfold oneF
  simp only [h1, h2]

/-- Not all. -/
theorem oneF_odd {op n : Int} {t : ByteArray} (hp : prtAll t = false) : oneF op t n = if op < 1 ∨ 9 < op then 1 else if (op ≠ 1 ∧ 0 < t.size) ∨ (op ≠ 7 ∧ n ≠ 0) then 2 else if op = 1 then 5 else if n < 0 ∨ 8 < n then 1 else 0 := by
  have h1 : (op ≠ 1 ∧ t.toList ≠ []) ↔ (op ≠ 1 ∧ 0 < t.size) := by rw [Ne, Ne, list_size]; constructor <;> (rintro ⟨a, b⟩; exact ⟨a, by omega⟩)
  have h2 : (op = 1 ∧ (t.toList = [] ∨ 20 < t.size ∨ prtAll t = false)) ↔ op = 1 := by simp [hp]
  unfold oneF
  simp only [h1, h2]

theorem prt_odd {t : ByteArray} {k : Nat} (hk : k < t.size) (h : t[k].toNat < 32 ∨ 126 < t[k].toNat) : prtAll t = false := by
  have hk' : k < t.data.toList.length := by simpa using hk
  unfold prtAll
  rw [List.all_eq_false]
  refine ⟨t[k], List.mem_of_getElem (i := k) (h := hk') rfl, ?_⟩
  unfold prt; rcases h with h | h <;> simp <;> omega
theorem prt_more {t : ByteArray} {k : Nat} (ha : (t.data.toList.take k).all prt = true) (hk : k < t.size) (h : 32 ≤ t[k].toNat ∧ t[k].toNat ≤ 126) : (t.data.toList.take (k + 1)).all prt = true := by
  have hk' : k < t.data.toList.length := by simpa using hk
  rw [List.take_succ_eq_append_getElem hk', List.all_append, ha]
  have : prt t[k] = true := by unfold prt; simp; omega
  show (true && (prt t[k] && true)) = true
  rw [this]; rfl
theorem prt_all {t : ByteArray} {k : Nat} (ha : (t.data.toList.take k).all prt = true) (hk : t.size ≤ k) : prtAll t = true := by
  unfold prtAll
  rw [← ha, List.take_of_length_le (by simpa using hk)]

theorem take_good {l : List Nd} {k : Nat} {op n : Int} {t : ByteArray} (h : ∀ d ∈ l.take k, oneF d.op d.text d.n = 0) (hk : k < l.length) (hd : l[k] = Nd.mk op t n) (h0 : oneF op t n = 0) : ∀ d ∈ l.take (k + 1), oneF d.op d.text d.n = 0 := by
  intro d hm
  rw [List.take_succ_eq_append_getElem hk, List.mem_append] at hm
  rcases hm with hm | hm
  · exact h d hm
  · simp only [List.mem_singleton] at hm
    rw [hm, hd]; exact h0

/-- A round's end: a bad node. -/
theorem bad_end {w w' : World} {l : List Nd} {k : Nat} {nd : Int} {wh : Bool} {op n v : Int} {t : ByteArray} (hs : checkF l = if oneF op t n ≠ 0 then oneF op t n else chk (l.drop (k + 1)) (nd + parts op - 1) (wh && decide (0 < nd)))
    (hv : oneF op t n = v) (h0 : v ≠ 0) (hb : Below w.heap.size w w') : Ret w (.int .i64 (checkF l)) (.returned (.int .i64 v)) w' := by
  rw [hs, hv, if_pos h0]; exact ⟨rfl, hb⟩

set_option maxRecDepth 100000 in
set_option maxHeartbeats 40000000 in
theorem docfault_any (l : List Nd) (A : Option Addr) (c : Nat) (w : World) (hl : Nds w w.heap.size A l) :
    Calls Tryd.prog 5 #[.slice A l.length c] w (Ret w (.int .i64 (checkF l))) := by
  have hm := hl.2.1
  unfold maxLen at hm
  by_cases h400 : 400 < l.length
  · have h3 : checkF l = 3 := by simp [checkF, h400]
    rw [h3]
    go_enter Tryd.func5, Tryd.ntmps5
    go_wp2
    go_ret
    exact ⟨rfl, Below.refl _ _⟩
  · have HN := Lib.hid hl; clear hl
    go_enter Tryd.func5, Tryd.ntmps5
    go_wp2
    go_loopw [3, 4, 5] (fun i _ _ wr => ∃ (k : Nat) (nd : Int) (wh : Bool), k ≤ l.length ∧ i = .int .i64 k ∧ checkF l = chk (l.drop k) nd wh ∧ (∀ d ∈ l.take k, oneF d.op d.text d.n = 0) ∧ Below w.heap.size w wr) (fun i _ _ _ => l.length - (intOf i).toNat)
    case atStart => exact ⟨0, 1, true, by omega, rfl, by simp [checkF, h400], by simp, Below.refl _ _⟩
    case round =>
      obtain ⟨k, nd, wh, hk, rfl, hc, hg, hB⟩ := hrel
      have HC := Lib.hid hc; clear hc
      have HG := Lib.hid hg; clear hg
      by_cases hlt : k < l.length
      · obtain ⟨b, off, op, t, n, rfl, hb, hd, hts, d1, d2, d3⟩ := HN.out.node hB hlt
        have hsz := hB.size
        unfold maxLen at hts
        have HS := Lib.hid (HC.out.trans (chk_step (nd := nd) (wh := wh) hlt hd.symm)); clear HC
        have HT := Lib.hid (take_good HG.out hlt hd); clear HG hd
        have HO := Lib.hid (fun hp => oneF_good (op := op) (n := n) (t := t) hp)
        have HQ := Lib.hid (fun hp => oneF_odd (op := op) (n := n) (t := t) hp)
        have HV : ∀ v : Int, v ≠ 5 → (op ≠ 1 ∨ v = 1 ∨ v = 2) → (if op < 1 ∨ 9 < op then 1 else if (op ≠ 1 ∧ 0 < t.size) ∨ (op ≠ 7 ∧ n ≠ 0) then 2 else if op = 1 ∧ (t.size < 1 ∨ 20 < t.size) then 5 else if n < 0 ∨ 8 < n then 1 else 0) = v → oneF op t n = v := by
          intro v h5 hop hv
          cases hp : prtAll t with
          | true => rw [HO.out hp]; exact hv
          | false =>
            rw [HQ.out hp, ← hv]
            revert hv
            repeat' split
            all_goals first | (intros; rfl) | omega
        have HV := Lib.hid HV
        by_cases ha : op < 1
        · go_wp2
          go_ret
          exact bad_end HS.out (HV.out 1 (by decide) (by omega) (by rw [if_pos (by omega)])) (by decide) (by repeat (first | exact Below.refl _ _ | assumption | apply Below.drew | refine below_drewN ?_ _ | apply Below.setCell _ (by first | omega | (simp; done) | (simp; omega)) | apply Below.alloc _ (by first | omega | (simp; done) | (simp; omega))))
        by_cases hb : 9 < op
        · go_wp2
          go_ret
          exact bad_end HS.out (HV.out 1 (by decide) (by omega) (by rw [if_pos (by omega)])) (by decide) (by repeat (first | exact Below.refl _ _ | assumption | apply Below.drew | refine below_drewN ?_ _ | apply Below.setCell _ (by first | omega | (simp; done) | (simp; omega)) | apply Below.alloc _ (by first | omega | (simp; done) | (simp; omega))))
        by_cases h1 : op = 1
        · subst h1
          by_cases h0 : n = 0
          · subst h0
            by_cases hs0 : t.size < 1
            · have h5 : oneF 1 t 0 = 5 := by
                cases hp : prtAll t with
                | true => rw [HO.out hp]; rw [if_neg (by omega), if_neg (by omega), if_pos (by omega)]
                | false => rw [HQ.out hp]; rw [if_neg (by omega), if_neg (by omega), if_pos (by omega)]
              have H5 := Lib.hid h5; clear h5
              go_wp2
              go_ret
              exact bad_end HS.out H5.out (by decide) (by repeat (first | exact Below.refl _ _ | assumption | apply Below.drew | refine below_drewN ?_ _ | apply Below.setCell _ (by first | omega | (simp; done) | (simp; omega)) | apply Below.alloc _ (by first | omega | (simp; done) | (simp; omega))))
            by_cases hs0 : 20 < t.size
            · have h5 : oneF 1 t 0 = 5 := by
                cases hp : prtAll t with
                | true => rw [HO.out hp]; rw [if_neg (by omega), if_neg (by omega), if_pos (by omega)]
                | false => rw [HQ.out hp]; rw [if_neg (by omega), if_neg (by omega), if_pos (by omega)]
              have H5 := Lib.hid h5; clear h5
              go_wp2
              go_ret
              exact bad_end HS.out H5.out (by decide) (by repeat (first | exact Below.refl _ _ | assumption | apply Below.drew | refine below_drewN ?_ _ | apply Below.setCell _ (by first | omega | (simp; done) | (simp; omega)) | apply Below.alloc _ (by first | omega | (simp; done) | (simp; omega))))
            go_wp2
            go_loop [5] (fun j => ∃ m : Nat, m ≤ t.size ∧ j = .int .i64 m ∧ (t.data.toList.take m).all prt = true) (fun j => t.size - (intOf j).toNat)
            case atStart => exact ⟨0, Nat.zero_le _, rfl, rfl⟩
            case round =>
              obtain ⟨m, hm2, rfl, hall⟩ := hrel
              have HA := Lib.hid hall; clear hall
              by_cases hlt2 : m < t.size
              · have HP := Lib.hid (prt_more HA.out hlt2)
                have HB := Lib.hid (prt_odd hlt2)
                go_wp2
                all_goals first
                  | (go_round
                     case rel => exact ⟨m + 1, by omega, by go_num, HP.out (by omega)⟩
                     case measure => simp [intOf]; omega)
                  | (go_ret
                     have hq := HB.out (by omega)
                     exact bad_end HS.out (v := 5) (by rw [HQ.out hq, if_neg (by omega), if_neg (by omega), if_pos (by omega)]) (by decide) (by repeat (first | exact Below.refl _ _ | assumption | apply Below.drew | refine below_drewN ?_ _ | apply Below.setCell _ (by first | omega | (simp; done) | (simp; omega)) | apply Below.alloc _ (by first | omega | (simp; done) | (simp; omega)))))
              · have HP := Lib.hid (prt_all HA.out (by omega))
                have he : oneF 1 t 0 = 0 := by rw [HO.out HP.out]; rw [if_neg (by omega), if_neg (by omega), if_neg (by omega), if_neg (by omega)]
                have HE := Lib.hid he; clear he
                go_wp2
                go_roundw
                case measure => simp [intOf]; omega
                case rel =>
                  exact ⟨k + 1, _, _, by omega, by go_num, by rw [HS.out, if_neg (by rw [HE.out]; decide)], HT.out HE.out, (by repeat (first | exact Below.refl _ _ | assumption | apply Below.drew | refine below_drewN ?_ _ | apply Below.setCell _ (by first | omega | (simp; done) | (simp; omega)) | apply Below.alloc _ (by first | omega | (simp; done) | (simp; omega))))⟩
          · have h0' : (n != 0) = true := by simpa using h0
            go_wp2
            go_ret
            exact bad_end HS.out (HV.out 2 (by decide) (by omega) (by rw [if_neg (by omega), if_pos (by omega)])) (by decide) (by repeat (first | exact Below.refl _ _ | assumption | apply Below.drew | refine below_drewN ?_ _ | apply Below.setCell _ (by first | omega | (simp; done) | (simp; omega)) | apply Below.alloc _ (by first | omega | (simp; done) | (simp; omega))))
        · have h1' : (op != 1) = true := by simpa using h1
          have h1'' : (op == 1) = false := by simpa using h1
          by_cases hs0 : 0 < t.size
          · go_wp2
            go_ret
            exact bad_end HS.out (HV.out 2 (by decide) (by omega) (by rw [if_neg (by omega), if_pos (by omega)])) (by decide) (by repeat (first | exact Below.refl _ _ | assumption | apply Below.drew | refine below_drewN ?_ _ | apply Below.setCell _ (by first | omega | (simp; done) | (simp; omega)) | apply Below.alloc _ (by first | omega | (simp; done) | (simp; omega))))
          by_cases h7 : op = 7
          · subst h7
            by_cases hn : n < 0
            · go_wp2
              go_ret
              exact bad_end HS.out (HV.out 1 (by decide) (by omega) (by rw [if_neg (by omega), if_neg (by omega), if_neg (by omega), if_pos (by omega)])) (by decide) (by repeat (first | exact Below.refl _ _ | assumption | apply Below.drew | refine below_drewN ?_ _ | apply Below.setCell _ (by first | omega | (simp; done) | (simp; omega)) | apply Below.alloc _ (by first | omega | (simp; done) | (simp; omega))))
            by_cases hn : 8 < n
            · go_wp2
              go_ret
              exact bad_end HS.out (HV.out 1 (by decide) (by omega) (by rw [if_neg (by omega), if_neg (by omega), if_neg (by omega), if_pos (by omega)])) (by decide) (by repeat (first | exact Below.refl _ _ | assumption | apply Below.drew | refine below_drewN ?_ _ | apply Below.setCell _ (by first | omega | (simp; done) | (simp; omega)) | apply Below.alloc _ (by first | omega | (simp; done) | (simp; omega))))
            have he := HV.out 0 (by decide) (by omega) (by rw [if_neg (by omega), if_neg (by omega), if_neg (by omega), if_neg (by omega)])
            have HE := Lib.hid he; clear he
            go_wp2
            go_roundw
            case measure => simp [intOf]; omega
            case rel =>
              exact ⟨k + 1, _, _, by omega, by go_num, by rw [HS.out, if_neg (by rw [HE.out]; decide)], HT.out HE.out, (by repeat (first | exact Below.refl _ _ | assumption | apply Below.drew | refine below_drewN ?_ _ | apply Below.setCell _ (by first | omega | (simp; done) | (simp; omega)) | apply Below.alloc _ (by first | omega | (simp; done) | (simp; omega))))⟩
          · have h7' : (op != 7) = true := by simpa using h7
            by_cases h0 : n = 0
            · subst h0
              have he := HV.out 0 (by decide) (by omega) (by rw [if_neg (by omega), if_neg (by omega), if_neg (by omega), if_neg (by omega)])
              have HE := Lib.hid he; clear he
              go_wp2
              go_roundw
              case measure => simp [intOf]; omega
              case rel =>
                exact ⟨k + 1, _, _, by omega, by go_num, by rw [HS.out, if_neg (by rw [HE.out]; decide)], HT.out HE.out, (by repeat (first | exact Below.refl _ _ | assumption | apply Below.drew | refine below_drewN ?_ _ | apply Below.setCell _ (by first | omega | (simp; done) | (simp; omega)) | apply Below.alloc _ (by first | omega | (simp; done) | (simp; omega))))⟩
            · have h0' : (n != 0) = true := by simpa using h0
              go_wp2
              go_ret
              exact bad_end HS.out (HV.out 2 (by decide) (by omega) (by rw [if_neg (by omega), if_pos (by omega)])) (by decide) (by repeat (first | exact Below.refl _ _ | assumption | apply Below.drew | refine below_drewN ?_ _ | apply Below.setCell _ (by first | omega | (simp; done) | (simp; omega)) | apply Below.alloc _ (by first | omega | (simp; done) | (simp; omega))))
      · have hk' : k = l.length := by omega
        subst hk'
        have hce := check_end (l := l) (by omega) (by have := HG.out; rwa [List.take_length] at this)
        have hcall := fun w' hw => endof_V l A c w' hw (i := 0) (v := 0) rfl (by omega)
        have HW := Lib.hid (HN.out.past hB)
        generalize endV l 0 = ev at hce hcall
        have HCL := Lib.hid hcall; clear hcall
        by_cases hel : ev = l.length
        · subst hel
          have h2 : l = [] → checkF l = 2 := fun h => by rw [hce, if_pos (.inr (by rw [h]; rfl))]
          have h0 : ¬ l = [] → checkF l = 0 := fun h => by rw [hce, if_neg (by rintro (h1 | h1); exact h1 rfl; exact h (List.length_eq_zero_iff.1 h1))]
          have H2 := Lib.hid h2; clear h2
          have H0 := Lib.hid h0; clear h0 hce
          go_wp2_with (go_at_call 17; refine (HCL.out _ (by repeat (first | with_reducible exact HW.out | with_reducible apply Nds.drew))).mono ?_; rintro e w1 ⟨rfl, rfl⟩)
          all_goals go_ret
          · exact ⟨by rw [H2.out (by first | assumption | simp_all)]; rfl, (by repeat (first | exact Below.refl _ _ | assumption | apply Below.drew | refine below_drewN ?_ _ | apply Below.setCell _ (by first | omega | (simp; done) | (simp; omega)) | apply Below.alloc _ (by first | omega | (simp; done) | (simp; omega))))⟩
          · exact ⟨by rw [H0.out (by first | assumption | simp_all)]; rfl, (by repeat (first | exact Below.refl _ _ | assumption | apply Below.drew | refine below_drewN ?_ _ | apply Below.setCell _ (by first | omega | (simp; done) | (simp; omega)) | apply Below.alloc _ (by first | omega | (simp; done) | (simp; omega))))⟩
        · rw [if_pos (.inl hel)] at hce
          have HK := Lib.hid hce; clear hce
          have hne : (ev != (l.length : Int)) = true := by simpa using hel
          go_wp2_with (go_at_call 17; refine (HCL.out _ (by repeat (first | with_reducible exact HW.out | with_reducible apply Nds.drew))).mono ?_; rintro e w1 ⟨rfl, rfl⟩)
          go_ret
          exact ⟨by rw [HK.out]; rfl, (by repeat (first | exact Below.refl _ _ | assumption | apply Below.drew | refine below_drewN ?_ _ | apply Below.setCell _ (by first | omega | (simp; done) | (simp; omega)) | apply Below.alloc _ (by first | omega | (simp; done) | (simp; omega))))⟩
end Go.Proofs.YtddfdmopaeghnacDoor
