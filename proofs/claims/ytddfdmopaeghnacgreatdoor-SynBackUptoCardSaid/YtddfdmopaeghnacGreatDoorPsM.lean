/- Walk of syn's parser: note. Conditions: as in the texts ahead; a word has 60000 bytes at most. -/
import Derived.Test.YtddfdmopaeghnacGreatDoorPsQ
import Derived.Test.YtddfdmopaeghnacGreatDoorPsN
import Derived.Test.YtddfdmopaeghnacGreatDoorLexU
namespace Go.Proofs.YtddfdmopaeghnacGreatDoor
open Go.RowKit

theorem pblank (x : Nat) (W : World) : Calls Tryz.prog 164 #[.int .i32 (x : Int)] W fun e w' => e = .returned (.bool (blankR x)) ∧ ∃ q, w' = W.drewN q := by
  by_cases h : x = 32
  · subst h
    go_enter Tryz.func164, Tryz.ntmps164
    go_wp2
    go_ret
    exact ⟨rfl, 0, rfl⟩
  · have hb : blankR x = false := by simpa [blankR] using h
    rw [hb]
    have h2 : ((x : Int) == 32) = false := by simp; omega
    clear hb
    go_enter Tryz.func164, Tryz.ntmps164
    go_wp2
    go_ret
    exact ⟨by first | rfl | (simp; done) | (simp; omega), 0, rfl⟩
theorem pfields (s : ByteArray) (w : World) (hs : s.size ≤ 60000) : Calls Tryz.prog 162 #[.string (s.extract 1 s.size), .func (.func 164) #[] #[]] w fun e w' => ∃ A c, e = .returned (.slice A (fldW s).length c) ∧ Sl w' w'.heap.size 1 A (fldW s).length ((fldW s).map .string) ∧ Below w.heap.size w w' :=
  (Tryz.strings_FieldsFunc 164 #[] (enters_of Tryz.func164 (by kernel_rfl) rfl) blankR (s.extract 1 s.size) w (by simp; omega) (fun W x _ => pblank x W)).mono (by
    rintro e w' ⟨A, rfl, -, ho, hB⟩
    exact ⟨_, _, rfl, .of_own ho, hB⟩)
theorem own_cap {w : World} {base : Nat} {e : TypeId} {size n c : Nat} {A : Option Addr} {xs : List Value} (h : w.ownsRow base e size (.slice A n c) n xs) : n ≤ c := by
  rcases h.2 with ⟨h1, h2⟩ | ⟨g, cap, cur, h1, h2⟩
  · omega
  · cases h1
    omega
theorem pjoin (out : List ByteArray) (A : Option Addr) (c B : Nat) (w : World) (h : w.ownsRow B 9 1 (.slice A out.length c) out.length (out.map .string)) (hc : costL out ≤ 3600000000) : Calls Tryz.prog 151 #[.slice A out.length c, .string ⟨#[32]⟩] w (Ret w (.string (joinW out))) := by
  cases out with
  | nil => exact (Tryz.strings_Join_none A c _ w).mono (by rintro e w' ⟨rfl, rfl⟩; exact ⟨rfl, Below.refl _ _⟩)
  | cons x r =>
    have h1 := Sl.of_own h
    obtain ⟨b, off, rfl, hb, hcell⟩ := h1.2 (by simp)
    have hl := costL_len (x :: r)
    have hj := join_cost (x :: r)
    refine (Tryz.strings_Join b off c (x :: r) ⟨#[32]⟩ w (fun j y hy => ?_) hb (by omega) (own_cap h) ?_).mono (by rintro e w' ⟨rfl, hB⟩; exact ⟨rfl, hB⟩)
    · exact hcell j (.string y) (by rw [List.getElem?_map, hy]; rfl)
    · exact Nat.le_trans hj (by omega)
def psNext (w : World) (g : Nat) : Nat := match w.cell? ⟨g, 2, none⟩ with
  | some (.int _ v) => v.toNat
  | _ => 0
theorem psNext_at {g cw cp k : Nat} {W P : Option Addr} {ws : List ByteArray} {ps : List Nat} {w : World} (h : PsSt g W cw ws P cp ps k w) : psNext w g = k := by
  rw [psNext, h.cells.2.2.1]; simp

set_option maxRecDepth 100000 in
set_option maxHeartbeats 8000000 in
theorem pnote_any {g cw cp k : Nat} {W P : Option Addr} {ws : List ByteArray} {ps : List Nat} (hsz : ∀ j, (wdAt ws j).size ≤ 60000) (w : World) (hs : PsSt g W cw ws P cp ps k w) (hk : k ≤ ws.length) :
    Calls Tryz.prog 114 #[.pointer (some ⟨g, 0, none⟩)] w (PsTo g W cw ws P cp ps (.ok (noteP ws k)) w) := by
  obtain ⟨i0, hi0, hz0, hz1, hz2⟩ := info_parts str_info
  obtain ⟨N, hN⟩ : ∃ N, N = noteP ws k := ⟨_, rfl⟩
  rw [← hN]
  unfold noteP at hN
  have hf := hs.few
  have hgl := hs.lt
  have HS := Lib.hid hs
  have HSZ := Lib.hid hsz
  have HPK := Lib.hid (fun k' w' (h : PsSt g W cw ws P cp ps k' w') hk => peek_any w' h hk)
  have HTK := Lib.hid (fun k' w' (h : PsSt g W cw ws P cp ps k' w') hk => take_any w' h hk)
  obtain ⟨Q, hQ⟩ : ∃ Q, Q = notesP ws ws.length [] k := ⟨_, rfl⟩
  rw [← hQ] at hN
  have HN := Lib.hid hN
  have HQ := Lib.hid hQ
  clear hs hsz hN hQ
  go_enter Tryz.func114, Tryz.ntmps114
  go_wp2
  go_loopw [3] (fun v wr => ∃ (out : List ByteArray) (k2 j : Nat) (A2 : Option Addr) (c2 : Nat), v = .slice A2 out.length c2 ∧ k ≤ k2 ∧ k2 ≤ ws.length ∧ ws.length ≤ k2 + j ∧ out.length ≤ 3600000000 ∧ w.heap.size ≤ wr.heap.size ∧ Hid (costL out ≤ 60000 * (k2 - k)) ∧ Hid (wr.ownsRow w.heap.size 9 1 (.slice A2 out.length c2) out.length (out.map .string)) ∧ Hid (PsSt g W cw ws P cp ps k2 wr) ∧ Hid (w.grownBy wr (some g)) ∧ Hid (Q = notesP ws j out k2)) (fun _ wr => 60001 - psNext wr g)
  case atStart => exact ⟨[], k, ws.length, none, 0, rfl, Nat.le_refl _, hk, by omega, by simp, Nat.le_refl _, Lib.hid (by simp [costL]), Lib.hid (World.ownsRow_nil _ _ _ _), HS, Lib.hid (World.grownBy.refl _ _), HQ⟩
  case round =>
    obtain ⟨out, k2, j, A2, c2, rfl, hk2, hl2, hj, hol, hsz, HC, HO, HM, HG, HR⟩ := hrel
    have HM0 := HM
    have HP := Lib.hid (HPK.out k2 wr HM.out hl2)
    have HHP := Lib.hid (fun (W' : World) => Tryz.strings_HasPrefix (wdAt ws k2) ⟨#[35]⟩ W')
    cases hh : hashW (wdAt ws k2) with
    | false =>
      have hres : Q = (out, k2) := by
        rw [HR.out]
        cases j with
        | zero => rfl
        | succ j => rw [notesP, if_neg (by rw [hh]; decide)]
      have HRES : Hid (N = ([⟨9, joinW out, 0⟩], k2)) := Lib.hid (by rw [HN.out, hres])
      have HHP' : Hid (∀ W', Calls Tryz.prog 112 #[.string (wdAt ws k2), .string ⟨#[35]⟩] W' fun e w' => e = .returned (.bool false) ∧ w' = W') := Lib.hid (fun W' => by have h := HHP.out W'; rw [← hh]; exact h)
      have HCS : Hid (costL out ≤ 3600000000) := Lib.hid (Nat.le_trans HC.out (by omega))
      have HJS := Lib.hid (joinW_size out)
      generalize wdAt ws k2 = S at *
      clear hh hres HHP
      go_wp2_with (first
        | (go_at_call 113; refine HP.out.mono ?_; rintro e w3 ⟨rfl, hB⟩; have HM := Lib.hid (HM.out.past hB); have HG := Lib.hid (grown_below HG.out hB); have HO := Lib.hid (own_below HO.out hB); clear hB)
        | (go_at_call 112; refine (HHP'.out _).mono ?_; rintro e w4 ⟨rfl, rfl⟩)
        | (go_at_call 151; refine (pjoin out A2 c2 _ _ HO.out HCS.out).mono ?_; rintro e w5 ⟨rfl, hB⟩; have HM := Lib.hid (HM.out.past hB); have HG := Lib.hid (grown_below HG.out hB); clear hB))
      go_ret
      rw [HRES.out]
      exact ⟨_, _, rfl, (NdF.lit_ _ ⟨9, joinW out, 0⟩ 25 (Nat.le_trans HJS.out (Nat.le_trans HCS.out (by simp only [maxLen]; omega)))).less HG.out.size, HM.out.past ((Below.refl _ _).alloc (Nat.le_refl _) _), grown_below HG.out ((Below.refl _ _).alloc (Nat.le_refl _) _)⟩
    | true =>
      have hlt := hashW_lt hh
      obtain ⟨j, rfl⟩ : ∃ j', j = j' + 1 := ⟨j - 1, by omega⟩
      have hres : Q = notesP ws j (out ++ fldW (wdAt ws k2)) (k2 + 1) := by rw [HR.out, notesP, if_pos hh]
      have HRES := Lib.hid hres
      have HHP' : Hid (∀ W', Calls Tryz.prog 112 #[.string (wdAt ws k2), .string ⟨#[35]⟩] W' fun e w' => e = .returned (.bool true) ∧ w' = W') := Lib.hid (fun W' => by have h := HHP.out W'; rw [← hh]; exact h)
      have HT := Lib.hid (fun w' h => HTK.out k2 w' h hl2)
      have hss := HSZ.out k2
      have hfc := fld_cost hh
      have hs0 : 0 < (wdAt ws k2).size := by
        rcases Nat.eq_zero_or_pos (wdAt ws k2).size with h1 | h1
        · have : (wdAt ws k2).data.toList = [] := List.eq_nil_of_length_eq_zero (by simpa using h1)
          simp [hashW, Lib.hasPrefix, this] at hh
        · exact h1
      have hcost : costL (out ++ fldW (wdAt ws k2)) ≤ 60000 * (k2 + 1 - k) := by
        rw [costL_app]
        have := HC.out
        have e : k2 + 1 - k = (k2 - k) + 1 := by omega
        rw [e, Nat.mul_add]
        omega
      have HCO := Lib.hid hcost
      have hfl : (fldW (wdAt ws k2)).length ≤ 60000 := Nat.le_trans (costL_len _) (by omega)
      have HFF := Lib.hid (fun w' => pfields (wdAt ws k2) w' hss)
      have hlen2 : out.length + (fldW (wdAt ws k2)).length ≤ 3600000000 := by
        have := costL_len (out ++ fldW (wdAt ws k2))
        rw [List.length_append] at this
        have : k2 + 1 - k ≤ 60000 := by omega
        have := Nat.mul_le_mul_left 60000 this
        omega
      have hsl : ∀ W', (Instr.slice 9 (.string (wdAt ws k2)) (some (.int .i64 1)) none none).run Tryz.prog W' = .ok (.string ((wdAt ws k2).extract 1 (wdAt ws k2).size)) W' := fun W' => by
        rw [run_slice_string_from_if (P := Tryz.prog) W' 9 (wdAt ws k2) .i64 1 Tryz.underlying9, if_pos ⟨by omega, by omega⟩]
        rfl
      generalize fldW (wdAt ws k2) = F at *
      generalize wdAt ws k2 = S at *
      clear hh hres HHP hfc hss hcost
      go_wp2_with (first
        | (go_at_call 113; refine HP.out.mono ?_; rintro e w3 ⟨rfl, hB⟩; have HM := Lib.hid (HM.out.past hB); have HG := Lib.hid (grown_below HG.out hB); have HO := Lib.hid (own_below HO.out hB); have hsz := Nat.le_trans hsz hB.size; clear hB)
        | (go_at_call 112; refine (HHP'.out _).mono ?_; rintro e w4 ⟨rfl, rfl⟩)
        | (go_at_call 163; refine (HT.out _ HM.out).mono ?_; rintro e w5 ⟨rfl, hs5, hG5⟩; have HM := Lib.hid hs5; have HG := Lib.hid (grown_trans HG.out hG5); have HO := Lib.hid (own_past HO.out hG5 hgl); have hsz := Nat.le_trans hsz hG5.size; clear hs5 hG5)
        | (go_at_call 162; refine (HFF.out _).mono ?_; rintro e w6 ⟨A6, c6, rfl, hx, hB⟩; have HX := Lib.hid hx; have HM := Lib.hid (HM.out.past hB); have HG := Lib.hid (grown_below HG.out hB); have HO := Lib.hid (own_below HO.out hB); have hsz := Nat.le_trans hsz hB.size; clear hB hx)
        | (at_builtin; refine wpList_app _ rfl (.tmp 7) (.tmp 11) _ rfl w.heap.size 9 i0 _ 1 16 Tryz.underlying60 hi0 hz0 hz1 hz2 rfl (by omega) _ out.length _ rfl HO.out _ A6 F.length c6 _ rfl HX.out (fun u hu => by obtain ⟨z, -, rfl⟩ := List.mem_map.1 hu; rfl) (by simp only [maxLen]; omega) (by omega) (by omega) ?_; intro v9 w9 hown9 hg9 hat9; clear hat9; have hB9 : Below w.heap.size w6 w9 := below_app (Below.refl _ _) HO.out hg9 (by omega) (Nat.le_refl _); obtain ⟨A9, c9, hv9⟩ := own_slice hown9; subst hv9; have HM := Lib.hid (HM.out.under hB9 hgl); have HG := Lib.hid (grown_under HG.out hB9 (Nat.le_refl _)); have H9 := Lib.hid hown9; have hsz := Nat.le_trans hsz hB9.size; clear hown9 hg9 hB9))
      have hlen1 : (out ++ F).length = out.length + F.length := by simp
      go_roundw
      case measure => rw [psNext_at HM.out]; simp only [psNext_at HM0.out]; omega
      case rel => exact ⟨out ++ F, k2 + 1, j, A9, c9, by rw [hlen1], by omega, by omega, by omega, by omega, hsz, HCO, Lib.hid (by rw [hlen1, List.map_append]; exact H9.out), HM, HG, HRES⟩
end Go.Proofs.YtddfdmopaeghnacGreatDoor
