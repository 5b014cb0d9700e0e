/- Walk of doc.Ends: of a doc that may be, where the doc at each node ends. Condition: the slice of nodes lies below the call's own blocks and is a doc that may be. -/
import Derived.Test.YtddfdmopaeghnaaGreatDoorDocW
namespace Go.Proofs.YtddfdmopaeghnaaGreatDoor
open Go.RowKit

def endsL (l : List Nd) : List Value := (List.range l.length).map fun i => .int .i64 (endAt l i : Nat)

/-- Behind so many parts. -/
def nextEnd (l : List Nd) (i : Nat) : Nat → Nat
  | 0 => i + 1
  | j + 1 => endAt l (nextEnd l i j)

theorem Doc.nextEnd_ {l : List Nd} {x : D} (h : Doc l x) {i : Nat} (hi : i < l.length) : ∃ p : Nat, parts l[i].op = p ∧ nextEnd l i p = endAt l i ∧ ∀ j, j < p → i < nextEnd l i j ∧ nextEnd l i j < l.length := by
  rcases h.parts_ hi with ⟨h1, h2⟩ | ⟨h1, h2, h3⟩ | ⟨h1, h2, h3, h4⟩
  · refine ⟨0, h1, ?_, fun j hj => absurd hj (by omega)⟩
    simp [nextEnd, endAt, h2, D.sz]
  · refine ⟨1, h1, ?_, fun j hj => ?_⟩
    · simp [nextEnd, endAt, h3, D.sz]; omega
    · obtain rfl : j = 0 := by omega
      simp only [nextEnd]; omega
  · refine ⟨2, h1, ?_, fun j hj => ?_⟩
    · simp [nextEnd, endAt, h4, D.sz]; omega
    · have hj' : j = 0 ∨ j = 1 := by omega
      rcases hj' with rfl | rfl
      · simp only [nextEnd]; omega
      · simp only [nextEnd, endAt]; omega

theorem int_info : (Tryz.prog.info? 3).map (fun i => (i.zero, i.size, i.bytes)) = some (some (.int .i64 0), 1, 8) := by kernel_rfl

set_option maxHeartbeats 1000000 in
theorem ends_any (l : List Nd) (x : D) (A : Option Addr) (c : Nat) (w : World) (hl : Nds w w.heap.size A l) (hd : Doc l x) :
    Calls Tryz.prog 84 #[.slice A l.length c] w fun e w' => ∃ g : Nat, e = .returned (.slice (some ⟨g, 0, none⟩) l.length l.length) ∧
      w'.ownsRow w.heap.size 3 1 (.slice (some ⟨g, 0, none⟩) l.length l.length) l.length (endsL l) ∧ Below w.heap.size w w' := by
  have h400 := hd.len
  obtain ⟨i0, hi0, hz0, hz1, hz2⟩ := info_parts int_info
  have HN := Lib.hid hl; clear hl
  have HD := Lib.hid hd; clear hd
  go_enter Tryz.func84, Tryz.ntmps84
  go_wp2_with (at_make; refine wpList_make_full _ rfl (.tmp 7) (.tmp 7) 28 rfl w.heap.size 3 i0 (.int .i64 0) 1 Tryz.underlying28 hi0 hz0 hz1 .i64 .i64 _ _ l.length rfl rfl rfl rfl (by rw [hz2]; omega) (by simp only [maxLen]; omega) (Nat.le_refl _) ?_; intro w1 hown hg)
  have hB1 : Below w.heap.size w w1 := (Below.refl _ _).grown hg (Nat.le_refl _) (by simp)
  clear hi0 hz0 hz1 hz2 hg
  obtain ⟨g, hge⟩ : ∃ g, g = w.heap.size := ⟨_, rfl⟩
  rw [← hge] at hown ⊢
  have HG := Lib.hid hge; clear hge
  go_loopw [4, 5, 24] (fun i _ _ wr => ∃ (m : Nat) (xs : List Value), m ≤ l.length ∧ i = .int .i64 ((m : Int) - 1) ∧ wr.ownsRow g 3 1 (.slice (some ⟨g, 0, none⟩) l.length l.length) l.length xs ∧
      (∀ j, m ≤ j → j < l.length → xs[j]? = some (.int .i64 (endAt l j : Nat))) ∧ Below g w wr ∧ g < wr.heap.size) (fun i _ _ _ => (intOf i + 1).toNat)
  case atStart =>
    refine ⟨l.length, _, Nat.le_refl _, rfl, hown, fun j h1 h2 => absurd h1 (by omega), HG.out ▸ hB1, ?_⟩
    have := hown.lt g rfl; omega
  case round =>
    obtain ⟨m, xs, hm, rfl, hown, hxs, hB, hgs⟩ := hrel
    have HX := Lib.hid hxs; clear hxs
    have HO := Lib.hid hown; clear hown
    cases m with
    | zero =>
      go_wp2
      go_ret
      refine ⟨g, rfl, ?_, HG.out ▸ hB⟩
      have he : xs = endsL l := by
        apply List.ext_getElem?
        intro j
        by_cases hj : j < l.length
        · rw [HX.out j (Nat.zero_le _) hj]; simp [endsL, hj]
        · rw [List.getElem?_eq_none (by have := HO.out.1; omega), List.getElem?_eq_none (by simp [endsL]; omega)]
      rw [← HG.out, ← he]
      exact HO.out
    | succ i =>
      have hi : i < l.length := by omega
      obtain ⟨b, off, op, t, n, rfl, hb, hnd, hts, d1, d2, d3⟩ := HN.out.node (HG.out ▸ hB) hi
      clear d2 d3
      obtain ⟨p, hp, hpe, hpl⟩ := HD.out.nextEnd_ hi
      rw [hnd] at hp
      have HP := Lib.hid hp; have HPE := Lib.hid hpe; have HPL := Lib.hid hpl; clear hp hpe hpl hnd
      have hp2 : p ≤ 2 := by have := parts_bd op; have := HP.out; dsimp only at this; omega
      rw [show (((i + 1 : Nat) : Int) - 1) = (i : Int) from by omega]
      go_wp2_with (go_at_call 83; refine (parts_any _ _).mono ?_; rintro e w2 ⟨rfl, rfl⟩)
      rw [show parts op = (p : Int) from HP.out]
      go_loop [5, 24] (fun e c => ∃ j : Nat, j ≤ p ∧ c = .int .i64 j ∧ e = .int .i64 (nextEnd l i j : Nat)) (fun _ c => p - (intOf c).toNat)
      case atStart => exact ⟨0, Nat.zero_le _, rfl, by simp [nextEnd]⟩
      case round =>
        obtain ⟨j, hj, rfl, rfl⟩ := hrel
        by_cases hlt : j < p
        · obtain ⟨n1, n2⟩ := HPL.out j hlt
          obtain ⟨q, hq⟩ : ∃ q, q = nextEnd l i j := ⟨_, rfl⟩
          have hq2 : nextEnd l i (j + 1) = endAt l q := by rw [nextEnd, ← hq]
          rw [← hq] at n1 n2 ⊢
          have HQ := Lib.hid hq2; clear hq hq2
          have hc : wr.cell? ⟨g, q, none⟩ = some (.int .i64 (endAt l q : Nat)) := by
            rw [HO.out.cellAt q (by omega)]; exact HX.out q (by omega) n2
          clear hb
          go_wp2
          go_round
          case rel => exact ⟨j + 1, by omega, by go_num, by rw [HQ.out]⟩
          case measure => simp [intOf]; omega
        · obtain rfl : j = p := by omega
          rw [HPE.out]
          have hold : ∃ u, wr.cell? ⟨g, i, none⟩ = some u := ⟨_, by rw [HO.out.cellAt i (by omega)]; exact List.getElem?_eq_getElem (by have := HO.out.1; omega)⟩
          obtain ⟨u, hu⟩ := hold
          have hf := HO.out.frozenAt i
          have hst := HO.out.stored i (.int .i64 (endAt l i : Nat))
          have HST := Lib.hid hst; clear hst
          go_wp2
          go_roundw
          case rel =>
            refine ⟨i, _, by omega, rfl, HST.out.1, fun j h1 h2 => ?_, hB.setCell (Nat.le_refl _) _, by simp [World.setCell]; omega⟩
            rcases Nat.eq_or_lt_of_le h1 with rfl | h3
            · rw [List.getElem?_set_self (by have := HO.out.1; omega)]
            · rw [List.getElem?_set_ne (by omega)]
              exact HX.out j (by omega) h2
          case measure => simp [intOf]
end Go.Proofs.YtddfdmopaeghnaaGreatDoor
