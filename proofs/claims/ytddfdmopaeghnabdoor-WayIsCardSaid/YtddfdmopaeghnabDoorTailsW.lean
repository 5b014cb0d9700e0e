/- Walks of the reference's ahead, tails, AllOf. Conditions: the slice of nodes lies below the call's own blocks and is a doc that may be; the tails lie in blocks that nothing is appended to. -/
import Derived.Test.YtddfdmopaeghnabDoorTailsS
import Derived.Test.YtddfdmopaeghnabDoorRefC
import Derived.Test.YtddfdmopaeghnabDoorShowP
import Derived.Test.YtddfdmopaeghnabDoorPartsP
namespace Go.Proofs.YtddfdmopaeghnabDoor
open Go.RowKit

theorem int_infoQ : (Tryd.prog.info? 3).map (fun i => (i.zero, i.size, i.bytes)) = some (some (.int .i64 0), 1, 8) := by kernel_rfl
theorem ints_infoQ : (Tryd.prog.info? 38).map (fun i => (i.zero, i.size, i.bytes)) = some (some (.slice none 0 0), 1, 24) := by kernel_rfl

/-- What a call of ahead leaves. -/
def AheadTo (base : Nat) (ov : Value) (res : List (List Int)) (w : World) (e : Ending) (w' : World) : Prop :=
  ∃ ov', e = .returned ov' ∧ OutQ w' base ov' res ∧ Below base w w' ∧ w.heap.size ≤ w'.heap.size ∧ ∀ b, b < w.heap.size → ov.ownBlock ≠ some b → w'.heap[b]? = w.heap[b]?

theorem below_stay {B : Nat} {w w' : World} {v : Value} {base : Nat} {e : TypeId} {size n : Nat} {xs : List Value} (hown : w.ownsRow base e size v n xs) (hg : w.grownBy w' v.ownBlock) (hb : B ≤ base) (hw : base ≤ w.heap.size) : Below B w w' :=
  below_app (Below.refl _ _) hown hg (Nat.le_trans hb hw) hb

set_option maxRecDepth 100000 in
set_option maxHeartbeats 4000000 in
theorem aheadref_any (base : Nat) (c : Int) (l : List (List Int)) (R : Nat → Prop) (A : Option Addr) (n cl : Nat) (hn : l.length = n) (ov : Value) (done : List (List Int)) (w : World) (hR : RowsQ R w A l) (hRb : ∀ b, R b → ov.ownBlock ≠ some b) (ho : OutQ w base ov done) (hbase : base ≤ w.heap.size)
    (hlen : done.length + l.length ≤ 1000) (hrow : ∀ u ∈ l, u.length ≤ 1000000) :
    Calls Tryd.prog 89 #[ov, .int .i64 c, .slice A n cl] w (AheadTo base ov (done ++ l.map (c :: ·)) w) := by
  subst hn
  obtain ⟨iI, hiI, hzI, hzI1, hzI2⟩ := info_parts int_infoQ
  obtain ⟨iS, hiS, hzS, hzS1, hzS2⟩ := info_parts ints_infoQ
  have HR := Lib.hid hR.bound
  have HRB := Lib.hid hRb; have HO := Lib.hid ho; have HRW := Lib.hid hrow
  clear hR hRb ho hrow
  go_enter Tryd.func89, Tryd.ntmps89
  go_wp2_with fail
  go_loopw [0, 7] (fun o k wr => ∃ (m : Nat) (ovk : Value), m ≤ l.length ∧ k = .int .i64 m ∧ o = ovk ∧ OutQ wr base ovk (done ++ (l.take m).map (c :: ·)) ∧ Below base w wr ∧ w.heap.size ≤ wr.heap.size ∧ (∀ b, b < w.heap.size → ov.ownBlock ≠ some b → wr.heap[b]? = w.heap[b]?) ∧ (∀ g, ovk.ownBlock = some g → ov.ownBlock = some g ∨ w.heap.size ≤ g)) (fun _ k _ => l.length - (intOf k).toNat)
  case atStart => exact ⟨0, ov, by omega, rfl, rfl, by simpa using HO.out, Below.refl _ _, Nat.le_refl _, fun _ _ _ => rfl, fun g h => .inl h⟩
  case round =>
    rename_i wr
    obtain ⟨m, ovk, hm, rfl, rfl, hok, hbk, hsk, hkk, hgk⟩ := hrel
    have HOK := Lib.hid hok; have HBK := Lib.hid hbk; have HKK := Lib.hid hkk; have HGK := Lib.hid hgk
    clear hok hbk hkk hgk
    by_cases hlt : m < l.length
    · have hRr : RowsQ _ wr A l := HR.out.keep (fun b hb => HKK.out b hb.2 (HRB.out b hb.1))
      obtain ⟨b, off, Aj, cj, rfl, hcell, hcj, hrj⟩ := hRr.one hlt
      have hzu := HRW.out _ (List.getElem_mem hlt)
      have hbw : b < wr.heap.size := cell_block hcell
      have hcell2 : (wr.alloc (.cells #[.int .i64 c] 3)).cell? ⟨b, off + m, none⟩ = some (.slice Aj l[m].length cj) := (((Below.refl wr.heap.size wr).alloc (Nat.le_refl _) _).cell (p := ⟨b, off + m, none⟩) hbw).trans hcell
      have hsj := hrj.sl
      rw [List.length_map] at hsj
      have HSJ := Lib.hid hsj
      have HTK : Hid (done ++ (l.take (m + 1)).map (c :: ·) = (done ++ (l.take m).map (c :: ·)) ++ [c :: l[m]]) := Lib.hid (by rw [List.take_succ_eq_append_getElem hlt, List.map_append, List.append_assoc]; rfl)
      have hDl : (done ++ (l.take m).map (c :: ·)).length = done.length + m := by rw [List.length_append, List.length_map, List.length_take]; omega
      generalize l[m] = u at *
      generalize done ++ (l.take m).map (c :: ·) = D at *
      clear hRr hrj hsj
      obtain ⟨vs, g1, g2, g3⟩ := HOK.out
      have G1 := Lib.hid g1; have G3 := Lib.hid g3
      clear g1 g3
      have hOL : (wr.alloc (.cells #[.int .i64 c] 3)).ownsRow wr.heap.size 3 1 (.slice (some ⟨wr.heap.size, 0, none⟩) 1 1) 1 [.int .i64 c] := World.ownsRow_lit (base := wr.heap.size) (e := 3) (size := 1) wr #[.int .i64 c] 1 (Nat.le_refl _) (by simp [maxLen]) rfl
      have HOL := Lib.hid hOL
      have hbs : base ≤ wr.heap.size := by omega
      clear hOL
      go_wp2_with (first
        | (at_builtin; (fail_if_success have hz := HX2); refine wpList_app _ rfl (.tmp 17) (.tmp 21) _ rfl wr.heap.size 3 iI (.int .i64 0) 1 8 Tryd.underlying38 hiI hzI hzI1 hzI2 rfl (by decide) _ 1 _ rfl HOL.out _ _ u.length _ _ rfl (HSJ.out.alloc _) (int_one u) (by simp only [maxLen]; omega) (by omega) (by simp) ?_; intro v2 w2 hown2 hg2 hat2; clear hat2; have hB2 : Below wr.heap.size wr w2 := (below_app ((Below.refl _ _).alloc (Nat.le_refl _) _) HOL.out hg2 (by simp) (Nat.le_refl _)); obtain ⟨A2, c2, hv2⟩ := own_sliceQ hown2; subst hv2; have HX2 : Hid (w2.ownsRow base 3 1 (.slice A2 (1 + u.length) c2) (c :: u).length ((c :: u).map (.int .i64))) := Lib.hid (by have := own_more hown2 hbs; rw [List.length_cons, Nat.add_comm u.length 1]; exact this); clear hown2 hg2)
        | (at_builtin; refine wpList_app _ rfl (.tmp 23) (.tmp 25) _ rfl base 38 iS (.slice none 0 0) 1 24 Tryd.underlying63 hiS hzS hzS1 hzS2 rfl (by decide) _ D.length _ rfl (World.ownsRow.alloc (own_below G1.out hB2) _) _ _ 1 1 [.slice A2 (1 + u.length) c2] rfl (Sl.lit (sz := 1) _ #[.slice A2 (1 + u.length) c2] 38 1 rfl) (by simp [Value.oneCell']) (by simp only [maxLen]; omega) (by omega) (by have := hB2.size; simp; omega) ?_; intro v3 w3 hown3 hg3 hat3; have HO3 : Hid (OutQ w3 base v3 (D ++ [c :: u])) := Lib.hid (OutQ.app (World.ownsRow.alloc (own_below G1.out hB2) _) g2 (fun j v z hv hz => World.ownsRow.alloc (own_below (G3.out j v z hv hz) hB2) _) (World.ownsRow.alloc HX2.out _) hown3 hg3); have HB3 : Hid (Below base wr w3) := Lib.hid (((hB2.mono hbs).alloc (by have := hB2.size; omega) _).trans (below_stay (World.ownsRow.alloc (own_below G1.out hB2) _) hg3 (Nat.le_refl _) (by have := hB2.size; simp; omega))); have HG3 := Lib.hid hg3; have HA3 := Lib.hid hat3; have hs3 := hg3.size; clear hown3 hg3 hat3))
      go_roundw
      case measure => simp [intOf]; omega
      case rel =>
        refine ⟨m + 1, _, by omega, by go_num, rfl, by rw [HTK.out]; exact HO3.out, HBK.out.trans HB3.out, by have := hB2.size; have := HG3.out.size; simp at this; omega, fun b' hb' hne => ?_, fun g hg => ?_⟩
        · have hn2 : u0.ownBlock ≠ some b' := fun e => by
            rcases HGK.out b' e with h | h
            · exact hne h
            · omega
          have e1 := HG3.out.block b' (by have := hB2.size; simp; omega) (by intro e; exact hn2 e.symm)
          rw [e1, Below.heap_alloc _ _ _ (by have := hB2.size; omega), hB2.block b' (by omega)]
          exact HKK.out b' hb' hne
        · rcases HA3.out with h | h
          · exact HGK.out g (h ▸ hg)
          · rw [h] at hg
            cases hg
            right
            have := hB2.size
            simp
            omega
    · have : (l.take m) = l := List.take_of_length_le (by omega)
      rw [this] at HOK
      go_wp2
      go_ret
      exact ⟨_, rfl, HOK.out, HBK.out, hsk, HKK.out⟩
end Go.Proofs.YtddfdmopaeghnabDoor
