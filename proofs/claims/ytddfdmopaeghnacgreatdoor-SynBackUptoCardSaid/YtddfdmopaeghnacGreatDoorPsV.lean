/- Walks of syn's parser: chain, mul, sum, many. Conditions: as in the text ahead; what the parts' calls hand back is given. -/
import Derived.Test.YtddfdmopaeghnacGreatDoorPsW
import Derived.Deep.Cut
namespace Go.Proofs.YtddfdmopaeghnacGreatDoor
open Go.RowKit

theorem tree_info : (Tryz.prog.info? 25).map (fun i => (i.zero, i.size, i.bytes)) = some (some (.agg #[.int .i64 0, .string .empty, .int .i64 0]), 3, 32) := by kernel_rfl
theorem NdF.ownT {w : World} {base n : Nat} {A : Option Addr} {c : Nat} {l : List Nd} (h : w.ownsRow base 25 3 (.slice A n c) n (l.flatMap ndCells)) (hn : n = l.length) (hm : l.length ≤ maxLen) (ht : ∀ d ∈ l, d.text.size ≤ maxLen) : NdF base w A l := by
  subst hn
  exact ⟨⟨.of_own h, hm, ht⟩, fun ad e => by subst e; exact (h.lt ad.block rfl).1⟩
theorem own_litP {w : World} {base n g : Nat} {e : TypeId} {size : Nat} (cs : Array Value) (hg : w.heap.size = g) (hb : base ≤ g) (hm : n ≤ maxLen) (hs : cs.size = n * size) :
    (w.alloc (.cells cs e)).ownsRow base e size (.slice (some ⟨g, 0, none⟩) n n) n cs.toList := by
  subst hg
  exact World.ownsRow_lit w cs n hb hm hs
theorem ps_named {P : Program} {c : Code} {Q : Exit → Act → World → Prop} {a : Act} {w : World} (S : World → Prop) (hS : S w) (h : ∀ w', S w' → Code.wp P c Q a w') : Code.wp P c Q a w := h w hS
theorem grown_under {a w w' : World} {g C : Nat} (h : a.grownBy w (some g)) (hb : Below C w w') (hC : a.heap.size ≤ C) : a.grownBy w' (some g) :=
  ⟨hb.os.trans h.os, hb.tape.trans h.tape, hb.output.trans h.output, Nat.le_trans h.size hb.size, fun k hk hn => (hb.block k (Nat.lt_of_lt_of_le hk hC)).trans (h.block k hk hn)⟩
theorem PsSt.under {g cw cp k C : Nat} {W P : Option Addr} {ws : List ByteArray} {ps : List Nat} {w w' : World} (h : PsSt g W cw ws P cp ps k w) (hb : Below C w w') (hC : g < C) : PsSt g W cw ws P cp ps k w' :=
  ⟨(hb.block g hC).trans h.blk, ⟨h.txs.1.below hb (Nat.le_of_lt hC), h.txs.2⟩, h.pls.below hb (Nat.le_of_lt hC), h.len, h.few⟩
theorem own_past {w w' : World} {base g : Nat} {e : TypeId} {size n : Nat} {v : Value} {xs : List Value} (h : w.ownsRow base e size v n xs) (hg : w.grownBy w' (some g)) (hb : g < base) : w'.ownsRow base e size v n xs :=
  h.kept (row := some g) hg (by
    cases hv : v.ownBlock with
    | none => exact .inl rfl
    | some k => exact .inr (fun e => by have := (h.lt k hv).1; simp at e; omega))
def vLen : Value → Nat
  | .slice _ n _ => n
  | _ => 0

/-- What a part of the parser does: nodes and the next word, or the word that cannot stand. -/
def PsTo (g : Nat) (W : Option Addr) (cw : Nat) (ws : List ByteArray) (P : Option Addr) (cp : Nat) (ps : List Nat) (r : PrR) (w : World) (e : Ending) (w' : World) : Prop :=
  match r with
  | .ok (d, k) => ∃ A c, e = .returned (.slice A d.length c) ∧ NdF w.heap.size w' A d ∧ PsSt g W cw ws P cp ps k w' ∧ w.grownBy w' (some g)
  | .error x => PsBad g ps x w e w'

set_option maxRecDepth 100000 in
set_option maxHeartbeats 4000000 in
theorem chain_one {g cw cp : Nat} {W P : Option Addr} {ws : List ByteArray} {ps : List Nat} (part : Nat → PrR) (hgo : Goes ws part) (op : Int) (sg : ByteArray) (h0 : sg.toList ≠ []) (k : Nat)
    (HPART : Hid (∀ (k' : Nat) (w : World), PsSt g W cw ws P cp ps k' w → k ≤ k' → k' ≤ ws.length → Calls Tryz.prog 210 #[.pointer (some ⟨g, 0, none⟩)] w (PsTo g W cw ws P cp ps (part k') w)))
    (w : World) (hs : PsSt g W cw ws P cp ps k w) (hk : k ≤ ws.length) :
    Calls Tryz.prog 190 #[.pointer (some ⟨g, 0, none⟩), .int .i64 op, .string sg, .func (.func 210) #[.pointer (some ⟨g, 0, none⟩)] #[]] w (PsTo g W cw ws P cp ps (chainS ws op sg.toList part k) w) := by
  obtain ⟨R, hR⟩ : ∃ R, R = chainS ws op sg.toList part k := ⟨_, rfl⟩
  rw [← hR]
  unfold chainS at hR
  have H1 := HPART.out k w hs (Nat.le_refl _) hk
  obtain ⟨i0, hi0, hz0, hz1, hz2⟩ := info_parts tree_info
  have hf := hs.few
  have hgl := hs.lt
  cases hp : part k with
  | error x =>
    rw [hp] at H1 hR
    subst hR
    have H1 := Lib.hid H1
    clear hs hp hi0 hz0 hz1 hz2
    go_enter Tryz.func190, Tryz.ntmps190
    go_wp2_with (go_at_call 210; refine H1.out.mono ?_; rintro e w1 ⟨rfl, hG1⟩; have HG := Lib.hid hG1; clear hG1)
    exact ⟨rfl, rfl, HG.out⟩
  | ok r =>
    obtain ⟨d0, k1⟩ := r
    rw [hp] at H1 hR
    simp only at hR
    obtain ⟨g1, g2, g3, g4⟩ := (hgo k hk).1 d0 k1 hp
    have H1 := Lib.hid H1
    have HGO := Lib.hid hgo
    have HR := Lib.hid hR
    clear hs hp hgo hR
    go_enter Tryz.func190, Tryz.ntmps190
    go_wp2_with (go_at_call 210; refine H1.out.mono ?_; rintro e w1 ⟨A1, c1, rfl, hn1, hs1, hG1⟩; have HN := Lib.hid hn1; have HM := Lib.hid hs1; have HG := Lib.hid hG1; clear hn1 hs1 hG1)
    go_loopw [9] (fun v wr => ∃ (out : List Nd) (k2 j : Nat) (A2 : Option Addr) (c2 : Nat), v = .slice A2 out.length c2 ∧ k ≤ k2 ∧ k2 ≤ ws.length ∧ ws.length ≤ k2 + j ∧ out.length + k ≤ k2 ∧ w.heap.size ≤ wr.heap.size ∧ Hid (NdF w.heap.size wr A2 out) ∧ Hid (PsSt g W cw ws P cp ps k2 wr) ∧ Hid (w.grownBy wr (some g)) ∧ Hid (R = chainP ws op sg.toList part j out k2)) (fun v _ => 60001 - vLen v)
    case atStart => exact ⟨d0, k1, ws.length, A1, c1, rfl, by omega, g2, by omega, g3, HG.out.size, HN, HM, HG, HR⟩
    case round =>
      obtain ⟨out, k2, j, A2, c2, rfl, hk2, hl2, hj, ho, hsz, HN, HM, HG, HR⟩ := hrel
      have HPK := Lib.hid (peek_any wr HM.out hl2)
      cases hw : isW ws k2 sg.toList with
      | false =>
        have hres : R = .ok (out, k2) := by
          rw [HR.out]
          cases j with
          | zero => rfl
          | succ j => rw [chainP, if_neg (by rw [hw]; decide)]
        unfold isW at hw
        generalize wdAt ws k2 = s at *
        have HRES := Lib.hid hres
        clear hres
        go_wp2_with (go_at_call 113; refine HPK.out.mono ?_; rintro e w3 ⟨rfl, hB⟩; have HM := Lib.hid (HM.out.past hB); have HG := Lib.hid (grown_below HG.out hB); have HN := Lib.hid (HN.out.past hB); clear hB)
        go_ret
        rw [HRES.out]
        exact ⟨A2, c2, rfl, HN.out, HM.out, HG.out⟩
      | true =>
        have hlt : k2 < ws.length := by
          cases hc : sg.toList with
          | nil => exact absurd hc h0
          | cons c r => rw [hc] at hw; exact isW_lt hw
        obtain ⟨j, rfl⟩ : ∃ j', j = j' + 1 := ⟨j - 1, by omega⟩
        have HSE : Hid (∀ x, part (k2 + 1) = .error x → R = .error x) := Lib.hid (fun x hx => by rw [HR.out, chainP, if_pos hw, hx])
        have HSO : Hid (∀ x k', part (k2 + 1) = .ok (x, k') → R = chainP ws op sg.toList part j (⟨op, .empty, 0⟩ :: (out ++ x)) k') := Lib.hid (fun x k' hx => by rw [HR.out, chainP, if_pos hw, hx])
        have HQ := Lib.hid (fun w' h => HPART.out (k2 + 1) w' h (by omega) hlt)
        have hgb := HGO.out (k2 + 1) hlt
        unfold isW at hw
        generalize wdAt ws k2 = s at *
        go_upto_region 4 with (go_at_call 113; refine HPK.out.mono ?_; rintro e w3 ⟨rfl, hB⟩; have hs3 := HM.out.past hB; obtain ⟨-, -, q2, f2⟩ := hs3.cells; have HM := Lib.hid hs3; have HG := Lib.hid (grown_below HG.out hB); have HN := Lib.hid (HN.out.past hB); have hsz := Nat.le_trans hsz hB.size; clear hB hs3)
        refine ps_named (fun w4 => PsSt g W cw ws P cp ps (k2 + 1) w4 ∧ NdF w.heap.size w4 A2 out ∧ w.grownBy w4 (some g)) ⟨HM.out.set (k2 + 1) (by go_num), HN.out.grow (ps_grown _ _ _ _) (fun k e => by cases e; exact hgl), grown_trans HG.out (ps_grown _ _ _ _)⟩ ?_
        rintro w4 ⟨hs4, hn4, hG4⟩
        have h4 : w.heap.size ≤ w4.heap.size := hG4.size
        have H0 := Lib.hid (own_litP (w := w4) (base := w4.heap.size) (e := 25) (size := 3) (g := w4.heap.size) (n := 1) #[.int .i64 op, .string .empty, .int .i64 0] rfl (Nat.le_refl _) (by simp [maxLen]) (by simp))
        have HA := Lib.hid (hn4.1.1.alloc (.cells #[.int .i64 op, .string .empty, .int .i64 0] 25))
        have HT : Hid (∀ z ∈ out, z.text.size ≤ maxLen) := Lib.hid hn4.1.2.2
        have HM := Lib.hid hs4
        have HG := Lib.hid hG4
        clear HN hs4 hn4 hG4 HPK hsz
        cases hp : part (k2 + 1) with
        | error x =>
          have hst := HSE.out x hp
          have HQ' : Hid (∀ w', PsSt g W cw ws P cp ps (k2 + 1) w' → Calls Tryz.prog 210 #[.pointer (some ⟨g, 0, none⟩)] w' (PsBad g ps x w')) := Lib.hid (fun w' h => by have := HQ.out w' h; rw [hp] at this; exact this)
          have HST := Lib.hid hst
          clear hp hst HQ hgb HSE HSO
          go_wp2_with (first
            | (at_builtin; refine wpList_app _ rfl (.tmp 25) (.tmp 26) _ rfl w4.heap.size 25 i0 _ 3 32 Tryz.underlying22 hi0 hz0 hz1 hz2 rfl (by omega) _ 1 _ rfl H0.out _ A2 out.length c2 _ rfl HA.out (nd_one out) (by simp only [maxLen]; omega) (by omega) (by simp) ?_; intro v7 w7 hown7 hg7 hat7; clear hat7; have hB7 : Below w4.heap.size w4 w7 := below_app ((Below.refl _ _).alloc (Nat.le_refl _) _) H0.out hg7 (by simp) (Nat.le_refl _); obtain ⟨A7, c7, hv7⟩ := own_slice hown7; subst hv7; have HM := Lib.hid (HM.out.past hB7); have HG := Lib.hid (grown_below HG.out hB7); clear hown7 hg7 hB7)
            | (go_at_call 210; refine (HQ'.out _ HM.out).mono ?_; rintro e w8 ⟨rfl, hG8⟩; have HG := Lib.hid (grown_trans HG.out hG8); clear hG8))
          refine ⟨rfl, ?_⟩
          rw [HST.out]
          exact ⟨rfl, HG.out⟩
        | ok r =>
          obtain ⟨x, k3⟩ := r
          obtain ⟨b1, b2, b3, b4⟩ := hgb.1 x k3 hp
          have hst := HSO.out x k3 hp
          have HQ' : Hid (∀ w', PsSt g W cw ws P cp ps (k2 + 1) w' → Calls Tryz.prog 210 #[.pointer (some ⟨g, 0, none⟩)] w' (PsTo g W cw ws P cp ps (.ok (x, k3)) w')) := Lib.hid (fun w' h => by have := HQ.out w' h; rw [hp] at this; exact this)
          have HST := Lib.hid hst
          clear hp hst HQ hgb HSE HSO
          go_wp2_with (first
            | (at_builtin; (fail_if_success have z := T0); refine wpList_app _ rfl (.tmp 25) (.tmp 26) _ rfl w4.heap.size 25 i0 _ 3 32 Tryz.underlying22 hi0 hz0 hz1 hz2 rfl (by omega) _ 1 _ rfl H0.out _ A2 out.length c2 _ rfl HA.out (nd_one out) (by simp only [maxLen]; omega) (by omega) (by simp) ?_; intro v7 w7 hown7 hg7 hat7; clear hat7; have hB7 : Below w4.heap.size w4 w7 := below_app ((Below.refl _ _).alloc (Nat.le_refl _) _) H0.out hg7 (by simp) (Nat.le_refl _); obtain ⟨A7, c7, hv7⟩ := own_slice hown7; subst hv7; have HM := Lib.hid (HM.out.past hB7); have HG := Lib.hid (grown_below HG.out hB7); have h7 := hB7.size; have H7 := Lib.hid hown7; clear hown7 hg7 hB7; have T0 := Lib.hid True.intro)
            | (go_at_call 210; refine (HQ'.out _ HM.out).mono ?_; rintro e w8 ⟨A8, c8, rfl, hn8, hs8, hG8⟩; have HG := Lib.hid (grown_trans HG.out hG8); have HM := Lib.hid hs8; have HX := Lib.hid hn8; have H7 := Lib.hid (own_past H7.out hG8 (Nat.lt_of_lt_of_le hgl h4)); have h8 := hG8.size; clear hn8 hs8 hG8)
            | (at_builtin; have z := T0; clear z; refine wpList_app _ rfl (.tmp 27) (.tmp 29) _ rfl w4.heap.size 25 i0 _ 3 32 Tryz.underlying22 hi0 hz0 hz1 hz2 rfl (by omega) _ (1 + out.length) _ rfl H7.out _ A8 x.length c8 _ rfl HX.out.1.1 (nd_one x) (by simp only [maxLen]; omega) (by omega) (by omega) ?_; intro v9 w9 hown9 hg9 hat9; clear hat9; have hB9 : Below w4.heap.size w8 w9 := below_app (Below.refl _ _) H7.out hg9 (by omega) (Nat.le_refl _); obtain ⟨A9, c9, hv9⟩ := own_slice hown9; subst hv9; have HM := Lib.hid (HM.out.under hB9 (by omega)); have HG := Lib.hid (grown_under HG.out hB9 h4); have H9 := Lib.hid hown9; have h9 := hB9.size; clear hown9 hg9 hB9))
          have hlen : (⟨op, .empty, 0⟩ :: (out ++ x) : List Nd).length = 1 + out.length + x.length := by simp; omega
          go_roundw
          case measure => simp [vLen]; omega
          case rel =>
            refine ⟨⟨op, .empty, 0⟩ :: (out ++ x), k3, j, A9, c9, by rw [hlen], by omega, b2, by omega, by omega, HG.out.size, Lib.hid (NdF.less (NdF.ownT (n := 1 + out.length + x.length) (c := c9) ?_ hlen.symm (by rw [hlen]; simp only [maxLen]; omega) ?_) h4), HM, HG, HST⟩
            · have := H9.out
              rw [List.flatMap_cons, List.flatMap_append]
              simpa [ndCells] using this
            · intro z hz
              simp only [List.mem_cons, List.mem_append] at hz
              rcases hz with rfl | hz | hz
              · simp [maxLen]
              · exact HT.out z hz
              · exact HX.out.1.2.2 z hz

set_option maxRecDepth 100000 in
set_option maxHeartbeats 4000000 in
theorem chain_mul {g cw cp : Nat} {W P : Option Addr} {ws : List ByteArray} {ps : List Nat} (part : Nat → PrR) (hgo : Goes ws part) (op : Int) (sg : ByteArray) (h0 : sg.toList ≠ []) (k : Nat)
    (HPART : Hid (∀ (k' : Nat) (w : World), PsSt g W cw ws P cp ps k' w → k ≤ k' → k' ≤ ws.length → Calls Tryz.prog 191 #[.pointer (some ⟨g, 0, none⟩)] w (PsTo g W cw ws P cp ps (part k') w)))
    (w : World) (hs : PsSt g W cw ws P cp ps k w) (hk : k ≤ ws.length) :
    Calls Tryz.prog 190 #[.pointer (some ⟨g, 0, none⟩), .int .i64 op, .string sg, .func (.func 191) #[.pointer (some ⟨g, 0, none⟩)] #[]] w (PsTo g W cw ws P cp ps (chainS ws op sg.toList part k) w) := by
  obtain ⟨R, hR⟩ : ∃ R, R = chainS ws op sg.toList part k := ⟨_, rfl⟩
  rw [← hR]
  unfold chainS at hR
  have H1 := HPART.out k w hs (Nat.le_refl _) hk
  obtain ⟨i0, hi0, hz0, hz1, hz2⟩ := info_parts tree_info
  have hf := hs.few
  have hgl := hs.lt
  cases hp : part k with
  | error x =>
    rw [hp] at H1 hR
    subst hR
    have H1 := Lib.hid H1
    clear hs hp hi0 hz0 hz1 hz2
    go_enter Tryz.func190, Tryz.ntmps190
    go_wp2_with (go_at_call 191; refine H1.out.mono ?_; rintro e w1 ⟨rfl, hG1⟩; have HG := Lib.hid hG1; clear hG1)
    exact ⟨rfl, rfl, HG.out⟩
  | ok r =>
    obtain ⟨d0, k1⟩ := r
    rw [hp] at H1 hR
    simp only at hR
    obtain ⟨g1, g2, g3, g4⟩ := (hgo k hk).1 d0 k1 hp
    have H1 := Lib.hid H1
    have HGO := Lib.hid hgo
    have HR := Lib.hid hR
    clear hs hp hgo hR
    go_enter Tryz.func190, Tryz.ntmps190
    go_wp2_with (go_at_call 191; refine H1.out.mono ?_; rintro e w1 ⟨A1, c1, rfl, hn1, hs1, hG1⟩; have HN := Lib.hid hn1; have HM := Lib.hid hs1; have HG := Lib.hid hG1; clear hn1 hs1 hG1)
    go_loopw [9] (fun v wr => ∃ (out : List Nd) (k2 j : Nat) (A2 : Option Addr) (c2 : Nat), v = .slice A2 out.length c2 ∧ k ≤ k2 ∧ k2 ≤ ws.length ∧ ws.length ≤ k2 + j ∧ out.length + k ≤ k2 ∧ w.heap.size ≤ wr.heap.size ∧ Hid (NdF w.heap.size wr A2 out) ∧ Hid (PsSt g W cw ws P cp ps k2 wr) ∧ Hid (w.grownBy wr (some g)) ∧ Hid (R = chainP ws op sg.toList part j out k2)) (fun v _ => 60001 - vLen v)
    case atStart => exact ⟨d0, k1, ws.length, A1, c1, rfl, by omega, g2, by omega, g3, HG.out.size, HN, HM, HG, HR⟩
    case round =>
      obtain ⟨out, k2, j, A2, c2, rfl, hk2, hl2, hj, ho, hsz, HN, HM, HG, HR⟩ := hrel
      have HPK := Lib.hid (peek_any wr HM.out hl2)
      cases hw : isW ws k2 sg.toList with
      | false =>
        have hres : R = .ok (out, k2) := by
          rw [HR.out]
          cases j with
          | zero => rfl
          | succ j => rw [chainP, if_neg (by rw [hw]; decide)]
        unfold isW at hw
        generalize wdAt ws k2 = s at *
        have HRES := Lib.hid hres
        clear hres
        go_wp2_with (go_at_call 113; refine HPK.out.mono ?_; rintro e w3 ⟨rfl, hB⟩; have HM := Lib.hid (HM.out.past hB); have HG := Lib.hid (grown_below HG.out hB); have HN := Lib.hid (HN.out.past hB); clear hB)
        go_ret
        rw [HRES.out]
        exact ⟨A2, c2, rfl, HN.out, HM.out, HG.out⟩
      | true =>
        have hlt : k2 < ws.length := by
          cases hc : sg.toList with
          | nil => exact absurd hc h0
          | cons c r => rw [hc] at hw; exact isW_lt hw
        obtain ⟨j, rfl⟩ : ∃ j', j = j' + 1 := ⟨j - 1, by omega⟩
        have HSE : Hid (∀ x, part (k2 + 1) = .error x → R = .error x) := Lib.hid (fun x hx => by rw [HR.out, chainP, if_pos hw, hx])
        have HSO : Hid (∀ x k', part (k2 + 1) = .ok (x, k') → R = chainP ws op sg.toList part j (⟨op, .empty, 0⟩ :: (out ++ x)) k') := Lib.hid (fun x k' hx => by rw [HR.out, chainP, if_pos hw, hx])
        have HQ := Lib.hid (fun w' h => HPART.out (k2 + 1) w' h (by omega) hlt)
        have hgb := HGO.out (k2 + 1) hlt
        unfold isW at hw
        generalize wdAt ws k2 = s at *
        go_upto_region 4 with (go_at_call 113; refine HPK.out.mono ?_; rintro e w3 ⟨rfl, hB⟩; have hs3 := HM.out.past hB; obtain ⟨-, -, q2, f2⟩ := hs3.cells; have HM := Lib.hid hs3; have HG := Lib.hid (grown_below HG.out hB); have HN := Lib.hid (HN.out.past hB); have hsz := Nat.le_trans hsz hB.size; clear hB hs3)
        refine ps_named (fun w4 => PsSt g W cw ws P cp ps (k2 + 1) w4 ∧ NdF w.heap.size w4 A2 out ∧ w.grownBy w4 (some g)) ⟨HM.out.set (k2 + 1) (by go_num), HN.out.grow (ps_grown _ _ _ _) (fun k e => by cases e; exact hgl), grown_trans HG.out (ps_grown _ _ _ _)⟩ ?_
        rintro w4 ⟨hs4, hn4, hG4⟩
        have h4 : w.heap.size ≤ w4.heap.size := hG4.size
        have H0 := Lib.hid (own_litP (w := w4) (base := w4.heap.size) (e := 25) (size := 3) (g := w4.heap.size) (n := 1) #[.int .i64 op, .string .empty, .int .i64 0] rfl (Nat.le_refl _) (by simp [maxLen]) (by simp))
        have HA := Lib.hid (hn4.1.1.alloc (.cells #[.int .i64 op, .string .empty, .int .i64 0] 25))
        have HT : Hid (∀ z ∈ out, z.text.size ≤ maxLen) := Lib.hid hn4.1.2.2
        have HM := Lib.hid hs4
        have HG := Lib.hid hG4
        clear HN hs4 hn4 hG4 HPK hsz
        cases hp : part (k2 + 1) with
        | error x =>
          have hst := HSE.out x hp
          have HQ' : Hid (∀ w', PsSt g W cw ws P cp ps (k2 + 1) w' → Calls Tryz.prog 191 #[.pointer (some ⟨g, 0, none⟩)] w' (PsBad g ps x w')) := Lib.hid (fun w' h => by have := HQ.out w' h; rw [hp] at this; exact this)
          have HST := Lib.hid hst
          clear hp hst HQ hgb HSE HSO
          go_wp2_with (first
            | (at_builtin; refine wpList_app _ rfl (.tmp 25) (.tmp 26) _ rfl w4.heap.size 25 i0 _ 3 32 Tryz.underlying22 hi0 hz0 hz1 hz2 rfl (by omega) _ 1 _ rfl H0.out _ A2 out.length c2 _ rfl HA.out (nd_one out) (by simp only [maxLen]; omega) (by omega) (by simp) ?_; intro v7 w7 hown7 hg7 hat7; clear hat7; have hB7 : Below w4.heap.size w4 w7 := below_app ((Below.refl _ _).alloc (Nat.le_refl _) _) H0.out hg7 (by simp) (Nat.le_refl _); obtain ⟨A7, c7, hv7⟩ := own_slice hown7; subst hv7; have HM := Lib.hid (HM.out.past hB7); have HG := Lib.hid (grown_below HG.out hB7); clear hown7 hg7 hB7)
            | (go_at_call 191; refine (HQ'.out _ HM.out).mono ?_; rintro e w8 ⟨rfl, hG8⟩; have HG := Lib.hid (grown_trans HG.out hG8); clear hG8))
          refine ⟨rfl, ?_⟩
          rw [HST.out]
          exact ⟨rfl, HG.out⟩
        | ok r =>
          obtain ⟨x, k3⟩ := r
          obtain ⟨b1, b2, b3, b4⟩ := hgb.1 x k3 hp
          have hst := HSO.out x k3 hp
          have HQ' : Hid (∀ w', PsSt g W cw ws P cp ps (k2 + 1) w' → Calls Tryz.prog 191 #[.pointer (some ⟨g, 0, none⟩)] w' (PsTo g W cw ws P cp ps (.ok (x, k3)) w')) := Lib.hid (fun w' h => by have := HQ.out w' h; rw [hp] at this; exact this)
          have HST := Lib.hid hst
          clear hp hst HQ hgb HSE HSO
          go_wp2_with (first
            | (at_builtin; (fail_if_success have z := T0); refine wpList_app _ rfl (.tmp 25) (.tmp 26) _ rfl w4.heap.size 25 i0 _ 3 32 Tryz.underlying22 hi0 hz0 hz1 hz2 rfl (by omega) _ 1 _ rfl H0.out _ A2 out.length c2 _ rfl HA.out (nd_one out) (by simp only [maxLen]; omega) (by omega) (by simp) ?_; intro v7 w7 hown7 hg7 hat7; clear hat7; have hB7 : Below w4.heap.size w4 w7 := below_app ((Below.refl _ _).alloc (Nat.le_refl _) _) H0.out hg7 (by simp) (Nat.le_refl _); obtain ⟨A7, c7, hv7⟩ := own_slice hown7; subst hv7; have HM := Lib.hid (HM.out.past hB7); have HG := Lib.hid (grown_below HG.out hB7); have h7 := hB7.size; have H7 := Lib.hid hown7; clear hown7 hg7 hB7; have T0 := Lib.hid True.intro)
            | (go_at_call 191; refine (HQ'.out _ HM.out).mono ?_; rintro e w8 ⟨A8, c8, rfl, hn8, hs8, hG8⟩; have HG := Lib.hid (grown_trans HG.out hG8); have HM := Lib.hid hs8; have HX := Lib.hid hn8; have H7 := Lib.hid (own_past H7.out hG8 (Nat.lt_of_lt_of_le hgl h4)); have h8 := hG8.size; clear hn8 hs8 hG8)
            | (at_builtin; have z := T0; clear z; refine wpList_app _ rfl (.tmp 27) (.tmp 29) _ rfl w4.heap.size 25 i0 _ 3 32 Tryz.underlying22 hi0 hz0 hz1 hz2 rfl (by omega) _ (1 + out.length) _ rfl H7.out _ A8 x.length c8 _ rfl HX.out.1.1 (nd_one x) (by simp only [maxLen]; omega) (by omega) (by omega) ?_; intro v9 w9 hown9 hg9 hat9; clear hat9; have hB9 : Below w4.heap.size w8 w9 := below_app (Below.refl _ _) H7.out hg9 (by omega) (Nat.le_refl _); obtain ⟨A9, c9, hv9⟩ := own_slice hown9; subst hv9; have HM := Lib.hid (HM.out.under hB9 (by omega)); have HG := Lib.hid (grown_under HG.out hB9 h4); have H9 := Lib.hid hown9; have h9 := hB9.size; clear hown9 hg9 hB9))
          have hlen : (⟨op, .empty, 0⟩ :: (out ++ x) : List Nd).length = 1 + out.length + x.length := by simp; omega
          go_roundw
          case measure => simp [vLen]; omega
          case rel =>
            refine ⟨⟨op, .empty, 0⟩ :: (out ++ x), k3, j, A9, c9, by rw [hlen], by omega, b2, by omega, by omega, HG.out.size, Lib.hid (NdF.less (NdF.ownT (n := 1 + out.length + x.length) (c := c9) ?_ hlen.symm (by rw [hlen]; simp only [maxLen]; omega) ?_) h4), HM, HG, HST⟩
            · have := H9.out
              rw [List.flatMap_cons, List.flatMap_append]
              simpa [ndCells] using this
            · intro z hz
              simp only [List.mem_cons, List.mem_append] at hz
              rcases hz with rfl | hz | hz
              · simp [maxLen]
              · exact HT.out z hz
              · exact HX.out.1.2.2 z hz

set_option maxRecDepth 100000 in
set_option maxHeartbeats 2000000 in
theorem mul_any {g cw cp : Nat} {W P : Option Addr} {ws : List ByteArray} {ps : List Nat} (part : Nat → PrR) (hgo : Goes ws part) (k : Nat)
    (HPART : Hid (∀ (k' : Nat) (w : World), PsSt g W cw ws P cp ps k' w → k ≤ k' → k' ≤ ws.length → Calls Tryz.prog 210 #[.pointer (some ⟨g, 0, none⟩)] w (PsTo g W cw ws P cp ps (part k') w)))
    (w : World) (hs : PsSt g W cw ws P cp ps k w) (hk : k ≤ ws.length) :
    Calls Tryz.prog 191 #[.pointer (some ⟨g, 0, none⟩)] w (PsTo g W cw ws P cp ps (chainS ws 6 [42] part k) w) := by
  have hmf : ∀ (fn : Fn) (first cap : Array Value) (w : World), (Instr.makeFunc fn first cap).run Tryz.prog w = .ok (.func fn first cap) w := fun _ _ _ _ => rfl
  have hsg : (⟨#[42]⟩ : ByteArray).toList = [42] := by decide +kernel
  have HC := chain_one part hgo 6 ⟨#[42]⟩ (by rw [hsg]; simp) k HPART w hs hk
  rw [hsg] at HC
  generalize chainS ws 6 [42] part k = R at *
  have HC := Lib.hid HC
  clear hs hgo HPART hk hsg
  cases R with
  | error x =>
    go_enter Tryz.func191, Tryz.ntmps191
    go_wp2_with (go_at_call 190; refine HC.out.mono ?_; rintro e w1 ⟨rfl, hG1⟩; have HG := Lib.hid hG1; clear hG1)
    exact ⟨rfl, rfl, HG.out⟩
  | ok r =>
    obtain ⟨d, k1⟩ := r
    go_enter Tryz.func191, Tryz.ntmps191
    go_wp2_with (go_at_call 190; refine HC.out.mono ?_; rintro e w1 ⟨A1, c1, rfl, hH⟩; have HH := Lib.hid hH; clear hH)
    go_ret
    exact ⟨A1, c1, rfl, HH.out⟩

set_option maxRecDepth 100000 in
set_option maxHeartbeats 2000000 in
theorem sum_any {g cw cp : Nat} {W P : Option Addr} {ws : List ByteArray} {ps : List Nat} (part : Nat → PrR) (hgo : Goes ws part) (k : Nat)
    (HPART : Hid (∀ (k' : Nat) (w : World), PsSt g W cw ws P cp ps k' w → k ≤ k' → k' ≤ ws.length → Calls Tryz.prog 191 #[.pointer (some ⟨g, 0, none⟩)] w (PsTo g W cw ws P cp ps (part k') w)))
    (w : World) (hs : PsSt g W cw ws P cp ps k w) (hk : k ≤ ws.length) :
    Calls Tryz.prog 167 #[.pointer (some ⟨g, 0, none⟩)] w (PsTo g W cw ws P cp ps (chainS ws 5 [43] part k) w) := by
  have hmf : ∀ (fn : Fn) (first cap : Array Value) (w : World), (Instr.makeFunc fn first cap).run Tryz.prog w = .ok (.func fn first cap) w := fun _ _ _ _ => rfl
  have hsg : (⟨#[43]⟩ : ByteArray).toList = [43] := by decide +kernel
  have HC := chain_mul part hgo 5 ⟨#[43]⟩ (by rw [hsg]; simp) k HPART w hs hk
  rw [hsg] at HC
  generalize chainS ws 5 [43] part k = R at *
  have HC := Lib.hid HC
  clear hs hgo HPART hk hsg
  cases R with
  | error x =>
    go_enter Tryz.func167, Tryz.ntmps167
    go_wp2_with (go_at_call 190; refine HC.out.mono ?_; rintro e w1 ⟨rfl, hG1⟩; have HG := Lib.hid hG1; clear hG1)
    exact ⟨rfl, rfl, HG.out⟩
  | ok r =>
    obtain ⟨d, k1⟩ := r
    go_enter Tryz.func167, Tryz.ntmps167
    go_wp2_with (go_at_call 190; refine HC.out.mono ?_; rintro e w1 ⟨A1, c1, rfl, hH⟩; have HH := Lib.hid hH; clear hH)
    go_ret
    exact ⟨A1, c1, rfl, HH.out⟩

/-- Many: how many, their nodes. -/
def PsMany (g : Nat) (W : Option Addr) (cw : Nat) (ws : List ByteArray) (P : Option Addr) (cp : Nat) (ps : List Nat) (r : Except Nat (Nat × List Nd × Nat)) (w : World) (e : Ending) (w' : World) : Prop :=
  match r with
  | .ok (n, d, k) => ∃ A c, e = .returned (.tuple #[.int .i64 (n : Nat), .slice A d.length c]) ∧ NdF w.heap.size w' A d ∧ PsSt g W cw ws P cp ps k w' ∧ w.grownBy w' (some g)
  | .error x => PsBad g ps x w e w'
end Go.Proofs.YtddfdmopaeghnacGreatDoor
