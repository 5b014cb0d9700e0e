/- Walks: the cheapest course from a spot on, whatever the spot; following it; best.Best. Conditions: the slice of nodes lies below the call's own blocks; way.Of's contract. -/
import Derived.Test.YtddfdmopaeghnacDoorBestC
import Derived.Test.YtddfdmopaeghnacDoorBestL
import Derived.Test.YtddfdmopaeghnacDoorBld
import Derived.Test.YtddfdmopaeghnacDoorNums
import Derived.Test.YtddfdmopaeghnacDoorOfS
namespace Go.Proofs.YtddfdmopaeghnacDoor
open Go.RowKit Go.Maps Go.ChangeMaps

/-- cheapest, at a choice. -/
theorem cheap_ask {l : List Nd} {x : D} (hd : Doc l x) {gp : Nat} {A : Option Addr} {c : Nat} (w0 : World) (hpl : IsPlan w0 gp A c l) (hnl : Nds w0 w0.heap.size A l) {gs bm W : Nat} (hW : W ≤ 100) {K : List (D × Int)} (ih : ∀ y, y < szK K → CheapSaid w0 gs gp bm W l y) {i col : Nat} {w : World} (hrep : Rep l i K) (hcs : CS w0 gs gp bm W l w) (hcol : col + 3300 * szK K ≤ 2000000)
    {f : Value → Option Value} (hmf : MapF Tryd.prog 71 f bm w) (hv : f (spotV i col) = none) (hlt : i < l.length) (ho : l[i].op = 8 ∨ l[i].op = 9) :
    Calls Tryd.prog 24 #[.pointer (some ⟨gs, 0, none⟩), spotV i col] w (CheapTo w0 gs gp bm W l (courseV (bestC W K col) (choiceOf l i (bestU W K col))) w) := by
  obtain ⟨t0, ok0, i0, i1, K0, K1, hp, h0, h1, hpc, hc0, hc1⟩ := best_ask (gp := gp) (A := A) (c := c) hd hrep hlt ho
  have hch : ∀ u, choiceOf l i u = u.headD 0 := fun u => by
    unfold choiceOf
    rw [dif_pos hlt, if_pos ho]
  obtain ⟨hbp0, hbp1⟩ := best_pick hp (fun h => (h0 h).2.2) h1.2.2 W col
  have hz0 := hp.2.2.1
  have hz1 := hp.2.2.2.1
  have hl1 := bestC_le W K1 (colOf col ByteArray.empty.data.toList) (hd.text_le _ i1 K1 (Nat.le_refl _) hp.2.1)
  have e1 : ByteArray.empty.data.toList = [] := rfl
  have hcp1 : ∀ W' : World, CS w0 gs gp bm W l W' → Calls Tryd.prog 24 #[.pointer (some ⟨gs, 0, none⟩), .agg #[.int .i64 (i1 : Nat), .int .i64 (colOf col ByteArray.empty.data.toList : Nat)]] W' (CheapTo w0 gs gp bm W l (.agg #[.int .i64 ((bestC W K1 (colOf col ByteArray.empty.data.toList)).1 : Nat), .int .i64 ((bestC W K1 (colOf col ByteArray.empty.data.toList)).2 : Nat), .int .i64 (choiceOf l i1 (bestU W K1 (colOf col ByteArray.empty.data.toList)))]) W') := fun W' hc =>
    ih (szK K1) hz1 K1 (Nat.le_refl _) i1 _ W' hp.2.1 hc (by rw [e1]; simp only [colOf]; omega)
  have hput1 : ∀ W' : World, W'.heap[gs]? = some (.cells #[.pointer (some ⟨gp, 0, none⟩), .int .i64 (W : Nat), .map (some bm)] 66 (0, 0)) → _ := fun W' hb => put_any (gs := gs) (gp := gp) (bm := bm) (W := W) (col := col) ptxt_empty (by omega) (by simp) hW W' hb
  have hpl1 := fun (W' : World) => plus_any (cst W col ByteArray.empty.data.toList) (bestC W K1 (colOf col ByteArray.empty.data.toList)) (by rw [e1] at hl1 ⊢; simp only [cst, ovr]; omega) (by rw [e1] at hl1 ⊢; simp only [cst, lns]; omega) W'
  have hkn : ∀ {v : Value}, courseV (bestC W K col) (choiceOf l i (bestU W K col)) = v → ∀ f' : Value → Option Value, KnownC l W f' → KnownC l W (putF f' (.agg #[.int .i64 (i : Nat), .int .i64 (col : Nat)]) v) := fun hv' f' hk => hv' ▸ hk.put (i := i) (col := col) hrep
  cases ok0 with
  | false =>
    obtain ⟨hu, hc⟩ := hbp1 (.inl rfl)
    have hres : courseV (bestC W K col) (choiceOf l i (bestU W K col)) = .agg #[.int .i64 ((cAdd (cst W col ByteArray.empty.data.toList) (bestC W K1 (colOf col ByteArray.empty.data.toList))).1 : Nat), .int .i64 ((cAdd (cst W col ByteArray.empty.data.toList) (bestC W K1 (colOf col ByteArray.empty.data.toList))).2 : Nat), .int .i64 1] := by rw [hc, hch, hu]; rfl
    rw [hres]
    exact ask_no hd.len w0 hpl hnl hcs (by omega) hmf hv hlt hpc hc0 hc1 hput1 hcp1 hpl1 (hkn hres)
  | true =>
    obtain ⟨hn0, ht0, _⟩ := h0 rfl
    have hl0 := bestC_le W K0 (colOf col t0.data.toList) (hd.text_le _ i0 K0 (Nat.le_refl _) hp.1)
    have etx : t0.data.toList.length = t0.size := by simp
    have hcl := colOf_le t0.data.toList col
    have ho0 := ovr_le W t0.data.toList col
    have hln := lns_le t0.data.toList
    have hcp0 : ∀ W' : World, CS w0 gs gp bm W l W' → Calls Tryd.prog 24 #[.pointer (some ⟨gs, 0, none⟩), .agg #[.int .i64 (i0 : Nat), .int .i64 (colOf col t0.data.toList : Nat)]] W' (CheapTo w0 gs gp bm W l (.agg #[.int .i64 ((bestC W K0 (colOf col t0.data.toList)).1 : Nat), .int .i64 ((bestC W K0 (colOf col t0.data.toList)).2 : Nat), .int .i64 (choiceOf l i0 (bestU W K0 (colOf col t0.data.toList)))]) W') := fun W' hc =>
      ih (szK K0) hz0 K0 (Nat.le_refl _) i0 _ W' hp.1 hc (by omega)
    have hput0 : ∀ W' : World, W'.heap[gs]? = some (.cells #[.pointer (some ⟨gp, 0, none⟩), .int .i64 (W : Nat), .map (some bm)] 66 (0, 0)) → _ := fun W' hb => put_any (gs := gs) (gp := gp) (bm := bm) (W := W) (col := col) (.inl hn0) (by omega) (by omega) hW W' hb
    have hpl0 := fun (W' : World) => plus_any (cst W col t0.data.toList) (bestC W K0 (colOf col t0.data.toList)) (by simp only [cst]; omega) (by simp only [cst]; omega) W'
    cases hun : cLess (cAdd (cst W col ByteArray.empty.data.toList) (bestC W K1 (colOf col ByteArray.empty.data.toList))) (cAdd (cst W col t0.data.toList) (bestC W K0 (colOf col t0.data.toList))) with
    | false =>
      obtain ⟨hu, hc⟩ := hbp0 ⟨rfl, hun⟩
      have hres : courseV (bestC W K col) (choiceOf l i (bestU W K col)) = .agg #[.int .i64 ((cAdd (cst W col t0.data.toList) (bestC W K0 (colOf col t0.data.toList))).1 : Nat), .int .i64 ((cAdd (cst W col t0.data.toList) (bestC W K0 (colOf col t0.data.toList))).2 : Nat), .int .i64 0] := by rw [hc, hch, hu]; rfl
      rw [hres]
      exact ask_first hd.len w0 hpl hnl hcs (by omega) hmf hv hlt hpc hc0 hc1 hput0 hcp0 hpl0 hput1 hcp1 hpl1 (fun W' => under_any _ _ hun W') (hkn hres)
    | true =>
      obtain ⟨hu, hc⟩ := hbp1 (.inr hun)
      have hres : courseV (bestC W K col) (choiceOf l i (bestU W K col)) = .agg #[.int .i64 ((cAdd (cst W col ByteArray.empty.data.toList) (bestC W K1 (colOf col ByteArray.empty.data.toList))).1 : Nat), .int .i64 ((cAdd (cst W col ByteArray.empty.data.toList) (bestC W K1 (colOf col ByteArray.empty.data.toList))).2 : Nat), .int .i64 1] := by rw [hc, hch, hu]; rfl
      rw [hres]
      exact ask_second hd.len w0 hpl hnl hcs (by omega) hmf hv hlt hpc hc0 hc1 hput0 hcp0 hpl0 hput1 hcp1 hpl1 (fun W' => under_any _ _ hun W') (hkn hres)

theorem cheap_step {l : List Nd} {x : D} (hd : Doc l x) {gp : Nat} {A : Option Addr} {c : Nat} (w0 : World) (hpl : IsPlan w0 gp A c l) (hnl : Nds w0 w0.heap.size A l) {gs bm W : Nat} (hW : W ≤ 100) (z : Nat) (ih : ∀ y, y < z → CheapSaid w0 gs gp bm W l y) : CheapSaid w0 gs gp bm W l z := by
  intro K hK i col w hrep hcs hcol
  have ih' : ∀ y, y < szK K → CheapSaid w0 gs gp bm W l y := fun y hy => ih y (by omega)
  by_cases hlt : i < l.length
  · obtain ⟨f, hmf, hkn⟩ := hcs.map
    cases hv : f (spotV i col) with
    | some v =>
      have hvv := hkn.at_ hrep hv
      subst hvv
      exact (cheap_known hd w0 hpl hcs (by omega) hmf hv hlt).mono fun e w' ⟨he, hb⟩ => ⟨he, hcs.past hb, gb_of_below hb bm⟩
    | none =>
      by_cases ho : l[i].op = 8 ∨ l[i].op = 9
      · exact cheap_ask hd w0 hpl hnl hW ih' hrep hcs hcol hmf hv hlt ho
      · exact cheap_go hd w0 hpl hnl hW ih' hrep hcs hcol hmf hv hlt ⟨fun h => ho (.inl h), fun h => ho (.inr h)⟩
  · obtain ⟨rfl, rfl⟩ := hrep.ge (by omega)
    have e : courseV (bestC W [] col) (choiceOf l l.length (bestU W [] col)) = .agg #[.int .i64 0, .int .i64 0, .int .i64 0] := by
      rw [(best_end W col).2]
      have : choiceOf l l.length (bestU W [] col) = 0 := by
        unfold choiceOf
        rw [dif_neg (by omega)]
      rw [this]
      rfl
    rw [e]
    exact (cheap_end w0 hpl hcs).mono fun e w' ⟨he, hb⟩ => ⟨he, hcs.past hb, gb_of_below hb bm⟩
theorem cheap_any {l : List Nd} {x : D} (hd : Doc l x) {gp : Nat} {A : Option Addr} {c : Nat} (w0 : World) (hpl : IsPlan w0 gp A c l) (hnl : Nds w0 w0.heap.size A l) {gs bm W : Nat} (hW : W ≤ 100) (z : Nat) : CheapSaid w0 gs gp bm W l z := by
  induction z using Nat.strongRecOn with
  | ind z ih => exact cheap_step hd w0 hpl hnl hW z ih
end Go.Proofs.YtddfdmopaeghnacDoor
