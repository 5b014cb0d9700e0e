/- Walk: way.find. Conditions: the plan and the doc lie below the finder. -/
import Derived.Test.YtddfdmopaeghnabDoorFindS
import Derived.Test.YtddfdmopaeghnabDoorNdS
import Derived.Test.YtddfdmopaeghnabDoorShelf
namespace Go.Proofs.YtddfdmopaeghnabDoor
open Go.RowKit

theorem int_info3 : (Tryd.prog.info? 3).map (fun i => (i.zero, i.size, i.bytes)) = some (some (.int .i64 0), 1, 8) := by kernel_rfl
theorem ints_info : (Tryd.prog.info? 38).map (fun i => (i.zero, i.size, i.bytes)) = some (some (.slice none 0 0), 1, 24) := by kernel_rfl

theorem FS.mid {w0 w w' : World} {gf gp : Nat} {fv : Value} {vs : List Value} {done : List (List Int)} (h : FS w0 gf gp fv vs done w) (hg : w.grownBy w' fv.ownBlock) : w'.cell? ⟨gf, 1, none⟩ = some fv ∧ w'.frozen? ⟨gf, 1, none⟩ = false := by
  have hblk : w'.heap[gf]? = some (.cells #[.pointer (some ⟨gp, 0, none⟩), fv] 125 (0, 0)) := (hg.block _ (lt_of_heap h.blk) (fun e => row_blk h.row h.blk (by decide) e.symm)).trans h.blk
  exact ⟨by rw [Lib.cell_of_heap hblk]; rfl, Lib.frozen_of_heap hblk 1⟩

theorem clone_row {w : World} {B : Nat} {v : Value} {u : List Int} (h : RowI w B v u) (hl : u.length ≤ 1000) :
    Calls Tryd.prog 90 #[v] w fun e w' => ∃ v', e = .returned v' ∧ w'.ownsRow w.heap.size 3 1 v' u.length (u.map (.int .i64)) ∧ Below w.heap.size w w' := by
  rcases h.2 with ⟨rfl, hz⟩ | ⟨g, cap, cur, rfl, _⟩
  · have hu : u = [] := by
      cases u with
      | nil => rfl
      | cons a r => simp at hz
    subst hu
    first
      | (refine (Tryd.slices_Clone_nil 0 0 w).mono ?_; rintro e w' ⟨rfl, rfl⟩; exact ⟨_, rfl, World.ownsRow_nil _ _ _ _, Below.refl _ _⟩)
      | (refine (Tryd.slices_Clone_int_nil 0 0 w).mono ?_; rintro e w' ⟨rfl, rfl⟩; exact ⟨_, rfl, World.ownsRow_nil _ _ _ _, Below.refl _ _⟩)
  · obtain ⟨iI, hiI, hzI, hzI1, hzI2⟩ := info_parts int_info3
    have hcells : ∀ (j : Nat) z, (u.map (Value.int .i64))[j]? = some z → w.cell? ⟨g, 0 + j, none⟩ = some z := fun j z hz => by
      have hj : j < u.length := by have := (List.getElem?_eq_some_iff.1 hz).1; simpa using this
      have := h.cellAt j (by omega)
      rw [Nat.zero_add, this]
      exact hz
    first
      | (refine (Tryd.slices_Clone iI (.int .i64 0) 1 8 hiI hzI hzI1 hzI2 rfl (by decide) (fun w => by kernel_rfl) g 0 u.length cap (u.map (.int .i64)) w (by simp) (by simp only [maxLen]; omega) (by omega) hcells (int_one u)).mono ?_
         rintro e w' ⟨v', rfl, hr, _, hb⟩
         exact ⟨v', rfl, hr, hb⟩)
      | (refine (Tryd.slices_Clone_int g 0 u.length cap u w (Nat.le_refl _) (by omega) (fun j hj => ?_)).mono ?_
         · have := h.cellAt j (by omega)
           rw [Nat.zero_add, this]
           simp [hj]
         · rintro e w' ⟨v', rfl, hr, _, hb⟩
           rw [List.take_length] at hr
           exact ⟨v', rfl, hr, hb⟩)
theorem RowI.form {w : World} {B : Nat} {v : Value} {u : List Int} (h : RowI w B v u) : ∃ A c, v = .slice A u.length c := own_slice h

theorem wpList_app_on {P : Program} {w : World} {ops : Array Oper} {rest : List Oper} {o : Oper} {a : Act} {Q : Exit → Act → World → Prop} (hgd : Region.wanted o (yielded ops a.tmps) = true) (s x : Operand) (t : TypeId)
    (ho : o.op = .call { callee := .builtin .append, args := #[s, x], argTypes := #[t, t] })
    (base : Nat) (e : TypeId) (i : TypeInfo) (z : Value) (size bytes : Nat) (ht : P.underlying t = some (.slice e)) (hi : P.info? e = some i) (hz : i.zero = some z)
    (hsize : i.size = size) (hby : i.bytes = bytes) (hzs : z.cells.size = size) (hsz : 0 < size)
    (v : Value) (n : Nat) (xs : List Value) (hs : a.eval s = v) (hown : w.ownsRow base e size v n xs)
    (B : Nat) (A : Option Addr) (m c : Nat) (news : List Value) (hx : a.eval x = .slice A m c) (hr : Sl w B size A m news) (h1 : ∀ u ∈ news, u.oneCell' = true)
    (h63 : n + m ≤ maxLen) (hbytes : (n + m) * bytes ≤ 140737488355328) (hbase : base ≤ w.heap.size)
    (h : ∀ v' w', w'.ownsRow base e size v' (n + m) (xs ++ news) → w.grownBy w' v.ownBlock → (v'.ownBlock = v.ownBlock ∨ v'.ownBlock = some w.heap.size) → wpList P ops Q rest (a.put o.dst v') w') : wpList P ops Q (o :: rest) a w :=
  wpList_step fun K hK => by
    rw [if_pos hgd]
    exact wp_app w s x t ho base e i z size bytes ht hi hz hsize hby hzs hsz v n xs hs hown B A m c news hx hr h1 h63 hbytes hbase fun v' w' h2 h3 h4 => hK _ _ (h v' w' h2 h3 h4)

/-- The ways behind the first part of a choice. -/
def ways0 (way : List Int) (ok0 : Bool) (K0 : List (D × Int)) : List (List Int) := if ok0 = true then (waysK K0).map ((way ++ [0]) ++ ·) else []
def ways1 (way : List Int) (K1 : List (D × Int)) : List (List Int) := (waysK K1).map ((way ++ [1]) ++ ·)
theorem ways_part {l : List Nd} {K K0 K1 : List (D × Int)} {ok0 : Bool} {i0 i1 : Nat} (h : PartTo l K ok0 i0 i1 K0 K1) (way : List Int) : (waysK K).map (way ++ ·) = ways0 way ok0 K0 ++ ways1 way K1 := by
  rw [h.2.2.2.2, List.map_append]
  unfold ways0 ways1
  congr 1
  · split
    · rw [List.map_map]
      congr 1
      funext u
      simp
    · rfl
  · rw [List.map_map]
    congr 1
    funext u
    simp

/-- What find does from a place on. -/
def FindSaid (l : List Nd) (gp : Nat) (w0 : World) (gf : Nat) (z : Nat) : Prop :=
  ∀ (K : List (D × Int)), szK K ≤ z → ∀ (i : Nat) (way : List Int) (wv fv : Value) (vs : List Value) (done : List (List Int)) (w : World), Rep l i K → FS w0 gf gp fv vs done w → RowI w w0.heap.size wv way → done.length ≤ 300 → way.length + szK K ≤ 400 →
    Calls Tryd.prog 63 #[.pointer (some ⟨gf, 0, none⟩), .int .i64 i, wv] w (FindTo w0 gf gp (done ++ (waysK K).map (way ++ ·)) w)

set_option maxRecDepth 100000 in
set_option maxHeartbeats 4000000 in
theorem find_step {l : List Nd} {x : D} (hd : Doc l x) (gp : Nat) {A : Option Addr} {c : Nat} (w0 : World) (hpl : IsPlan w0 gp A c l) (hnl : Nds w0 w0.heap.size A l) (gf : Nat) (z : Nat) (ih : ∀ y, y < z → FindSaid l gp w0 gf y) : FindSaid l gp w0 gf z := by
  intro K hK i way wv fv vs done w hrep hfs hrow hdn hlen
  obtain ⟨iI, hiI, hzI, hzI1, hzI2⟩ := info_parts int_info3
  obtain ⟨iS, hiS, hzS, hzS1, hzS2⟩ := info_parts ints_info
  have HD := Lib.hid hd; have HPL := Lib.hid hpl; have HN := Lib.hid hnl; have HIH := Lib.hid ih; have HREP := Lib.hid hrep; have HFS := Lib.hid hfs; have HROW := Lib.hid hrow
  have h400 := hd.len
  obtain ⟨WA, WC, hwf⟩ := hrow.form
  subst hwf
  clear hd hpl hnl ih hrep hfs hrow
  go_enter Tryd.func63, Tryd.ntmps63
  go_wp2_with fail
  go_loopw [1] (fun s1 wr => ∃ (q : Nat) (K' : List (D × Int)), s1 = .int .i64 q ∧ Rep l q K' ∧ szK K' ≤ szK K ∧ waysK K' = waysK K ∧ FS w0 gf gp fv vs done wr ∧ RowI wr w0.heap.size (.slice WA way.length WC) way ∧ KeepI w0.heap.size w wr ∧ w.heap.size ≤ wr.heap.size) (fun s1 _ => leftOf l (intOf s1).toNat)
  case atStart => exact ⟨i, K, rfl, HREP.out, Nat.le_refl _, rfl, HFS.out, HROW.out, KeepI.refl _ _, Nat.le_refl _⟩
  case round =>
    obtain ⟨q, K', rfl, hrp, hsz, hwk, hf, hr, hk, hs⟩ := hrel
    have HR := Lib.hid hrp; have HF := Lib.hid hf; have HRo := Lib.hid hr; have HK := Lib.hid hk; have HWK := Lib.hid hwk
    have x0 := hf.c0
    have x1 := hf.c1
    obtain ⟨gn, gd, ge, gf', gi, cf, ci, hpa⟩ := HPL.out.past hf.bel
    have y0 := hpa.c0
    have hgp := hpa.lp
    have HP1 : Hid (IsPlan wr gp A c l) := Lib.hid (HPL.out.past hf.bel)
    have HN1 := Lib.hid (HN.out.past hf.bel)
    clear hpa hrp hf hr hk hwk HREP HFS HROW
    by_cases hlt : q < l.length
    · have k1 : decide (q < l.length) = true := decide_eq_true hlt
      have k2 : decide ((q : Int) < (l.length : Int)) = true := decide_eq_true (by omega)
      by_cases hop : l[q].op = 8 ∨ l[q].op = 9
      · obtain ⟨t0, t1, ok0, i0, i1, K0, K1, hpt, hpc, hc0, hc1⟩ := piece_pick (gp := gp) (A := A) (c := c) HD.out HR.out hlt hop
        have hz0 := hpt.2.2.1
        have hz1 := hpt.2.2.2.1
        have HPC := Lib.hid hpc; have HC0 := Lib.hid hc0; have HC1 := Lib.hid hc1; have HRpK0 := Lib.hid hpt.1; have HRpK1 := Lib.hid hpt.2.1
        have HNE : Hid (done ++ (waysK K).map (way ++ ·) = done ++ ways0 way ok0 K0 ++ ways1 way K1) := Lib.hid (by rw [← HWK.out, ways_part hpt, List.append_assoc])
        clear hpt hpc hc0 hc1 hop
        go_wp2_with (go_at_call 52; refine (HPC.out _ HP1.out HN1.out).mono ?_; rintro e w3 ⟨rfl, hB3⟩)
        have F3 := Lib.hid (HF.out.past hB3); have R3 := Lib.hid (own_below HRo.out hB3); have K3 := Lib.hid (HK.out.trans (.below hB3))
        have S3 : w.heap.size ≤ w3.heap.size := Nat.le_trans hs hB3.size
        clear HF HRo HK HPC HP1 HN1 x0 x1 y0
        go_loopw [37] (fun s37 wr => ∃ (fv' : Value) (vs' : List Value) (done' : List (List Int)), ((s37 = .int .i64 0 ∧ done' = done) ∨ (s37 = .int .i64 1 ∧ done' = done ++ ways0 way ok0 K0) ∨ (s37 = .int .i64 2 ∧ done' = done ++ ways0 way ok0 K0 ++ ways1 way K1)) ∧ done'.length ≤ 300 ∧ FS w0 gf gp fv' vs' done' wr ∧ RowI wr w0.heap.size (.slice WA way.length WC) way ∧ KeepI w0.heap.size w wr ∧ w.heap.size ≤ wr.heap.size) (fun s37 _ => 2 - (intOf s37).toNat)
        case atStart => exact ⟨_, _, done, .inl ⟨rfl, rfl⟩, hdn, F3.out, R3.out, K3.out, S3⟩
        case round =>
          rename_i wr
          obtain ⟨fv', vs', done', hj, hdd, hf, hr, hk, hs'⟩ := hrel
          have x0 := hf.c0
          have x1 := hf.c1
          have HP2 : Hid (IsPlan wr gp A c l) := Lib.hid (HPL.out.past hf.bel)
          have HN2 := Lib.hid (HN.out.past hf.bel)
          have HF2 := Lib.hid hf; have HRo2 := Lib.hid hr; have HK2 := Lib.hid hk
          clear hf hr hk F3 R3 K3
          rcases hj with ⟨rfl, hdj⟩ | ⟨rfl, hdj⟩ | ⟨rfl, hdj⟩
          · cases ok0 with
            | false =>
              have HDJ : Hid (done' = done ++ ways0 way false K0) := Lib.hid (by rw [hdj]; simp [ways0])
              clear hdj
              go_wp2_with (go_at_call 53; refine (HC0.out _ HP2.out HN2.out).mono ?_; rintro e w4 ⟨rfl, hB4⟩)
              go_roundw
              case measure => simp [intOf]
              case rel => exact ⟨_, _, done', .inr (.inl ⟨by first | rfl | go_num, HDJ.out⟩), hdd, HF2.out.past hB4, own_below HRo2.out hB4, HK2.out.trans (.below hB4), Nat.le_trans hs' hB4.size⟩
            | true =>
              have HDJ : Hid (done' ++ (waysK K0).map ((way ++ [0]) ++ ·) = done ++ ways0 way true K0) := Lib.hid (by rw [hdj]; simp [ways0])
              clear hdj
              go_upto_if 62 with (first
              | (go_at_call 53; refine (HC0.out _ HP2.out HN2.out).mono ?_; rintro e w4 ⟨rfl, hB4⟩)
              | (go_at_call 90; refine (clone_row (own_below HRo2.out hB4) (by omega)).mono ?_; rintro e w5 ⟨v5, rfl, hown5, hB5⟩; have HO5 := Lib.hid hown5; clear hown5)
              | (at_builtin; (refine wpList_app_on (by first | rfl | decide | simp [Region.wanted, yielded]) (.tmp 56) (.tmp 58) _ rfl w4.heap.size 3 iI (.int .i64 0) 1 8 Tryd.underlying38 hiI hzI hzI1 hzI2 rfl (by decide) _ way.length _ rfl (World.ownsRow.alloc HO5.out _) _ _ 1 1 [.int .i64 0] rfl (Sl.lit (sz := 1) _ #[.int .i64 0] 3 1 rfl) (by simp [Value.oneCell']) (by simp only [maxLen]; omega) (by omega) (by have := hB5.size; simp; omega) ?_); intro v6 w6 hown6 hg6 _; have HB6 : Hid (Below w4.heap.size w4 w6) := Lib.hid (below_app (hB5.alloc hB5.size _) (World.ownsRow.alloc HO5.out _) hg6 (by have := hB5.size; simp; omega) (Nat.le_refl _)); have HB46 : Hid (Below wr.heap.size wr w6) := Lib.hid (hB4.trans (HB6.out.mono hB4.size)); have HO6 : Hid (RowI w6 w0.heap.size v6 (way ++ [0])) := Lib.hid (by unfold RowI; rw [List.length_append, List.map_append]; exact own_more hown6 (Nat.le_trans HF2.out.bel.size hB4.size)); clear hown6 hg6)
              | (go_at_call 63; refine (HIH.out (szK K0) (by omega) K0 (Nat.le_refl _) i0 (way ++ [0]) v6 _ _ _ w6 HRpK0.out (HF2.out.past HB46.out) HO6.out hdd (by simp; omega)).mono ?_; rintro e w7 ⟨r7, rfl, hk7, hs7, hres⟩; have HRES := Lib.hid hres; have HK7 := Lib.hid hk7; clear hres hk7))

              rcases HRES.out with ⟨rfl, hN, fv2, vs2, hfs2⟩ | ⟨rfl, hN, hbb⟩
              · rw [HDJ.out] at hN hfs2
                have HF7 := Lib.hid hfs2
                clear hfs2 HRES
                go_wp2_with fail
                go_roundw
                case measure => simp [intOf]
                case rel => exact ⟨_, _, done ++ ways0 way true K0, .inr (.inl ⟨by first | rfl | go_num, rfl⟩), hN, HF7.out, HK7.out _ _ _ (own_below HRo2.out HB46.out), (HK2.out.trans (.below HB46.out)).trans HK7.out, by have := HB46.out.size; omega⟩
              · rw [HDJ.out] at hN
                have HBB := Lib.hid hbb
                clear hbb HRES
                go_wp2_with fail
                go_ret
                exact ⟨false, rfl, (HK2.out.trans (.below HB46.out)).trans HK7.out, by have := HB46.out.size; omega, .inr ⟨rfl, by rw [HNE.out]; simp only [List.length_append] at hN ⊢; omega, HBB.out⟩⟩
          · have HDJ : Hid (done' ++ (waysK K1).map ((way ++ [1]) ++ ·) = done ++ ways0 way ok0 K0 ++ ways1 way K1) := Lib.hid (by rw [hdj]; rfl)
            clear hdj
            go_upto_if 62 with (first
            | (go_at_call 53; refine (HC1.out _ HP2.out HN2.out).mono ?_; rintro e w4 ⟨rfl, hB4⟩)
            | (go_at_call 90; refine (clone_row (own_below HRo2.out hB4) (by omega)).mono ?_; rintro e w5 ⟨v5, rfl, hown5, hB5⟩; have HO5 := Lib.hid hown5; clear hown5)
            | (at_builtin; (refine wpList_app_on (by first | rfl | decide | simp [Region.wanted, yielded]) (.tmp 56) (.tmp 58) _ rfl w4.heap.size 3 iI (.int .i64 0) 1 8 Tryd.underlying38 hiI hzI hzI1 hzI2 rfl (by decide) _ way.length _ rfl (World.ownsRow.alloc HO5.out _) _ _ 1 1 [.int .i64 1] rfl (Sl.lit (sz := 1) _ #[.int .i64 1] 3 1 rfl) (by simp [Value.oneCell']) (by simp only [maxLen]; omega) (by omega) (by have := hB5.size; simp; omega) ?_); intro v6 w6 hown6 hg6 _; have HB6 : Hid (Below w4.heap.size w4 w6) := Lib.hid (below_app (hB5.alloc hB5.size _) (World.ownsRow.alloc HO5.out _) hg6 (by have := hB5.size; simp; omega) (Nat.le_refl _)); have HB46 : Hid (Below wr.heap.size wr w6) := Lib.hid (hB4.trans (HB6.out.mono hB4.size)); have HO6 : Hid (RowI w6 w0.heap.size v6 (way ++ [1])) := Lib.hid (by unfold RowI; rw [List.length_append, List.map_append]; exact own_more hown6 (Nat.le_trans HF2.out.bel.size hB4.size)); clear hown6 hg6)
            | (go_at_call 63; refine (HIH.out (szK K1) (by omega) K1 (Nat.le_refl _) i1 (way ++ [1]) v6 _ _ _ w6 HRpK1.out (HF2.out.past HB46.out) HO6.out hdd (by simp; omega)).mono ?_; rintro e w7 ⟨r7, rfl, hk7, hs7, hres⟩; have HRES := Lib.hid hres; have HK7 := Lib.hid hk7; clear hres hk7))
            rcases HRES.out with ⟨rfl, hN, fv2, vs2, hfs2⟩ | ⟨rfl, hN, hbb⟩
            · rw [HDJ.out] at hN hfs2
              have HF7 := Lib.hid hfs2
              clear hfs2 HRES
              go_wp2_with fail
              go_roundw
              case measure => simp [intOf]
              case rel => exact ⟨_, _, done ++ ways0 way ok0 K0 ++ ways1 way K1, .inr (.inr ⟨by first | rfl | go_num, rfl⟩), hN, HF7.out, HK7.out _ _ _ (own_below HRo2.out HB46.out), (HK2.out.trans (.below HB46.out)).trans HK7.out, by have := HB46.out.size; omega⟩
            · rw [HDJ.out] at hN
              have HBB := Lib.hid hbb
              clear hbb HRES
              go_wp2_with fail
              go_ret
              exact ⟨false, rfl, (HK2.out.trans (.below HB46.out)).trans HK7.out, by have := HB46.out.size; omega, .inr ⟨rfl, by rw [HNE.out]; simp only [List.length_append] at hN ⊢; omega, HBB.out⟩⟩
          · have HDJ := Lib.hid hdj
            clear hdj
            go_wp2_with fail
            go_ret
            exact ⟨true, rfl, HK2.out, hs', .inl ⟨rfl, by rw [HNE.out, ← HDJ.out]; exact hdd, by rw [HNE.out, ← HDJ.out]; exact ⟨_, _, HF2.out⟩⟩⟩
      · obtain ⟨txt, nx, K2, ⟨hr2, hs2, hw2⟩, hpc⟩ := piece_go (gp := gp) (A := A) (c := c) HD.out HR.out hlt ⟨fun h => hop (.inl h), fun h => hop (.inr h)⟩
        have HPC := Lib.hid hpc; have HR2 := Lib.hid hr2; have HW2 := Lib.hid hw2
        have HML : Hid (leftOf l nx < leftOf l q) := Lib.hid (by rw [leftOf_eq HR.out, leftOf_eq hr2]; exact hs2)
        clear hpc hr2 hw2 hop
        go_wp2_with (go_at_call 52; refine (HPC.out _ HP1.out HN1.out).mono ?_; rintro e w3 ⟨rfl, hB3⟩)
        go_roundw
        case measure => simpa [intOf] using HML.out
        case rel => exact ⟨nx, K2, by go_num, HR2.out, by omega, by rw [← HWK.out, HW2.out], HF.out.past hB3, own_below HRo.out hB3, HK.out.trans (.below hB3), Nat.le_trans hs hB3.size⟩
    · have k1 : decide (q < l.length) = false := decide_eq_false hlt
      have k2 : decide ((q : Int) < (l.length : Int)) = false := decide_eq_false (by omega)
      obtain ⟨rfl, rfl⟩ := HR.out.ge (by omega)
      have HNE : Hid (done ++ (waysK K).map (way ++ ·) = done ++ [way]) := Lib.hid (by rw [← HWK.out]; simp [waysK])
      obtain ⟨A1, c1, hfv⟩ := own_slice HF.out.row
      subst hfv
      have HS1 := HF.out
      go_wp2_with (
        at_builtin
        refine wpList_app _ rfl (.tmp 68) (.tmp 70) _ rfl w0.heap.size 38 iS (.slice none 0 0) 1 24 Tryd.underlying63 hiS hzS hzS1 hzS2 rfl (by decide) _ done.length _ rfl (World.ownsRow.alloc HF.out.row _) _ _ 1 1 [.slice WA way.length WC] rfl (Sl.lit (sz := 1) _ #[.slice WA way.length WC] 38 1 rfl) (by simp [Value.oneCell']) (by simp only [maxLen]; omega) (by omega) (by have := HF.out.bel.size; simp; omega) ?_
        intro v7 w7 hown7 hg7 _
        obtain ⟨A7, c7, hv7⟩ := own_slice hown7
        subst hv7
        have FA := Lib.hid (FS.app (HF.out.past ((Below.refl _ _).alloc (Nat.le_refl _) _)) hown7 hg7 (World.ownsRow.alloc HRo.out _))
        have hsz7 := hg7.size
        obtain ⟨y1, y2⟩ := (HF.out.past ((Below.refl _ _).alloc (Nat.le_refl _) _)).mid hg7
        clear hown7 hg7)
      go_ret
      obtain ⟨g1, g2⟩ := FA.out
      refine ⟨_, rfl, HK.out.trans ((KeepI.below ((Below.refl _ _).alloc (Nat.le_refl _) _)).trans g2), by simp [World.setCell] at hsz7 ⊢; omega, ?_⟩
      rw [HNE.out]
      by_cases h3 : done.length + 1 ≤ 300
      · exact .inl ⟨decide_eq_true (by omega), by simp; omega, _, _, g1⟩
      · exact .inr ⟨decide_eq_false (by omega), by simp; omega, g1.bel⟩

theorem find_any {l : List Nd} {x : D} (hd : Doc l x) (gp : Nat) {A : Option Addr} {c : Nat} (w0 : World) (hpl : IsPlan w0 gp A c l) (hnl : Nds w0 w0.heap.size A l) (gf : Nat) (z : Nat) : FindSaid l gp w0 gf z := by
  induction z using Nat.strongRecOn with
  | ind z ih => exact find_step hd gp w0 hpl hnl gf z ih
end Go.Proofs.YtddfdmopaeghnabDoor
