/- Walks: way.All (over way.Of's contract), pargetrysame.Ways. Conditions: what comes in lies below the call's own blocks. -/
import Derived.Test.YtddfdmopaeghnabDoorFindW
import Derived.Test.YtddfdmopaeghnabDoorRowsI
import Derived.Test.YtddfdmopaeghnabDoorInts0
import Derived.Test.YtddfdmopaeghnabDoorShowQ
import Derived.Deep.RegionWith
namespace Go.Proofs.YtddfdmopaeghnabDoor
open Go.RowKit

theorem rowsI_of {w : World} {B : Nat} {v : Value} {vs : List Value} {done : List (List Int)} (h : w.ownsRow B 38 1 v done.length vs) (ho : Outs w B vs done) (hm : done.length ≤ maxLen) (hu : ∀ u ∈ done, u.length ≤ maxLen) : ∃ A c, v = .slice A done.length c ∧ done.length ≤ c ∧ RowsI w w.heap.size A done := by
  obtain ⟨A, c, rfl⟩ := own_slice h
  refine ⟨A, c, rfl, own_cap h, ⟨vs, .of_own h, fun j v hv => ?_⟩, hm⟩
  have hj : j < vs.length := (List.getElem?_eq_some_iff.1 hv).1
  obtain ⟨u, hu2⟩ : ∃ u, done[j]? = some u := ⟨_, List.getElem?_eq_getElem (by rw [← ho.1]; exact hj)⟩
  have hr := ho.2 j v u hv hu2
  obtain ⟨Aj, cj, rfl⟩ := hr.form
  exact ⟨Aj, cj, u, hu2, rfl, own_cap hr, NumsI.own hr rfl (hu u (List.mem_of_getElem? hu2))⟩

theorem FS.new (w : World) (gp : Nat) : FS w w.heap.size gp (.slice none 0 0) [] [] (w.alloc (.cells #[.pointer (some ⟨gp, 0, none⟩), .slice none 0 0] 125)) :=
  ⟨heap_new rfl, Nat.le_refl _, World.ownsRow_nil _ _ _ _, ⟨rfl, by simp⟩, (Below.refl _ _).alloc (Nat.le_refl _) _⟩

/-- What All returns at a doc that may be. -/
def AllTo (l : List (List Int)) (w : World) (e : Ending) (w' : World) : Prop := Below w.heap.size w w' ∧
  ((l.length ≤ 300 ∧ ∃ A c, e = .returned (.tuple #[.slice A l.length c, .nilIface]) ∧ RowsI w' w'.heap.size A l) ∨ (300 < l.length ∧ e = .returned (.tuple #[.slice none 0 0, .iface 24 (.int .i64 3)])))

theorem D.way_len {x : D} {u : List Int} (h : u ∈ x.ways) : u.length ≤ x.sz := by
  obtain ⟨s, hs⟩ := D.lay_way (dp := 0) h
  have := D.lay_len hs
  simpa using this

set_option maxRecDepth 100000 in
set_option maxHeartbeats 2000000 in
theorem all_good (hof : OfSaid) {l : List Nd} {x : D} (hd : Doc l x) (A : Option Addr) (n c : Nat) (hn : l.length = n) (w : World) (hl : Nds w w.heap.size A l) :
    Calls Tryd.prog 31 #[.slice A n c] w (AllTo x.ways w) := by
  subst hn
  have HC := Lib.hid (check_any l A c w hl)
  rw [hd.check, ← errV_zero rfl] at HC
  have h400 := hd.len
  have hsx : l.length = x.sz := by rw [hd.enc, D.len_enc]
  have HSX := Lib.hid hsx
  have HOF := Lib.hid hof
  have HN := Lib.hid hl; have HD := Lib.hid hd
  clear hl hd hof hsx
  go_enter Tryd.func31, Tryd.ntmps31
  go_upto_if 17 with (first
    | (go_at_call 24; refine HC.out.mono ?_; rintro e w1 ⟨rfl, hB1⟩)
    | (go_at_call 51; refine (HOF.out l x A c _ (HN.out.past hB1) HD.out).mono ?_; rintro e w2 ⟨gp, rfl, hgp, hpl, hB2⟩; have HPL := Lib.hid hpl; clear hpl)
    | (go_at_call 63; refine (find_any HD.out gp w2 HPL.out ((HN.out.past hB1).past hB2) w2.heap.size (szK [(x, 0)]) [(x, 0)] (Nat.le_refl _) 0 [] (.slice none 0 0) _ _ [] _ HD.out.rep0 (FS.new w2 gp) (World.ownsRow_nil _ _ _ _) (by simp) (by simp only [szK, List.length_nil]; have := HSX.out; omega)).mono ?_; rintro e w3 ⟨r, rfl, hk, hs, hres⟩; rw [waysK_one] at hres; have HRES := Lib.hid hres; clear hres hk))
  have HNN : Hid (([] : List (List Int)) ++ x.ways.map ([] ++ ·) = x.ways) := Lib.hid (by simp)
  have HB12 : Hid (Below w.heap.size w w2) := Lib.hid (hB1.trans (hB2.mono hB1.size))
  rcases HRES.out with ⟨rfl, hN, fv, vs, hf⟩ | ⟨rfl, hN, hb⟩
  · rw [HNN.out] at hN hf
    have HF := Lib.hid hf
    have x1 := hf.c1
    clear hf HRES
    obtain ⟨A3, c3, hfv, hc3, hri⟩ := rowsI_of HF.out.row HF.out.outs (by simp only [maxLen]; omega) (fun u hu => by have := D.way_len hu; have := HSX.out; simp only [maxLen]; omega)
    subst hfv
    have HRI := Lib.hid hri
    clear hri
    go_wp2_with fail
    go_ret2
    exact ⟨HB12.out.trans (HF.out.bel.mono HB12.out.size), .inl ⟨hN, _, _, rfl, HRI.out⟩⟩
  · rw [HNN.out] at hN
    have HBB := Lib.hid hb
    clear hb HRES
    go_wp2_with fail
    go_ret2
    exact ⟨HB12.out.trans (HBB.out.mono HB12.out.size), .inr ⟨hN, rfl⟩⟩

set_option maxHeartbeats 1000000 in
theorem all_bad (l : List Nd) (A : Option Addr) (n c : Nat) (hn : l.length = n) (w : World) (hl : Nds w w.heap.size A l) (he : checkF l ≠ 0) :
    Calls Tryd.prog 31 #[.slice A n c] w (Ret w (.tuple #[.slice none 0 0, .iface 24 (.int .i64 (checkF l))])) := by
  subst hn
  have HC := Lib.hid (check_any l A c w hl)
  rw [← errV_pos he] at HC
  generalize checkF l = q at *
  clear he hl
  go_enter Tryd.func31, Tryd.ntmps31
  go_wp2_with (go_at_call 24; refine HC.out.mono ?_; rintro e w1 ⟨rfl, hB1⟩)
  go_ret2
  exact ⟨rfl, (by repeat (first | exact Below.refl _ _ | assumption | apply Below.drew | refine below_drewN ?_ _ | apply Below.setCell _ (by first | omega | (simp; done) | (simp; omega)) | apply Below.alloc _ (by first | omega | (simp; done) | (simp; omega))))⟩

set_option maxHeartbeats 1000000 in
theorem ways_any (a b : List (List Int)) (n m : Nat) (e1 : a.length = n) (e2 : b.length = m) (A B : Option Addr) (c d : Nat) (w : World) (ha : RowsI w w.heap.size A a) (hb : RowsI w w.heap.size B b) :
    Calls Tryd.prog 32 #[.slice A n c, .slice B m d] w (Ret w (.bool (decide (a = b)))) := by
  have hm := ha.le
  have hm2 := hb.le
  unfold maxLen at hm hm2
  have HA := Lib.hid ha; clear ha
  have HB := Lib.hid hb; clear hb
  by_cases hnm : n = m
  · subst hnm
    go_enter Tryd.func32, Tryd.ntmps32
    go_wp2_with fail
    go_loopw [5] (fun i wr => ∃ k : Nat, k ≤ n ∧ i = .int .i64 k ∧ a.take k = b.take k ∧ Below w.heap.size w wr) (fun i _ => n - (intOf i).toNat)
    case atStart => exact ⟨0, by omega, rfl, rfl, Below.refl _ _⟩
    case round =>
      obtain ⟨k, hk, rfl, ht, hBw⟩ := hrel
      have HT := Lib.hid ht; clear ht
      by_cases hlt : k < n
      · obtain ⟨b1, off, Aj, cj, u, rfl, hu, d1, _, hn1⟩ := HA.out.one hBw (k := k) (by omega)
        obtain ⟨b2, off2, Bj, dj, v, rfl, hv, d4, _, hn2⟩ := HB.out.one hBw (k := k) (by omega)
        obtain ⟨hka, hua⟩ := List.getElem?_eq_some_iff.1 hu
        obtain ⟨hkb, hvb⟩ := List.getElem?_eq_some_iff.1 hv
        have HI := Lib.hid (fun (w' : World) (hb : Below wr.heap.size wr w') => ints_any u v u.length v.length rfl rfl Aj Bj cj dj w' (hn1.past hb) (hn2.past hb))
        by_cases huv : u = v
        · have HT2 : Hid (a.take (k + 1) = b.take (k + 1)) := Lib.hid (by rw [List.take_succ_eq_append_getElem hka, List.take_succ_eq_append_getElem hkb, HT.out, hua, hvb, huv])
          rw [decide_eq_true huv] at HI
          clear huv hua hvb hu hv hn1 hn2
          go_wp2_with fail
          go_region_with (go_at_call 20; refine (HI.out _ (by repeat (first | exact Below.refl _ _ | assumption | apply Below.drew | refine below_drewN ?_ _ | apply Below.setCell _ (by first | omega | (simp; done) | (simp; omega)) | apply Below.alloc _ (by first | omega | (simp; done) | (simp; omega))))).mono ?_; rintro e w2 ⟨rfl, hB2⟩)
          all_goals
            go_wp2_with fail
            go_roundw
            case rel => exact ⟨k + 1, by omega, by go_num, HT2.out, hBw.trans ((Below.trans (by repeat (first | exact Below.refl _ _ | assumption | apply Below.drew | refine below_drewN ?_ _ | apply Below.setCell _ (by first | omega | (simp; done) | (simp; omega)) | apply Below.alloc _ (by first | omega | (simp; done) | (simp; omega)))) (hB2.mono (by first | exact Nat.le_refl _ | (simp; done)))).mono hBw.size)⟩
            case measure => simp [intOf]; omega
        · have HS : Hid (decide (a = b) = false) := Lib.hid (decide_eq_false (fun e => huv (by subst e; rw [← hua, ← hvb])))
          rw [decide_eq_false huv] at HI
          clear huv hua hvb hu hv hn1 hn2
          go_wp2_with fail
          go_region_with (go_at_call 20; refine (HI.out _ (by repeat (first | exact Below.refl _ _ | assumption | apply Below.drew | refine below_drewN ?_ _ | apply Below.setCell _ (by first | omega | (simp; done) | (simp; omega)) | apply Below.alloc _ (by first | omega | (simp; done) | (simp; omega))))).mono ?_; rintro e w2 ⟨rfl, hB2⟩)
          all_goals
            go_wp2_with fail
            go_ret
            exact ⟨by rw [HS.out]; rfl, hBw.trans ((Below.trans (by repeat (first | exact Below.refl _ _ | assumption | apply Below.drew | refine below_drewN ?_ _ | apply Below.setCell _ (by first | omega | (simp; done) | (simp; omega)) | apply Below.alloc _ (by first | omega | (simp; done) | (simp; omega)))) (hB2.mono (by first | exact Nat.le_refl _ | (simp; done)))).mono hBw.size)⟩
      · have HS : Hid (decide (a = b) = true) := Lib.hid (decide_eq_true (by have := HT.out; rwa [List.take_of_length_le (by omega), List.take_of_length_le (by omega)] at this))
        go_wp2_with fail
        go_ret
        exact ⟨by rw [HS.out]; rfl, hBw⟩
  · have HS : Hid (decide (a = b) = false) := Lib.hid (decide_eq_false (fun e => hnm (by rw [← e1, ← e2, e])))
    have k1 : decide (n = m) = false := decide_eq_false hnm
    have k2 : decide ((n : Int) = (m : Int)) = false := decide_eq_false (by omega)
    go_enter Tryd.func32, Tryd.ntmps32
    go_wp2_with fail
    go_ret
    exact ⟨by rw [HS.out]; rfl, Below.refl _ _⟩
end Go.Proofs.YtddfdmopaeghnabDoor
