/- Walks: the reference's lower, IsName, Kids, EndOf, NoteWords, WordsFault. Conditions: a slice lies below the call's own blocks; EndOf: each node has at most six kids. -/
import Derived.Test.YtddfdmopaeghnacGreatDoorTreeC
import Derived.Test.YtddfdmopaeghnacGreatDoorTRefP
namespace Go.Proofs.YtddfdmopaeghnacGreatDoor
open Go.RowKit

theorem own_sliceT {w : World} {base : Nat} {e : TypeId} {size n : Nat} {v : Value} {xs : List Value} (h : w.ownsRow base e size v n xs) : ∃ A c, v = .slice A n c := by
  rcases h.2 with ⟨rfl, rfl⟩ | ⟨g, cap, cur, rfl, _⟩
  · exact ⟨none, 0, rfl⟩
  · exact ⟨_, cap, rfl⟩
theorem str_infoT : (Tryz.prog.info? 9).map (fun i => (i.zero, i.size, i.bytes)) = some (some (.string .empty), 1, 16) := by kernel_rfl

set_option maxHeartbeats 400000 in
theorem lowerT_is {c : UInt8} {b : Bool} (h : lowC c = b) (w : World) : Calls Tryz.prog 99 #[.int .u8 (c.toNat : Int)] w fun e w' => e = .returned (.bool b) ∧ w = w' := by
  have hc := c.toNat_lt
  unfold lowC at h
  generalize hn : c.toNat = n at *
  clear hn
  have hcs : n < 97 ∨ 122 < n ∨ (97 ≤ n ∧ n ≤ 122) := by omega
  rcases hcs with h1 | h1 | ⟨h1, h2⟩
  · have hb : b = false := by rw [← h]; simp; omega
    subst hb; clear h
    go_enter Tryz.func99, Tryz.ntmps99
    go_wp2
    go_ret
    exact ⟨by first | rfl | (simp; done) | (simp; omega), rfl⟩
  · have hb : b = false := by rw [← h]; simp; omega
    have h3 : 97 ≤ n := by omega
    subst hb; clear h
    go_enter Tryz.func99, Tryz.ntmps99
    go_wp2
    go_ret
    exact ⟨by first | rfl | (simp; done) | (simp; omega), rfl⟩
  · have hb : b = true := by rw [← h]; simp; omega
    subst hb; clear h
    go_enter Tryz.func99, Tryz.ntmps99
    go_wp2
    go_ret
    exact ⟨by first | rfl | (simp; done) | (simp; omega), rfl⟩

theorem sizeT {t : ByteArray} : (t.toList.isEmpty = true) ↔ t.size < 1 := by
  rw [ByteArray.toList_eq]
  have h : t.data.toList.length = t.size := by simp
  cases hl : t.data.toList with
  | nil => rw [hl] at h; exact ⟨fun _ => by simp only [List.length_nil] at h; omega, fun _ => rfl⟩
  | cons a r => rw [hl] at h; exact ⟨fun h' => by (cases h'), fun h' => by simp only [List.length_cons] at h; omega⟩
set_option maxHeartbeats 1000000 in
theorem isName_any (s : ByteArray) (w : World) (hs : s.size ≤ maxLen) :
    Calls Tryz.prog 60 #[.string s] w fun e w' => e = .returned (.bool (nameF s)) ∧ w = w' := by
  unfold maxLen at hs
  by_cases he : s.size < 1
  · have hw : nameF s = false := by simp [nameF, sizeT.2 he]
    rw [hw]
    go_enter Tryz.func60, Tryz.ntmps60
    go_wp2
    go_ret
    exact ⟨rfl, rfl⟩
  · have he2 : s.toList.isEmpty = false := by
      cases h : s.toList.isEmpty with
      | false => rfl
      | true => exact absurd (sizeT.1 h) he
    by_cases h20 : 8 < s.size
    · have hw : nameF s = false := by
        have hd : decide (s.size ≤ 8) = false := by simp; omega
        rw [nameF, hd]; simp
      rw [hw]
      go_enter Tryz.func60, Tryz.ntmps60
      go_wp2
      go_ret
      exact ⟨rfl, rfl⟩
    · cases hl : (s.toList == [108, 101, 116]) with
      | true =>
        have hw : nameF s = false := by simp [nameF, hl]
        rw [hw]
        go_enter Tryz.func60, Tryz.ntmps60
        go_wp2
        go_ret
        exact ⟨rfl, rfl⟩
      | false =>
        have hw : nameF s = s.data.toList.all lowC := by
          have hd : decide (s.size ≤ 8) = true := by simp; omega
          rw [nameF, hd, he2, hl]; simp
        have HW := Lib.hid hw; clear hw he2
        go_enter Tryz.func60, Tryz.ntmps60
        go_wp2
        go_loop [3, 4] (fun i _ => ∃ k : Nat, k ≤ s.size ∧ i = .int .i64 k ∧ (s.data.toList.take k).all lowC = true) (fun i _ => s.size - (intOf i).toNat)
        case atStart => exact ⟨0, Nat.zero_le _, rfl, rfl⟩
        case round =>
          obtain ⟨k, hk, rfl, ha⟩ := hrel
          have HA := Lib.hid ha; clear ha
          by_cases hlt : k < s.size
          · cases hb : lowC s[k] with
            | true =>
              have HC := Lib.hid (fun w' => lowerT_is hb w')
              have HG := Lib.hid (all_more HA.out hlt hb); clear hb
              go_wp2_with (go_at_call 99; refine (HC.out _).mono ?_; rintro e w' ⟨rfl, rfl⟩)
              go_round
              case rel => exact ⟨k + 1, by omega, by go_num, HG.out⟩
              case measure => simp [intOf]; omega
            | false =>
              have HC := Lib.hid (fun w' => lowerT_is hb w')
              have HG := Lib.hid (all_no hlt hb); clear hb
              go_wp2_with (go_at_call 99; refine (HC.out _).mono ?_; rintro e w' ⟨rfl, rfl⟩)
              go_ret
              exact ⟨by rw [HW.out, HG.out]; rfl, rfl⟩
          · go_wp2
            go_ret
            exact ⟨by rw [HW.out, all_yes HA.out (by omega)]; rfl, rfl⟩

set_option maxHeartbeats 1000000 in
theorem kidsR_any (op n : Int) (t : ByteArray) (w : World) : Calls Tryz.prog 100 #[.agg #[.int .i64 op, .string t, .int .i64 n]] w (Ret w (.int .i64 (manyF op n))) := by
  go_enter Tryz.func100, Tryz.ntmps100
  go_wp2
  all_goals go_ret
  all_goals refine ⟨?_, (by repeat (first | exact Below.refl _ _ | assumption | apply Below.drew | refine below_drewN ?_ _ | apply Below.setCell _ (by first | omega | (simp; done) | (simp; omega)) | apply Below.alloc _ (by first | omega | (simp; done) | (simp; omega))))⟩
  all_goals simp_all [manyF]
  all_goals omega

set_option maxHeartbeats 2000000 in
theorem endT_any (l : List Nd) (A : Option Addr) (c : Nat) (hg : ∀ d ∈ l, treeOne d.op d.text d.n = 0) : ∀ (f i : Nat) (w : World), Nds w w.heap.size A l → l.length ≤ i + f → i ≤ l.length →
    Calls Tryz.prog 61 #[.slice A l.length c, .int .i64 i] w (Ret w (.int .i64 (opT (eoT l f i)))) := by
  have out : ∀ (f i : Nat) (w : World), l.length ≤ maxLen → l.length ≤ i → i ≤ l.length → Calls Tryz.prog 61 #[.slice A l.length c, .int .i64 i] w (Ret w (.int .i64 (opT (eoT l f i)))) := by
    intro f i w hm h1 h2
    unfold maxLen at hm
    have he : opT (eoT l f i) = -1 := by
      cases f with
      | zero => rfl
      | succ f => simp [eoT, h1, opT]
    rw [he]
    go_enter Tryz.func61, Tryz.ntmps61
    go_wp2
    go_ret
    exact ⟨rfl, Below.refl _ _⟩
  intro f
  induction f with
  | zero => intro i w hl h1 h2; exact out 0 i w hl.2.1 (by omega) h2
  | succ f ih =>
    intro i w hl h1 h2
    by_cases hi : l.length ≤ i
    · exact out _ i w hl.2.1 hi h2
    · clear out
      have hm := hl.2.1
      unfold maxLen at hm
      have hi' : i < l.length := by omega
      have HN := Lib.hid hl; clear hl
      obtain ⟨b, off, op, t, n, rfl, hb, hd, hts, d1, d2, d3⟩ := HN.out.node (Below.refl _ _) hi'
      have hone : treeOne op t n = 0 := by have h := hg _ (List.getElem_mem hi'); rw [hd] at h; exact h
      have hbd := manyF_bd hone
      obtain ⟨p, hp⟩ : ∃ p : Nat, manyF op n = p := ⟨(manyF op n).toNat, by omega⟩
      have hma : (manyL l).getD i 0 = p := by rw [manyL_at hi' hd, hp]; rfl
      have HR : Hid (eoT l (f + 1) i = runT (eoT l f) p (some (i + 1))) := Lib.hid (by rw [eoT, if_neg hi, hma])
      rw [HR.out]
      have HI := Lib.hid ih; have HBD := Lib.hid (fun (j k : Nat) h1 h2 h => eoT_bd (l := l) (f := f) (i := j) (c := k) h1 h2 h)
      have HK := Lib.hid (kidsR_any op n t)
      rw [hp] at HK
      have hp6 : p ≤ 6 := by omega
      clear ih hd hone hbd hma hg hp
      go_enter Tryz.func61, Tryz.ntmps61
      go_wp2_with (go_at_call 100; refine (HK.out _).mono ?_; rintro e w1 ⟨rfl, hB1⟩)
      go_loopw [1, 5] (fun v m wr => ∃ (q : Nat) (o : Option Nat), v = .int .i64 (opT o) ∧ m = .int .i64 q ∧ q ≤ 6 ∧ (∀ k, o = some k → i < k ∧ k ≤ l.length) ∧ runT (eoT l f) p (some (i + 1)) = runT (eoT l f) q o ∧ Below w.heap.size w wr) (fun _ m _ => (intOf m).toNat)
      case atStart => exact ⟨p, some (i + 1), by simp [opT], rfl, hp6, fun k hk => by cases hk; omega, rfl, hB1⟩
      case round =>
        obtain ⟨q, o, rfl, rfl, hq6, hk, hr, hB⟩ := hrel
        have HQ := Lib.hid hr; clear hr
        match q, o, HQ with
        | 0, o, HQ =>
          go_wp2
          go_ret
          exact ⟨by rw [HQ.out]; rfl, hB⟩
        | q + 1, none, HQ =>
          simp only [opT]
          go_wp2
          go_ret
          exact ⟨by rw [HQ.out]; rfl, hB⟩
        | q + 1, some k, HQ =>
          have hkb := hk k rfl
          simp only [opT]
          have HC := Lib.hid (HI.out k _ (HN.out.past hB) (by omega) hkb.2)
          go_wp2_with (go_at_call 61; refine HC.out.mono ?_; rintro e w1 ⟨rfl, hB2⟩)
          go_roundw
          case rel => exact ⟨q, eoT l f k, rfl, by go_num, by omega, fun j hj => by have := HBD.out k j (by omega) hkb.2 hj; omega, by rw [HQ.out]; rfl, hB.trans (hB2.mono hB.size)⟩
          case measure => simp [intOf]
end Go.Proofs.YtddfdmopaeghnacGreatDoor
