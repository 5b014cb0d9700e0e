/- Walks: syn.Bound; lay's word, op, both, group, deep. Conditions: the slices lie below the call's own blocks, no text is over-long, not more than 10000 nodes. -/
import Derived.Test.YtddfdmopaeghnacGreatDoorCatW
import Derived.Test.YtddfdmopaeghnacGreatDoorMkP
namespace Go.Proofs.YtddfdmopaeghnacGreatDoor
open Go.RowKit

def trV (op n : Int) (t : ByteArray) : Value := .agg #[.int .i64 op, .string t, .int .i64 n]

set_option maxHeartbeats 1000000 in
theorem bound_any (po pn ko kn : Int) (pt kt : ByteArray) (sec : Bool) (w : World) :
    Calls Tryz.prog 179 #[.agg #[.int .i64 po, .string pt, .int .i64 pn], .agg #[.int .i64 ko, .string kt, .int .i64 kn], .bool sec] w (Ret w (.bool (boundF po ko sec))) := by
  by_cases h6 : po = 6
  · subst h6
    by_cases k5 : ko = 5
    · subst k5
      rw [show boundF 6 5 sec = true by cases sec <;> rfl]
      go_enter Tryz.func179, Tryz.ntmps179
      go_wp2
      go_ret
      exact ⟨rfl, (by repeat (first | exact Below.refl _ _ | assumption | apply Below.drew | refine below_drewN ?_ _ | apply Below.setCell _ (by first | omega | (simp; done) | (simp; omega)) | apply Below.alloc _ (by first | omega | (simp; done) | (simp; omega))))⟩
    · have k5b : (ko == 5) = false := by simpa using k5
      by_cases k6 : ko = 6
      · subst k6
        rw [show boundF 6 6 sec = sec by cases sec <;> rfl]
        cases sec
        · go_enter Tryz.func179, Tryz.ntmps179
          go_wp2
          go_ret
          exact ⟨rfl, (by repeat (first | exact Below.refl _ _ | assumption | apply Below.drew | refine below_drewN ?_ _ | apply Below.setCell _ (by first | omega | (simp; done) | (simp; omega)) | apply Below.alloc _ (by first | omega | (simp; done) | (simp; omega))))⟩
        · go_enter Tryz.func179, Tryz.ntmps179
          go_wp2
          go_ret
          exact ⟨rfl, (by repeat (first | exact Below.refl _ _ | assumption | apply Below.drew | refine below_drewN ?_ _ | apply Below.setCell _ (by first | omega | (simp; done) | (simp; omega)) | apply Below.alloc _ (by first | omega | (simp; done) | (simp; omega))))⟩
      · have k6b : (ko == 6) = false := by simpa using k6
        rw [show boundF 6 ko sec = false by simp [boundF, k5, k6]]
        clear k5 k6
        cases sec
        · go_enter Tryz.func179, Tryz.ntmps179
          go_wp2
          go_ret
          exact ⟨rfl, (by repeat (first | exact Below.refl _ _ | assumption | apply Below.drew | refine below_drewN ?_ _ | apply Below.setCell _ (by first | omega | (simp; done) | (simp; omega)) | apply Below.alloc _ (by first | omega | (simp; done) | (simp; omega))))⟩
        · go_enter Tryz.func179, Tryz.ntmps179
          go_wp2
          go_ret
          exact ⟨rfl, (by repeat (first | exact Below.refl _ _ | assumption | apply Below.drew | refine below_drewN ?_ _ | apply Below.setCell _ (by first | omega | (simp; done) | (simp; omega)) | apply Below.alloc _ (by first | omega | (simp; done) | (simp; omega))))⟩
  · by_cases h5 : po = 5
    · subst h5
      by_cases k5 : ko = 5
      · subst k5
        rw [show boundF 5 5 sec = sec by cases sec <;> rfl]
        cases sec
        · go_enter Tryz.func179, Tryz.ntmps179
          go_wp2
          go_ret
          exact ⟨rfl, (by repeat (first | exact Below.refl _ _ | assumption | apply Below.drew | refine below_drewN ?_ _ | apply Below.setCell _ (by first | omega | (simp; done) | (simp; omega)) | apply Below.alloc _ (by first | omega | (simp; done) | (simp; omega))))⟩
        · go_enter Tryz.func179, Tryz.ntmps179
          go_wp2
          go_ret
          exact ⟨rfl, (by repeat (first | exact Below.refl _ _ | assumption | apply Below.drew | refine below_drewN ?_ _ | apply Below.setCell _ (by first | omega | (simp; done) | (simp; omega)) | apply Below.alloc _ (by first | omega | (simp; done) | (simp; omega))))⟩
      · have k5b : (ko == 5) = false := by simpa using k5
        rw [show boundF 5 ko sec = false by simp [boundF, k5]]
        clear k5 h6
        cases sec
        · go_enter Tryz.func179, Tryz.ntmps179
          go_wp2
          go_ret
          exact ⟨rfl, (by repeat (first | exact Below.refl _ _ | assumption | apply Below.drew | refine below_drewN ?_ _ | apply Below.setCell _ (by first | omega | (simp; done) | (simp; omega)) | apply Below.alloc _ (by first | omega | (simp; done) | (simp; omega))))⟩
        · go_enter Tryz.func179, Tryz.ntmps179
          go_wp2
          go_ret
          exact ⟨rfl, (by repeat (first | exact Below.refl _ _ | assumption | apply Below.drew | refine below_drewN ?_ _ | apply Below.setCell _ (by first | omega | (simp; done) | (simp; omega)) | apply Below.alloc _ (by first | omega | (simp; done) | (simp; omega))))⟩
    · have h5b : (po == 5) = false := by simpa using h5
      have h6b : (po == 6) = false := by simpa using h6
      rw [show boundF po ko sec = false by simp [boundF, h5, h6]]
      clear h5 h6
      go_enter Tryz.func179, Tryz.ntmps179
      go_wp2
      go_ret
      exact ⟨rfl, (by repeat (first | exact Below.refl _ _ | assumption | apply Below.drew | refine below_drewN ?_ _ | apply Below.setCell _ (by first | omega | (simp; done) | (simp; omega)) | apply Below.alloc _ (by first | omega | (simp; done) | (simp; omega))))⟩

theorem opN_len (k : Int) : (opN k).length = 1 := rfl
theorem wordN_len (s : ByteArray) : (wordN s).length = 1 := rfl
theorem bothN_len (a b : List Nd) : (bothN a b).length = a.length + b.length + 1 := by simp [bothN]
theorem groupN_len (a : List Nd) : (groupN a).length = a.length + 1 := by simp [groupN]
theorem deepN_len (a : List Nd) : (deepN a).length = a.length + 1 := by simp [deepN]

set_option maxHeartbeats 1000000 in
theorem lword_any (s : ByteArray) (hs : s.size ≤ maxLen) (w : World) : Calls Tryz.prog 80 #[.string s] w (NdTo (wordN s) w) := by
  have HL := Lib.hid (NdF.lit w ⟨1, s, 0⟩ hs)
  clear hs
  go_enter Tryz.func80, Tryz.ntmps80
  go_wp2
  go_ret
  exact ⟨_, _, rfl, HL.out, (by repeat (first | exact Below.refl _ _ | assumption | apply Below.drew | refine below_drewN ?_ _ | apply Below.setCell _ (by first | omega | (simp; done) | (simp; omega)) | apply Below.alloc _ (by first | omega | (simp; done) | (simp; omega))))⟩
set_option maxHeartbeats 1000000 in
theorem lop_any (k : Int) (w : World) : Calls Tryz.prog 86 #[.int .i64 k] w (NdTo (opN k) w) := by
  have HL := Lib.hid (NdF.lit w ⟨k, .empty, 0⟩ (by simp [maxLen]))
  go_enter Tryz.func86, Tryz.ntmps86
  go_wp2
  go_ret
  exact ⟨_, _, rfl, HL.out, (by repeat (first | exact Below.refl _ _ | assumption | apply Below.drew | refine below_drewN ?_ _ | apply Below.setCell _ (by first | omega | (simp; done) | (simp; omega)) | apply Below.alloc _ (by first | omega | (simp; done) | (simp; omega))))⟩
set_option maxHeartbeats 1000000 in
theorem lboth_any (a b : List Nd) (A B : Option Addr) (c d : Nat) (w : World) (ha : Nds w w.heap.size A a) (hb : Nds w w.heap.size B b) (hsz : a.length + b.length ≤ 10000) :
    Calls Tryz.prog 85 #[.slice A a.length c, .slice B b.length d] w (NdTo (bothN a b) w) := by
  have HA := Lib.hid ha; have HB := Lib.hid hb; clear ha hb
  have hbl := bothN_len a b
  have hd : opN 6 ++ (a ++ b) = bothN a b := rfl
  have HD := Lib.hid hd; have HBL := Lib.hid hbl; clear hd hbl
  generalize hn1 : a.length = n1 at *
  generalize hn2 : b.length = n2 at *
  have HN1 := Lib.hid hn1; have HN2 := Lib.hid hn2; clear hn1 hn2
  go_enter Tryz.func85, Tryz.ntmps85
  go_wp2_with (first
    | (go_at_call 86; refine (lop_any 6 w).mono ?_; rintro e w1 ⟨A1, c1, rfl, hn1, hB1⟩; have H1 := Lib.hid hn1.1; clear hn1)
    | (go_at_call 139; refine (ndcat3 H1.out (HA.out.past hB1) (HB.out.past hB1) rfl HN1.out HN2.out rfl HD.out (by rw [HBL.out]; omega) (by rw [HBL.out]; omega)).mono ?_; rintro e w2 ⟨A2, c2, rfl, hn2, hB2⟩))
  go_ret
  exact ⟨A2, c2, rfl, hn2.less hB1.size, hB1.trans (hB2.mono hB1.size)⟩
set_option maxHeartbeats 1000000 in
theorem lgroup_any (a : List Nd) (A : Option Addr) (c : Nat) (w : World) (ha : Nds w w.heap.size A a) (hsz : a.length ≤ 10000) :
    Calls Tryz.prog 87 #[.slice A a.length c] w (NdTo (groupN a) w) := by
  have HA := Lib.hid ha; clear ha
  have hd : opN 8 ++ a = groupN a := rfl
  have HD := Lib.hid hd; have HBL := Lib.hid (groupN_len a); clear hd
  generalize hn1 : a.length = n1 at *
  have HN1 := Lib.hid hn1; clear hn1
  go_enter Tryz.func87, Tryz.ntmps87
  go_wp2_with (first
    | (go_at_call 86; refine (lop_any 8 w).mono ?_; rintro e w1 ⟨A1, c1, rfl, hn1, hB1⟩; have H1 := Lib.hid hn1.1; clear hn1)
    | (go_at_call 139; refine (ndcat2 H1.out (HA.out.past hB1) rfl HN1.out rfl HD.out (by rw [HBL.out]; omega) (by rw [HBL.out]; omega)).mono ?_; rintro e w2 ⟨A2, c2, rfl, hn2, hB2⟩))
  go_ret
  exact ⟨A2, c2, rfl, hn2.less hB1.size, hB1.trans (hB2.mono hB1.size)⟩
set_option maxRecDepth 100000 in
set_option maxHeartbeats 1000000 in
theorem ldeep_any (a : List Nd) (A : Option Addr) (c : Nat) (w : World) (ha : Nds w w.heap.size A a) (hsz : a.length ≤ 10000) :
    Calls Tryz.prog 84 #[.slice A a.length c] w (NdTo (deepN a) w) := by
  have HA := Lib.hid ha; clear ha
  have hd : [(⟨7, .empty, 2⟩ : Nd)] ++ a = deepN a := rfl
  have HD := Lib.hid hd; have HBL := Lib.hid (deepN_len a); clear hd
  generalize hn1 : a.length = n1 at *
  have HN1 := Lib.hid hn1; clear hn1
  have hl : NdF w.heap.size (w.alloc (.cells #[.int .i64 7, .string .empty, .int .i64 2] 157)) (some ⟨w.heap.size, 0, none⟩) [⟨7, .empty, 2⟩] := NdF.lit w ⟨7, .empty, 2⟩ (by simp [maxLen])
  have HL := Lib.hid hl.1
  have HA2 := Lib.hid (HA.out.past ((Below.refl w.heap.size w).alloc (Nat.le_refl _) (.cells #[.int .i64 7, .string .empty, .int .i64 2] 157)))
  clear hl
  go_enter Tryz.func84, Tryz.ntmps84
  go_wp2_with (go_at_call 139; refine (ndcat2 HL.out HA2.out rfl HN1.out (by simp) HD.out (by rw [HBL.out]; omega) (by rw [HBL.out]; omega)).mono ?_; rintro e w2 ⟨A2, c2, rfl, hn2, hB2⟩)
  go_ret
  exact ⟨A2, c2, rfl, hn2.less (by simp), Below.trans (by repeat (first | exact Below.refl _ _ | assumption | apply Below.drew | refine below_drewN ?_ _ | apply Below.setCell _ (by first | omega | (simp; done) | (simp; omega)) | apply Below.alloc _ (by first | omega | (simp; done) | (simp; omega)))) (hB2.mono (by simp))⟩
end Go.Proofs.YtddfdmopaeghnacGreatDoor
