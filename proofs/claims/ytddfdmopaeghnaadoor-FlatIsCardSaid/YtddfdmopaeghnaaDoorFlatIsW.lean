/- Walk of the law FlatIs: true, whatever the nodes. Conditions: the slice lies below the call's own blocks; errors.errorType holds the type error's handle. -/
import Derived.Test.YtddfdmopaeghnaaDoorRefF
import Derived.Test.YtddfdmopaeghnaaDoorRefC
import Derived.Test.YtddfdmopaeghnaaDoorFlatC
import Derived.Test.YtddfdmopaeghnaaDoorTold
namespace Go.Proofs.YtddfdmopaeghnaaDoor
open Go.RowKit

theorem ErrT.past {w w' : World} (h : ErrT w) (hs : 0 + 1 ≤ w.heap.size) (hb : Below w.heap.size w w') : ErrT w' :=
  (hb.cell (p := ⟨0, 0, none⟩) (Nat.lt_of_lt_of_le (by decide) hs)).trans h
theorem Below.next {a b c : World} (h : Below a.heap.size a b) (h2 : Below b.heap.size b c) : Below a.heap.size a c := h.trans (h2.mono h.size)
theorem ErrT.drew {w : World} (h : ErrT w) : ErrT w.drew := h

theorem error_nil (w : World) (hg : ErrT w) (hs : 0 + 1 ≤ w.heap.size) : Calls Tryd.prog 15 #[.nilIface, .int .i64 0] w (Ret w (.bool true)) := by
  have h := same_error 0 0 w hg hs
  rw [← errV_zero rfl] at h
  exact h
theorem error_same (k : Int) (hk : k ≠ 0) (w : World) (hg : ErrT w) (hs : 0 + 1 ≤ w.heap.size) : Calls Tryd.prog 15 #[.iface 33 (.int .i64 k), .int .i64 k] w (Ret w (.bool true)) := by
  have h := same_error k k w hg hs
  rw [← errV_pos hk, beq_self_eq_true] at h
  exact h

set_option maxHeartbeats 1000000 in
theorem long_ok {l : List Nd} {x : D} (hd : Doc l x) {s : ByteArray} {b : Bool} (hf : lineOf x.flat = (s, b)) (A : Option Addr) (c : Nat) (w : World) (hl : Nds w w.heap.size A l) :
    Calls Tryd.prog 16 #[.slice A l.length c] w (Ret w (.tuple #[.int .i64 s.size, .bool b, .nilIface])) := by
  have HC := Lib.hid (flat_ok hd hf l.length rfl A c w hl)
  clear hd hf hl
  go_enter Tryd.func16, Tryd.ntmps16
  go_wp2_with (go_at_call 14; refine HC.out.mono ?_; rintro e w1 ⟨rfl, hB1⟩)
  go_ret3
  exact ⟨rfl, (by repeat (first | exact Below.refl _ _ | assumption | apply Below.drew | refine below_drewN ?_ _ | apply Below.setCell _ (by first | omega | (simp; done) | (simp; omega)) | apply Below.alloc _ (by first | omega | (simp; done) | (simp; omega))))⟩
set_option maxHeartbeats 1000000 in
theorem long_bad {l : List Nd} (he : checkF l ≠ 0) (A : Option Addr) (c : Nat) (w : World) (hl : Nds w w.heap.size A l) :
    Calls Tryd.prog 16 #[.slice A l.length c] w (Ret w (.tuple #[.int .i64 0, .bool false, .iface 33 (.int .i64 (checkF l))])) := by
  have HC := Lib.hid (flat_bad he l.length rfl A c w hl)
  generalize checkF l = k at HC ⊢
  clear he hl
  go_enter Tryd.func16, Tryd.ntmps16
  go_wp2_with (go_at_call 14; refine HC.out.mono ?_; rintro e w1 ⟨rfl, hB1⟩)
  go_ret3
  exact ⟨rfl, (by repeat (first | exact Below.refl _ _ | assumption | apply Below.drew | refine below_drewN ?_ _ | apply Below.setCell _ (by first | omega | (simp; done) | (simp; omega)) | apply Below.alloc _ (by first | omega | (simp; done) | (simp; omega))))⟩

set_option maxHeartbeats 2000000 in
theorem flatIs_any (l : List Nd) (A : Option Addr) (c : Nat) (w : World) (hl : Nds w w.heap.size A l) (hg : ErrT w) (hs : 0 + 1 ≤ w.heap.size) :
    Calls Tryd.prog 4 #[.slice A l.length c] w (Ret w (.bool true)) := by
  have hm := hl.2.1
  unfold maxLen at hm
  have HF := Lib.hid (docfault_any l A c w hl)
  by_cases he : checkF l = 0
  · obtain ⟨x, hd⟩ := Doc.of_check he
    rw [he] at HF
    obtain ⟨s, b, hf⟩ : ∃ s b, lineOf x.flat = (s, b) := ⟨_, _, rfl⟩
    have hsb : b = false → s = .empty := by
      intro h; cases hx : x.flat <;> rw [hx] at hf <;> simp [lineOf] at hf
      · exact hf.1.symm
      · rw [h] at hf; simp at hf
    have hlen : s.size ≤ 8000 := by
      have h := hd.flat_len hd.pos
      have h4 := hd.len
      have h5 := hd.root
      rw [lineAt, h5, hf] at h
      have h6 : l.length = x.sz := by rw [hd.enc, D.len_enc]
      simp only at h
      omega
    have HO : Hid (∀ w', Nds w' w'.heap.size A l → Calls Tryd.prog 13 #[.slice A l.length c, .int .i64 0] w' (Ret w' (.tuple #[.string s, .bool b]))) := Lib.hid (by
      intro w' hw
      have h := flatof_any hd A c l.length 0 0 w' hw rfl hd.pos (by omega)
      rw [lineAt, hd.root, hf] at h
      exact h)
    have HL := Lib.hid (fun w' hw => flat_ok hd hf l.length rfl A c w' hw)
    have HG := Lib.hid (fun w' hw => long_ok hd hf A c w' hw)
    have HN := Lib.hid hl; clear hl
    have HT := Lib.hid hg; clear hg
    clear hf hd he
    cases b with
    | true =>
      clear hsb
      go_enter Tryd.func4, Tryd.ntmps4
      go_wp2_with (first
        | (go_at_call 12; refine HF.out.mono ?_; rintro e w1 ⟨rfl, hB1⟩; have HN1 := Lib.hid (HN.out.past hB1); have HT1 := Lib.hid (HT.out.past hs hB1); have hs1 := Nat.le_trans hs hB1.size)
        | (go_at_call 13; refine (HO.out _ HN1.out).mono ?_; rintro e w2 ⟨rfl, hB2⟩; have HN2 := Lib.hid (HN1.out.past hB2); have HT2 := Lib.hid (HT1.out.past hs1 hB2); have hs2 := Nat.le_trans hs1 hB2.size)
        | (go_at_call 14; refine (HL.out _ HN2.out).mono ?_; rintro e w3 ⟨rfl, hB3⟩; have HN3 := Lib.hid (HN2.out.past hB3); have HT3 := Lib.hid (HT2.out.past hs2 hB3); have hs3 := Nat.le_trans hs2 hB3.size)
        | (go_at_call 15; (fail_if_success have hz := hB5); (fail_if_success have hz := hB4); refine (error_nil _ HT3.out hs3).mono ?_; rintro e w4 ⟨rfl, hB4⟩; have HN4 := Lib.hid (HN3.out.past hB4); have HT4 := Lib.hid (HT3.out.past hs3 hB4); have hs4 := Nat.le_trans hs3 hB4.size)
        | (go_at_call 16; refine (HG.out _ HN4.out).mono ?_; rintro e w5 ⟨rfl, hB5⟩; have HN5 := Lib.hid (HN4.out.past hB5); have HT5 := Lib.hid (HT4.out.past hs4 hB5); have hs5 := Nat.le_trans hs4 hB5.size)
        | (go_at_call 15; refine (error_nil _ HT5.out hs5).mono ?_; rintro e w6 ⟨rfl, hB6⟩))
      go_ret
      exact ⟨rfl, Below.next (Below.next (Below.next (Below.next (Below.next hB1 hB2) hB3) hB4) hB5) hB6⟩
    | false =>
      obtain rfl := hsb rfl
      clear hsb
      go_enter Tryd.func4, Tryd.ntmps4
      go_wp2_with (first
        | (go_at_call 12; refine HF.out.mono ?_; rintro e w1 ⟨rfl, hB1⟩; have HN1 := Lib.hid (HN.out.past hB1); have HT1 := Lib.hid (HT.out.past hs hB1); have hs1 := Nat.le_trans hs hB1.size)
        | (go_at_call 13; refine (HO.out _ HN1.out).mono ?_; rintro e w2 ⟨rfl, hB2⟩; have HN2 := Lib.hid (HN1.out.past hB2); have HT2 := Lib.hid (HT1.out.past hs1 hB2); have hs2 := Nat.le_trans hs1 hB2.size)
        | (go_at_call 14; refine (HL.out _ HN2.out).mono ?_; rintro e w3 ⟨rfl, hB3⟩; have HN3 := Lib.hid (HN2.out.past hB3); have HT3 := Lib.hid (HT2.out.past hs2 hB3); have hs3 := Nat.le_trans hs2 hB3.size)
        | (go_at_call 15; (fail_if_success have hz := hB5); (fail_if_success have hz := hB4); refine (error_nil _ HT3.out hs3).mono ?_; rintro e w4 ⟨rfl, hB4⟩; have HN4 := Lib.hid (HN3.out.past hB4); have HT4 := Lib.hid (HT3.out.past hs3 hB4); have hs4 := Nat.le_trans hs3 hB4.size)
        | (go_at_call 16; refine (HG.out _ HN4.out).mono ?_; rintro e w5 ⟨rfl, hB5⟩; have HN5 := Lib.hid (HN4.out.past hB5); have HT5 := Lib.hid (HT4.out.past hs4 hB5); have hs5 := Nat.le_trans hs4 hB5.size)
        | (go_at_call 15; refine (error_nil _ HT5.out hs5).mono ?_; rintro e w6 ⟨rfl, hB6⟩))
      go_ret
      exact ⟨rfl, Below.next (Below.next (Below.next (Below.next (Below.next hB1 hB2) hB3) hB4) hB5) hB6⟩
  · have HL := Lib.hid (fun w' hw => flat_bad he l.length rfl A c w' hw)
    have HG := Lib.hid (fun w' hw => long_bad he A c w' hw)
    generalize checkF l = k at *
    have HN := Lib.hid hl; clear hl
    have HT := Lib.hid hg; clear hg
    have h0 : (k == 0) = false := by simpa using he
    have HK := Lib.hid he; clear he
    go_enter Tryd.func4, Tryd.ntmps4
    go_wp2_with (first
      | (go_at_call 12; refine HF.out.mono ?_; rintro e w1 ⟨rfl, hB1⟩; have HN1 := Lib.hid (HN.out.past hB1); have HT1 := Lib.hid (HT.out.past hs hB1); have hs1 := Nat.le_trans hs hB1.size)
      | (go_at_call 14; refine (HL.out _ HN1.out).mono ?_; rintro e w3 ⟨rfl, hB3⟩; have HN3 := Lib.hid (HN1.out.past hB3); have HT3 := Lib.hid (HT1.out.past hs1 hB3); have hs3 := Nat.le_trans hs1 hB3.size)
      | (go_at_call 15; (fail_if_success have hz := hB4); refine (error_same k HK.out _ HT3.out hs3).mono ?_; rintro e w4 ⟨rfl, hB4⟩; have HN4 := Lib.hid (HN3.out.past hB4); have HT4 := Lib.hid (HT3.out.past hs3 hB4); have hs4 := Nat.le_trans hs3 hB4.size)
      | (go_at_call 16; refine (HG.out _ HN4.out).mono ?_; rintro e w5 ⟨rfl, hB5⟩; have HN5 := Lib.hid (HN4.out.past hB5); have HT5 := Lib.hid (HT4.out.past hs4 hB5); have hs5 := Nat.le_trans hs4 hB5.size)
      | (go_at_call 15; refine (error_same k HK.out _ HT5.out hs5).mono ?_; rintro e w6 ⟨rfl, hB6⟩))
    go_ret
    exact ⟨rfl, Below.next (Below.next (Below.next (Below.next hB1 hB3) hB4) hB5) hB6⟩
end Go.Proofs.YtddfdmopaeghnaaDoor
