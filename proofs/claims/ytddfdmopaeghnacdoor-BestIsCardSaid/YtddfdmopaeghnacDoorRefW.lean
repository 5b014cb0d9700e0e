/- Walks of the reference's Parts, EndOf. Condition: the slice of nodes lies below the call's own blocks. -/
import Derived.Test.YtddfdmopaeghnacDoorDocW
import Derived.Test.YtddfdmopaeghnacDoorRefP
namespace Go.Proofs.YtddfdmopaeghnacDoor
open Go.RowKit

set_option maxHeartbeats 1000000 in
theorem refParts_any (op : Int) (w : World) : Calls Tryd.prog 39 #[.int .i64 op] w fun e w' => e = .returned (.int .i64 (parts op)) ∧ w = w' := by
  go_enter Tryd.func39, Tryd.ntmps39
  go_wp2
  all_goals go_ret
  all_goals simp_all [parts]

def opV : Option Nat → Int | some c => c | none => -1
def runE (l : List Nd) (f : Nat) : Nat → Option Nat → Option Nat
  | 0, v => v
  | _ + 1, none => none
  | m + 1, some c => runE l f m (eoF l f c)

theorem eoF_run {l : List Nd} {f i p : Nat} {op n : Int} {t : ByteArray} (hi : i < l.length) (hd : l[i] = Nd.mk op t n) (hp : parts op = p) : eoF l (f + 1) i = runE l f p (some (i + 1)) := by
  have hg : l.getD i ⟨0, .empty, 0⟩ = Nd.mk op t n := by simp [hi, hd]
  have hb := parts_bd op
  simp only [eoF, hg, hp]
  rw [if_neg (by omega)]
  match p, hp with
  | 0, _ => rw [if_neg (by decide), if_neg (by decide)]; rfl
  | 1, _ => rw [if_neg (by decide), if_pos (by decide)]; rfl
  | 2, _ =>
    rw [if_pos (by decide)]
    simp only [runE]
    cases eoF l f (i + 1) <;> rfl
  | p + 3, _ => omega

set_option maxHeartbeats 1000000 in
theorem endof_any (l : List Nd) (A : Option Addr) (c : Nat) (w : World) (hl : Nds w w.heap.size A l) : ∀ f i : Nat, l.length ≤ i + f → i ≤ l.length →
    Calls Tryd.prog 17 #[.slice A l.length c, .int .i64 i] w fun e w' => e = .returned (.int .i64 (opV (eoF l f i))) ∧ w = w' := by
  have hm := hl.2.1
  unfold maxLen at hm
  have HN := Lib.hid hl; clear hl
  have out : ∀ f i : Nat, l.length ≤ i → i ≤ l.length → Calls Tryd.prog 17 #[.slice A l.length c, .int .i64 i] w fun e w' => e = .returned (.int .i64 (opV (eoF l f i))) ∧ w = w' := by
    intro f i h1 h2
    have he : opV (eoF l f i) = -1 := by
      cases f with
      | zero => rfl
      | succ f => simp [eoF, h1, opV]
    rw [he]
    go_enter Tryd.func17, Tryd.ntmps17
    go_wp2
    go_ret
    exact ⟨rfl, rfl⟩
  intro f
  induction f with
  | zero => intro i h1 h2; exact out 0 i (by omega) h2
  | succ f ih =>
    intro i h1 h2
    by_cases hi : l.length ≤ i
    · exact out _ i hi h2
    · clear out
      have hi' : i < l.length := by omega
      obtain ⟨b, off, op, t, n, rfl, hb, hd, hts, d1, d2, d3⟩ := HN.out.node (Below.refl _ _) hi'
      obtain ⟨p, hp⟩ : ∃ p : Nat, parts op = p := ⟨(parts op).toNat, by have := parts_bd op; omega⟩
      have hpb := parts_bd op
      have HR := Lib.hid (eoF_run (f := f) hi' hd hp)
      rw [HR.out]
      have HI := Lib.hid ih; clear ih hd
      go_enter Tryd.func17, Tryd.ntmps17
      go_wp2_with (go_at_call 39; refine (refParts_any _ _).mono ?_; rintro e w1 ⟨rfl, rfl⟩; rw [hp])
      go_loop [1, 5] (fun v n => ∃ (m : Nat) (o : Option Nat), v = .int .i64 (opV o) ∧ n = .int .i64 m ∧ m ≤ 2 ∧ (∀ k, o = some k → i < k ∧ k ≤ l.length) ∧ runE l f p (some (i + 1)) = runE l f m o) (fun _ n => (intOf n).toNat)
      case atStart => exact ⟨p, some (i + 1), by simp [opV], rfl, by omega, fun k hk => by cases hk; omega, rfl⟩
      case round =>
        obtain ⟨m, o, rfl, rfl, hm2, hk, hr⟩ := hrel
        have HK := Lib.hid hr; clear hr
        match m, o, HK with
        | 0, o, HK =>
          go_wp2
          go_ret
          exact ⟨by rw [HK.out]; rfl, rfl⟩
        | m + 1, none, HK =>
          simp only [opV]
          go_wp2
          go_ret
          exact ⟨by rw [HK.out]; rfl, rfl⟩
        | m + 1, some k, HK =>
          have hkb := hk k rfl
          simp only [opV]
          have HC := Lib.hid (HI.out k (by omega) hkb.2)
          go_wp2_with (go_at_call 17; refine HC.out.mono ?_; rintro e w1 ⟨rfl, rfl⟩)
          go_round
          case rel => exact ⟨m, eoF l f k, rfl, by go_num, by omega, fun j hj => by have := eoF_gt hj; omega, by rw [HK.out]; rfl⟩
          case measure => simp [intOf]

theorem Nds.drew {w : World} {A : Option Addr} {l : List Nd} (h : Nds w w.heap.size A l) : Nds w.drew w.drew.heap.size A l := h

theorem opV_endV (l : List Nd) (i : Nat) : opV (eoF l (l.length - i) i) = endV l i := by
  unfold endV; cases eoF l (l.length - i) i <;> rfl

theorem endof_V (l : List Nd) (A : Option Addr) (c : Nat) (w : World) (hl : Nds w w.heap.size A l) {i : Nat} {v : Int} (hv : (i : Int) = v) (hi : i ≤ l.length) :
    Calls Tryd.prog 17 #[.slice A l.length c, .int .i64 v] w fun e w' => e = .returned (.int .i64 (endV l i)) ∧ w = w' := by
  have h := endof_any l A c w hl (l.length - i) i (by omega) hi
  rw [opV_endV, hv] at h
  exact h
end Go.Proofs.YtddfdmopaeghnacDoor
