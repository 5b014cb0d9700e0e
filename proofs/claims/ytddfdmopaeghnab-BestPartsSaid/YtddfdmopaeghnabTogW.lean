/- Walk of the law's helper together: a node Both, and two docs behind it. Conditions: both slices lie below the call's own blocks and are short. -/
import Derived.Test.YtddfdmopaeghnabNdS
namespace Go.Proofs.Ytddfdmopaeghnab
open Go.RowKit

/-- The call returned a slice of n nodes that reads l. -/
def RetNds (w : World) (n : Nat) (l : List Nd) (e : Ending) (w' : World) : Prop := ∃ A c, e = .returned (.slice A n c) ∧ Nds w' w'.heap.size A l ∧ Below w.heap.size w w'

set_option maxHeartbeats 1000000 in
theorem together_any (a b : List Nd) (n m : Nat) (hn : a.length = n) (hm : b.length = m) (hs : n ≤ 1000) (hs' : m ≤ 1000) (A B : Option Addr) (c d : Nat) (w : World) (ha : Nds w w.heap.size A a) (hb : Nds w w.heap.size B b) :
    Calls Try.prog 8 #[.slice A n c, .slice B m d] w (RetNds w (1 + n + m) (nd6 :: (a ++ b))) := by
  subst hn hm
  obtain ⟨i0, hi0, hz0, hz1, hz2⟩ := info_parts node_info
  have HA := Lib.hid ha; have HB := Lib.hid hb; clear ha hb
  have hl0 := World.ownsRow_lit (base := w.heap.size) (e := 31) (size := 3) w #[.int .i64 6, .string .empty, .int .i64 0] 1 (Nat.le_refl _) (by simp [maxLen]) (by simp)
  have H0 := Lib.hid hl0; clear hl0
  go_enter Try.func8, Try.ntmps8
  go_wp2_with (first
    | (at_builtin
       refine wpList_app _ rfl (.tmp 8) (.tmp 9) _ rfl w.heap.size 31 i0 _ 3 32 Try.underlying22 hi0 hz0 hz1 hz2 rfl (by omega) _ 1 _ rfl H0.out _ A a.length c _ rfl ((HA.out.1).alloc _) (nd_one a) (by simp only [maxLen]; omega) (by omega) (by simp) ?_
       intro v1 w1 hown1 hg1 hat1
       have hB1 : Below w.heap.size w w1 := below_app ((Below.refl _ _).alloc (Nat.le_refl _) _) H0.out hg1 (by simp) (Nat.le_refl _)
       have H1 := Lib.hid hown1
       clear hown1 hg1 hat1)
    | (at_builtin
       refine wpList_app _ rfl (.tmp 11) (.tmp 12) _ rfl w.heap.size 31 i0 _ 3 32 Try.underlying22 hi0 hz0 hz1 hz2 rfl (by omega) v1 (1 + a.length) _ rfl H1.out _ B b.length d _ rfl (HB.out.past hB1).1 (nd_one b) (by simp only [maxLen]; omega) (by omega) hB1.size ?_
       intro v2 w2 hown2 hg2 hat2
       have hB2 : Below w.heap.size w w2 := below_app hB1 H1.out hg2 hB1.size (Nat.le_refl _)
       have H2 := Lib.hid hown2
       clear hown2 hg2 hat2))
  go_ret
  obtain ⟨A', c', hv⟩ := own_slice H2.out
  have ho := H2.out
  rw [hv] at ho
  refine ⟨A', c', by rw [← hv]; rfl, Nds.own (l := nd6 :: (a ++ b)) (by simpa [ndCells, nd6] using ho) (by simp; omega) (by simp [maxLen]; omega) ?_, hB2⟩
  intro x hx
  rcases List.mem_cons.1 hx with rfl | hx
  · simp [nd6, maxLen]
  · rcases List.mem_append.1 hx with hx | hx
    · exact HA.out.2.2 _ hx
    · exact HB.out.2.2 _ hx
end Go.Proofs.Ytddfdmopaeghnab
