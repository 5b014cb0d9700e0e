/- Walk of the law's helper together: a node Both, and two docs behind it. Conditions: both slices lie below the call's own blocks and are short. -/
import Derived.Test.YtddfdmopaeghnaaDocW
namespace Go.Proofs.Ytddfdmopaeghnaa
open Go.RowKit

def nd6 : Nd := ⟨6, .empty, 0⟩

theorem node_info : (Try.prog.info? 32).map (fun i => (i.zero, i.size, i.bytes)) = some (some (.agg #[.int .i64 0, .string .empty, .int .i64 0]), 3, 32) := by kernel_rfl

theorem nd_one (l : List Nd) : ∀ u ∈ l.flatMap ndCells, u.oneCell' = true := by
  intro u hu
  obtain ⟨d, _, hd⟩ := List.mem_flatMap.1 hu
  simp [ndCells] at hd
  rcases hd with rfl | rfl | rfl <;> rfl

theorem Nds.own {w : World} {base n : Nat} {A : Option Addr} {c : Nat} {l : List Nd} (h : w.ownsRow base 32 3 (.slice A n c) n (l.flatMap ndCells)) (hn : n = l.length) (hm : l.length ≤ maxLen) (ht : ∀ d ∈ l, d.text.size ≤ maxLen) : Nds w w.heap.size A l := by
  subst hn
  exact ⟨.of_own h, hm, ht⟩

theorem own_slice {w : World} {base : Nat} {e : TypeId} {size n : Nat} {v : Value} {xs : List Value} (h : w.ownsRow base e size v n xs) : ∃ A c, v = .slice A n c := by
  rcases h.2 with ⟨rfl, rfl⟩ | ⟨g, cap, cur, rfl, _⟩
  · exact ⟨_, _, rfl⟩
  · exact ⟨_, _, rfl⟩

/-- The call returned a slice of n nodes that reads l. -/
def RetNds (w : World) (n : Nat) (l : List Nd) (e : Ending) (w' : World) : Prop := ∃ A c, e = .returned (.slice A n c) ∧ Nds w' w'.heap.size A l ∧ Below w.heap.size w w'

set_option maxHeartbeats 1000000 in
theorem together_any (a b : List Nd) (n m : Nat) (hn : a.length = n) (hm : b.length = m) (hs : n ≤ 1000) (hs' : m ≤ 1000) (A B : Option Addr) (c d : Nat) (w : World) (ha : Nds w w.heap.size A a) (hb : Nds w w.heap.size B b) :
    Calls Try.prog 10 #[.slice A n c, .slice B m d] w (RetNds w (1 + n + m) (nd6 :: (a ++ b))) := by
  subst hn hm
  obtain ⟨i0, hi0, hz0, hz1, hz2⟩ := info_parts node_info
  have HA := Lib.hid ha; have HB := Lib.hid hb; clear ha hb
  have hl0 := World.ownsRow_lit (base := w.heap.size) (e := 32) (size := 3) w #[.int .i64 6, .string .empty, .int .i64 0] 1 (Nat.le_refl _) (by simp [maxLen]) (by simp)
  have H0 := Lib.hid hl0; clear hl0
  go_enter Try.func10, Try.ntmps10
  go_wp2_with (first
    | (at_builtin
       refine wpList_app _ rfl (.tmp 8) (.tmp 9) _ rfl w.heap.size 32 i0 _ 3 32 Try.underlying25 hi0 hz0 hz1 hz2 rfl (by omega) _ 1 _ rfl H0.out _ A a.length c _ rfl ((HA.out.1).alloc _) (nd_one a) (by simp only [maxLen]; omega) (by omega) (by simp) ?_
       intro v1 w1 hown1 hg1 hat1
       have hB1 : Below w.heap.size w w1 := below_app ((Below.refl _ _).alloc (Nat.le_refl _) _) H0.out hg1 (by simp) (Nat.le_refl _)
       have H1 := Lib.hid hown1
       clear hown1 hg1 hat1)
    | (at_builtin
       refine wpList_app _ rfl (.tmp 11) (.tmp 12) _ rfl w.heap.size 32 i0 _ 3 32 Try.underlying25 hi0 hz0 hz1 hz2 rfl (by omega) v1 (1 + a.length) _ rfl H1.out _ B b.length d _ rfl (HB.out.past hB1).1 (nd_one b) (by simp only [maxLen]; omega) (by omega) hB1.size ?_
       intro v2 w2 hown2 hg2 hat2
       have hB2 : Below w.heap.size w w2 := below_app hB1 H1.out hg2 hB1.size (Nat.le_refl _)
       have H2 := Lib.hid hown2
       clear hown2 hg2 hat2))
  go_ret
  obtain ⟨A', c', hv⟩ := own_slice H2.out
  have ho := H2.out
  rw [hv] at ho
  refine ⟨A', c', by rw [← hv]; rfl, Nds.own (l := nd6 :: (a ++ b)) (by simpa [ndCells, nd6] using ho) (by simp; omega) (by simp [maxLen]; omega) ?_, hB2⟩
  intro x hx
  rcases List.mem_cons.1 hx with rfl | hx
  · simp [nd6, maxLen]
  · rcases List.mem_append.1 hx with hx | hx
    · exact HA.out.2.2 _ hx
    · exact HB.out.2.2 _ hx
/-- A literal slice of one node. -/
theorem Nds.lit1 (w : World) (d : Nd) (g : Nat) (hg : w.heap.size = g) (hd : d.text.size ≤ maxLen) :
    Nds (w.alloc (.cells #[.int .i64 d.op, .string d.text, .int .i64 d.n] 32)) (w.alloc (.cells #[.int .i64 d.op, .string d.text, .int .i64 d.n] 32)).heap.size (some ⟨g, 0, none⟩) [d] := by
  subst hg
  exact ⟨.lit w _ _ 1 rfl, by simp [maxLen], by simpa using hd⟩
theorem Nds.lit2 (w : World) (d d' : Nd) (g : Nat) (hg : w.heap.size = g) (hd : d.text.size ≤ maxLen) (hd' : d'.text.size ≤ maxLen) :
    Nds (w.alloc (.cells #[.int .i64 d.op, .string d.text, .int .i64 d.n, .int .i64 d'.op, .string d'.text, .int .i64 d'.n] 32)) (w.alloc (.cells #[.int .i64 d.op, .string d.text, .int .i64 d.n, .int .i64 d'.op, .string d'.text, .int .i64 d'.n] 32)).heap.size (some ⟨g, 0, none⟩) [d, d'] := by
  subst hg
  exact ⟨.lit w _ _ 2 rfl, by simp [maxLen], by simpa using ⟨hd, hd'⟩⟩
theorem Nds.alloc {w : World} {A : Option Addr} {l : List Nd} (h : Nds w w.heap.size A l) (o : Obj) : Nds (w.alloc o) (w.alloc o).heap.size A l := ⟨h.1.alloc o, h.2⟩
end Go.Proofs.Ytddfdmopaeghnaa
