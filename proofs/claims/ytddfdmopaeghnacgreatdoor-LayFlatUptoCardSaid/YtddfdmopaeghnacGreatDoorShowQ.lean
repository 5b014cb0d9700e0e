/- way.Show by its law's own words: what is shown, what is not (over way.Of's contract); small facts for the laws' walks. Conditions: the slices lie below the call's own blocks. -/
import Derived.Test.YtddfdmopaeghnacGreatDoorShowW
import Derived.Test.YtddfdmopaeghnacGreatDoorPartsP
import Derived.Test.YtddfdmopaeghnacGreatDoorNdS
namespace Go.Proofs.YtddfdmopaeghnacGreatDoor
open Go.RowKit

theorem show_ok (hof : OfSaid) {l : List Nd} {x : D} {ws : List Int} {s : ByteArray} (h : Shown l x ws s) (A : Option Addr) (n c : Nat) (hn : l.length = n) (M : Option Addr) (m cm : Nat) (hm : ws.length = m) (hcm : m ≤ cm) (w : World) (hl : Nds w w.heap.size A l) (hM : NumsI w w.heap.size M ws) :
    Calls Tryz.prog 16 #[.slice A n c, .slice M m cm] w (Ret w (.tuple #[.string s, .nilIface])) :=
  (show_good hof h.doc A n c hn ws M m cm hm hcm w hl hM h.bits).mono fun _ _ ⟨he, hb⟩ => by
    have : showD x ws = .ok s := by unfold showD; rw [h.lay]
    rw [this] at he
    exact ⟨he, hb⟩
theorem show_no (hof : OfSaid) {l : List Nd} {ws : List Int} {q : Int} (h : showF l ws = .error q) (A : Option Addr) (n c : Nat) (hn : l.length = n) (M : Option Addr) (m cm : Nat) (hm : ws.length = m) (hcm : m ≤ cm) (w : World) (hl : Nds w w.heap.size A l) (hM : NumsI w w.heap.size M ws) :
    Calls Tryz.prog 16 #[.slice A n c, .slice M m cm] w (Ret w (.tuple #[.string .empty, .iface 43 (.int .i64 q)])) := by
  unfold showF at h
  by_cases he : checkF l = 0
  · rw [if_neg (by simp [he])] at h
    by_cases hb : badBit ws = true
    · rw [if_pos hb] at h
      cases h
      exact (show_bit l A n c hn ws M m cm hm w hl hM he hb).mono fun _ _ ⟨a, b⟩ => ⟨a, b⟩
    · rw [if_neg hb] at h
      obtain ⟨x, hd⟩ := Doc.of_check he
      rw [hd.root] at h
      exact (show_good hof hd A n c hn ws M m cm hm hcm w hl hM (by simpa using hb)).mono fun _ _ ⟨a, b⟩ => by
        rw [h] at a
        exact ⟨a, b⟩
  · rw [if_pos he] at h
    cases h
    exact (show_bad l A n c hn M m cm w hl he).mono fun _ _ ⟨a, b⟩ => ⟨a, b⟩

def ndL : Nd := ⟨4, .empty, 0⟩
def ndD (n : Int) : Nd := ⟨7, .empty, n⟩
theorem Doc.tog {a b : List Nd} {x y : D} (ha : Doc a x) (hb : Doc b y) (hl : a.length + b.length < 400) : Doc (nd6 :: (a ++ b)) (.bin nd6 x y) :=
  ⟨⟨rfl, ha.ok, hb.ok⟩, by rw [D.enc, ha.enc, hb.enc], fun d hd => by
    rcases List.mem_cons.1 hd with rfl | hd
    · decide +kernel
    · rcases List.mem_append.1 hd with hd | hd
      · exact ha.one _ hd
      · exact hb.one _ hd, by simp; omega⟩
theorem Doc.dp {a : List Nd} {x : D} (ha : Doc a x) {n : Int} (h0 : 0 ≤ n) (h8 : n ≤ 8) (hl : a.length + 1 ≤ 400) : Doc (ndD n :: a) (.un (ndD n) x) :=
  ⟨⟨rfl, ha.ok⟩, by rw [D.enc, ha.enc], fun d hd => by
    rcases List.mem_cons.1 hd with rfl | hd
    · simp [oneF, ndD]; omega
    · exact ha.one _ hd, by simp; omega⟩
theorem Doc.leafL : Doc [ndL] (.leaf ndL) := ⟨rfl, rfl, by simp; decide +kernel, by simp⟩
end Go.Proofs.YtddfdmopaeghnacGreatDoor
