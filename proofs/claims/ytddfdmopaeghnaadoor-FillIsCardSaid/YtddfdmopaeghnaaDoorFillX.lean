/- Walks: fill.Ragged; the reference's WordsFault, Joined, badness, RaggedOf. Conditions: the slices lie below the call's own blocks; the words are few and short. -/
import Derived.Test.YtddfdmopaeghnaaDoorFillW
namespace Go.Proofs.YtddfdmopaeghnaaDoor
open Go.RowKit

/-- A slice of numbers. -/
def NumsI (w : World) (B : Nat) (A : Option Addr) (l : List Int) : Prop := Sl w B 1 A l.length (l.map (.int .i64)) ∧ l.length ≤ maxLen
theorem NumsI.one {w wr : World} {B : Nat} {A : Option Addr} {l : List Int} (h : NumsI w B A l) (hB : Below B w wr) {k : Nat} (hk : k < l.length) :
    ∃ b off v, A = some ⟨b, off, none⟩ ∧ b < B ∧ l[k] = v ∧ wr.cell? ⟨b, off + k, none⟩ = some (.int .i64 v) := by
  obtain ⟨b, off, u, h1, h2, h3, h4⟩ := h.1.one hk
  have hu : u = .int .i64 l[k] := by simp [hk] at h3; exact h3.symm
  subst hu
  exact ⟨b, off, l[k], h1, h2, rfl, (hB.cell (p := ⟨b, off + k, none⟩) h2).trans h4⟩
theorem NumsI.past {w w' : World} {A : Option Addr} {l : List Int} (h : NumsI w w.heap.size A l) (hb : Below w.heap.size w w') : NumsI w' w'.heap.size A l := ⟨h.1.past hb, h.2⟩

/-- 's[k:]' of texts. -/
theorem Txs.cut {w : World} {b off B : Nat} {l : List ByteArray} (h : Txs w B (some ⟨b, off, none⟩) l) (k : Nat) : Txs w B (some ⟨b, off + k, none⟩) (l.drop k) := by
  refine ⟨⟨by simp, fun hn => ?_⟩, by have := h.2.1; rw [List.length_drop]; omega, fun t ht => h.2.2 t (List.mem_of_mem_drop ht)⟩
  rw [List.length_drop] at hn
  obtain ⟨b', off', e, hb, hc⟩ := h.1.2 (by omega)
  cases e
  refine ⟨b, off + k, rfl, hb, fun j u hu => ?_⟩
  rw [Nat.add_assoc]
  exact hc (k + j) u (by rw [List.map_drop, List.getElem?_drop] at hu; exact hu)
theorem Txs.cut_if {w : World} {b off B : Nat} {l : List ByteArray} (h : Txs w B (some ⟨b, off, none⟩) l) {c : Nat} (k : Nat) (hc : l.length ≤ c) : Txs w B (if c = k then some ⟨b, off, none⟩ else some ⟨b, off + k, none⟩) (l.drop k) := by
  split
  · rename_i e
    have hn : l.drop k = [] := List.drop_eq_nil_of_le (by omega)
    rw [hn]
    exact ⟨⟨by simp, fun h => by simp at h⟩, by simp, fun t ht => by cases ht⟩
  · exact h.cut k
/-- 's[:k]' of texts. -/
theorem Txs.head {w : World} {A : Option Addr} {B : Nat} {l : List ByteArray} (h : Txs w B A l) {k : Nat} (hk : k ≤ l.length) : Txs w B A (l.take k) := by
  have hl : (l.take k).length = k := by rw [List.length_take]; omega
  refine ⟨?_, by have := h.2.1; omega, fun t ht => h.2.2 t (List.mem_of_mem_take ht)⟩
  have := h.1.head hk
  rw [Nat.mul_one, ← List.map_take] at this
  rw [hl]
  exact this

def RagTo (r : Option Int) (w : World) (e : Ending) (w' : World) : Prop := e = .returned (match r with | some s => .tuple #[.int .i64 s, .nilIface] | none => .tuple #[.int .i64 0, .iface 33 (.int .i64 2)]) ∧ Below w.heap.size w w'

theorem beq_dec (a b : Int) : (a == b) = decide (a = b) := by rw [Bool.eq_iff_iff]; simp

theorem ragged_step {width : Int} {l : List ByteArray} {many : List Int} {k j : Nat} {s : Int} (hk : k < many.length) (hv : many[k] = (j : Int)) (h1 : 1 ≤ j) (h2 : j ≤ l.length) :
    raggedW width l (many.drop k) s = raggedW width (l.drop j) (many.drop (k + 1)) (s + badW (longW (l.take j)) width ((j : Int) == (l.length : Int))) := by
  rw [List.drop_eq_getElem_cons hk, raggedW, hv, if_neg (by omega), beq_dec]
  simp only [Int.toNat_natCast]
theorem ragged_no {width : Int} {l : List ByteArray} {many : List Int} {k : Nat} {s v : Int} (hk : k < many.length) (hv : many[k] = v) (h : v < 1 ∨ (l.length : Int) < v) : raggedW width l (many.drop k) s = none := by
  rw [List.drop_eq_getElem_cons hk, raggedW, hv, if_pos h]
theorem ragged_end {width : Int} {l : List ByteArray} {many : List Int} {k : Nat} {s : Int} (hk : many.length ≤ k) : raggedW width l (many.drop k) s = if l.length = 0 then some s else none := by
  rw [List.drop_eq_nil_of_le hk, raggedW]
  by_cases h : l = []
  · rw [if_pos h, if_pos (by simp [h])]
  · rw [if_neg h, if_neg (by intro e; exact h (List.eq_nil_of_length_eq_zero e))]

set_option maxHeartbeats 2000000 in
theorem ragged_any (l : List ByteArray) (many : List Int) (A : Option Addr) (n c : Nat) (hn : l.length = n) (hcap : n ≤ c) (M : Option Addr) (m cm : Nat) (hm : many.length = m) (width : Int) (w : World)
    (hl : Txs w w.heap.size A l) (hM : NumsI w w.heap.size M many) (hf : Few width l) (he : checkedF l width = 0) :
    Calls Tryd.prog 24 #[.slice A n c, .slice M m cm, .int .i64 width] w (RagTo (raggedW width l many 0) w) := by
  have HC := Lib.hid (checked_any l A n c hn width w hl)
  rw [he, ← errV_zero rfl] at HC
  have hw1 := hf.lo
  have hw2 := hf.hi
  have hl60 := hf.len
  have hm63 := hM.2
  unfold maxLen at hm63
  subst hn hm
  have HL := Lib.hid hl; have HM := Lib.hid hM; have HF := Lib.hid hf
  clear hl hM hf he
  go_enter Tryd.func24, Tryd.ntmps24
  go_wp2_with (go_at_call 47; refine HC.out.mono ?_; rintro e w1 ⟨rfl, hB1⟩)
  have HL1 := Lib.hid (HL.out.past hB1)
  have HM1 := Lib.hid (HM.out.past hB1)
  clear HL HM HC
  go_loop [0, 9, 20] (fun ws s i => ∃ (k : Nat) (A' : Option Addr) (c' : Nat) (l' : List ByteArray) (sm : Int), k ≤ many.length ∧ i = .int .i64 k ∧ ws = .slice A' l'.length c' ∧ l'.length ≤ c' ∧ l'.length ≤ 60 ∧ s = .int .i64 sm ∧ Txs w1 w1.heap.size A' l' ∧ (∀ t ∈ l', t.size ≤ 20) ∧
    raggedW width l many 0 = raggedW width l' (many.drop k) sm ∧ 0 ≤ sm ∧ sm ≤ 1300000 * (60 - l'.length)) (fun _ _ i => many.length - (intOf i).toNat)
  case atStart => exact ⟨0, A, c, l, 0, by omega, rfl, rfl, hcap, hl60, rfl, HL1.out, HF.out.small, rfl, by omega, by omega⟩
  case round =>
    obtain ⟨k, A', c', l', sm, hk, rfl, rfl, hc', hl', rfl, htx, h20, hr, hs0, hs1⟩ := hrel
    have HT := Lib.hid htx; have H20 := Lib.hid h20; have HR := Lib.hid hr
    clear htx h20 hr
    by_cases hlt : k < many.length
    · obtain ⟨b, off, v, rfl, hb, hv, hcell⟩ := HM1.out.one (Below.refl _ _) hlt
      by_cases h1 : v < 1
      · have hno := ragged_no (width := width) (l := l') (s := sm) hlt hv (.inl h1)
        have k1 : decide (v < 1) = true := by simpa using h1
        have HN := Lib.hid hno; clear hno hv
        go_wp2
        go_ret2
        exact ⟨by rw [HR.out, HN.out]; rfl, (by repeat (first | exact Below.refl _ _ | assumption | apply Below.drew | refine below_drewN ?_ _ | apply Below.setCell _ (by first | omega | (simp; done) | (simp; omega)) | apply Below.alloc _ (by first | omega | (simp; done) | (simp; omega))))⟩
      · have k1 : decide (v < 1) = false := by simpa using h1
        by_cases h2 : (l'.length : Int) < v
        · have hno := ragged_no (width := width) (l := l') (s := sm) hlt hv (.inr h2)
          have k2 : decide ((l'.length : Int) < v) = true := by simpa using h2
          have HN := Lib.hid hno; clear hno hv
          go_wp2
          go_ret2
          exact ⟨by rw [HR.out, HN.out]; rfl, (by repeat (first | exact Below.refl _ _ | assumption | apply Below.drew | refine below_drewN ?_ _ | apply Below.setCell _ (by first | omega | (simp; done) | (simp; omega)) | apply Below.alloc _ (by first | omega | (simp; done) | (simp; omega))))⟩
        · obtain ⟨j, rfl⟩ : ∃ j : Nat, v = j := ⟨v.toNat, by omega⟩
          have h3 : 1 ≤ j := by omega
          have h4 : j ≤ l'.length := by omega
          have k2 : decide ((l'.length : Int) < (j : Int)) = false := by simpa using h2
          have k3 : decide (l'.length < j) = false := by simp; omega
          clear h1 h2
          obtain ⟨b2, off2, rfl, hb2, _⟩ := HT.out.1.2 (by omega)
          have hst := ragged_step (width := width) (l := l') (s := sm) hlt hv h3 h4
          have HST := Lib.hid hst; clear hst hv
          have hlong := long_bd (l := l'.take j) (fun t ht => H20.out t (List.mem_of_mem_take ht)) (by rw [List.length_take]; omega) (by rw [List.length_take]; omega)
          have hLN := long_any (l'.take j) (some ⟨b2, off2, none⟩) j c' (by rw [List.length_take]; omega) w1 (HT.out.head h4) (by omega) (fun t ht => H20.out t (List.mem_of_mem_take ht))
          have HLN := Lib.hid hLN; clear hLN
          generalize longW (l'.take j) = L at *
          obtain ⟨hL0, hL1⟩ := hlong
          have HBD := Lib.hid (fun last w' => bad_any L width last w' hL0 hL1 hw1 hw2)
          have hbn := badW_nn (n := L) (b := ((j : Int) == (l'.length : Int))) (show 0 ≤ width by omega)
          have hbl := badW_le (b := ((j : Int) == (l'.length : Int))) hL0 hL1 hw1 hw2
          go_wp2_with (first
            | (go_at_call 49; refine HLN.out.mono ?_; rintro e w2 ⟨rfl, rfl⟩)
            | (go_at_call 48; refine (HBD.out _ _).mono ?_; rintro e w2 ⟨rfl, rfl⟩; generalize badW L width ((j : Int) == (l'.length : Int)) = bd at *))
          go_round
          case rel => exact ⟨k + 1, _, c' - j, l'.drop j, sm + bd, by omega, by go_num, by rw [List.length_drop], by rw [List.length_drop]; omega, by rw [List.length_drop]; omega, rfl, HT.out.cut_if j hc', fun t ht => H20.out t (List.mem_of_mem_drop ht), by rw [HR.out, HST.out], by omega, by rw [List.length_drop]; omega⟩
          case measure => simp [intOf]; omega
    · have hge : many.length ≤ k := by omega
      have hen := ragged_end (width := width) (l := l') (many := many) (k := k) (s := sm) hge
      by_cases h0 : l'.length = 0
      · rw [if_pos h0] at hen
        have HE := Lib.hid hen; clear hen
        have k1 : decide (0 < l'.length) = false := decide_eq_false (by omega)
        go_wp2
        go_ret2
        exact ⟨by rw [HR.out, HE.out]; rfl, (by repeat (first | exact Below.refl _ _ | assumption | apply Below.drew | refine below_drewN ?_ _ | apply Below.setCell _ (by first | omega | (simp; done) | (simp; omega)) | apply Below.alloc _ (by first | omega | (simp; done) | (simp; omega))))⟩
      · rw [if_neg h0] at hen
        have HE := Lib.hid hen; clear hen
        have k1 : decide (0 < l'.length) = true := decide_eq_true (by omega)
        go_wp2
        go_ret2
        exact ⟨by rw [HR.out, HE.out]; rfl, (by repeat (first | exact Below.refl _ _ | assumption | apply Below.drew | refine below_drewN ?_ _ | apply Below.setCell _ (by first | omega | (simp; done) | (simp; omega)) | apply Below.alloc _ (by first | omega | (simp; done) | (simp; omega))))⟩
end Go.Proofs.YtddfdmopaeghnaaDoor
