/- Plain facts on laying a doc at a place, for the walk of the reference's Lay. No program, no condition. -/
import Derived.Test.YtddfdmopaeghnabDoorPartsP
import Derived.Test.YtddfdmopaeghnabDoorNdC
namespace Go.Proofs.YtddfdmopaeghnabDoor

theorem blanksB_size (n : Nat) : (blanksB n).size = n := by simp [blanksB, ByteArray.size]
/-- What two parts behind each other give. -/
def laySeq (r : Except Int (ByteArray × List Int)) (k : List Int → Except Int (ByteArray × List Int)) : Except Int (ByteArray × List Int) := match r with
  | .error e => .error e
  | .ok (s, w') => match k w' with
    | .error e => .error e
    | .ok (t, w'') => .ok (s ++ t, w'')
variable {l : List Nd} {x : D}
theorem Doc.lay6 (hd : Doc l x) {i : Nat} (hi : i < l.length) {t : ByteArray} (hnd : l[i] = Nd.mk 6 t 0) :
    ∃ q : Nat, i + 1 < l.length ∧ q < l.length ∧ i + 1 < q ∧ endAt l (i + 1) = q ∧ (docAt l i).sz = (docAt l (i + 1)).sz + (docAt l q).sz + 1 ∧
      ∀ dp ws, (docAt l i).lay dp ws = laySeq ((docAt l (i + 1)).lay dp ws) ((docAt l q).lay dp) := by
  rcases hd.parts_ hi with ⟨h1, _⟩ | ⟨h1, _⟩ | ⟨h1, h2, h3, h4⟩
  · rw [hnd] at h1; simp [parts] at h1
  · rw [hnd] at h1; simp [parts] at h1
  · refine ⟨_, h2, h3, by have := (docAt l (i + 1)).sz_pos; omega, rfl, by rw [h4]; rfl, fun dp ws => ?_⟩
    rw [h4, hnd]
    simp only [D.lay, if_true, Int.add_zero]
    rfl
theorem Doc.lay7 (hd : Doc l x) {i : Nat} (hi : i < l.length) {t : ByteArray} {n : Int} (hnd : l[i] = Nd.mk 7 t n) :
    i + 1 < l.length ∧ (docAt l i).sz = (docAt l (i + 1)).sz + 1 ∧ ∀ dp ws, (docAt l i).lay dp ws = (docAt l (i + 1)).lay (dp + n) ws := by
  rcases hd.parts_ hi with ⟨h1, _⟩ | ⟨h1, h2, h3⟩ | ⟨h1, _⟩
  · rw [hnd] at h1; simp [parts] at h1
  · refine ⟨h2, by rw [h3]; rfl, fun dp ws => ?_⟩
    rw [h3, hnd]
    simp only [D.lay, if_true]
  · rw [hnd] at h1; simp [parts] at h1
theorem Doc.lay8 (hd : Doc l x) {i : Nat} (hi : i < l.length) {t : ByteArray} (hnd : l[i] = Nd.mk 8 t 0) :
    i + 1 < l.length ∧ (docAt l i).sz = (docAt l (i + 1)).sz + 1 ∧ ∀ dp, (docAt l i).lay dp [] = .error 2 ∧ (∀ ws, (docAt l i).lay dp (1 :: ws) = (docAt l (i + 1)).lay dp ws) ∧
      (∀ ws, (docAt l i).lay dp (0 :: ws) = (match (docAt l (i + 1)).flat with | some s => .ok (s, ws) | none => .error 4)) := by
  rcases hd.parts_ hi with ⟨h1, _⟩ | ⟨h1, h2, h3⟩ | ⟨h1, _⟩
  · rw [hnd] at h1; simp [parts] at h1
  · refine ⟨h2, by rw [h3]; rfl, fun dp => ?_⟩
    rw [h3, hnd]
    refine ⟨?_, fun ws => ?_, fun ws => ?_⟩
    · simp only [D.lay]; rw [if_neg (by decide)]
    · simp only [D.lay]; rw [if_neg (by decide), if_neg (by decide), Int.add_zero]
    · simp only [D.lay]; rw [if_neg (by decide), if_pos trivial]; cases (docAt l (i + 1)).flat <;> rfl
  · rw [hnd] at h1; simp [parts] at h1
theorem Doc.lay9 (hd : Doc l x) {i : Nat} (hi : i < l.length) {t : ByteArray} (hnd : l[i] = Nd.mk 9 t 0) :
    ∃ q : Nat, i + 1 < l.length ∧ q < l.length ∧ i + 1 < q ∧ endAt l (i + 1) = q ∧ (docAt l i).sz = (docAt l (i + 1)).sz + (docAt l q).sz + 1 ∧
      ∀ dp, (docAt l i).lay dp [] = .error 2 ∧ (∀ ws, (docAt l i).lay dp (0 :: ws) = (docAt l (i + 1)).lay dp ws) ∧ (∀ ws, (docAt l i).lay dp (1 :: ws) = (docAt l q).lay dp ws) := by
  rcases hd.parts_ hi with ⟨h1, _⟩ | ⟨h1, _⟩ | ⟨h1, h2, h3, h4⟩
  · rw [hnd] at h1; simp [parts] at h1
  · rw [hnd] at h1; simp [parts] at h1
  · refine ⟨_, h2, h3, by have := (docAt l (i + 1)).sz_pos; omega, rfl, by rw [h4]; rfl, fun dp => ?_⟩
    rw [h4, hnd]
    refine ⟨?_, fun ws => ?_, fun ws => ?_⟩
    · simp only [D.lay]; rw [if_neg (by decide)]
    · simp only [D.lay]; rw [if_neg (by decide), if_pos trivial, Int.add_zero]
    · simp only [D.lay]; rw [if_neg (by decide), if_neg (by decide), Int.add_zero]
theorem Doc.lay0 (hd : Doc l x) {i : Nat} (hi : i < l.length) {op n : Int} {t : ByteArray} (hnd : l[i] = Nd.mk op t n) (h : parts op = 0) (dp : Int) (ws : List Int) :
    (docAt l i).lay dp ws = (D.leaf ⟨op, t, n⟩).lay dp ws := by
  rcases hd.parts_ hi with ⟨h1, h2⟩ | ⟨h1, _⟩ | ⟨h1, _⟩
  · rw [h2, hnd]
  · rw [hnd, h] at h1; simp at h1
  · rw [hnd, h] at h1; simp at h1
/-- How long it may be. -/
theorem Doc.lay_sz (hd : Doc l x) {i : Nat} (hi : i < l.length) {dp : Nat} {ws r : List Int} {s : ByteArray} (h : (docAt l i).lay dp ws = .ok (s, r)) (hb : dp + 8 * (docAt l i).sz ≤ 3200) : s.size ≤ 7000 * (docAt l i).sz := by
  have h1 := D.lay_size (hd.good_at hi) (by omega) h
  have h2 : (docAt l i).sz * (21 + ((dp : Int).toNat + 8 * (docAt l i).sz)) ≤ (docAt l i).sz * 7000 := Nat.mul_le_mul_left _ (by simp; omega)
  omega
theorem Doc.lay_bits {i : Nat} {dp : Int} {ws r : List Int} {s : ByteArray} (h : (docAt l i).lay dp ws = .ok (s, r)) (hb : Bits ws) : Bits r ∧ r.length ≤ ws.length := by
  obtain ⟨u, _, rfl, _⟩ := D.way_of hb h
  exact ⟨fun c hc => hb c (by simp [hc]), by simp⟩
end Go.Proofs.YtddfdmopaeghnabDoor
