/- Plain facts for the law WayParts: what showing gives, two docs as one, deeper. No program, no condition. -/
import Derived.Test.YtddfdmopaeghnacGreatDoorShowP
import Derived.Test.YtddfdmopaeghnacGreatDoorAllP
import Derived.Lib.IndexBytes
namespace Go.Proofs.YtddfdmopaeghnacGreatDoor

theorem D.lay_len {x : D} : ∀ {dp : Int} {w r : List Int} {s : ByteArray}, x.lay dp w = .ok (s, r) → w.length ≤ r.length + x.sz := by
  induction x with
  | leaf d =>
    intro dp w r s h
    simp only [D.lay] at h
    split at h
    · cases h; omega
    · split at h <;> (cases h; omega)
  | un d a ih =>
    intro dp w r s h
    simp only [D.lay] at h
    simp only [D.sz]
    split at h
    · have := ih h; omega
    · cases w with
      | nil => cases h
      | cons c w' =>
        simp only at h
        simp only [List.length_cons]
        split at h
        · cases hf : a.flat with
          | none => rw [hf] at h; cases h
          | some t => rw [hf] at h; cases h; omega
        · have := ih h; omega
  | bin d a b ia ib =>
    intro dp w r s h
    simp only [D.lay] at h
    simp only [D.sz]
    split at h
    · cases ha : a.lay (dp + d.n) w with
      | error e => rw [ha] at h; cases h
      | ok p =>
        obtain ⟨s1, w1⟩ := p
        rw [ha] at h
        simp only at h
        cases hb : b.lay (dp + d.n) w1 with
        | error e => rw [hb] at h; cases h
        | ok q =>
          obtain ⟨s2, w2⟩ := q
          rw [hb] at h
          cases h
          have h1 := ia ha
          have h2 := ib hb
          omega
    · cases w with
      | nil => cases h
      | cons c w' =>
        simp only at h
        simp only [List.length_cons]
        split at h
        · have := ia h; omega
        · have := ib h; omega

theorem Doc.goodx {l : List Nd} {x : D} (hd : Doc l x) : x.good := fun d hdm => hd.one d (by rw [hd.enc]; exact hdm)
theorem Doc.szx {l : List Nd} {x : D} (hd : Doc l x) : x.sz = l.length := by rw [hd.enc, D.len_enc]

/-- A way that is shown. -/
structure Shown (l : List Nd) (x : D) (ws : List Int) (s : ByteArray) : Prop where
  doc : Doc l x
  bits : badBit ws = false
  lay : x.lay 0 ws = .ok (s, [])
  few : ws.length ≤ 400
  size : s.size ≤ 1400000

theorem Shown.of {l : List Nd} {x : D} (hd : Doc l x) {ws : List Int} {s : ByteArray} (hb : badBit ws = false) (h : x.lay 0 ws = .ok (s, [])) : Shown l x ws s := by
  have h1 := D.lay_len h
  have h2 := D.lay_size hd.goodx (by omega) h
  have h3 := hd.szx
  have h4 := hd.len
  have h5 : x.sz * (21 + ((0 : Int).toNat + 8 * x.sz)) ≤ 400 * 3221 := Nat.mul_le_mul (by omega) (by show 21 + (0 + 8 * x.sz) ≤ 3221; omega)
  exact ⟨hd, hb, h, by simp only [List.length_nil] at h1; omega, by omega⟩
theorem showF_ok {l : List Nd} {ws : List Int} {s : ByteArray} (h : showF l ws = .ok s) : ∃ x, Shown l x ws s := by
  unfold showF at h
  split at h
  · cases h
  · rename_i he
    split at h
    · cases h
    · rename_i hb
      obtain ⟨x, hd⟩ := Doc.of_check (by simpa using he)
      rw [hd.root] at h
      unfold showD at h
      cases hl : x.lay 0 ws with
      | error e => rw [hl] at h; cases h
      | ok p =>
        obtain ⟨t, r⟩ := p
        rw [hl] at h
        cases r with
        | nil => simp only at h; cases h; exact ⟨x, Shown.of hd (by simpa using hb) hl⟩
        | cons c r => simp only at h; cases h
theorem Shown.showF_ {l : List Nd} {x : D} {ws : List Int} {s : ByteArray} (h : Shown l x ws s) : showF l ws = .ok s := by
  unfold showF showD
  rw [if_neg (by rw [h.doc.check]; decide), if_neg (by rw [h.bits]; decide), h.doc.root, h.lay]

theorem badBit_app {a b : List Int} (ha : badBit a = false) (hb : badBit b = false) : badBit (a ++ b) = false := by
  unfold badBit at *
  rw [List.any_append, ha, hb]; rfl

/-- So much of a text, each new line so much deeper. -/
def addTo (n : Nat) (s : ByteArray) (k : Nat) : ByteArray := ⟨(addL n (s.data.toList.take k)).toArray⟩
theorem addTo_zero (n : Nat) (s : ByteArray) : addTo n s 0 = .empty := rfl
theorem addTo_end {n : Nat} {s : ByteArray} {k : Nat} (h : s.size ≤ k) : addTo n s k = addB n s := by
  unfold addTo addB
  rw [List.take_of_length_le (by simp; omega)]
theorem addTo_take {n : Nat} {s : ByteArray} {k : Nat} (hk : k < s.size) : addL n (s.data.toList.take (k + 1)) = addL n (s.data.toList.take k) ++ (if s[k] = 10 then 10 :: List.replicate n 32 else [s[k]]) := by
  rw [List.take_succ_eq_append_getElem (by simpa using hk), addL_app]
  congr 1
  simp only [addL, List.flatMap_cons, List.flatMap_nil, List.append_nil]
  rfl
theorem one_byte {s : ByteArray} {k : Nat} (hk : k < s.size) : (s.extract k (k + 1)).data.toList = [s[k]] := by
  rw [Lib.extract_data, Nat.add_sub_cancel_left, List.drop_eq_getElem_cons (by simpa using hk)]
  rfl
theorem addTo_no {n : Nat} {s : ByteArray} {k : Nat} (hk : k < s.size) (h : s[k] ≠ 10) : addTo n s (k + 1) = addTo n s k ++ s.extract k (k + 1) := by
  apply ByteArray.ext
  apply Array.toList_inj.1
  rw [ByteArray.data_append, Array.toList_append, one_byte hk]
  unfold addTo
  simp only [addTo_take hk, if_neg h]
theorem addTo_nl {n : Nat} {s : ByteArray} {k : Nat} (hk : k < s.size) (h : s[k] = 10) : addTo n s (k + 1) = addTo n s k ++ s.extract k (k + 1) ++ blanksB n := by
  apply ByteArray.ext
  apply Array.toList_inj.1
  rw [ByteArray.data_append, Array.toList_append, ByteArray.data_append, Array.toList_append, one_byte hk, h]
  unfold addTo blanksB
  simp only [addTo_take hk, if_pos h, List.append_assoc, List.cons_append, List.nil_append]
theorem blanksB_succ (a : ByteArray) (j : Nat) : a ++ blanksB j ++ ⟨#[32]⟩ = a ++ blanksB (j + 1) := by
  rw [ByteArray.append_assoc]
  congr 1
  apply ByteArray.ext
  apply Array.toList_inj.1
  simp [blanksB, List.replicate_succ']
theorem blanksB_zero (a : ByteArray) : a ++ blanksB 0 = a := by
  have : blanksB 0 = .empty := rfl
  rw [this]; simp
theorem addL_len {n : Nat} (h : n ≤ 8) (l : List UInt8) : (addL n l).length ≤ 9 * l.length := by
  induction l with
  | nil => simp [addL]
  | cons c r ih =>
    simp only [addL, List.flatMap_cons, List.length_append, List.length_cons] at ih ⊢
    split
    · simp only [List.length_cons, List.length_replicate]; omega
    · simp only [List.length_cons, List.length_nil]; omega
theorem addTo_size {n : Nat} (h : n ≤ 8) {s : ByteArray} (hs : s.size ≤ 1400000) (k : Nat) : (addTo n s k).size ≤ 12600000 := by
  have h1 := addL_len h (s.data.toList.take k)
  have h2 : (s.data.toList.take k).length ≤ s.size := by rw [List.length_take]; simp; omega
  have h3 : (addTo n s k).size = (addL n (s.data.toList.take k)).length := by simp [addTo, ByteArray.size]
  omega
end Go.Proofs.YtddfdmopaeghnacGreatDoor
