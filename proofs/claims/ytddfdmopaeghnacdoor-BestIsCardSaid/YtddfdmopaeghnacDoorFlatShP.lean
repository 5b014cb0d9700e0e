/- Plain facts for the law FlatShows: what is flat has no new line; a group of it by the choice 0. No program, no condition. -/
import Derived.Test.YtddfdmopaeghnacDoorPartsP
namespace Go.Proofs.YtddfdmopaeghnacDoor

/-- What is flat has no new line. -/
theorem flat_line {y : D} : y.good → ∀ t, y.flat = some t → ∀ c ∈ t.data.toList, c ≠ 10 := by
  induction y with
  | leaf d =>
    intro hg t ht
    have h1 := hg d (by simp [D.enc])
    simp only [D.flat] at ht
    split at ht
    · rename_i h; cases ht; exact oneF_text h1 h
    · split at ht
      · cases ht; intro c hc; simp at hc; subst hc; decide
      · split at ht
        · cases ht; intro c hc; simp at hc
        · cases ht
  | un d a ih => intro hg t ht; exact ih (D.good_un hg) t ht
  | bin d a b ia ib =>
    intro hg t ht
    simp only [D.flat] at ht
    split at ht
    · cases ha : a.flat with
      | none => rw [ha] at ht; simp at ht
      | some p =>
        cases hb : b.flat with
        | none => rw [ha, hb] at ht; simp at ht
        | some q =>
          rw [ha, hb] at ht
          simp only [Option.some.injEq] at ht
          subst ht
          intro c hc
          rw [ByteArray.data_append, Array.toList_append] at hc
          rcases List.mem_append.1 hc with hc | hc
          · exact ia (D.good_l hg) p ha c hc
          · exact ib (D.good_r hg) q hb c hc
    · exact ia (D.good_l hg) t ht

def ndGr : Nd := ⟨8, .empty, 0⟩
theorem Doc.gr {a : List Nd} {x : D} (ha : Doc a x) (hl : a.length + 1 ≤ 400) : Doc (ndGr :: a) (.un ndGr x) :=
  ⟨⟨rfl, ha.ok⟩, by rw [D.enc, ha.enc], fun d hd => by
    rcases List.mem_cons.1 hd with rfl | hd
    · decide +kernel
    · exact ha.one _ hd, by simp; omega⟩

/-- A group of what is flat, by the choice 0, shows it. -/
theorem Shown.gr {a : List Nd} {x : D} (ha : Doc a x) (hl : a.length + 1 ≤ 400) {t : ByteArray} (hf : x.flat = some t) : Shown (ndGr :: a) (.un ndGr x) [0] t :=
  Shown.of (ha.gr hl) rfl (by simp only [D.lay]; rw [if_neg (show ¬ ndGr.op = 7 by decide)]; simp [hf])
/-- What is not flat is not shown so. -/
theorem showF_gr {a : List Nd} {x : D} (ha : Doc a x) (hl : a.length + 1 ≤ 400) (hf : x.flat = none) : showF (ndGr :: a) [0] = .error 4 := by
  have hd := ha.gr hl
  unfold showF showD
  rw [if_neg (by rw [hd.check]; decide), if_neg (by decide), hd.root]
  simp only [D.lay]
  rw [if_neg (show ¬ ndGr.op = 7 by decide)]
  simp [hf]

def ndBo : Nd := ⟨6, .empty, 0⟩
def ndWa : Nd := ⟨1, ⟨#[97]⟩, 0⟩
def ndBl : Nd := ⟨2, .empty, 0⟩
theorem Doc.factF : Doc [ndBo, ndWa, ndBl] (.bin ndBo (.leaf ndWa) (.leaf ndBl)) :=
  ⟨⟨rfl, rfl, rfl⟩, rfl, fun d hd => by
    rcases List.mem_cons.1 hd with rfl | hd
    · decide +kernel
    · rcases List.mem_cons.1 hd with rfl | hd
      · decide +kernel
      · rcases List.mem_cons.1 hd with rfl | hd
        · decide +kernel
        · simp at hd, by simp⟩
theorem lineOf_factF : lineOf (D.bin ndBo (.leaf ndWa) (.leaf ndBl)).flat = (⟨#[97, 32]⟩, true) := by rfl
end Go.Proofs.YtddfdmopaeghnacDoor
