/- Plain: what a word may be; a note is one node. No program, no condition. Plain: texts that are read as given words, whatever stands behind; a statement's words; its doc, laid in whatever way, is read as these. No program, no condition. Plain: an expression, a list of expressions, read off words: the nodes and the next word, or the word that cannot stand. No program, no condition. Plain: one expression read off words, case by case. No program, no condition. Plain: a statement read off words, case by case. No program, no condition. Plain: a note's words, read off words; how long they are. No program, no condition. Plain: a statement's words, read, are the statement. No program, no condition. Plain: a note's words and its lines; lines of a note, read, are the note. No program, no condition. Plain: what is read has no more words than were read. No program, no condition. Plain: a program, read off words. No program text, no condition. Plain: how long the texts of nodes are that are read off words; the rounds of a program. No program text, no condition. Plain: the words of a program's statements, one behind the other, read, are the program. No program text, no condition. Walks of syn's parser: peek, take, fail, must, name. Conditions: the parser's block is the caller's own, its words and places lie below it, it stands at a word or at the end. Plain: how long the texts of nodes are that are read off words; the rounds of a program; a text as a program. No program text, no condition. Plain: a text that reads as the words of a program's statements is that program; a program's lines are such a text. No program text, no condition. Walks: syn.writer's write at a note, syn.Line of a note; each line of a program that may be. Conditions: as in the texts ahead; a note's text has 2000 bytes at most. -/
import Derived.Test.YtddfdmopaeghnacGreatDoorTreeP
import Derived.Test.YtddfdmopaeghnacGreatDoorTreeC
import Derived.Test.YtddfdmopaeghnacGreatDoorTRefP
import Derived.Test.YtddfdmopaeghnacGreatDoorMkP
import Derived.Test.YtddfdmopaeghnacGreatDoorFltP
import Derived.Test.YtddfdmopaeghnacGreatDoorFfLx
import Derived.Lib.ItoaNum
import Derived.Lib.FieldsP
import Derived.Lib.TrimU
import Derived.Lib.Join
import Derived.Lib.Strings
import Derived.Laws.RangeString
import Derived.Test.YtddfdmopaeghnacGreatDoorCatW
import Derived.Test.YtddfdmopaeghnacGreatDoorTreeV
import Derived.Deep.RegionHeld3
import Derived.RegionDies
import Derived.Test.YtddfdmopaeghnacGreatDoorFfSy
namespace Go.Proofs.YtddfdmopaeghnacGreatDoor

theorem wordF_facts {w : ByteArray} (h : wordF w = true) : w.data.toList ≠ [] ∧ w.size ≤ 20 ∧ ∀ c ∈ w.data.toList, 33 ≤ c.toNat ∧ c.toNat ≤ 126 := by
  simp only [wordF, Bool.and_eq_true, Bool.not_eq_true', decide_eq_true_eq, ByteArray.toList_eq, List.isEmpty_eq_false_iff] at h
  refine ⟨h.1.1, h.1.2, fun c hc => ?_⟩
  have := List.all_eq_true.1 h.2 c hc
  simpa [visC] using this
theorem wordsF_facts {l : List ByteArray} (h : wordsF l = 0) : l.length ≤ 60 ∧ ∀ w ∈ l, wordF w = true := by
  unfold wordsF at h
  split at h
  · cases h
  · split at h
    · rename_i h1 h2
      exact ⟨by omega, fun w hw => List.all_eq_true.1 h2 w hw⟩
    · cases h
theorem opAt_of {l : List Nd} {i : Nat} (hi : i < l.length) : opAt l i = l[i].op := by rw [opAt, getD_at hi]
theorem tone_n {op n : Int} {t : ByteArray} (h : treeOne op t n = 0) (hm : mostF op < 0) : n = 0 := by
  unfold treeOne at h
  split at h
  · cases h
  · split at h
    · cases h
    · rename_i hh
      by_cases hn : n = 0
      · exact hn
      · exact absurd (.inl ⟨hm, hn⟩) hh
theorem tree_pos {u : List Nd} (h : treeF u = 0) : 0 < u.length := by
  have := (Tr.of_check h).root
  rcases Nat.eq_zero_or_pos u.length with h1 | h1
  · rw [posAt_ge (by omega)] at this; cases this
  · exact h1
theorem tree_note {u : List Nd} (h : treeF u = 0) (h9 : opAt u 0 = 9) : ∃ x, u = [⟨9, x, 0⟩] ∧ treeOne 9 x 0 = 0 := by
  have hT := Tr.of_check h
  have hp := tree_pos h
  have hk := hT.kidsP hp
  have hm : (manyL u).getD 0 0 = (manyF u[0].op u[0].n).toNat := manyL_at hp rfl
  have hone := hT.one _ (List.getElem_mem hp)
  rw [opAt_of hp] at h9
  rw [hm, h9, show (manyF 9 u[0].n).toNat = 0 from rfl, KidsP] at hk
  have hend : tEnd u 0 = u.length := by rw [tEnd, hT.root]; rfl
  have hl : u.length = 1 := by omega
  rw [h9] at hone
  have hn := tone_n hone (by decide)
  refine ⟨u[0].text, ?_, by rw [hn] at hone; exact hone⟩
  match u, hl with
  | [d], _ =>
    simp only [List.getElem_cons_zero] at h9 hn ⊢
    obtain ⟨op, t, n⟩ := d
    simp only at h9 hn
    subst h9 hn
    rfl
end Go.Proofs.YtddfdmopaeghnacGreatDoor

namespace Go.Proofs.YtddfdmopaeghnacGreatDoor

def alnB (c : UInt8) : Bool := lowB c || digB c
/-- Read as these words, whatever stands behind; if it is open: whatever but letters and digits. -/
def Lx (ed : Bool) (tk : List (List UInt8)) (s : List UInt8) : Prop :=
  ∀ (i : Nat) (r : List UInt8), (ed = true → ∀ c r', r = c :: r' → alnB c = false) → (lexL i (s ++ r)).1.map (·.2) = tk ++ (lexL (i + s.length) r).1.map (·.2) ∧ (lexL i (s ++ r)).2 = (lexL (i + s.length) r).2
theorem Lx.nil : Lx false [] [] := fun i r _ => ⟨by simp, by simp⟩
theorem Lx.app {e1 e2 : Bool} {t1 t2 : List (List UInt8)} {s1 s2 : List UInt8} (h1 : Lx e1 t1 s1) (h2 : Lx e2 t2 s2) (hc : e1 = true → ∃ c r, s2 = c :: r ∧ alnB c = false) : Lx e2 (t1 ++ t2) (s1 ++ s2) := by
  intro i r hr
  have a1 := h1 i (s2 ++ r) (by
    intro he c r' e
    obtain ⟨c', r'', e', h⟩ := hc he
    rw [e', List.cons_append] at e
    cases e
    exact h)
  have a2 := h2 (i + s1.length) r hr
  rw [List.append_assoc, a1.1, a1.2, a2.1, a2.2, List.append_assoc, List.length_append, Nat.add_assoc]
  exact ⟨rfl, rfl⟩
theorem Lx.skip {c : UInt8} (h : (c == 32 || c == 10) = true) : Lx false [] [c] := by
  intro i r _
  rw [List.cons_append, List.nil_append, lexL_skip h]
  exact ⟨by simp, by simp⟩
theorem Lx.blanks (n : Nat) : Lx false [] (List.replicate n 32) := by
  induction n with
  | zero => exact Lx.nil
  | succ n ih => exact (Lx.skip (c := 32) (by decide)).app ih (fun e => by cases e)
theorem lx_of {ed : Bool} {c : UInt8} {w : List UInt8} (hb : (c == 32 || c == 10) = false) (ht : trimR (c :: w) = c :: w)
    (hf : ∀ r, (ed = true → ∀ d r', r = d :: r' → alnB d = false) → firstW (c :: (w ++ r)) = ((c :: w).length, true)) : Lx ed [c :: w] (c :: w) := by
  intro i r hr
  have h := hf r hr
  rw [List.cons_append, lexL_word hb (by rw [h]), h]
  have e1 : (c :: (w ++ r)).take (c :: w).length = c :: w := by rw [← List.cons_append, List.take_left]
  have e2 : (c :: (w ++ r)).drop (c :: w).length = r := by rw [← List.cons_append, List.drop_left]
  simp only [e1, e2, ht]
  exact ⟨rfl, trivial⟩
theorem runB_stopX {p : UInt8 → Bool} {r : List UInt8} (hr : ∀ c r', r = c :: r' → p c = false) : ∀ {w : List UInt8}, (∀ c ∈ w, p c = true) → runB p (w ++ r) = w.length := by
  intro w
  induction w with
  | nil =>
    intro _
    cases r with
    | nil => rfl
    | cons c r' => rw [List.nil_append, runB, if_neg (by rw [hr c r' rfl]; decide)]; rfl
  | cons c w ih =>
    intro h
    rw [List.cons_append, runB, if_pos (h c (by simp)), ih (fun d hd => h d (by simp [hd]))]; rfl
theorem aln_no {c : UInt8} (h : alnB c = false) : lowB c = false ∧ digB c = false := by simpa [alnB] using h
theorem Lx.num {w : List UInt8} (h0 : 0 < w.length) (h6 : w.length ≤ 6) (h : ∀ c ∈ w, digB c = true) (hz : w.length = 1 ∨ w.head? ≠ some 48) : Lx true [w] w := by
  cases w with
  | nil => simp at h0
  | cons c w =>
    have hc := h c (by simp)
    refine lx_of (dig_nb hc).1 (trimR_of fun d hd => (dig_nb (h d hd)).2.1) (fun r hr => ?_)
    have e := runB_stopX (p := digB) (r := r) (fun d r' e => (aln_no (hr rfl d r' e)).2) (w := c :: w) h
    rw [List.cons_append] at e
    rw [firstW_cons, if_neg (by rw [(dig_nb hc).2.2]; decide), if_pos hc, e, decide_eq_true h6]
    rcases hz with hz | hz
    · rw [decide_eq_true hz]; rfl
    · have : (c == 48) = false := by simpa using hz
      rw [this]; simp
theorem decDigits_facts : ∀ u : Nat, (∀ c ∈ Lib.decDigits u, digB c = true) ∧ (0 < u → (Lib.decDigits u).head? ≠ some 48) ∧ (Lib.decDigits u).foldl (fun (n : Int) c => n * 10 + ((c.toNat : Int) - 48)) 0 = (u : Int) := by
  intro u
  induction u using Nat.strongRecOn with
  | _ u ih =>
    have hone : ∀ d : Fin 10, digB (UInt8.ofNat (48 + d.val)) = true ∧ (UInt8.ofNat (48 + d.val)).toNat = 48 + d.val ∧ (0 < d.val → UInt8.ofNat (48 + d.val) ≠ 48) := by decide +kernel
    by_cases h : u < 10
    · obtain ⟨a1, a2, a3⟩ := hone ⟨u, h⟩
      rw [Lib.decDigits_one h]
      refine ⟨by simpa using a1, fun h0 => by simpa using a3 h0, ?_⟩
      simp only [List.foldl_cons, List.foldl_nil, a2]
      omega
    · obtain ⟨b1, b2, b3⟩ := ih (u / 10) (by omega)
      obtain ⟨a1, a2, a3⟩ := hone ⟨u % 10, Nat.mod_lt _ (by omega)⟩
      have e : Lib.decDigits u = Lib.decDigits (u / 10) ++ [UInt8.ofNat (48 + u % 10)] := by rw [Lib.decDigits, dif_neg h]
      rw [e]
      refine ⟨fun c hc => ?_, fun _ => ?_, ?_⟩
      · rcases List.mem_append.1 hc with hc | hc
        · exact b1 c hc
        · rw [List.mem_singleton.1 hc]; exact a1
      · have := b2 (by omega)
        cases hd : Lib.decDigits (u / 10) with
        | nil => have := Lib.decDigits_length (u / 10); rw [hd] at this; have := Lib.nDigits_pos (u / 10); simp at *; omega
        | cons c r => rw [hd] at this; simpa using this
      · rw [List.foldl_append, b3]
        simp only [List.foldl_cons, List.foldl_nil, a2]
        omega
theorem itoa_nat {n : Int} (h0 : 0 ≤ n) : Lib.itoa n = Lib.decDigits n.toNat := by rw [Lib.itoa, if_neg (by omega)]
theorem Lx.itoa {n : Int} (h0 : 0 ≤ n) (h : n ≤ 999999) : Lx true [Lib.itoa n] (Lib.itoa n) := by
  have hl := itoa_len6 h0 h
  obtain ⟨a1, a2, a3⟩ := decDigits_facts n.toNat
  rw [itoa_nat h0] at *
  refine Lx.num hl.1 hl.2 a1 ?_
  rcases Nat.eq_zero_or_pos n.toNat with hz | hz
  · left; rw [hz, Lib.decDigits_one (by omega)]; rfl
  · exact .inr (a2 hz)

/-- How a text may begin: with no letter and no digit; it has something. -/
def Bg (s : List UInt8) : Prop := ∃ c r, s = c :: r ∧ alnB c = false
/-- Each text that a doc may be laid as is read as these words. b: none begins with a letter or a digit, none is empty. e: each is open. -/
def Tk (b e : Bool) (tk : List (List UInt8)) (ns : List Nd) : Prop :=
  ∃ x : D, x.ok ∧ x.enc = ns ∧ (∀ (dp : Int) (w r : List Int) (s : ByteArray), x.lay dp w = .ok (s, r) → Lx e tk s.data.toList ∧ (b = true → Bg s.data.toList)) ∧ ∀ s, x.flat = some s → Lx e tk s.data.toList ∧ (b = true → Bg s.data.toList)
theorem lx_line (n : Nat) : Lx false [] ((⟨#[10]⟩ ++ blanksB n : ByteArray).data.toList) := by
  rw [ByteArray.data_append, Array.toList_append]
  exact (Lx.skip (c := 10) (by decide)).app (Lx.blanks n) (fun e => by cases e)
theorem bg_line (n : Nat) : Bg ((⟨#[10]⟩ ++ blanksB n : ByteArray).data.toList) := by
  rw [ByteArray.data_append, Array.toList_append]
  exact ⟨10, _, rfl, by decide⟩
theorem Tk.blank : Tk true false [] (opN 2) := by
  refine ⟨.leaf ⟨2, .empty, 0⟩, rfl, rfl, fun dp w r t ht => ?_, fun t ht => ?_⟩
  · simp only [D.lay, show ¬ (2 : Int) = 1 by decide, show ¬ (2 : Int) = 5 by decide, if_false] at ht
    cases ht
    exact ⟨lx_line _, fun _ => bg_line _⟩
  · simp only [D.flat, show ¬ (2 : Int) = 1 by decide, if_false, if_true] at ht
    cases ht
    exact ⟨Lx.skip (by decide), fun _ => ⟨32, [], rfl, by decide⟩⟩
end Go.Proofs.YtddfdmopaeghnacGreatDoor

namespace Go.Proofs.YtddfdmopaeghnacGreatDoor

def wdAt (ws : List ByteArray) (k : Nat) : ByteArray := ws.getD k .empty
def isW (ws : List ByteArray) (k : Nat) (c : List UInt8) : Bool := (wdAt ws k).toList == c
def digC (c : UInt8) : Bool := decide (48 ≤ c.toNat) && decide (c.toNat ≤ 57)
/-- Does a word begin with a digit? -/
def digW (s : ByteArray) : Bool := match s.data.toList with
  | [] => false
  | c :: _ => digC c
/-- The number that digits are. -/
def numW (s : ByteArray) : Int := s.data.toList.foldl (fun n c => n * 10 + ((c.toNat : Int) - 48)) 0

abbrev PrR := Except Nat (List Nd × Nat)
/-- A chain goes on: so many rounds at most. -/
def chainP (ws : List ByteArray) (op : Int) (sg : List UInt8) (part : Nat → PrR) : Nat → List Nd → Nat → PrR
  | 0, out, k => .ok (out, k)
  | f + 1, out, k => if isW ws k sg = true then
      match part (k + 1) with
      | .error e => .error e
      | .ok (x, k') => chainP ws op sg part f (⟨op, .empty, 0⟩ :: (out ++ x)) k'
    else .ok (out, k)
def chainS (ws : List ByteArray) (op : Int) (sg : List UInt8) (part : Nat → PrR) (k : Nat) : PrR :=
  match part k with
  | .error e => .error e
  | .ok (x, k') => chainP ws op sg part ws.length x k'
/-- Many expressions up to a bracket: how many, their nodes, the next word. -/
def manyP (ws : List ByteArray) (ed : List UInt8) (sum : Nat → PrR) : Nat → Nat → List Nd → Nat → Except Nat (Nat × List Nd × Nat)
  | 0, n, out, k => .ok (n, out, k)
  | f + 1, n, out, k => if isW ws k ed = true then .ok (n, out, k + 1)
    else if 0 < n ∧ isW ws k [44] = false then .error k
    else match sum (if 0 < n then k + 1 else k) with
      | .error e => .error e
      | .ok (x, k') => manyP ws ed sum f (n + 1) (out ++ x) k'
/-- Level 0: sums; 1: products; 2: what has no sign about it. -/
def pE (ws : List ByteArray) : Nat → Nat → Nat → PrR
  | 0, _, k => .error k
  | f + 1, lv, k =>
    if lv = 0 then chainS ws 5 [43] (pE ws f 1) k
    else if lv = 1 then chainS ws 6 [42] (pE ws f 2) k
    else if isW ws k [40] = true then
      match pE ws f 0 (k + 1) with
      | .error e => .error e
      | .ok (x, k') => if isW ws k' [41] = true then .ok (x, k' + 1) else .error k'
    else if isW ws k [91] = true then
      match manyP ws [93] (pE ws f 0) (ws.length + 1) 0 [] (k + 1) with
      | .error e => .error e
      | .ok (n, x, k') => .ok (⟨4, .empty, (n : Nat)⟩ :: x, k')
    else if digW (wdAt ws k) = true then .ok ([⟨1, .empty, numW (wdAt ws k)⟩], k + 1)
    else if nameF (wdAt ws k) = false then .error k
    else if isW ws (k + 1) [40] = true then
      match manyP ws [41] (pE ws f 0) (ws.length + 1) 0 [] (k + 2) with
      | .error e => .error e
      | .ok (n, x, k') => .ok (⟨3, wdAt ws k, (n : Nat)⟩ :: x, k')
    else .ok ([⟨2, wdAt ws k, 0⟩], k + 1)

end Go.Proofs.YtddfdmopaeghnacGreatDoor

namespace Go.Proofs.YtddfdmopaeghnacGreatDoor

/-- What has no sign about it. -/
def oneP (ws : List ByteArray) (sum : Nat → PrR) (k : Nat) : PrR :=
  if isW ws k [40] = true then
    match sum (k + 1) with
    | .error e => .error e
    | .ok (x, k') => if isW ws k' [41] = true then .ok (x, k' + 1) else .error k'
  else if isW ws k [91] = true then
    match manyP ws [93] sum (ws.length + 1) 0 [] (k + 1) with
    | .error e => .error e
    | .ok (n, x, k') => .ok (⟨4, .empty, (n : Nat)⟩ :: x, k')
  else if digW (wdAt ws k) = true then .ok ([⟨1, .empty, numW (wdAt ws k)⟩], k + 1)
  else if nameF (wdAt ws k) = false then .error k
  else if isW ws (k + 1) [40] = true then
    match manyP ws [41] sum (ws.length + 1) 0 [] (k + 2) with
    | .error e => .error e
    | .ok (n, x, k') => .ok (⟨3, wdAt ws k, (n : Nat)⟩ :: x, k')
  else .ok ([⟨2, wdAt ws k, 0⟩], k + 1)
theorem pE_two (ws : List ByteArray) (f : Nat) : pE ws (f + 1) 2 = oneP ws (pE ws f 0) := by
  funext k
  rw [pE, if_neg (by decide), if_neg (by decide)]
  rfl
theorem pE_one (ws : List ByteArray) (f : Nat) : pE ws (f + 1) 1 = chainS ws 6 [42] (pE ws f 2) := by
  funext k
  rw [pE, if_neg (by decide), if_pos rfl]
theorem pE_zero (ws : List ByteArray) (f : Nat) : pE ws (f + 1) 0 = chainS ws 5 [43] (pE ws f 1) := by
  funext k
  rw [pE, if_pos rfl]

theorem oneP_1g {ws : List ByteArray} {sum : Nat → PrR} {k k' : Nat} {x : List Nd} (h : isW ws k [40] = true) (hs : sum (k + 1) = .ok (x, k')) (h2 : isW ws k' [41] = true) : oneP ws sum k = .ok (x, k' + 1) := by
  rw [oneP, if_pos h, hs]
  simp only
  rw [if_pos h2]
end Go.Proofs.YtddfdmopaeghnacGreatDoor

namespace Go.Proofs.YtddfdmopaeghnacGreatDoor

end Go.Proofs.YtddfdmopaeghnacGreatDoor

namespace Go.Proofs.YtddfdmopaeghnacGreatDoor

def costL (l : List ByteArray) : Nat := (l.map (fun t => t.size + 1)).sum
def joinW (l : List ByteArray) : ByteArray := ⟨(Lib.join (l.map (·.data.toList)) [32]).toArray⟩
theorem lens_cost (l : List ByteArray) : Lib.lens (l.map (·.data.toList)) + l.length = costL l := by
  induction l with
  | nil => rfl
  | cons x r ih =>
    simp only [costL, List.map_cons, List.sum_cons, Lib.lens, List.length_cons, Array.length_toList] at *
    have : x.data.size = x.size := rfl
    omega
theorem join_cost (l : List ByteArray) : (Lib.join (l.map (·.data.toList)) [32]).length ≤ costL l := by
  cases l with
  | nil => simp [Lib.join_nil]
  | cons x r =>
    have h := lens_cost (x :: r)
    rw [List.map_cons, Lib.join_length]
    simp only [List.map_cons, List.length_cons, List.length_map, List.length_nil] at *
    omega
theorem joinW_size (l : List ByteArray) : (joinW l).size ≤ costL l := by
  have h := join_cost l
  unfold joinW
  simpa [ByteArray.size] using h
end Go.Proofs.YtddfdmopaeghnacGreatDoor

namespace Go.Proofs.YtddfdmopaeghnacGreatDoor

/-- These words stand at a place. -/
def At (ws : List ByteArray) (k : Nat) (tk : List (List UInt8)) : Prop := ∀ j, j < tk.length → (wdAt ws (k + j)).data.toList = tk.getD j []
section
variable {ws : List ByteArray} {k : Nat} {a b : List (List UInt8)} {c : List UInt8}
theorem At.left (h : At ws k (a ++ b)) : At ws k a := fun j hj => by
  have := h j (by rw [List.length_append]; omega)
  rw [this]
  simp [List.getD_eq_getElem?_getD, List.getElem?_append_left hj]
theorem At.right (h : At ws k (a ++ b)) : At ws (k + a.length) b := fun j hj => by
  have := h (a.length + j) (by rw [List.length_append]; omega)
  rw [Nat.add_assoc, this]
  simp [List.getD_eq_getElem?_getD, List.getElem?_append_right]
theorem At.head (h : At ws k (c :: b)) : (wdAt ws k).data.toList = c := h 0 (by simp)
theorem At.tail (h : At ws k (c :: b)) : At ws (k + 1) b := fun j hj => by
  have := h (j + 1) (by simp; omega)
  rw [show k + 1 + j = k + (j + 1) by omega, this]; rfl
theorem At.is (h : At ws k (c :: b)) (d : List UInt8) : isW ws k d = (c == d) := by rw [isW, ByteArray.toList_eq, h.head]
theorem At.yes (h : At ws k (c :: b)) : isW ws k c = true := by rw [h.is]; simp
theorem At.no (h : At ws k (c :: b)) {d : List UInt8} (hd : c ≠ d) : isW ws k d = false := by rw [h.is]; simpa using hd
end

section
variable {ws : List ByteArray} {op : Int} {sg : List UInt8} {part : Nat → PrR} {g k k' : Nat} {out x : List Nd}
theorem chainP_end (h : isW ws k sg = false) : chainP ws op sg part g out k = .ok (out, k) := by
  cases g with
  | zero => rfl
  | succ g => rw [chainP, if_neg (by rw [h]; decide)]
theorem chainS_of (hp : part k = .ok (x, k')) : chainS ws op sg part k = chainP ws op sg part ws.length x k' := by rw [chainS, hp]
end

/-- Words of a node where no sum (1), no sum and no product (2) may stand bare. -/
def lvK (lv : Nat) (op : Int) (x : List (List UInt8)) : List (List UInt8) := if (lv = 1 ∧ op = 5) ∨ (lv = 2 ∧ (op = 5 ∨ op = 6)) then [40] :: (x ++ [[41]]) else x
/-- What is read at a node's words. -/
structure Rd (ws : List ByteArray) (op : Int) (tok : List (List UInt8)) (x : List Nd) : Prop where
  two : ∀ F k, At ws k (lvK 2 op tok) → 3 * (lvK 2 op tok).length ≤ F + 2 → isW ws (k + (lvK 2 op tok).length) [40] = false → pE ws F 2 k = .ok (x, k + (lvK 2 op tok).length)
  oneC : op ≠ 5 → ∀ F k, At ws k tok → 3 * tok.length ≤ F + 2 → isW ws (k + tok.length) [40] = false → ∃ g, ws.length ≤ g + (k + tok.length) ∧ chainS ws 6 [42] (pE ws F 2) k = chainP ws 6 [42] (pE ws F 2) g x (k + tok.length)
  one : ∀ F k, At ws k (lvK 1 op tok) → 3 * (lvK 1 op tok).length ≤ F + 1 → isW ws (k + (lvK 1 op tok).length) [40] = false → isW ws (k + (lvK 1 op tok).length) [42] = false → pE ws F 1 k = .ok (x, k + (lvK 1 op tok).length)
  zeroC : ∀ F k, At ws k tok → 3 * tok.length ≤ F + 1 → isW ws (k + tok.length) [40] = false → isW ws (k + tok.length) [42] = false → ∃ g, ws.length ≤ g + (k + tok.length) ∧ chainS ws 5 [43] (pE ws F 1) k = chainP ws 5 [43] (pE ws F 1) g x (k + tok.length)
  zero : ∀ F k, At ws k tok → 3 * tok.length ≤ F → isW ws (k + tok.length) [40] = false → isW ws (k + tok.length) [42] = false → isW ws (k + tok.length) [43] = false → pE ws F 0 k = .ok (x, k + tok.length)

/-- Five readings out of two. -/
theorem Rd.of {ws : List ByteArray} {op : Int} {tok : List (List UInt8)} {x : List Nd} (hn : 0 < tok.length)
    (raw : op ≠ 5 → op ≠ 6 → ∀ F k, At ws k tok → 3 * tok.length ≤ F + 2 → isW ws (k + tok.length) [40] = false → pE ws F 2 k = .ok (x, k + tok.length))
    (prod : op = 6 → ∀ F k, At ws k tok → 3 * tok.length ≤ F + 2 → isW ws (k + tok.length) [40] = false → ∃ g, ws.length ≤ g + (k + tok.length) ∧ chainS ws 6 [42] (pE ws F 2) k = chainP ws 6 [42] (pE ws F 2) g x (k + tok.length))
    (sum : op = 5 → ∀ F k, At ws k tok → 3 * tok.length ≤ F + 1 → isW ws (k + tok.length) [40] = false → isW ws (k + tok.length) [42] = false → ∃ g, ws.length ≤ g + (k + tok.length) ∧ chainS ws 5 [43] (pE ws F 1) k = chainP ws 5 [43] (pE ws F 1) g x (k + tok.length)) : Rd ws op tok x := by
  have oneC : op ≠ 5 → ∀ F k, At ws k tok → 3 * tok.length ≤ F + 2 → isW ws (k + tok.length) [40] = false → ∃ g, ws.length ≤ g + (k + tok.length) ∧ chainS ws 6 [42] (pE ws F 2) k = chainP ws 6 [42] (pE ws F 2) g x (k + tok.length) := by
    intro h5 F k ha hF h40
    by_cases h6 : op = 6
    · exact prod h6 F k ha hF h40
    · exact ⟨ws.length, by omega, chainS_of (raw h5 h6 F k ha hF h40)⟩
  have one_ : op ≠ 5 → ∀ F k, At ws k tok → 3 * tok.length ≤ F + 1 → isW ws (k + tok.length) [40] = false → isW ws (k + tok.length) [42] = false → pE ws F 1 k = .ok (x, k + tok.length) := by
    intro h5 F k ha hF h40 h42
    obtain ⟨F, rfl⟩ : ∃ F', F = F' + 1 := ⟨F - 1, by omega⟩
    obtain ⟨g, hg, e⟩ := oneC h5 F k ha (by omega) h40
    rw [pE_one, e, chainP_end h42]
  have zeroC : ∀ F k, At ws k tok → 3 * tok.length ≤ F + 1 → isW ws (k + tok.length) [40] = false → isW ws (k + tok.length) [42] = false → ∃ g, ws.length ≤ g + (k + tok.length) ∧ chainS ws 5 [43] (pE ws F 1) k = chainP ws 5 [43] (pE ws F 1) g x (k + tok.length) := by
    intro F k ha hF h40 h42
    by_cases h5 : op = 5
    · exact sum h5 F k ha hF h40 h42
    · exact ⟨ws.length, by omega, chainS_of (one_ h5 F k ha hF h40 h42)⟩
  have zero : ∀ F k, At ws k tok → 3 * tok.length ≤ F → isW ws (k + tok.length) [40] = false → isW ws (k + tok.length) [42] = false → isW ws (k + tok.length) [43] = false → pE ws F 0 k = .ok (x, k + tok.length) := by
    intro F k ha hF h40 h42 h43
    obtain ⟨F, rfl⟩ : ∃ F', F = F' + 1 := ⟨F - 1, by omega⟩
    obtain ⟨g, hg, e⟩ := zeroC F k ha (by omega) h40 h42
    rw [pE_zero, e, chainP_end h43]
  have br : ∀ F k, At ws k ([40] :: (tok ++ [[41]])) → 3 * (tok.length + 2) ≤ F + 2 → pE ws F 2 k = .ok (x, k + (tok.length + 2)) := by
    intro F k ha hF
    obtain ⟨F, rfl⟩ : ∃ F', F = F' + 1 := ⟨F - 1, by omega⟩
    have a1 := ha.tail.left
    have a2 := ha.tail.right
    have z := zero F (k + 1) a1 (by omega) (a2.no (by decide)) (a2.no (by decide)) (a2.no (by decide))
    rw [pE_two, oneP_1g ha.yes z a2.yes, show k + 1 + tok.length + 1 = k + (tok.length + 2) by omega]
  have hl : ∀ lv, lvK lv op tok = [40] :: (tok ++ [[41]]) → (lvK lv op tok).length = tok.length + 2 := fun lv h => by rw [h]; simp
  refine ⟨fun F k ha hF h40 => ?_, oneC, fun F k ha hF h40 h42 => ?_, zeroC, zero⟩
  · by_cases h : op = 5 ∨ op = 6
    · have e : lvK 2 op tok = [40] :: (tok ++ [[41]]) := by rw [lvK, if_pos (.inr ⟨rfl, h⟩)]
      have el := hl 2 e
      rw [el] at hF ⊢
      rw [e] at ha
      exact br F k ha (by omega)
    · have e : lvK 2 op tok = tok := by rw [lvK, if_neg (by omega)]
      rw [e] at ha hF h40 ⊢
      exact raw (by omega) (by omega) F k ha hF h40
  · by_cases h : op = 5
    · have e : lvK 1 op tok = [40] :: (tok ++ [[41]]) := by rw [lvK, if_pos (.inl ⟨rfl, h⟩)]
      have el := hl 1 e
      rw [el] at hF h42 ⊢
      rw [e] at ha
      obtain ⟨F, rfl⟩ : ∃ F', F = F' + 1 := ⟨F - 1, by omega⟩
      rw [pE_one, chainS_of (br F k ha (by omega)), chainP_end h42]
    · have e : lvK 1 op tok = tok := by rw [lvK, if_neg (by omega)]
      rw [e] at ha hF h40 h42 ⊢
      exact one_ h F k ha hF h40 h42

end Go.Proofs.YtddfdmopaeghnacGreatDoor

namespace Go.Proofs.YtddfdmopaeghnacGreatDoor

/-- Cut at each blank. -/
def spl : List UInt8 → List (List UInt8)
  | [] => [[]]
  | c :: r => if c = 32 then [] :: spl r else match spl r with
    | [] => [[c]]
    | h :: t => (c :: h) :: t
theorem spl_ne (s : List UInt8) : ∃ h t, spl s = h :: t := by
  induction s with
  | nil => exact ⟨_, _, rfl⟩
  | cons c r ih =>
    obtain ⟨h, t, e⟩ := ih
    rw [spl, e]
    split
    · exact ⟨_, _, rfl⟩
    · exact ⟨_, _, rfl⟩
theorem spl_not {c : UInt8} {r h : List UInt8} {t : List (List UInt8)} (hc : c ≠ 32) (e : spl r = h :: t) : spl (c :: r) = (c :: h) :: t := by rw [spl, if_neg hc, e]
theorem spl_no {a : List UInt8} (h : ∀ c ∈ a, c ≠ 32) : spl a = [a] := by
  induction a with
  | nil => rfl
  | cons c r ih => exact spl_not (h c (by simp)) (ih fun d hd => h d (by simp [hd]))
theorem spl_hit {a b : List UInt8} (h : ∀ c ∈ a, c ≠ 32) : spl (a ++ 32 :: b) = a :: spl b := by
  induction a with
  | nil => rw [List.nil_append, spl, if_pos rfl]
  | cons c r ih => exact spl_not (h c (by simp)) (ih fun d hd => h d (by simp [hd]))
theorem joinTail_cons (x : List UInt8) (r : List (List UInt8)) : Lib.joinTail [32] (x :: r) = 32 :: Lib.join (x :: r) [32] := by
  rw [Lib.join_cons]; simp [Lib.joinTail]
theorem join_more (x y : List UInt8) (r : List (List UInt8)) : Lib.join (x :: y :: r) [32] = x ++ 32 :: Lib.join (y :: r) [32] := by rw [Lib.join_cons, joinTail_cons]
theorem join_spl (s : List UInt8) : Lib.join (spl s) [32] = s := by
  induction s with
  | nil => exact Lib.join_one _ _
  | cons c r ih =>
    obtain ⟨h, t, e⟩ := spl_ne r
    rw [e] at ih
    by_cases hc : c = 32
    · rw [spl, if_pos hc, e, join_more, ih, hc]; rfl
    · rw [spl_not hc e, Lib.join_cons, List.cons_append, ← Lib.join_cons, ih]
theorem tailN_data (s : ByteArray) : ∀ (n m : Nat), s.size ≤ m + n → m ≤ s.size → (tailN s m).map (·.data.toList) = spl (s.data.toList.drop m) := by
  have hsz : s.data.toList.length = s.size := by simp
  have hno : ∀ m i a, (∀ c ∈ a, c ≠ 32) → s.data.toList.drop m = a ++ s.data.toList.drop i → i = m + a.length → noSp s m i := by
    intro m i a ha he hi x h1 h2
    have hx : s.data.toList[x]? = a[x - m]? := by
      have : s.data.toList[x]? = (s.data.toList.drop m)[x - m]? := by rw [List.getElem?_drop]; congr 1; omega
      rw [this, he, List.getElem?_append_left (by omega)]
    rw [hx]
    intro e
    exact ha 32 (List.mem_of_getElem? e) rfl
  intro n
  induction n with
  | zero =>
    intro m h hm
    obtain rfl : m = s.size := by omega
    rw [tail_miss (fun x h1 h2 => by omega)]
    simp only [List.map_cons, List.map_nil, tail_data]
    rw [List.drop_eq_nil_of_le (by omega)]; rfl
  | succ n ih =>
    intro m h hm
    by_cases hb : (32 : UInt8) ∈ s.data.toList.drop m
    · obtain ⟨a, b, e, hna⟩ := List.eq_append_cons_of_mem hb
      have hna2 : ∀ c ∈ a, c ≠ 32 := fun c hc e => hna (e ▸ hc)
      have hl : s.size - m = a.length + b.length + 1 := by
        have := congrArg List.length e
        rw [List.length_drop, List.length_append, List.length_cons, hsz] at this; omega
      have hi : m + a.length < s.size := by omega
      have e2 : s.data.toList.drop (m + a.length) = 32 :: b := by rw [← List.drop_drop, e, List.drop_left]
      have e3 : s.data.toList.drop (m + a.length + 1) = b := by rw [← List.drop_drop, e2]; rfl
      have hc : s[m + a.length] = 32 := by
        have : s.data.toList[m + a.length]? = some 32 := by
          have h5 : (s.data.toList.drop (m + a.length))[0]? = some 32 := by rw [e2]; rfl
          rwa [List.getElem?_drop, Nat.add_zero] at h5
        rw [List.getElem?_eq_getElem (by omega)] at this
        injection this
      rw [tail_hit (Nat.le_add_right _ _) hi (hno m _ a hna2 (by rw [e2, e]) rfl) hc, List.map_cons, ih (m + a.length + 1) (by omega) (by omega), e3, e, spl_hit hna2]
      congr 1
      rw [Lib.extract_data, show m + a.length - m = a.length by omega, e, List.take_left]
    · have hna : ∀ c ∈ s.data.toList.drop m, c ≠ 32 := fun c hc e => hb (e ▸ hc)
      rw [tail_miss (hno m s.size _ hna (by rw [List.drop_eq_nil_of_le (i := s.size) (by omega), List.append_nil]) (by rw [List.length_drop]; omega))]
      simp only [List.map_cons, List.map_nil, tail_data]
      rw [spl_no hna]
theorem noteL_data {t : ByteArray} : (noteL t).map (·.data.toList) = if t.data.toList = [] then [] else spl t.data.toList := by
  by_cases h : t.data.toList = []
  · rw [if_pos h, noteL, if_pos (by rw [ByteArray.toList_eq]; exact h)]; rfl
  · rw [if_neg h, noteL_tail (by rw [ByteArray.toList_eq]; exact h), tailN_data t t.size 0 (by omega) (Nat.zero_le _), List.drop_zero]
theorem joinW_noteL (t : ByteArray) : joinW (noteL t) = t := by
  apply ByteArray.ext
  apply Array.toList_inj.1
  show Lib.join ((noteL t).map (·.data.toList)) [32] = _
  rw [noteL_data]
  split
  · rename_i h; rw [h]; rfl
  · exact join_spl _
theorem trim_last {l : List UInt8} {c : UInt8} (h : c ≠ 32) : trimR (l ++ [c]) = l ++ [c] := by
  unfold trimR
  rw [List.reverse_append]
  have hb : blank c = false := by simpa [blank] using h
  simp [hb]
theorem join_last {ws : List (List UInt8)} (h0 : ws ≠ []) (h : ∀ w ∈ ws, w ≠ [] ∧ ∀ c ∈ w, c ≠ 32) : ∃ l c, Lib.join ws [32] = l ++ [c] ∧ c ≠ 32 := by
  induction ws with
  | nil => exact absurd rfl h0
  | cons w r ih =>
    cases r with
    | nil =>
      obtain ⟨h1, h2⟩ := h w (by simp)
      refine ⟨w.dropLast, w.getLast h1, ?_, h2 _ (List.getLast_mem h1)⟩
      rw [Lib.join_one, List.dropLast_concat_getLast]
    | cons y r =>
      obtain ⟨l, c, e, hc⟩ := ih (by simp) (fun x hx => h x (by simp [hx]))
      exact ⟨w ++ 32 :: l, c, by rw [join_more, e]; simp, hc⟩
theorem trim_line {ws : List ByteArray} {x : List UInt8} (h : ∀ w ∈ ws, wordF w = true) (h0 : ws ≠ []) (hj : Lib.join (ws.map (·.data.toList)) [32] = x) : trimR (35 :: 32 :: x) = 35 :: 32 :: x := by
  obtain ⟨l, c, e, hc⟩ := join_last (ws := ws.map (·.data.toList)) (by simpa using h0) (by
    intro w hw
    obtain ⟨y, hy, rfl⟩ := List.mem_map.1 hw
    refine ⟨(wordF_facts (h y hy)).1, fun c hc => ?_⟩
    have := (wordF_facts (h y hy)).2.2 c hc
    rintro rfl
    simp at this)
  rw [← hj, e]
  exact trim_last (l := 35 :: 32 :: l) hc
end Go.Proofs.YtddfdmopaeghnacGreatDoor

namespace Go.Proofs.YtddfdmopaeghnacGreatDoor

end Go.Proofs.YtddfdmopaeghnacGreatDoor

namespace Go.Proofs.YtddfdmopaeghnacGreatDoor

end Go.Proofs.YtddfdmopaeghnacGreatDoor

namespace Go.Proofs.YtddfdmopaeghnacGreatDoor

def TxB (m : Nat) (x : List Nd) : Prop := ∀ d ∈ x, d.text.size ≤ m
theorem TxB.one {m : Nat} {d : Nd} (h : d.text.size ≤ m) : TxB m [d] := by
  intro z hz; rw [List.mem_singleton.1 hz]; exact h
theorem TxB.cons {m : Nat} {d : Nd} {x : List Nd} (h : d.text.size ≤ m) (hx : TxB m x) : TxB m (d :: x) := by
  intro z hz
  rcases List.mem_cons.1 hz with rfl | hz
  · exact h
  · exact hx z hz
end Go.Proofs.YtddfdmopaeghnacGreatDoor

namespace Go.Proofs.YtddfdmopaeghnacGreatDoor

end Go.Proofs.YtddfdmopaeghnacGreatDoor

namespace Go.Proofs.YtddfdmopaeghnacGreatDoor
open Go.RowKit

/-- The parser in block g: the words, where they begin, the next one. -/
structure PsSt (g : Nat) (W : Option Addr) (cw : Nat) (ws : List ByteArray) (P : Option Addr) (cp : Nat) (ps : List Nat) (k : Nat) (w : World) : Prop where
  blk : w.heap[g]? = some (.cells #[.slice W ws.length cw, .slice P ps.length cp, .int .i64 (k : Nat)] 132 (0, 0))
  txs : Txs w g W ws
  pls : Sl w g 1 P ps.length (ps.map fun p => .int .i64 (p : Nat))
  len : ps.length = ws.length + 1
  few : ws.length ≤ 60000
theorem wdAt_at {ws : List ByteArray} {k : Nat} (h : k < ws.length) : wdAt ws k = ws[k] := by simp [wdAt, List.getD_eq_getElem?_getD, h]
theorem wdAt_end {ws : List ByteArray} {k : Nat} (h : ws.length ≤ k) : wdAt ws k = .empty := by simp [wdAt, List.getD_eq_getElem?_getD, h]
section
variable {g cw cp k : Nat} {W P : Option Addr} {ws : List ByteArray} {ps : List Nat} {w w' : World}
theorem PsSt.lt (h : PsSt g W cw ws P cp ps k w) : g < w.heap.size := (Array.getElem?_eq_some_iff.1 h.blk).1
theorem PsSt.past (h : PsSt g W cw ws P cp ps k w) (hb : Below w.heap.size w w') : PsSt g W cw ws P cp ps k w' :=
  ⟨(hb.block g h.lt).trans h.blk, ⟨h.txs.1.below hb (Nat.le_of_lt h.lt), h.txs.2⟩, h.pls.below hb (Nat.le_of_lt h.lt), h.len, h.few⟩
theorem PsSt.cells (h : PsSt g W cw ws P cp ps k w) : w.cell? ⟨g, 0, none⟩ = some (.slice W ws.length cw) ∧ w.cell? ⟨g, 1, none⟩ = some (.slice P ps.length cp) ∧ w.cell? ⟨g, 2, none⟩ = some (.int .i64 (k : Nat)) ∧ w.frozen? ⟨g, 2, none⟩ = false := by
  refine ⟨?_, ?_, ?_, Lib.frozen_of_heap h.blk 2⟩ <;> rw [Lib.cell_of_heap h.blk] <;> rfl
theorem PsSt.size (h : PsSt g W cw ws P cp ps k w) (j : Nat) : (wdAt ws j).size ≤ maxLen := by
  rcases Nat.lt_or_ge j ws.length with hj | hj
  · rw [wdAt_at hj]; exact h.txs.2.2 _ (List.getElem_mem _)
  · rw [wdAt_end hj]; exact Nat.zero_le _
end

end Go.Proofs.YtddfdmopaeghnacGreatDoor

namespace Go.Proofs.YtddfdmopaeghnacGreatDoor

end Go.Proofs.YtddfdmopaeghnacGreatDoor

namespace Go.Proofs.YtddfdmopaeghnacGreatDoor

/-- A statement's line. -/
def lineL (u : List Nd) : ByteArray := if opAt u 0 = 9 then (let x := (u.getD 0 ⟨0, .empty, 0⟩).text; if x.data.toList = [] then ⟨#[35]⟩ else ⟨#[35, 32]⟩ ++ x) else textX u u.length 0
end Go.Proofs.YtddfdmopaeghnacGreatDoor

namespace Go.Proofs.YtddfdmopaeghnacGreatDoor
open Go.RowKit

set_option maxRecDepth 100000 in
set_option maxHeartbeats 4000000 in
theorem swrite_9 {B g c : Nat} {A : Option Addr} {l : List Nd} {i : Nat} {t s : ByteArray} {n : Int} {w : World} (hs : SySt B g A c l i s w) (hi : i < l.length) (hnd : l[i] = Nd.mk 9 t n) (h40 : l.length ≤ 40) (hsz : s.size ≤ 100 * i + 50) (ht8 : t.size ≤ 2000) {LT : ByteArray} (hLT : ⟨(Lib.trimRightB (⟨#[35, 32]⟩ ++ t : ByteArray).data.toList 32).toArray⟩ = LT) :
    Calls Tryz.prog 93 #[.pointer (some ⟨g, 0, none⟩)] w (SyTo B g A c l (i + 1) (s ++ LT) w) := by
  have k1 : IntKind.i64.wrap ((i : Int) + 1) = (i : Int) + 1 := IntWalk.i64_in _ (by omega)
  have hcat0 : ∀ w', (Op.stringOp .add ⟨#[35, 32]⟩ t).run Tryz.prog w' = .ok (.string (⟨#[35, 32]⟩ ++ t)) w' := fun w' => run_string_add_sum w' _ t (by show 2 + t.size ≤ _; omega)
  have hz2 : (⟨#[35, 32]⟩ ++ t : ByteArray).size = 2 + t.size := by rw [ByteArray.size_append]; rfl
  have hlt2 : LT.size ≤ 2002 := by
    rw [← hLT]
    have := trimR_le (⟨#[35, 32]⟩ ++ t : ByteArray).data.toList
    rw [trim_lib]
    have h5 : (⟨#[35, 32]⟩ ++ t : ByteArray).data.toList.length = (⟨#[35, 32]⟩ ++ t : ByteArray).size := Array.length_toList
    show (trimR _).length ≤ _
    omega
  have HT := Lib.hid (fun w' => (Tryz.strings_TrimRight_one (⟨#[35, 32]⟩ ++ t) 32 (by decide) w' (by rw [hz2]; omega)).mono fun e u (h : e = _ ∧ u = w') => (⟨h.1, h.2.symm⟩ : e = _ ∧ w' = u))
  rw [hLT] at HT
  clear hLT
  generalize hCT : (⟨#[35, 32]⟩ ++ t : ByteArray) = CT at *
  clear hCT hz2
  obtain ⟨b, off, op, t', n', rfl, hb, hnd', hts, d1, d2, d3⟩ := hs.nds.node (Below.refl _ _) hi
  rw [hnd] at hnd'
  cases hnd'
  obtain ⟨hBg, hgl⟩ := hs.lt
  obtain ⟨c0, c1, f1⟩ := hs.cells
  have HS := Lib.hid hs
  have hbw : b < w.heap.size := by omega
  clear hs hnd
  go_enter Tryz.func93, Tryz.ntmps93
  go_wp2
  go_region
  go_upto_region 2 with (fail)
  obtain ⟨h, hh⟩ : ∃ h, h = w.heap.size := ⟨_, rfl⟩
  rw [← hh]
  refine mk_named (fun wy => SyN B g h (some ⟨b, off, none⟩) c l (i + 1) s 9 t n w wy) ?named ?_
  case named => exact SyN.mk_ HS.out hh (by omega)
  clear hh c0 c1 f1 d1 d2 d3 HS
  rintro wy hy
  obtain ⟨y0, y1, y2⟩ := hy.cells
  have HM := Lib.hid hy.st; have HBX := Lib.hid hy.nd; have HB := Lib.hid hy.bel; have HO := Lib.hid hy.bes; have hz := hy.sz; have hlt := mkheap_lt hy.nd; have hgh := hy.lt
  clear hy k1
  go_wp2_with fail
  go_region_held3 (fun w' => w'.cell? ⟨h, 0, none⟩ = some (.int .i64 9) ∧ w'.cell? ⟨h, 1, none⟩ = some (.string t) ∧ w'.cell? ⟨h, 2, none⟩ = some (.int .i64 n)) (exact ⟨y0, y1, y2⟩)
    (first | (go_at_call 72; refine (HT.out _).mono ?_; rintro e w' ⟨rfl, rfl⟩) | (go_at_call 47; refine (sst_write LT (HM.out.past (Below.refl _ _).drew) (by omega)).mono ?_; rintro e w4 ⟨rfl, hm2, hB2, hO2, hz2⟩; have hB2 := below_undrew hB2; have hO2 : BesideS g wy w4 := hO2; have HBX := Lib.hid (hO2.tree HBX.out (by omega)); have y0 : w4.cell? ⟨h, 0, none⟩ = some (.int .i64 9) := (by rw [Lib.cell_of_heap HBX.out]; rfl); have y1 : w4.cell? ⟨h, 1, none⟩ = some (.string t) := (by rw [Lib.cell_of_heap HBX.out]; rfl); have y2 : w4.cell? ⟨h, 2, none⟩ = some (.int .i64 n) := (by rw [Lib.cell_of_heap HBX.out]; rfl); have HM := Lib.hid hm2; have HB := Lib.hid (HB.out.trans hB2); have HO := Lib.hid (HO.out.trans hO2); have hz := Nat.le_trans hz hz2; clear hm2 hB2 hO2 hz2))
  clear hcat0
  go_wp2
  go_end0
  exact ⟨rfl, HM.out, HB.out, HO.out, hz⟩

set_option maxRecDepth 100000 in
set_option maxHeartbeats 2000000 in
theorem sline_note {t : ByteArray} (ht8 : t.size ≤ 2000) {LT : ByteArray} (hLT : ⟨(Lib.trimRightB (⟨#[35, 32]⟩ ++ t : ByteArray).data.toList 32).toArray⟩ = LT) (hne : LT.data.toList ≠ []) (A : Option Addr) (c : Nat) (w : World) (hN : Nds w w.heap.size A [⟨9, t, 0⟩]) (hp : PowT w) :
    Calls Tryz.prog 48 #[.slice A 1 c] w (Ret w (.string LT)) := by
  have HNE := Lib.hid hne
  have hST : SySt w.heap.size w.heap.size A c [⟨9, t, 0⟩] 0 .empty (w.alloc (.cells #[.pointer none, .slice none 0 0, .slice A 1 c, .int .i64 (0 : Nat)] 164)) :=
    ⟨SyW.new w _, hN.mkunder ((Below.refl _ _).alloc (Nat.le_refl _) _) (Nat.le_refl _), hp.past ((Below.refl _ _).alloc (Nat.le_refl _) _), hp.lt⟩
  have hW := swrite_9 hST (by simp) rfl (by simp) (by decide) ht8 hLT
  rw [ByteArray.empty_append] at hW
  have HW := Lib.hid hW
  have HAL : Hid (Below w.heap.size w (w.alloc (.cells #[.pointer none, .slice none 0 0, .slice A 1 c, .int .i64 (0 : Nat)] 164))) := Lib.hid ((Below.refl _ _).alloc (Nat.le_refl _) _)
  clear hW hST hN hp hLT hne ht8
  go_enter Tryz.func48, Tryz.ntmps48
  go_wp2_with (first
    | (go_at_call 93; refine HW.out.mono ?_; rintro e w2 ⟨rfl, hm, hB2, hO2, hz2⟩; have HM := Lib.hid hm; have hB3 := HAL.out.trans hB2; clear hm hB2 hO2)
    | (go_at_call 49; refine (sy_string _ _ _ _ _ _ HM.out.wr HNE.out).mono ?_; rintro e w3 ⟨rfl, hB4⟩))
  go_ret
  exact ⟨rfl, hB3.trans hB4⟩
theorem note_size {x : ByteArray} (h : treeOne 9 x 0 = 0) : x.size ≤ 1260 := by
  have hwf : wordsF (noteL x) = 0 := by
    unfold treeOne at h
    split at h
    · cases h
    · split at h
      · cases h
      · simpa using h
  obtain ⟨h1, h2⟩ := wordsF_facts hwf
  have h3 := joinW_size (noteL x)
  rw [joinW_noteL] at h3
  have h4 : ∀ l : List ByteArray, (∀ w ∈ l, wordF w = true) → costL l ≤ 21 * l.length := by
    intro l
    induction l with
    | nil => intro _; exact Nat.le_refl _
    | cons w r ih =>
      intro hw
      have a1 := ih (fun y hy => hw y (by simp [hy]))
      have a2 := (wordF_facts (hw w (by simp))).2.1
      simp only [costL, List.map_cons, List.sum_cons, List.length_cons] at *
      omega
  have := h4 _ h2
  omega
theorem lineSaid_all {u : List Nd} (h : treeF u = 0) : LineSaid u (lineL u) := by
  by_cases h9 : opAt u 0 = 9
  · obtain ⟨x, rfl, h1⟩ := tree_note h h9
    have hz := note_size h1
    have hwf : wordsF (noteL x) = 0 := by
      unfold treeOne at h1
      split at h1
      · cases h1
      · split at h1
        · cases h1
        · simpa using h1
    have hT : ⟨(Lib.trimRightB (⟨#[35, 32]⟩ ++ x : ByteArray).data.toList 32).toArray⟩ = lineL [⟨9, x, 0⟩] := by
      have e : lineL [⟨9, x, 0⟩] = if x.data.toList = [] then ⟨#[35]⟩ else ⟨#[35, 32]⟩ ++ x := rfl
      rw [e, trim_lib]
      apply ByteArray.ext
      apply Array.toList_inj.1
      rw [ByteArray.data_append, Array.toList_append]
      by_cases hx : x.data.toList = []
      · rw [if_pos hx, hx]; rfl
      · have hd := noteL_data (t := x)
        rw [if_neg hx] at hd ⊢
        have hn : noteL x ≠ [] := fun e => by
          rw [e] at hd
          obtain ⟨h, t, e2⟩ := spl_ne x.data.toList
          rw [e2] at hd; cases hd
        have hj : Lib.join ((noteL x).map (·.data.toList)) [32] = x.data.toList := by rw [hd]; exact join_spl _
        show trimR (35 :: 32 :: x.data.toList) = _
        rw [trim_line (wordsF_facts hwf).2 hn hj, ByteArray.data_append, Array.toList_append]; rfl
    have hne : (lineL [⟨9, x, 0⟩]).data.toList ≠ [] := by
      have e : lineL [⟨9, x, 0⟩] = if x.data.toList = [] then ⟨#[35]⟩ else ⟨#[35, 32]⟩ ++ x := rfl
      rw [e]
      split
      · simp
      · rw [ByteArray.data_append, Array.toList_append]; simp
    refine ⟨?_, fun A c w hN hp => sline_note (by omega) hT hne A c w hN hp⟩
    have e : lineL [⟨9, x, 0⟩] = if x.data.toList = [] then ⟨#[35]⟩ else ⟨#[35, 32]⟩ ++ x := rfl
    rw [e]
    split
    · decide
    · rw [ByteArray.size_append]
      show 2 + x.size ≤ 2000
      omega
  · have e : lineL u = textL u := by rw [lineL, if_neg h9]; rfl
    rw [e]
    exact lineSaid_doc h h9
end Go.Proofs.YtddfdmopaeghnacGreatDoor
