/- A map of the call's own as a function of its keys: a look-up with ok, a store, over whatever keys and elements. Condition: the key's type is one the kit has a law for. -/
import Derived.Maps.OwnOps
namespace Go.Proofs.YtddfdmopaeghnacGreatDoor
open Go.RowKit Go.Maps Go.ChangeMaps

section
variable {P : Program} {k : TypeId} {w w' : World} {b : Nat}

/-- Block b is a map; at each key it has what f says. -/
def MapF (P : Program) (k : TypeId) (f : Value → Option Value) (b : Nat) (w : World) : Prop :=
  ∃ es clock, w.heap[b]? = some (.map es clock) ∧ (∀ e ∈ es.toList, (∃ l, keyOf P k e.key = some l) ∧ f e.key = some e.val) ∧ (∀ key v, f key = some v → ∃ e ∈ es.toList, e.key = key) ∧ (es.toList.map (·.key)).Pairwise (· ≠ ·)

theorem keys_set {l : List MapEntry} {j : Nat} {e : MapEntry} (h : l[j]? = some e) : (l.map (·.key)).set j e.key = l.map (·.key) := by
  refine List.ext_getElem (by simp) (fun i h1 h2 => ?_)
  rw [List.getElem_set]
  split
  · rename_i hij
    subst hij
    have hj : j < l.length := (List.getElem?_eq_some_iff.1 h).1
    rw [List.getElem?_eq_getElem hj] at h
    simp [Option.some.inj h]
  · rfl
theorem keys_once {l : List MapEntry} (h : (l.map (·.key)).Pairwise (· ≠ ·)) {i j : Nat} {a b : MapEntry} (hi : l[i]? = some a) (hj : l[j]? = some b) (hk : a.key = b.key) : i = j := by
  have hil := (List.getElem?_eq_some_iff.1 hi)
  have hjl := (List.getElem?_eq_some_iff.1 hj)
  obtain ⟨hi1, hi2⟩ := hil
  obtain ⟨hj1, hj2⟩ := hjl
  have hpw := List.pairwise_iff_getElem.1 h
  rcases Nat.lt_trichotomy i j with hlt | he | hlt
  · have := hpw i j (by simpa using hi1) (by simpa using hj1) hlt
    simp only [List.getElem_map] at this
    rw [hi2, hj2] at this
    exact absurd hk this
  · exact he
  · have := hpw j i (by simpa using hj1) (by simpa using hi1) hlt
    simp only [List.getElem_map] at this
    rw [hi2, hj2] at this
    exact absurd hk.symm this
theorem MapF.made (w : World) : MapF P k (fun _ => none) w.heap.size (w.alloc (.map #[] 0)) :=
  ⟨#[], 0, (MapKept.heap_alloc w _).1, by simp, by simp, by simp⟩
theorem MapF.lt {f : Value → Option Value} (h : MapF P k f b w) : b < w.heap.size := by
  obtain ⟨es, clock, hb, _⟩ := h
  exact (Array.getElem?_eq_some_iff.1 hb).1
theorem MapF.of_block {f : Value → Option Value} (h : MapF P k f b w) (hb : w'.heap[b]? = w.heap[b]?) : MapF P k f b w' := by
  obtain ⟨es, clock, h1, h2⟩ := h
  exact ⟨es, clock, hb.trans h1, h2⟩
theorem MapF.kept {f : Value → Option Value} {row : Option Nat} (h : MapF P k f b w) (hg : w.grownBy w' row) (hne : some b ≠ row) : MapF P k f b w' := h.of_block (hg.block b h.lt hne)
theorem MapF.below {f : Value → Option Value} (h : MapF P k f b w) (hb : Below w.heap.size w w') : MapF P k f b w' := h.of_block (hb.block b h.lt)

/-- 'v, ok := m[k]' -/
theorem MapF.look {f : Value → Option Value} (h : MapF P k f b w) (K : Keyed P k) {t e : TypeId} (ht : P.underlying t = some (.map k e)) {z : Value} (hz : (zeroValue e).run P w = .ok z w) {key : Value} {kl : Lit} (hkey : keyOf P k key = some kl) :
    (Instr.lookup t (.map (some b)) key true).run P w = .ok (.tuple #[(f key).getD z, .bool (f key).isSome]) w := by
  obtain ⟨es, clock, hb, h1, h2, h3⟩ := h
  rcases K.find w hkey es.toList (fun e he => (h1 e he).1) with ⟨hf, hn⟩ | ⟨j, e0, hf, hj, hk0⟩
  · have hno : f key = none := by
      cases hfk : f key with
      | none => rfl
      | some v =>
        obtain ⟨e, he, hek⟩ := h2 key v hfk
        exact absurd hek (hn e he)
    rw [hno]
    simp [Instr.lookup, run_underlying ht, MapKept.run_getObj_map hb, K.check w _ hkey, hf, hz, Result.andThen]
  · have hm := List.mem_of_getElem? hj
    have hv := (h1 e0 hm).2
    rw [hk0] at hv
    rw [hv]
    simp [Instr.lookup, run_underlying ht, MapKept.run_getObj_map hb, K.check w _ hkey, hf, Result.andThen]
/-- 'v := m[k]' -/
theorem MapF.get {f : Value → Option Value} (h : MapF P k f b w) (K : Keyed P k) {t e : TypeId} (ht : P.underlying t = some (.map k e)) {z : Value} (hz : (zeroValue e).run P w = .ok z w) {key : Value} {kl : Lit} (hkey : keyOf P k key = some kl) :
    (Instr.lookup t (.map (some b)) key false).run P w = .ok ((f key).getD z) w := by
  obtain ⟨es, clock, hb, h1, h2, h3⟩ := h
  rcases K.find w hkey es.toList (fun e he => (h1 e he).1) with ⟨hf, hn⟩ | ⟨j, e0, hf, hj, hk0⟩
  · have hno : f key = none := by
      cases hfk : f key with
      | none => rfl
      | some v =>
        obtain ⟨e, he, hek⟩ := h2 key v hfk
        exact absurd hek (hn e he)
    rw [hno]
    simp [Instr.lookup, run_underlying ht, MapKept.run_getObj_map hb, K.check w _ hkey, hf, hz, Result.andThen]
  · have hm := List.mem_of_getElem? hj
    have hv := (h1 e0 hm).2
    rw [hk0] at hv
    rw [hv]
    simp [Instr.lookup, run_underlying ht, MapKept.run_getObj_map hb, K.check w _ hkey, hf, Result.andThen]

open Classical in
/-- The function behind a store. -/
noncomputable def putF (f : Value → Option Value) (key val : Value) : Value → Option Value := fun x => if x = key then some val else f x
theorem putF_same (f : Value → Option Value) (key val : Value) : putF f key val key = some val := by simp [putF]
theorem putF_other (f : Value → Option Value) {key x : Value} (val : Value) (h : x ≠ key) : putF f key val x = f x := by simp [putF, h]
theorem putF_some {f : Value → Option Value} {key val x v : Value} (h : putF f key val x = some v) : (x = key ∧ v = val) ∨ f x = some v := by
  unfold putF at h
  split at h
  · rename_i hx
    exact .inl ⟨hx, (Option.some.inj h).symm⟩
  · exact .inr h

/-- 'm[k] = v' -/
theorem MapF.store {f : Value → Option Value} (h : MapF P k f b w) (K : Keyed P k) {t e : TypeId} (ht : P.underlying t = some (.map k e)) {key : Value} {kl : Lit} (hkey : keyOf P k key = some kl) (val : Value) :
    ∃ o, ∀ W : World, W.heap[b]? = w.heap[b]? → (Instr.mapUpdate t (.map (some b)) key val).run P W = .ok () (setBlock W b o) ∧ MapF P k (putF f key val) b (setBlock W b o) ∧ W.grownBy (setBlock W b o) (some b) := by
  obtain ⟨es, clock, hb0, h1, h2, h3⟩ := h
  have grown : ∀ (W : World) o, W.heap[b]? = some (.map es clock) → W.grownBy (setBlock W b o) (some b) := fun W o hb => ⟨rfl, rfl, rfl, by simp [setBlock], fun i _ hi => heap_setBlock_other hb _ (fun e => hi (by rw [e]))⟩
  have same : (∀ W : World, (Instr.findKey k key es.toList).run P W = .ok none W) ∧ (∀ e ∈ es.toList, e.key ≠ key) ∨ ∃ j e, (∀ W : World, (Instr.findKey k key es.toList).run P W = .ok (some (j, e.val)) W) ∧ es.toList[j]? = some e ∧ e.key = key := by
    rcases K.find w hkey es.toList (fun e he => (h1 e he).1) with ⟨hf, hn⟩ | ⟨j, e0, hf, hj, hk0⟩
    · refine .inl ⟨fun W => ?_, hn⟩
      rcases K.find W hkey es.toList (fun e he => (h1 e he).1) with ⟨hf', _⟩ | ⟨j, e0, _, hj, hk0⟩
      · exact hf'
      · exact absurd hk0 (hn e0 (List.mem_of_getElem? hj))
    · refine .inr ⟨j, e0, fun W => ?_, hj, hk0⟩
      rcases K.find W hkey es.toList (fun e he => (h1 e he).1) with ⟨_, hn'⟩ | ⟨j', e0', hf', hj', hk0'⟩
      · exact absurd hk0 (hn' e0 (List.mem_of_getElem? hj))
      · have hjj : j = j' := keys_once h3 hj hj' (hk0.trans hk0'.symm)
        subst hjj
        rw [hj] at hj'
        cases hj'
        exact hf'
  rcases same with ⟨hf, hn⟩ | ⟨j, e0, hf, hj, hk0⟩
  · refine ⟨.map (es.push ⟨key, val, clock⟩) (clock + 1), fun W hW => ?_⟩
    have hb := hW.trans hb0
    refine ⟨?_, ⟨_, _, heap_setBlock_same hb _, ?_, ?_, ?_⟩, grown W _ hb⟩
    · have hfW := hf W
      simp [Instr.mapUpdate, run_underlying ht, MapKept.run_getObj_map hb, K.check W false hkey, hfW, MapKept.run_setObj_map _ hb, Result.andThen, setBlock]
    · intro e he
      simp only [Array.toList_push, List.mem_append, List.mem_singleton] at he
      rcases he with he | rfl
      · exact ⟨(h1 e he).1, by rw [putF_other _ _ (hn e he)]; exact (h1 e he).2⟩
      · exact ⟨⟨kl, hkey⟩, putF_same _ _ _⟩
    · intro x v hx
      rcases putF_some hx with ⟨rfl, rfl⟩ | hx
      · exact ⟨⟨x, v, clock⟩, by simp, rfl⟩
      · obtain ⟨e, he, hek⟩ := h2 x v hx
        exact ⟨e, by simp only [Array.toList_push, List.mem_append]; exact .inl he, hek⟩
    · rw [Array.toList_push, List.map_append, List.pairwise_append]
      refine ⟨h3, by simp, fun a ha b hb => ?_⟩
      obtain ⟨e, he, rfl⟩ := List.mem_map.1 ha
      simp at hb
      rw [hb]
      exact hn e he
  · have hje : es[j]? = some e0 := by simpa using hj
    have hjl : j < es.size := (Array.getElem?_eq_some_iff.1 hje).1
    have hlist : (es.modify j (fun e' => { e' with key := key, val := val })).toList = es.toList.set j { e0 with key := key, val := val } := by rw [Array.toList_modify, modify_eq_set _ _ _ _ hj]
    refine ⟨.map (es.modify j (fun e' => { e' with key := key, val := val })) clock, fun W hW => ?_⟩
    have hb := hW.trans hb0
    refine ⟨?_, ⟨_, _, heap_setBlock_same hb _, ?_, ?_, ?_⟩, grown W _ hb⟩
    · have hfW := hf W
      simp [Instr.mapUpdate, run_underlying ht, MapKept.run_getObj_map hb, K.check W false hkey, hfW, hje, hk0, K.stays W hkey, MapKept.run_setObj_map _ hb, Result.andThen, setBlock]
    · intro e he
      rw [hlist] at he
      obtain ⟨i, hi, hie⟩ := List.getElem_of_mem he
      rw [List.getElem_set] at hie
      split at hie
      · subst hie
        exact ⟨⟨kl, hkey⟩, putF_same _ _ _⟩
      · rename_i hij
        have hi' : i < es.toList.length := by simpa using hi
        have hm : e ∈ es.toList := hie ▸ List.getElem_mem hi'
        refine ⟨(h1 e hm).1, ?_⟩
        rw [putF_other _ _ (fun hek => ?_)]
        · exact (h1 e hm).2
        · have hj' : j < es.toList.length := by simpa using hjl
          have e0j : es.toList[j] = e0 := by rw [List.getElem?_eq_getElem hj'] at hj; exact Option.some.inj hj
          have hpw := List.pairwise_iff_getElem.1 h3
          rcases Nat.lt_or_gt_of_ne hij with hlt | hlt
          · have := hpw j i (by simpa using hj') (by simpa using hi') hlt
            simp only [List.getElem_map] at this
            rw [e0j, hie, hk0, hek] at this
            exact this rfl
          · have := hpw i j (by simpa using hi') (by simpa using hj') hlt
            simp only [List.getElem_map] at this
            rw [e0j, hie, hk0, hek] at this
            exact this rfl
    · intro x v hx
      rw [hlist]
      by_cases hxk : x = key
      · subst hxk
        exact ⟨⟨x, val, e0.born⟩, List.mem_iff_getElem.2 ⟨j, by simpa using hjl, by simp⟩, rfl⟩
      · have hx' : f x = some v := by rw [putF_other _ _ hxk] at hx; exact hx
        obtain ⟨e, he, hek⟩ := h2 x v hx'
        obtain ⟨i, hi, hie⟩ := List.getElem_of_mem he
        refine ⟨e, List.mem_iff_getElem.2 ⟨i, by simpa using hi, ?_⟩, hek⟩
        rw [List.getElem_set]
        split
        · rename_i hij
          subst hij
          rw [List.getElem?_eq_getElem hi] at hj
          cases hj
          rw [hie] at hk0
          exact absurd (hek.symm.trans hk0) hxk
        · exact hie
    · rw [hlist, List.map_set, ← hk0, keys_set hj]
      exact h3
end
end Go.Proofs.YtddfdmopaeghnacGreatDoor
