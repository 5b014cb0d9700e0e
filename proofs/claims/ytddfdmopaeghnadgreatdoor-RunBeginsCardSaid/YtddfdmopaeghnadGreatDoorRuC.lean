/- Law: a range over an iterator that keeps its state in a cell of its own. No condition. Plain: a text in lines, each with its end; a bar ahead of each. No condition. strings.Lines: what its maker hands back, what its iterator owes. Condition: a round keeps the iterator's cell. Walk: a session's line: an arm. Conditions: the text is not too long; the tables and the variables read as the program's text lays them. Walk: a session's line: an arm. Conditions: the text is not too long; the tables and the variables read as the program's text lays them. Walk: a session's line: an arm. Conditions: the text is not too long; the tables and the variables read as the program's text lays them. -/
import Derived.RangeFuncWrites
import Derived.RangeFuncLeaves
import Derived.Test.YtddfdmopaeghnadGreatDoorRuB
import Derived.Lib.Bytealg
import Derived.RangeFuncNested
import Derived.RangeFuncBound
import Derived.RangeFuncCalls
import Derived.Shelf.Abstract
import Derived.Shelf.RegionOpen
import Derived.WalkKit
import Derived.OwnWalkIn
import Derived.TacticsInMore
import Derived.LoopNIn
import Derived.LoopIn
import Derived.IntWalk
import Derived.Test.YtddfdmopaeghnadGreatDoorRqSh
namespace Go.Proofs.YtddfdmopaeghnadGreatDoor
open Go Go.RowKit

/-- A cell that holds a text. -/
def StrAt (g : Nat) (A : World) : Prop := ∃ s, A.heap[g]? = some (.cells #[.string s] 9 (0, 0))
/-- What an iterator does between two rounds: it writes its cell; new blocks come. -/
def ItStep (g : Nat) (A B : World) : Prop := A.grownBy B (some g) ∧ StrAt g B
/-- What a loop's invariant must bear besides: whatever is no cells, from N on, may turn. -/
structure LpStep (N g : Nat) (A B : World) : Prop where
  os : B.os = A.os
  tape : B.tape = A.tape
  output : B.output = A.output
  size : A.heap.size ≤ B.heap.size
  low : ∀ k, k ≠ g → k < N → B.heap[k]? = A.heap[k]?
  cells : ∀ k o, k ≠ g → A.heap[k]? = some o → o.isCells = true → B.heap[k]? = some o
  str : StrAt g B
theorem ItStep.lp {N g : Nat} {A B : World} (h : ItStep g A B) (hN : N ≤ A.heap.size) : LpStep N g A B :=
  ⟨h.1.os, h.1.tape, h.1.output, h.1.size, fun k hk hl => h.1.block k (by omega) (fun e => hk (Option.some.inj e)), fun k o hk ho _ => (h.1.block k (Array.getElem?_eq_some_iff.1 ho).1 (fun e => hk (Option.some.inj e))).trans ho, h.2⟩
theorem LpStep.put {N g l : Nat} {A : World} {o o' : Obj} (hg : StrAt g A) (hgN : g < N) (hl : N ≤ l) (h : A.heap[l]? = some o) (hc : o.isCells = false) : LpStep N g A (A.putObj l o') := by
  refine ⟨rfl, rfl, rfl, by simp [World.putObj], fun k _ hk => World.putObj_heap_other (by omega), fun k u _ hu hc' => ?_, hg.imp fun s hs => (World.putObj_heap_other (by omega)).trans hs⟩
  by_cases e : k = l
  · subst e; rw [h] at hu; cases hu; rw [hc] at hc'; cases hc'
  · exact (World.putObj_heap_other e).trans hu
def IterC (F : Fence) (n : Nat) (P : Program) (gf : Nat) (lb : Array Value) (g : Nat) (xs : List ByteArray) (w : World) : Prop :=
  ∀ (l : Nat) (J : List ByteArray → World → Prop) (W : World), W.heap[g]? = w.heap[g]? →
    (∀ pre A B, J pre A → ItStep g A B → J pre B) →
    (∀ pre x A, pre ++ [x] <+: xs → J pre A → YieldAt F (n - 1) P l #[.string x] A fun e B => e = .returned (.bool true) ∧ J (pre ++ [x]) B ∧ B.heap[g]? = A.heap[g]?) →
    J [] W → CallsIn F n P gf (#[.func (.yield l) #[] #[]] ++ lb) W fun e W' => (∃ v, e = .returned v) ∧ J xs W'
/-- How a round may be left. -/
def RnPost (N g : Nat) (I : List ByteArray → World → Prop) (xs : List ByteArray) (W : World) : Exit → Act → World → Prop
  | .normal, _, W' => I xs W' ∧ W'.heap[g]? = W.heap[g]? ∧ ∀ k o, N ≤ k → W.heap[k]? = some o → o.isCells = false → W'.heap[k]? = some o
  | _, _, _ => False
theorem wpIn_range_iterC {F : Fence} {n : Nat} {P : Program} {g0 : Operand} {ps : Array Tmp} {assign body : Code} {Q : Exit → Act → World → Prop} {a : Act} {w : World}
    (hro : F.round = none) (h1 : 1 ≤ n) {gf : Nat} {lb : Array Value} (hg : a.eval g0 = .func (.func gf) #[] lb) (hFg : F.fn gf) (eg : ∀ args w, (callFunc gf args).run P w = .ok (.enter gf args) w)
    {xs : List ByteArray} {g : Nat} (hseq : IterC F (n - 1) P gf lb g xs w) (hgw : g < w.heap.size) (hps : ps.size = 1)
    (I : List ByteArray → World → Prop) (hI : ∀ pre A B, I pre A → LpStep w.heap.size g A B → I pre B) (h0 : I [] w) (hz : ∀ pre A, I pre A → w.heap.size ≤ A.heap.size ∧ StrAt g A) (a₁ : ByteArray → Act)
    (hassign : ∀ (l : Nat) (x : ByteArray) (W : World) (K : Act → World → Prop), K (a₁ x) W →
      assign.wpIn (F.inRound l) (n - 1 - 1) P (Exit.then K (fun _ _ _ => False)) { tmps := (ps.zip #[Value.string x]).foldl (fun t (p, v) => t.setIfInBounds p v) a.tmps, defers := [] } W)
    (hbody : ∀ (l : Nat) (pre : List ByteArray) (x : ByteArray) (W : World), pre ++ [x] <+: xs → I pre W → body.wpIn (F.inRound l) (n - 1 - 1) P (RnPost w.heap.size g I (pre ++ [x]) W) (a₁ x) W)
    (hdone : ∀ (D : Nat) (W : World), w.heap.size ≤ D → I xs W → W.heap[D]? = some (.deferred (some [])) → Q .normal { a with defers := { target := .collected D, args := #[] } :: a.defers } W) :
    (Code.rangeFunc g0 ps assign body).wpIn F n P Q a w := by
  refine wpIn_rangeFunc ?_
  intro fn hfn
  rw [hro]
  obtain ⟨rec, hrec⟩ : ∃ rec : LoopState → Option Code → Loop, rec = fun st pe => { state := st, pending := pe, fn, tmps := a.tmps, params := ps, assign, body, defers := w.heap.size } := ⟨_, rfl⟩
  obtain ⟨W1, hW1⟩ : ∃ W1, (w.alloc (.deferred (some []))).alloc (.loop (rec .ready none)) = W1 := ⟨_, rfl⟩
  have hL1 : W1.heap[w.heap.size + 1]? = some (.loop (rec .ready none)) := by
    rw [← hW1]; have := World.alloc_heap_new (w.alloc (.deferred (some []))) (.loop (rec .ready none)); rwa [World.size_alloc] at this
  have hK1 : W1.heap[w.heap.size]? = some (.deferred (some [])) := by
    rw [← hW1]; exact (Below.heap_alloc _ _ _ (by simp)).trans (World.alloc_heap_new w _)
  have hB1 : ∀ k, k < w.heap.size → W1.heap[k]? = w.heap[k]? := fun k hk => by
    rw [← hW1]; exact (Below.heap_alloc _ _ _ (by simp; omega)).trans (Below.heap_alloc _ _ _ hk)
  have hI1 : I [] W1 := hI _ _ _ h0 ⟨by rw [← hW1]; rfl, by rw [← hW1]; rfl, by rw [← hW1]; rfl, by rw [← hW1]; simp; omega, fun k _ hk => hB1 k hk, fun k o _ ho _ => (hB1 k (Array.getElem?_eq_some_iff.1 ho).1).trans ho, (hz _ _ h0).2.imp fun s hs => (hB1 g hgw).trans hs⟩
  refine ⟨w.heap.size + 1, [{ target := .collected w.heap.size, args := #[] }], W1, { target := .fn (.func gf) lb, args := #[.func (.yield (w.heap.size + 1)) #[] #[]] }, W1, gf,
    #[.func (.yield (w.heap.size + 1)) #[] #[]] ++ lb, W1, ?_, ?_, ?_, ?_, fun _ => h1, ?_⟩
  · rw [← hW1, hrec]; exact run_enterLoop_outer _ _ _ _ _
  · simp only [resolve, hg]
    simp [go_sem]
  · intro f' hf'; simp [Target.leads] at hf'; subst hf'; exact hFg
  · simp [invoke, go_sem, eg]
  · refine (hseq (w.heap.size + 1)
      (fun pre W => I pre W ∧ W.heap[w.heap.size + 1]? = some (.loop (rec .ready none)) ∧ W.heap[w.heap.size]? = some (.deferred (some [])))
      W1 (hB1 g hgw)
      (fun pre A B hs hst => ⟨hI _ _ _ hs.1 (hst.lp (hz _ _ hs.1).1), (hst.1.block _ (Array.getElem?_eq_some_iff.1 hs.2.1).1 (fun e => by have := Option.some.inj e; omega)).trans hs.2.1, (hst.1.block _ (Array.getElem?_eq_some_iff.1 hs.2.2).1 (fun e => by have := Option.some.inj e; omega)).trans hs.2.2⟩)
      ?_ ⟨hI1, hL1, hK1⟩).mono ?_
    · rintro pre x W hlen ⟨hi, hl, hk⟩
      have hlt : w.heap.size + 1 < W.heap.size := (Array.getElem?_eq_some_iff.1 hl).1
      have hy := run_yield (P := P) (args := #[Value.string x]) hl (by rw [hrec]; exact hps.symm)
      rw [hrec] at hy
      refine ⟨fn, _, assign, body, hy, roundIn_of_wpIn hfn (hassign _ x W _ ⟨_, run_beginRound hl (by rw [hrec]), ?_⟩)⟩
      have hl2 : (W.putObj (w.heap.size + 1) (.loop { rec .ready none with state := .busy })).heap[w.heap.size + 1]? = some (.loop { rec .ready none with state := .busy }) := World.putObj_heap_same hlt
      have hk2 : (W.putObj (w.heap.size + 1) (.loop { rec .ready none with state := .busy })).heap[w.heap.size]? = some (.deferred (some [])) := (World.putObj_heap_other (by omega)).trans hk
      refine wpIn_mono (hbody _ pre x _ hlen (hI _ _ _ hi (LpStep.put (hz _ _ hi).2 hgw (by omega) hl rfl))) ?_
      rintro e a3 W3 hp
      cases e with
      | normal =>
        obtain ⟨hi3, hg3, hc3⟩ := hp
        have hl3 := hc3 _ _ (by omega) hl2 rfl
        have hk3 := hc3 _ _ (Nat.le_refl _) hk2 rfl
        have hr := run_endRound (P := P) none hl3
        rw [hrec] at hr
        refine ⟨_, _, hr, rfl, ⟨hI _ _ _ hi3 (LpStep.put (hz _ _ hi3).2 hgw (by omega) hl3 rfl), ?_, ?_⟩, ?_⟩
        · rw [hrec]; exact World.putObj_heap_same (Array.getElem?_eq_some_iff.1 hl3).1
        · exact (World.putObj_heap_other (by omega)).trans hk3
        · exact (World.putObj_heap_other (by omega)).trans (hg3.trans (World.putObj_heap_other (by omega)))
      | ret => exact hp.elim
      | exit id => exact hp.elim
      | goto t => exact hp.elim
      | panic ch => exact hp.elim
      | outgrown => exact hp.elim
    · rintro e W2 ⟨⟨v, rfl⟩, hi, hl, hk⟩
      exact ⟨none, _, by have := run_endLoop (P := P) hl (by rw [hrec]; simp); rw [hrec] at this; exact this, hdone _ _ (Nat.le_refl _) (hI _ _ _ hi (LpStep.put (hz _ _ hi).2 hgw (by omega) hl rfl)) ((World.putObj_heap_other (by omega)).trans hk)⟩
end Go.Proofs.YtddfdmopaeghnadGreatDoor

namespace Go.Proofs.YtddfdmopaeghnadGreatDoor

/-- The first line with its end, and what is behind it. -/
def lnCut : List UInt8 → List UInt8 × List UInt8
  | [] => ([], [])
  | c :: r => if c = 10 then ([10], r) else (c :: (lnCut r).1, (lnCut r).2)
theorem lnCut_app : ∀ l : List UInt8, (lnCut l).1 ++ (lnCut l).2 = l
  | [] => rfl
  | c :: r => by
    by_cases h : c = 10
    · subst h; rfl
    · rw [lnCut, if_neg h]
      simp only [List.cons_append]
      rw [lnCut_app r]
theorem lnCut_len (c : UInt8) (r : List UInt8) : (lnCut (c :: r)).2.length ≤ r.length := by
  have h := congrArg List.length (lnCut_app r)
  rw [List.length_append] at h
  by_cases hc : c = 10
  · rw [lnCut, if_pos hc]; exact Nat.le_refl _
  · rw [lnCut, if_neg hc]
    simp only
    omega
theorem ixb_ln : ∀ l : List UInt8, (Lib.indexByte l 10 = -1 ∧ lnCut l = (l, [])) ∨ ∃ k : Nat, Lib.indexByte l 10 = k ∧ k < l.length ∧ lnCut l = (l.take (k + 1), l.drop (k + 1))
  | [] => .inl ⟨rfl, rfl⟩
  | c :: r => by
    by_cases hc : c = 10
    · subst hc
      exact .inr ⟨0, by simp [Lib.indexByte], by simp, by simp [lnCut]⟩
    · have hc' : (c == 10) = false := beq_eq_false_iff_ne.2 hc
      rcases ixb_ln r with ⟨h2, h3⟩ | ⟨k, h1, h2, h3⟩
      · refine .inl ⟨by rw [Lib.indexByte, hc', h2]; rfl, ?_⟩
        rw [lnCut, if_neg hc, h3]
      · refine .inr ⟨k + 1, ?_, by simp; omega, ?_⟩
        · rw [Lib.indexByte, hc', h1]
          have : ((k : Int) == -1) = false := beq_eq_false_iff_ne.2 (by omega)
          simp [this]
        · rw [lnCut, if_neg hc, h3]
          simp
/-- A text in lines. -/
def rlnL : Nat → List UInt8 → List ByteArray
  | 0, _ => []
  | _ + 1, [] => []
  | n + 1, c :: r => ⟨(lnCut (c :: r)).1.toArray⟩ :: rlnL n (lnCut (c :: r)).2
theorem rlnL_nil (n : Nat) : rlnL n [] = [] := by cases n <;> rfl
theorem rlnL_fuel : ∀ (n m : Nat) (l : List UInt8), l.length ≤ n → l.length ≤ m → rlnL n l = rlnL m l
  | n, m, [], _, _ => by rw [rlnL_nil, rlnL_nil]
  | 0, _, _ :: _, h, _ => by simp at h
  | _, 0, _ :: _, _, h => by simp at h
  | n + 1, m + 1, c :: r, h, g => by
    have := lnCut_len c r
    simp only [List.length_cons] at h g
    rw [rlnL, rlnL, rlnL_fuel n m _ (by omega) (by omega)]
theorem lines_step {l : List UInt8} (h : l ≠ []) : rlnL l.length l = ⟨(lnCut l).1.toArray⟩ :: rlnL (lnCut l).2.length (lnCut l).2 ∧ (lnCut l).2.length < l.length := by
  cases l with
  | nil => exact absurd rfl h
  | cons c r =>
    have := lnCut_len c r
    refine ⟨?_, by simp only [List.length_cons]; omega⟩
    rw [List.length_cons, rlnL, rlnL_fuel r.length (lnCut (c :: r)).2.length _ this (Nat.le_refl _)]
/-- Lines behind each other, a bar ahead of each. -/
def catB (pre : List ByteArray) : ByteArray := pre.foldl (fun s l => s ++ (⟨#[124]⟩ ++ l)) .empty
theorem catB_snoc (pre : List ByteArray) (x : ByteArray) : catB (pre ++ [x]) = catB pre ++ (⟨#[124]⟩ ++ x) := by simp [catB]
theorem bars_false : ∀ l : List UInt8, barsF false l = (lnCut l).1 ++ barsF true (lnCut l).2
  | [] => by simp [barsF, lnCut]
  | c :: r => by
    rw [barsF]
    by_cases h : c = 10
    · subst h; simp [lnCut]
    · have hc' : (c == 10) = false := beq_eq_false_iff_ne.2 h
      rw [hc', bars_false r, lnCut, if_neg h]
      rfl
theorem bars_true (c : UInt8) (r : List UInt8) : barsF true (c :: r) = 124 :: ((lnCut (c :: r)).1 ++ barsF true (lnCut (c :: r)).2) := by
  rw [← bars_false]
  rfl
theorem foldl_bars : ∀ (n : Nat) (l : List UInt8) (s : ByteArray), l.length ≤ n → ((rlnL n l).foldl (fun s l => s ++ (⟨#[124]⟩ ++ l)) s).data.toList = s.data.toList ++ barsF true l
  | n, [], s, _ => by rw [rlnL_nil]; simp [barsF]
  | 0, _ :: _, _, h => by simp at h
  | n + 1, c :: r, s, h => by
    have := lnCut_len c r
    simp only [List.length_cons] at h
    rw [rlnL, List.foldl_cons, foldl_bars n _ _ (by omega), bars_true]
    simp [ByteArray.data_append, List.append_assoc]
theorem catB_lines (t : ByteArray) : catB (rlnL t.size t.data.toList) = ⟨(barsF true t.data.toList).toArray⟩ := by
  have h := foldl_bars t.size t.data.toList .empty (Nat.le_refl _)
  apply ByteArray.ext
  rw [← Array.toList_inj]
  exact h
theorem rlnL_size : ∀ (n : Nat) (l : List UInt8) (pre : List ByteArray), pre <+: rlnL n l → (catB pre).size ≤ 2 * l.length := by
  have one : ∀ (n : Nat) (l : List UInt8) (pre : List ByteArray) (s : ByteArray), pre <+: rlnL n l → (pre.foldl (fun s l => s ++ (⟨#[124]⟩ ++ l)) s).size ≤ s.size + 2 * l.length := by
    intro n
    induction n with
    | zero => intro l pre s h; rw [rlnL, List.prefix_nil] at h; subst h; simp
    | succ n ih =>
      intro l pre s h
      cases l with
      | nil => rw [rlnL_nil, List.prefix_nil] at h; subst h; simp
      | cons c r =>
        cases pre with
        | nil => simp
        | cons x pre =>
          rw [rlnL, List.cons_prefix_cons] at h
          obtain ⟨rfl, h⟩ := h
          have h1 := ih _ pre (s ++ (⟨#[124]⟩ ++ ⟨(lnCut (c :: r)).1.toArray⟩)) h
          have h2 := congrArg List.length (lnCut_app (c :: r))
          have h3 : 1 ≤ (lnCut (c :: r)).1.length := by
            by_cases hc : c = 10
            · simp [lnCut, hc]
            · simp [lnCut, hc]
          rw [List.length_append] at h2
          have e1 : (⟨(lnCut (c :: r)).1.toArray⟩ : ByteArray).size = (lnCut (c :: r)).1.length := by simp [ByteArray.size]
          have e2 : (⟨#[124]⟩ : ByteArray).size = 1 := rfl
          rw [ByteArray.size_append, ByteArray.size_append, e1, e2] at h1
          rw [List.foldl_cons]
          omega
  intro n l pre h
  have := one n l pre .empty h
  have e : (ByteArray.empty).size = 0 := rfl
  rw [e] at this
  unfold catB
  omega
end Go.Proofs.YtddfdmopaeghnadGreatDoor

namespace Go.Proofs.YtddfdmopaeghnadGreatDoor
open Go.RowKit Go.Shelf
attribute [local go_sem] Oper.semAt_some

set_option maxHeartbeats 400000 in
theorem lines_mk (s : ByteArray) (w : World) :
    Calls Tryz.prog 72 #[.string s] w fun e w' => e = .returned (.func (.func 120) #[] #[.pointer (some ⟨w.heap.size, 0, none⟩)]) ∧ w' = w.alloc (.cells #[.string s] 9) := by
  go_enter Tryz.func72, Tryz.ntmps72
  go_wp2
  go_ret
  exact ⟨rfl, rfl⟩
/-- How much of the text is still to come. -/
def leftL (g : Nat) (w : World) : Nat := match w.cell? ⟨g, 0, none⟩ with
  | some (.string r) => r.size
  | _ => 0
theorem leftL_eq {g : Nat} {w : World} {r : ByteArray} (h : w.heap[g]? = some (.cells #[.string r] 9 (0, 0))) : leftL g w = r.size := by
  have : w.cell? ⟨g, 0, none⟩ = some (.string r) := by rw [Lib.cell_of_heap h]; rfl
  simp [leftL, this]
theorem ln_take (s : ByteArray) (k : Nat) : (⟨(s.data.toList.take k).toArray⟩ : ByteArray) = s.extract 0 k := by
  apply ByteArray.ext
  apply Array.ext'
  simp
theorem ln_drop (s : ByteArray) (k : Nat) : (s.extract k s.size).data.toList = s.data.toList.drop k := by
  have e : s.size = s.data.toList.length := by simp
  rw [e]
  simp
  exact List.take_of_length_le (by simp)
theorem ln_same (s : ByteArray) : (⟨s.data.toList.toArray⟩ : ByteArray) = s := by
  apply ByteArray.ext
  exact Array.toArray_toList
theorem it_put {g : Nat} {A : World} {s : ByteArray} (h : A.heap[g]? = some (.cells #[.string s] 9 (0, 0))) (t : ByteArray) : ItStep g A (A.setCell ⟨g, 0, none⟩ (.string t)) ∧ (A.setCell ⟨g, 0, none⟩ (.string t)).heap[g]? = some (.cells #[.string t] 9 (0, 0)) := by
  have h2 : (A.setCell ⟨g, 0, none⟩ (.string t)).heap[g]? = some (.cells #[.string t] 9 (0, 0)) := by simp [World.setCell, Array.getElem?_modify, h]
  exact ⟨⟨⟨rfl, rfl, rfl, by simp [World.setCell], fun k _ hk => Below.heap_setCell _ _ _ _ (fun e => hk (by simp [e]))⟩, t, h2⟩, h2⟩

set_option maxRecDepth 100000 in
set_option maxHeartbeats 600000 in
theorem lines_iter (n : Nat) (hn : 1 ≤ n) (g : Nat) (s : ByteArray) (hs : s.size ≤ 1000000000) (w0 : World) (hb : w0.heap[g]? = some (.cells #[.string s] 9 (0, 0))) :
    IterC Fence.wide n Tryz.prog 120 #[.pointer (some ⟨g, 0, none⟩)] g (rlnL s.data.toList.length s.data.toList) w0 := by
  intro l J W hBW hJ hY h0
  refine callsIn_of_wp Tryz.func120 rfl trivial ?_ rfl
  simp only [Tryz.ntmps120, List.size_toArray, List.length_cons, List.length_nil, Nat.reduceAdd, Nat.reduceSub, Array.replicate_succ, Array.replicate_zero, List.push_toArray, List.append_toArray, List.nil_append, List.cons_append]
  have hI := fun (r : ByteArray) (w' : World) => Tryz.strings_IndexByte r 10 w'
  have HY := Lib.hid hY; have HJ := Lib.hid hJ; have H0 := Lib.hid h0; have HII := Lib.hid hI
  have HC0 := Lib.hid (hBW.trans hb)
  clear hY hJ h0 hBW hI hb
  gi_wp2
  gi_loopw [3, 4] (fun _ _ wr => ∃ (pre : List ByteArray) (r : ByteArray), rlnL s.data.toList.length s.data.toList = pre ++ rlnL r.data.toList.length r.data.toList ∧ r.size ≤ s.size ∧ J pre wr ∧ wr.heap[g]? = some (.cells #[.string r] 9 (0, 0))) (fun _ _ wr => leftL g wr)
  case atStart => exact ⟨[], s, rfl, Nat.le_refl _, H0.out, HC0.out⟩
  case round =>
    obtain ⟨pre, r, hsp, hrs, hJr, hb0⟩ := hrel
    have e0 : wr.cell? ⟨g, 0, none⟩ = some (.string r) := by rw [Lib.cell_of_heap hb0]; rfl
    have f0 : wr.frozen? ⟨g, 0, none⟩ = false := Lib.frozen_of_heap hb0 0
    have HSP := Lib.hid hsp; have HJR := Lib.hid hJr; have HB0 := Lib.hid hb0
    have HME := Lib.hid (leftL_eq hb0)
    clear hsp hJr hb0
    by_cases hr0 : r.size = 0
    · have k1 : decide ((r.size : Int) > 0) = false := decide_eq_false (by omega)
      have hr : r.data.toList = [] := List.length_eq_zero_iff.1 (show r.data.toList.length = 0 from hr0)
      have hJ2 : J (rlnL s.data.toList.length s.data.toList) wr := by rw [HSP.out, hr, rlnL_nil, List.append_nil]; exact HJR.out
      have HJ2 := Lib.hid hJ2
      clear hJ2 hr
      gi_wp2
      go_end0
      exact ⟨⟨_, rfl⟩, HJ2.out⟩
    · have k1 : decide ((r.size : Int) > 0) = true := decide_eq_true (by omega)
      have hr : r.data.toList ≠ [] := fun e => hr0 (show r.data.toList.length = 0 by rw [e]; rfl)
      obtain ⟨hst, hlt⟩ := lines_step hr
      rcases ixb_ln r.data.toList with ⟨hix, hln⟩ | ⟨k, hix, hkl, hln⟩
      · rw [hln] at hst
        simp only [ln_same, rlnL_nil] at hst
        have HIR := Lib.hid (HII.out r)
        simp only [show (10 : Int).toNat.toUInt8 = 10 from rfl, hix] at HIR
        obtain ⟨hi1, hi2⟩ := it_put HB0.out ⟨#[]⟩
        obtain ⟨fn, tmps, assign, body, hy, hR⟩ := HY.out pre r _ ⟨[], by rw [HSP.out, hst]; simp⟩ (HJ.out _ _ _ HJR.out hi1)
        have HR := Lib.hid hR; have HI2 := Lib.hid hi2; have HST := Lib.hid hst
        clear hi1 hi2 hR hst hix hln hlt hr
        gi_wp2_with (refine ⟨trivial, ?_⟩; gi_at_call 121; refine (callsIn_wide.2 (HIR.out _)).mono ?_; rintro e w' ⟨rfl, rfl⟩)
        refine HR.out.mono ?_
        rintro e W3 ⟨rfl, hJ3, hk3⟩
        have HJ3 := Lib.hid hJ3; have HC3 := Lib.hid (hk3.trans HI2.out)
        clear hJ3 hk3
        gi_wp2
        go_roundw
        case rel => exact ⟨pre ++ [r], ⟨#[]⟩, by rw [HSP.out, HST.out]; simp [rlnL], Nat.zero_le _, HJ3.out, HC3.out⟩
        case measure =>
          rw [leftL_eq HC3.out, HME.out]
          show 0 < r.size
          omega
      · rw [hln] at hst hlt
        simp only [ln_take] at hst
        have hkr : k < r.size := hkl
        have HIR := Lib.hid (HII.out r)
        simp only [show (10 : Int).toNat.toUInt8 = 10 from rfl, hix] at HIR
        obtain ⟨hi1, hi2⟩ := it_put HB0.out (r.extract (k + 1) r.size)
        obtain ⟨fn, tmps, assign, body, hy, hR⟩ := HY.out pre (r.extract 0 (k + 1)) (wr.setCell ⟨g, 0, none⟩ (.string (r.extract (k + 1) r.size))).drew ⟨_, by rw [HSP.out, hst, List.append_assoc]; rfl⟩ (HJ.out _ _ _ HJR.out ⟨⟨hi1.1.os, hi1.1.tape, hi1.1.output, hi1.1.size, hi1.1.block⟩, hi1.2⟩)
        have HR := Lib.hid hR; have HI2 := Lib.hid hi2; have HST := Lib.hid hst
        have d1 : decide ((k : Int) ≥ 0) = true := decide_eq_true (by omega)
        have d2 : IntKind.i64.wrap ((k : Int) + 1) = (k : Int) + 1 := IntWalk.i64_in _ (by omega)
        have d3 : ((k : Int) + 1).toNat = k + 1 := by omega
        clear hi1 hi2 hR hst hix hln hlt hr hkl
        gi_wp2_with (refine ⟨trivial, ?_⟩; gi_at_call 121; refine (callsIn_wide.2 (HIR.out _)).mono ?_; rintro e w' ⟨rfl, rfl⟩)
        gi_region
        gi_wp2
        refine HR.out.mono ?_
        rintro e W3 ⟨rfl, hJ3, hk3⟩
        have HJ3 := Lib.hid hJ3; have HC3 := Lib.hid (hk3.trans HI2.out)
        clear hJ3 hk3
        gi_wp2
        go_roundw
        case rel => exact ⟨pre ++ [r.extract 0 (k + 1)], r.extract (k + 1) r.size, by rw [HSP.out, HST.out, ln_drop, List.append_assoc]; rfl, by rw [ByteArray.size_extract]; omega, HJ3.out, HC3.out⟩
        case measure =>
          rw [leftL_eq HC3.out, HME.out, ByteArray.size_extract]
          omega
end Go.Proofs.YtddfdmopaeghnadGreatDoor

namespace Go.Proofs.YtddfdmopaeghnadGreatDoor
open Go.RowKit
set_option maxRecDepth 100000 in
set_option maxHeartbeats 600000 in
theorem line_bad {w0 : World} {d b : Nat} {x : Ses} {F : Nat → Prop} {w : World} (h : SesAt w0 d b x F w) (l : ByteArray) (h1 : behindL [43] l.data.toList = none) (h2 : behindL [119, 105, 100, 101, 32] l.data.toList = none) (h_set : l.data.toList ≠ [115, 101, 116]) (h_text : l.data.toList ≠ [116, 101, 120, 116]) (h_look : l.data.toList ≠ [108, 111, 111, 107]) (h_drop : l.data.toList ≠ [100, 114, 111, 112]) :
    Calls Tryz.prog 40 #[.pointer (some ⟨b, 0, none⟩), .string l] w (fun e w' => e = .returned (.string badT) ∧ SesTo w0 d b x F w w') := by
  have g1 : Lib.hasPrefix l.data.toList (⟨#[43]⟩ : ByteArray).data.toList = false := behindL_none h1
  have g2 : Lib.hasPrefix l.data.toList (⟨#[119, 105, 100, 101, 32]⟩ : ByteArray).data.toList = false := behindL_none h2
  have HCP := Lib.hid (fun (p : ByteArray) (w' : World) => Tryz.strings_CutPrefix l p w')
  have q_set : (l.toList == [115, 101, 116]) = false := b_ne h_set
  have q_text : (l.toList == [116, 101, 120, 116]) = false := b_ne h_text
  have q_look : (l.toList == [108, 111, 111, 107]) = false := b_ne h_look
  have q_drop : (l.toList == [100, 114, 111, 112]) = false := b_ne h_drop
  have HO := Lib.hid h.out
  have HV := Lib.hid (h.outV (.string badT))
  clear h h1 h2 h_set h_text h_look h_drop
  obtain ⟨c0, f0, c2⟩ := HO.out.c0
  have hmf : ∀ (fn : Fn) (first cap : Array Value) (w : World), (Instr.makeFunc fn first cap).run Tryz.prog w = .ok (.func fn first cap) w := fun _ _ _ _ => rfl
  go_enter_defers Tryz.func40, Tryz.ntmps40
  go_wp2_with (go_at_call 68; refine (HCP.out _ _).mono ?_; rintro e w1 ⟨rfl, rfl⟩; simp only [g1, g2])
  refine leaves_cons (f := 67) (args := #[.pointer (some ⟨w.heap.size, 0, none⟩)]) (by simp) (by simp [go_sem]) ?_
  refine (lcatch_idle _ _).mono ?_
  rintro e u' w9 ⟨rfl, rfl, hB⟩
  obtain ⟨c9, hk9⟩ := HV.out.fin hB
  have HK := Lib.hid hk9
  clear hB hk9
  simp [Leaves, settle, results, Tryz.results40, go_sem, c9]
  exact HK.out
end Go.Proofs.YtddfdmopaeghnadGreatDoor

namespace Go.Proofs.YtddfdmopaeghnadGreatDoor
open Go.RowKit
set_option maxRecDepth 100000 in
set_option maxHeartbeats 600000 in
theorem line_drop {w0 : World} {d b : Nat} {x : Ses} {F : Nat → Prop} {w : World} (h : SesAt w0 d b x F w) (l : ByteArray) (hl : l.data.toList = [100, 114, 111, 112]) :
    Calls Tryz.prog 40 #[.pointer (some ⟨b, 0, none⟩), .string l] w (fun e w' => e = .returned (.string okT) ∧ SesTo w0 d b { x with s := .empty } F w w') := by
  have g1 : Lib.hasPrefix l.data.toList (⟨#[43]⟩ : ByteArray).data.toList = false := by rw [hl]; rfl
  have g2 : Lib.hasPrefix l.data.toList (⟨#[119, 105, 100, 101, 32]⟩ : ByteArray).data.toList = false := by rw [hl]; rfl
  have q_set : (l.toList == [115, 101, 116]) = false := b_ne (c := [115, 101, 116]) (by rw [hl]; decide)
  have q_text : (l.toList == [116, 101, 120, 116]) = false := b_ne (c := [116, 101, 120, 116]) (by rw [hl]; decide)
  have q_look : (l.toList == [108, 111, 111, 107]) = false := b_ne (c := [108, 111, 111, 107]) (by rw [hl]; decide)
  have q_drop : (l.toList == [100, 114, 111, 112]) = true := b_eq hl
  have HCP := Lib.hid (fun (p : ByteArray) (w' : World) => Tryz.strings_CutPrefix l p w')
  have HO := Lib.hid h.out
  clear h hl
  have HR := Lib.hid HO.out.2.1.reset
  obtain ⟨c0, f0, c2⟩ := HO.out.c0
  have hmf : ∀ (fn : Fn) (first cap : Array Value) (w : World), (Instr.makeFunc fn first cap).run Tryz.prog w = .ok (.func fn first cap) w := fun _ _ _ _ => rfl
  go_enter_defers Tryz.func40, Tryz.ntmps40
  go_wp2_with (first
    | (go_at_call 68; refine (HCP.out _ _).mono ?_; rintro e w1 ⟨rfl, rfl⟩; simp only [g1, g2])
    | (go_at_call 73; refine HR.out.mono ?_; rintro e w2 ⟨rfl, hk⟩; have HO2 := Lib.hid (HO.out.step hk); clear hk; obtain ⟨e0, k0, -⟩ := HO2.out.c0))
  refine leaves_cons (f := 67) (args := #[.pointer (some ⟨w.heap.size, 0, none⟩)]) (by simp) (by simp [go_sem]) ?_
  refine (lcatch_idle _ _).mono ?_
  rintro e u' w9 ⟨rfl, rfl, hB⟩
  obtain ⟨c9, hk9⟩ := (HO2.out.put (.string okT)).fin hB
  have HK := Lib.hid hk9
  clear hB hk9
  simp [Leaves, settle, results, Tryz.results40, go_sem, c9]
  exact HK.out
end Go.Proofs.YtddfdmopaeghnadGreatDoor

namespace Go.Proofs.YtddfdmopaeghnadGreatDoor
open Go.RowKit
set_option maxRecDepth 100000 in
set_option maxHeartbeats 600000 in
theorem line_set {w0 : World} {d b : Nat} {x : Ses} {F : Nat → Prop} {w : World} (h : SesAt w0 d b x F w) (hG : RunG w0) (l : ByteArray) (hl : l.data.toList = [115, 101, 116]) (hx : x.s.size ≤ 6000) :
    Calls Tryz.prog 40 #[.pointer (some ⟨b, 0, none⟩), .string l] w (fun e w' => e = .returned (.string (setS x).2) ∧ SesTo w0 d b (setS x).1 F w w') := by
  have g1 : Lib.hasPrefix l.data.toList (⟨#[43]⟩ : ByteArray).data.toList = false := by rw [hl]; rfl
  have g2 : Lib.hasPrefix l.data.toList (⟨#[119, 105, 100, 101, 32]⟩ : ByteArray).data.toList = false := by rw [hl]; rfl
  have q_set : (l.toList == [115, 101, 116]) = true := b_eq hl
  have HCP := Lib.hid (fun (p : ByteArray) (w' : World) => Tryz.strings_CutPrefix l p w')
  have HO := Lib.hid h.out
  have HGW := Lib.hid hG
  clear h hl hG
  obtain ⟨c0, f0, c2⟩ := HO.out.c0
  have hmf : ∀ (fn : Fn) (first cap : Array Value) (w : World), (Instr.makeFunc fn first cap).run Tryz.prog w = .ok (.func fn first cap) w := fun _ _ _ _ => rfl
  go_enter_defers Tryz.func40, Tryz.ntmps40
  go_upto_region 11 with (go_at_call 68; refine (HCP.out _ _).mono ?_; rintro e w1 ⟨rfl, rfl⟩; simp only [g1, g2])
  go_region_held3 (fun w' => w'.cell? ⟨b, 2, none⟩ = some (.pointer (some ⟨d, 0, none⟩))) (first | exact c2 | exact e2 | exact e3)
    (first
    | (go_at_call 37; refine (HO.out.past (by repeat (first | exact Below.refl _ _ | assumption | apply Below.drew | refine below_drewN ?_ _ | apply Below.setCell _ (by first | omega | (simp; done) | (simp; omega)) | apply Below.alloc _ (by first | omega | (simp; done) | (simp; omega))))).2.1.string.mono ?_; rintro e w2 ⟨rfl, hk⟩; have HO2 := Lib.hid ((HO.out.past (by repeat (first | exact Below.refl _ _ | assumption | apply Below.drew | refine below_drewN ?_ _ | apply Below.setCell _ (by first | omega | (simp; done) | (simp; omega)) | apply Below.alloc _ (by first | omega | (simp; done) | (simp; omega))))).step hk); obtain ⟨-, -, e2⟩ := HO2.out.c0; clear hk)
    | (go_at_call 14; refine ((HO2.out.past (by repeat (first | exact Below.refl _ _ | assumption | apply Below.drew | refine below_drewN ?_ _ | apply Below.setCell _ (by first | omega | (simp; done) | (simp; omega)) | apply Below.alloc _ (by first | omega | (simp; done) | (simp; omega))))).2.1.set (by simp only [maxLen]; omega) ((HO2.out.past (by repeat (first | exact Below.refl _ _ | assumption | apply Below.drew | refine below_drewN ?_ _ | apply Below.setCell _ (by first | omega | (simp; done) | (simp; omega)) | apply Below.alloc _ (by first | omega | (simp; done) | (simp; omega))))).run HGW.out).max ((HO2.out.past (by repeat (first | exact Below.refl _ _ | assumption | apply Below.drew | refine below_drewN ?_ _ | apply Below.setCell _ (by first | omega | (simp; done) | (simp; omega)) | apply Below.alloc _ (by first | omega | (simp; done) | (simp; omega))))).run HGW.out).pow).mono ?_; rintro e w3 ⟨n, k, f, rfl, hS, hnk, hk⟩; have HO3 := Lib.hid ((HO2.out.past (by repeat (first | exact Below.refl _ _ | assumption | apply Below.drew | refine below_drewN ?_ _ | apply Below.setCell _ (by first | omega | (simp; done) | (simp; omega)) | apply Below.alloc _ (by first | omega | (simp; done) | (simp; omega))))).step hk); obtain ⟨e0, k0, e3⟩ := HO3.out.c0; clear hk))
  have hS2 : (setS x).2 = toldF (itoaB (n : Nat)) k f := by rw [hS]
  have HS2 := Lib.hid hS2
  have HIT : Hid (∀ w', PowT w' → Calls Tryz.prog 71 #[.int .i64 (n : Nat)] w' (Ret w' (.string (itoaB (n : Nat))))) := Lib.hid (fun w' hp => itoa_all (by omega) (by omega) w' hp)
  have HSZ := Lib.hid (itoaB_size (n : Nat) (by omega) (by omega))
  have HTO : Hid (∀ w', RunG w' → Calls Tryz.prog 69 #[.string (itoaB (n : Nat)), .int .i64 (k : Nat), errV f] w' (Ret w' (.string (toldF (itoaB (n : Nat)) k f)))) := Lib.hid (fun w' hg => told_any (itoaB (n : Nat)) k f w' (by have := HSZ.out; omega) (by omega) hg.err hg.esz hg.pow)
  clear hS hS2 hnk hx HSZ
  generalize toldF (itoaB (n : Nat)) k f = T at *
  generalize itoaB (n : Nat) = N at *
  go_wp2_with (first
    | (go_at_call 71; refine (HIT.out _ ((HO3.out.past (by repeat (first | exact Below.refl _ _ | assumption | apply Below.drew | refine below_drewN ?_ _ | apply Below.setCell _ (by first | omega | (simp; done) | (simp; omega)) | apply Below.alloc _ (by first | omega | (simp; done) | (simp; omega))))).run HGW.out).pow).mono ?_; rintro e w4 ⟨rfl, hB4⟩; have HO4 := Lib.hid ((HO3.out.past (by repeat (first | exact Below.refl _ _ | assumption | apply Below.drew | refine below_drewN ?_ _ | apply Below.setCell _ (by first | omega | (simp; done) | (simp; omega)) | apply Below.alloc _ (by first | omega | (simp; done) | (simp; omega))))).past hB4); obtain ⟨e4, k4, -⟩ := HO4.out.c0)
    | (go_at_call 69; refine (HTO.out _ ((HO4.out.past (by repeat (first | exact Below.refl _ _ | assumption | apply Below.drew | refine below_drewN ?_ _ | apply Below.setCell _ (by first | omega | (simp; done) | (simp; omega)) | apply Below.alloc _ (by first | omega | (simp; done) | (simp; omega))))).run HGW.out)).mono ?_; rintro e w5 ⟨rfl, hB5⟩; have HO5 := Lib.hid ((HO4.out.past (by repeat (first | exact Below.refl _ _ | assumption | apply Below.drew | refine below_drewN ?_ _ | apply Below.setCell _ (by first | omega | (simp; done) | (simp; omega)) | apply Below.alloc _ (by first | omega | (simp; done) | (simp; omega))))).past hB5); obtain ⟨e5, k5, -⟩ := HO5.out.c0))
  refine leaves_cons (f := 67) (args := #[.pointer (some ⟨w.heap.size, 0, none⟩)]) (by simp) (by simp [go_sem]) ?_
  refine (lcatch_idle _ _).mono ?_
  rintro e u' w9 ⟨rfl, rfl, hB⟩
  obtain ⟨c9, hk9⟩ := (HO5.out.put (.string T)).fin hB
  have HK := Lib.hid hk9
  clear hB hk9
  simp [Leaves, settle, results, Tryz.results40, go_sem, c9]
  exact ⟨HS2.out.symm, HK.out⟩
end Go.Proofs.YtddfdmopaeghnadGreatDoor
