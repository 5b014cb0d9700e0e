/- A range over a function whose iterator keeps a cell of its own (strings.SplitSeq, strings.Lines): what its caller owes, what the iterator owes: a round keeps the iterator's own blocks. No condition. -/
import Derived.RangeFuncNested
import Derived.RangeFuncBound
import Derived.RangeFuncCalls
import Derived.RangeFuncLeaves
import Derived.Below
namespace Go.Proofs.YtddfdmopaeghnabDoor
open Go.RowKit

variable {F : Fence} {n : Nat} {P : Program} {α : Type}

/-- The blocks from lo to hi lie as they lay. -/
def Keep (lo hi : Nat) (W W' : World) : Prop := ∀ k, lo ≤ k → k < hi → W'.heap[k]? = W.heap[k]?
theorem Keep.refl (lo hi : Nat) (W : World) : Keep lo hi W W := fun _ _ _ => rfl
theorem Keep.trans {lo hi : Nat} {a b c : World} (h : Keep lo hi a b) (g : Keep lo hi b c) : Keep lo hi a c := fun k h1 h2 => (g k h1 h2).trans (h k h1 h2)
theorem Keep.below {lo hi m : Nat} {W W' : World} (h : Below m W W') (hm : hi ≤ m) : Keep lo hi W W' := fun k _ h2 => h.block k (by omega)
theorem Keep.setCell {lo hi : Nat} {W : World} {p : Addr} (h : p.block < lo ∨ hi ≤ p.block) (v : Value) : Keep lo hi W (W.setCell p v) := fun k h1 h2 => Below.heap_setCell _ _ _ _ (by omega)
theorem Keep.putObj {lo hi : Nat} {W : World} {l : Nat} (h : hi ≤ l) (o : Obj) : Keep lo hi W (W.putObj l o) := fun k _ h2 => World.putObj_heap_other (by omega)

/-- The iterator hands out xs one by one; bs is its own cell; a round that goes on keeps the blocks from lo to hi. -/
def SeqCell (F : Fence) (n : Nat) (P : Program) (g : Nat) (lb : Array Value) (enc : α → Value) (bs lo hi : Nat) (xs : List α) (w0 : World) : Prop :=
  ∀ (l : Nat) (J : List α → World → Prop) (W : World), Keep lo hi w0 W → (∀ pre W v, J pre W → J pre (W.setCell ⟨bs, 0, none⟩ v)) →
    (∀ pre x W1, J pre W1 → (pre ++ [x]) <+: xs → YieldAt F (n - 1) P l #[enc x] W1 fun e W' => e = .returned (.bool true) ∧ J (pre ++ [x]) W' ∧ Keep lo hi W1 W') →
    J [] W → CallsIn F n P g (#[.func (.yield l) #[] #[]] ++ lb) W fun e W' => (∃ v, e = .returned v) ∧ J xs W'

/-- How a round's body is left: off its end. -/
def cellPost (lo hi : Nat) (I : List α → World → Prop) (xs : List α) (W : World) : Exit → Act → World → Prop
  | .normal, _, W' => KeepsOthers W W' ∧ Keep lo hi W W' ∧ I xs W'
  | _, _, _ => False

theorem putObj_at {W : World} {l k : Nat} {o' x : Obj} (hk : W.heap[k]? = some x) (hne : k ≠ l) : (W.putObj l o').heap[k]? = some x := (World.putObj_heap_other hne).trans hk

theorem setCell_other {W : World} {bs k : Nat} {o : Obj} {v : Value} (h : W.heap[k]? = some o) (ho : o.isCells = false) : (W.setCell ⟨bs, 0, none⟩ v).heap[k]? = some o :=
  (KeepsOthers.setCell W ⟨bs, 0, none⟩ v).same k o h ho

/-- The statement, where its body always goes on. -/
theorem wpIn_range_cell {g : Operand} {ps : Array Tmp} {assign body : Code} {Q : Exit → Act → World → Prop} {a : Act} {w : World} (hro : F.round = none) (h1 : 1 ≤ n) {gf : Nat} {lb : Array Value}
    (hg : a.eval g = .func (.func gf) #[] lb) (hFg : F.fn gf) (eg : ∀ args w, (callFunc gf args).run P w = .ok (.enter gf args) w)
    {enc : α → Value} {bs lo hi : Nat} {xs : List α} (hseq : SeqCell F (n - 1) P gf lb enc bs lo hi xs w) (hhi : hi ≤ w.heap.size) (hps : ps.size = 1)
    (I : List α → World → Prop) (hput : ∀ pre W r o o', I pre W → W.heap[r]? = some o → o.isCells = false → w.heap.size ≤ r → I pre (W.putObj r o')) (hset : ∀ pre W v, I pre W → I pre (W.setCell ⟨bs, 0, none⟩ v))
    (halloc : ∀ pre W o, I pre W → I pre (W.alloc o)) (h0 : I [] w) (a₁ : α → Act)
    (hassign : ∀ (l : Nat) (x : α) (W : World) (K : Act → World → Prop), K (a₁ x) W →
      assign.wpIn (F.inRound l) (n - 1 - 1) P (Exit.then K (fun _ _ _ => False)) { tmps := (ps.zip #[enc x]).foldl (fun t (p, v) => t.setIfInBounds p v) a.tmps, defers := [] } W)
    (hbody : ∀ (l : Nat) (pre : List α) (x : α) (W : World), I pre W → (pre ++ [x]) <+: xs → body.wpIn (F.inRound l) (n - 1 - 1) P (cellPost lo hi I (pre ++ [x]) W) (a₁ x) W)
    (hdone : ∀ (D : Nat) (W : World), w.heap.size ≤ D → I xs W → W.heap[D]? = some (.deferred (some [])) → Q .normal { a with defers := { target := .collected D, args := #[] } :: a.defers } W) :
    (Code.rangeFunc g ps assign body).wpIn F n P Q a w := by
  refine wpIn_rangeFunc ?_
  intro fn hfn
  rw [hro]
  obtain ⟨rec, hrec⟩ : ∃ rec : LoopState → Loop, rec = fun st => { state := st, pending := none, fn, tmps := a.tmps, params := ps, assign, body, defers := w.heap.size } := ⟨_, rfl⟩
  obtain ⟨W1, hW1⟩ : ∃ W1, (w.alloc (.deferred (some []))).alloc (.loop (rec .ready)) = W1 := ⟨_, rfl⟩
  have hL1 : W1.heap[w.heap.size + 1]? = some (.loop (rec .ready)) := by
    rw [← hW1]
    have := World.alloc_heap_new (w.alloc (.deferred (some []))) (.loop (rec .ready))
    rwa [World.size_alloc] at this
  have hK1 : W1.heap[w.heap.size]? = some (.deferred (some [])) := by
    rw [← hW1]
    exact (Below.heap_alloc _ _ _ (by simp)).trans (World.alloc_heap_new w _)
  have hI1 : I [] W1 := by rw [← hW1]; exact halloc _ _ _ (halloc _ _ _ h0)
  have hb1 : Keep lo hi w W1 := by
    rw [← hW1]
    exact .below (((Below.refl w.heap.size w).alloc (Nat.le_refl _) _).alloc (by simp) _) hhi
  refine ⟨w.heap.size + 1, [{ target := .collected w.heap.size, args := #[] }], W1, { target := .fn (.func gf) lb, args := #[.func (.yield (w.heap.size + 1)) #[] #[]] }, W1, gf, #[.func (.yield (w.heap.size + 1)) #[] #[]] ++ lb, W1, ?_, ?_, ?_, ?_, fun _ => h1, ?_⟩
  · rw [← hW1, hrec]
    exact run_enterLoop_outer _ _ _ _ _
  · simp only [resolve, hg]
    simp [go_sem]
  · intro f' hf'
    simp [Target.leads] at hf'
    subst hf'
    exact hFg
  · simp [invoke, go_sem, eg]
  · refine (hseq (w.heap.size + 1) (fun pre W => I pre W ∧ W.heap[w.heap.size + 1]? = some (.loop (rec .ready)) ∧ W.heap[w.heap.size]? = some (.deferred (some []))) W1 hb1 (fun pre W v h => ⟨hset pre W v h.1, setCell_other h.2.1 rfl, setCell_other h.2.2 rfl⟩) ?_ ⟨hI1, hL1, hK1⟩).mono ?_
    · rintro pre x W ⟨hi, hl, hk⟩ hlen
      have hlt : w.heap.size + 1 < W.heap.size := (Array.getElem?_eq_some_iff.1 hl).1
      have hy := run_yield (P := P) (args := #[enc x]) hl (by rw [hrec]; simp [hps])
      rw [hrec] at hy
      refine ⟨fn, _, assign, body, hy, roundIn_of_wpIn hfn (hassign _ x W _ ⟨_, run_beginRound hl (by rw [hrec]), ?_⟩)⟩
      have hl2 : (W.putObj (w.heap.size + 1) (.loop { rec .ready with state := .busy })).heap[w.heap.size + 1]? = some (.loop { rec .ready with state := .busy }) := World.putObj_heap_same hlt
      have hk2 : (W.putObj (w.heap.size + 1) (.loop { rec .ready with state := .busy })).heap[w.heap.size]? = some (.deferred (some [])) := putObj_at hk (by omega)
      have hi2 := hput pre W _ _ (.loop { rec .ready with state := .busy }) hi hl rfl (by omega)
      refine wpIn_mono (hbody _ pre x _ hi2 hlen) ?_
      rintro e a3 W3 hp
      cases e with
      | normal =>
        obtain ⟨hk3, hb3, hi3⟩ := hp
        have hl3 := hk3.same _ _ hl2 rfl
        have hr := run_endRound (P := P) none hl3
        have hl4 : (W3.putObj (w.heap.size + 1) (.loop (rec .ready))).heap[w.heap.size + 1]? = some (.loop (rec .ready)) := World.putObj_heap_same (Array.getElem?_eq_some_iff.1 hl3).1
        refine ⟨_, _, hr, rfl, ?_, ?_⟩
        · refine ⟨hput _ _ _ _ _ hi3 hl3 rfl (by omega), ?_, putObj_at (hk3.same _ _ hk2 rfl) (by omega)⟩
          rw [hrec] at hl4 ⊢
          exact hl4
        · exact ((Keep.putObj (by omega) _).trans hb3).trans (Keep.putObj (by omega) _)
      | ret => exact hp.elim
      | exit id => exact hp.elim
      | goto t => exact hp.elim
      | panic ch => exact hp.elim
      | outgrown => exact hp.elim
    · rintro e W2 ⟨⟨v, rfl⟩, hi, hl, hk⟩
      have := run_endLoop (P := P) hl (by rw [hrec]; simp)
      rw [hrec] at this
      exact ⟨none, _, this, hdone _ _ (Nat.le_refl _) (hput _ _ _ _ _ hi hl rfl (by omega)) (putObj_at hk (by omega))⟩
end Go.Proofs.YtddfdmopaeghnabDoor
