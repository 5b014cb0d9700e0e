/- A range over a function whose iterator keeps a cell of its own (strings. With what it rests on. Conditions: as each theorem states them. -/
import Derived.RangeFuncNested
import Derived.RangeFuncBound
import Derived.RangeFuncCalls
import Derived.RangeFuncLeaves
import Derived.Below
import Derived.Test.YtddfdmopaeghnabGreatDoorTpBc
import Derived.Lib.IndexLaws
import Derived.Shelf.Abstract
import Derived.Shelf.RegionOpen
import Derived.WalkKit
import Derived.OwnWalkIn
import Derived.TacticsInMore
import Derived.LoopNIn
import Derived.LoopIn
import Derived.Test.YtddfdmopaeghnabGreatDoorTpSh
import Derived.Test.YtddfdmopaeghnabGreatDoorMem
import Derived.Laws.ResultCell
import Derived.Deep.RegionHeld3
import Derived.IntWalk
import Derived.Test.YtddfdmopaeghnabGreatDoorRows
import Derived.WalkSpells
import Derived.WalkLawsBesides
import Derived.Test.YtddfdmopaeghnabGreatDoorTpSy
import Derived.Test.YtddfdmopaeghnabGreatDoorTpFi
import Derived.Test.YtddfdmopaeghnabGreatDoorOfS
import Derived.Test.YtddfdmopaeghnabGreatDoorTpBe
import Derived.Test.YtddfdmopaeghnabGreatDoorTpCa
import Derived.Test.YtddfdmopaeghnabGreatDoorTpPg
namespace Go.Proofs.YtddfdmopaeghnabGreatDoor
open Go.RowKit
variable {F : Fence} {n : Nat} {P : Program} {α : Type}
def Keep (lo hi : Nat) (W W' : World) : Prop := ∀ k, lo ≤ k → k < hi → W'.heap[k]? = W.heap[k]?
theorem Keep.refl (lo hi : Nat) (W : World) : Keep lo hi W W := fun _ _ _ => rfl
theorem Keep.trans {lo hi : Nat} {a b c : World} (h : Keep lo hi a b) (g : Keep lo hi b c) : Keep lo hi a c := fun k h1 h2 => (g k h1 h2).trans (h k h1 h2)
theorem Keep.below {lo hi m : Nat} {W W' : World} (h : Below m W W') (hm : hi ≤ m) : Keep lo hi W W' := fun k _ h2 => h.block k (by omega)
theorem Keep.setCell {lo hi : Nat} {W : World} {p : Addr} (h : p.block < lo ∨ hi ≤ p.block) (v : Value) : Keep lo hi W (W.setCell p v) := fun k h1 h2 => Below.heap_setCell _ _ _ _ (by omega)
theorem Keep.putObj {lo hi : Nat} {W : World} {l : Nat} (h : hi ≤ l) (o : Obj) : Keep lo hi W (W.putObj l o) := fun k _ h2 => World.putObj_heap_other (by omega)
def SeqCell (F : Fence) (n : Nat) (P : Program) (g : Nat) (lb : Array Value) (enc : α → Value) (bs lo hi : Nat) (xs : List α) (w0 : World) : Prop :=
 ∀ (l : Nat) (J : List α → World → Prop) (W : World), Keep lo hi w0 W → (∀ pre W v, J pre W → J pre (W.setCell ⟨bs, 0, none⟩ v)) →
  (∀ pre x W1, J pre W1 → (pre ++ [x]) <+: xs → YieldAt F (n - 1) P l #[enc x] W1 fun e W' => e = .returned (.bool true) ∧ J (pre ++ [x]) W' ∧ Keep lo hi W1 W') →
  J [] W → CallsIn F n P g (#[.func (.yield l) #[] #[]] ++ lb) W fun e W' => (∃ v, e = .returned v) ∧ J xs W'
def cellPost (lo hi : Nat) (I : List α → World → Prop) (xs : List α) (W : World) : Exit → Act → World → Prop
 | .normal, _, W' => KeepsOthers W W' ∧ Keep lo hi W W' ∧ I xs W'
 | _, _, _ => False
theorem putObj_at {W : World} {l k : Nat} {o' x : Obj} (hk : W.heap[k]? = some x) (hne : k ≠ l) : (W.putObj l o').heap[k]? = some x := (World.putObj_heap_other hne).trans hk
theorem setCell_other {W : World} {bs k : Nat} {o : Obj} {v : Value} (h : W.heap[k]? = some o) (ho : o.isCells = false) : (W.setCell ⟨bs, 0, none⟩ v).heap[k]? = some o :=
 (KeepsOthers.setCell W ⟨bs, 0, none⟩ v).same k o h ho
theorem wpIn_range_cell {g : Operand} {ps : Array Tmp} {assign body : Code} {Q : Exit → Act → World → Prop} {a : Act} {w : World} (hro : F.round = none) (h1 : 1 ≤ n) {gf : Nat} {lb : Array Value}
  (hg : a.eval g = .func (.func gf) #[] lb) (hFg : F.fn gf) (eg : ∀ args w, (callFunc gf args).run P w = .ok (.enter gf args) w)
  {enc : α → Value} {bs lo hi : Nat} {xs : List α} (hseq : SeqCell F (n - 1) P gf lb enc bs lo hi xs w) (hhi : hi ≤ w.heap.size) (hps : ps.size = 1)
  (I : List α → World → Prop) (hput : ∀ pre W r o o', I pre W → W.heap[r]? = some o → o.isCells = false → w.heap.size ≤ r → I pre (W.putObj r o')) (hset : ∀ pre W v, I pre W → I pre (W.setCell ⟨bs, 0, none⟩ v))
  (halloc : ∀ pre W o, I pre W → I pre (W.alloc o)) (h0 : I [] w) (a₁ : α → Act)
  (hassign : ∀ (l : Nat) (x : α) (W : World) (K : Act → World → Prop), K (a₁ x) W →
   assign.wpIn (F.inRound l) (n - 1 - 1) P (Exit.then K (fun _ _ _ => False)) { tmps := (ps.zip #[enc x]).foldl (fun t (p, v) => t.setIfInBounds p v) a.tmps, defers := [] } W)
  (hbody : ∀ (l : Nat) (pre : List α) (x : α) (W : World), I pre W → (pre ++ [x]) <+: xs → body.wpIn (F.inRound l) (n - 1 - 1) P (cellPost lo hi I (pre ++ [x]) W) (a₁ x) W)
  (hdone : ∀ (D : Nat) (W : World), w.heap.size ≤ D → I xs W → W.heap[D]? = some (.deferred (some [])) → Q .normal { a with defers := { target := .collected D, args := #[] } :: a.defers } W) :
  (Code.rangeFunc g ps assign body).wpIn F n P Q a w := by
 refine wpIn_rangeFunc ?_
 intro fn hfn
 rw [hro]
 obtain ⟨rec, hrec⟩ : ∃ rec : LoopState → Loop, rec = fun st => { state := st, pending := none, fn, tmps := a.tmps, params := ps, assign, body, defers := w.heap.size } := ⟨_, rfl⟩
 obtain ⟨W1, hW1⟩ : ∃ W1, (w.alloc (.deferred (some []))).alloc (.loop (rec .ready)) = W1 := ⟨_, rfl⟩
 have hL1 : W1.heap[w.heap.size + 1]? = some (.loop (rec .ready)) := by
  rw [← hW1]
  have := World.alloc_heap_new (w.alloc (.deferred (some []))) (.loop (rec .ready))
  rwa [World.size_alloc] at this
 have hK1 : W1.heap[w.heap.size]? = some (.deferred (some [])) := by
  rw [← hW1]
  exact (Below.heap_alloc _ _ _ (by simp)).trans (World.alloc_heap_new w _)
 have hI1 : I [] W1 := by rw [← hW1]; exact halloc _ _ _ (halloc _ _ _ h0)
 have hb1 : Keep lo hi w W1 := by
  rw [← hW1]
  exact .below (((Below.refl w.heap.size w).alloc (Nat.le_refl _) _).alloc (by simp) _) hhi
 refine ⟨w.heap.size + 1, [{ target := .collected w.heap.size, args := #[] }], W1, { target := .fn (.func gf) lb, args := #[.func (.yield (w.heap.size + 1)) #[] #[]] }, W1, gf, #[.func (.yield (w.heap.size + 1)) #[] #[]] ++ lb, W1, ?_, ?_, ?_, ?_, fun _ => h1, ?_⟩
 ·rw [← hW1, hrec]
  exact run_enterLoop_outer _ _ _ _ _
 ·simp only [resolve, hg]
  simp [go_sem]
 ·intro f' hf'
  simp [Target.leads] at hf'
  subst hf'
  exact hFg
 ·simp [invoke, go_sem, eg]
 ·refine (hseq (w.heap.size + 1) (fun pre W => I pre W ∧ W.heap[w.heap.size + 1]? = some (.loop (rec .ready)) ∧ W.heap[w.heap.size]? = some (.deferred (some []))) W1 hb1 (fun pre W v h => ⟨hset pre W v h.1, setCell_other h.2.1 rfl, setCell_other h.2.2 rfl⟩) ?_ ⟨hI1, hL1, hK1⟩).mono ?_
  ·rintro pre x W ⟨hi, hl, hk⟩ hlen
   have hlt : w.heap.size + 1 < W.heap.size := (Array.getElem?_eq_some_iff.1 hl).1
   have hy := run_yield (P := P) (args := #[enc x]) hl (by rw [hrec]; simp [hps])
   rw [hrec] at hy
   refine ⟨fn, _, assign, body, hy, roundIn_of_wpIn hfn (hassign _ x W _ ⟨_, run_beginRound hl (by rw [hrec]), ?_⟩)⟩
   have hl2 : (W.putObj (w.heap.size + 1) (.loop { rec .ready with state := .busy })).heap[w.heap.size + 1]? = some (.loop { rec .ready with state := .busy }) := World.putObj_heap_same hlt
   have hk2 : (W.putObj (w.heap.size + 1) (.loop { rec .ready with state := .busy })).heap[w.heap.size]? = some (.deferred (some [])) := putObj_at hk (by omega)
   have hi2 := hput pre W _ _ (.loop { rec .ready with state := .busy }) hi hl rfl (by omega)
   refine wpIn_mono (hbody _ pre x _ hi2 hlen) ?_
   rintro e a3 W3 hp
   cases e with
   | normal =>
    obtain ⟨hk3, hb3, hi3⟩ := hp
    have hl3 := hk3.same _ _ hl2 rfl
    have hr := run_endRound (P := P) none hl3
    have hl4 : (W3.putObj (w.heap.size + 1) (.loop (rec .ready))).heap[w.heap.size + 1]? = some (.loop (rec .ready)) := World.putObj_heap_same (Array.getElem?_eq_some_iff.1 hl3).1
    refine ⟨_, _, hr, rfl, ?_, ?_⟩
    ·refine ⟨hput _ _ _ _ _ hi3 hl3 rfl (by omega), ?_, putObj_at (hk3.same _ _ hk2 rfl) (by omega)⟩
     rw [hrec] at hl4 ⊢
     exact hl4
    ·exact ((Keep.putObj (by omega) _).trans hb3).trans (Keep.putObj (by omega) _)
   | ret => exact hp.elim
   | exit id => exact hp.elim
   | goto t => exact hp.elim
   | panic ch => exact hp.elim
   | outgrown => exact hp.elim
  ·rintro e W2 ⟨⟨v, rfl⟩, hi, hl, hk⟩
   have := run_endLoop (P := P) hl (by rw [hrec]; simp)
   rw [hrec] at this
   exact ⟨none, _, this, hdone _ _ (Nat.le_refl _) (hput _ _ _ _ _ hi hl rfl (by omega)) (putObj_at hk (by omega))⟩
end Go.Proofs.YtddfdmopaeghnabGreatDoor
namespace Go.Proofs.YtddfdmopaeghnabGreatDoor
def splitL : List UInt8 → List (List UInt8)
 | [] => [[]]
 | c :: r => if c = 10 then [] :: splitL r else match splitL r with
  | [] => [[c]]
  | x :: xs => (c :: x) :: xs
theorem splitL_ne (l : List UInt8) : splitL l ≠ [] := by
 cases l with
 | nil => simp [splitL]
 | cons c r =>
  simp only [splitL]
  split
  ·simp
  ·split <;> simp
theorem splitL_no : ∀ {l : List UInt8}, NoNl l → splitL l = [l]
 | [], _ => rfl
 | c :: r, h => by
  have hc : c ≠ 10 := h c (by simp)
  simp only [splitL, if_neg hc, splitL_no (l := r) (fun x hx => h x (by simp [hx]))]
theorem splitL_at : ∀ {a : List UInt8} (b : List UInt8), NoNl a → splitL (a ++ 10 :: b) = a :: splitL b
 | [], b, _ => by simp [splitL]
 | c :: r, b, h => by
  have hc : c ≠ 10 := h c (by simp)
  simp only [List.cons_append, splitL, if_neg hc, splitL_at (a := r) b (fun x hx => h x (by simp [hx]))]
def overs (w : Nat) : List (List UInt8) → Nat
 | [] => 0
 | x :: xs => (x.length - w) + overs w xs
theorem overs_app (w : Nat) : ∀ (a b : List (List UInt8)), overs w (a ++ b) = overs w a + overs w b
 | [], b => by simp [overs]
 | x :: a, b => by simp only [List.cons_append, overs, overs_app w a b]; omega
theorem split_cst (w : Nat) : ∀ (l : List UInt8) (col : Nat), ∃ x xs, splitL l = x :: xs ∧ ovr w col l = ((col + x.length - w) - (col - w)) + overs w xs ∧ lns l = xs.length
 | [], col => ⟨[], [], rfl, by simp [ovr, overs], rfl⟩
 | c :: r, col => by
  simp only [splitL, ovr, lns]
  by_cases hc : c = 10
  ·obtain ⟨x, xs, h1, h2, h3⟩ := split_cst w r 0
   refine ⟨[], x :: xs, by rw [if_pos hc, h1], ?_, ?_⟩
   ·rw [if_pos hc, h2]; simp [overs]
   ·rw [if_pos hc, h3]; simp; omega
  ·obtain ⟨x, xs, h1, h2, h3⟩ := split_cst w r (col + 1)
   refine ⟨c :: x, xs, by rw [if_neg hc, h1], ?_, ?_⟩
   ·rw [if_neg hc, h2, List.length_cons]; split <;> omega
   ·rw [if_neg hc, h3]; simp
theorem split_cost (w : Nat) (l : List UInt8) : cst w 0 l = (overs w (splitL l), (splitL l).length - 1) := by
 obtain ⟨x, xs, h1, h2, h3⟩ := split_cst w l 0
 rw [h1, cst, h2, h3]
 simp [overs]
theorem index_no {l : List UInt8} (h : Lib.indexByte l 10 < 0) : NoNl l := by
 have h1 : Lib.indexByte l 10 = -1 := by have := Lib.indexByte_ge l 10; omega
 intro c hc he
 subst he
 obtain ⟨k, hk, hl⟩ := List.getElem_of_mem hc
 exact Lib.indexByte_none h1 k (by rw [List.getElem?_eq_getElem hk, hl])
theorem index_yes {l : List UInt8} {o : Nat} (h : Lib.indexByte l 10 = o) : o < l.length ∧ l = l.take o ++ 10 :: l.drop (o + 1) ∧ splitL l = l.take o :: splitL (l.drop (o + 1)) := by
 obtain ⟨h1, h2⟩ := Lib.indexByte_some h
 have ho : o < l.length := (List.getElem?_eq_some_iff.1 h1).1
 have e : l = l.take o ++ 10 :: l.drop (o + 1) := by
  have hx : l[o] = 10 := by rw [List.getElem?_eq_getElem ho] at h1; exact Option.some.inj h1
  have := List.drop_eq_getElem_cons ho
  rw [hx] at this
  rw [← this, List.take_append_drop]
 have hn : NoNl (l.take o) := by
  intro c hc he
  subst he
  obtain ⟨k, hk, hl⟩ := List.getElem_of_mem hc
  have hk' : k < o := by rw [List.length_take] at hk; omega
  rw [List.getElem_take] at hl
  exact h2 k hk' (by rw [List.getElem?_eq_getElem (by omega), hl])
 refine ⟨ho, e, ?_⟩
 have := splitL_at (a := l.take o) (l.drop (o + 1)) hn
 rwa [← e] at this
end Go.Proofs.YtddfdmopaeghnabGreatDoor
namespace Go.Proofs.YtddfdmopaeghnabGreatDoor
open Go.RowKit Go.Shelf
attribute [local go_sem] Oper.semAt_some
def splitWorld (w : World) (s : ByteArray) : World := ((w.alloc (.cells #[.string s] 9)).alloc (.cells #[.string ⟨#[10]⟩] 9)).alloc (.cells #[.int .i64 0] 3)
def splitVal (b : Nat) : Value := .func (.func 96) #[] #[.pointer (some ⟨b + 1, 0, none⟩), .pointer (some ⟨b, 0, none⟩), .pointer (some ⟨b + 1 + 1, 0, none⟩)]
set_option maxHeartbeats 400000 in
theorem splitSeq_any (s : ByteArray) (w : World) :
  Calls Tryz.prog 61 #[.string s, .string ⟨#[10]⟩, .int .i64 0] w fun e w' => e = .returned (splitVal w.heap.size) ∧ w' = splitWorld w s := by
 go_enter Tryz.func61, Tryz.ntmps61
 go_wp2
 go_ret
 exact ⟨rfl, rfl⟩
set_option maxHeartbeats 400000 in
theorem splitSeq_all (s : ByteArray) (w : World) :
  Calls Tryz.prog 26 #[.string s, .string ⟨#[10]⟩] w fun e w' => e = .returned (splitVal w.heap.size) ∧ w' = splitWorld w s := by
 go_enter Tryz.func26, Tryz.ntmps26
 go_wp2_with (go_at_call 61; refine (splitSeq_any _ _).mono ?_; rintro e w1 ⟨rfl, rfl⟩)
 go_ret
 exact ⟨rfl, rfl⟩
def leftS (bs : Nat) (w : World) : Nat := match w.cell? ⟨bs, 0, none⟩ with
 | some (.string r) => r.size + 1
 | _ => 0
theorem leftS_eq {bs : Nat} {w : World} {r : ByteArray} (h : w.cell? ⟨bs, 0, none⟩ = some (.string r)) : leftS bs w = r.size + 1 := by simp [leftS, h]
theorem take_bytes (s : ByteArray) (k : Nat) : (⟨(s.data.toList.take k).toArray⟩ : ByteArray) = s.extract 0 k := by
 apply ByteArray.ext
 apply Array.ext'
 simp
theorem drop_bytes (s : ByteArray) (k : Nat) : (s.extract k s.size).data.toList = s.data.toList.drop k := by
 have e : s.size = s.data.toList.length := by simp
 rw [e]
 simp
 exact List.take_of_length_le (by simp)
theorem same_bytes (s : ByteArray) : (⟨s.data.toList.toArray⟩ : ByteArray) = s := by
 apply ByteArray.ext
 exact Array.toArray_toList
set_option maxRecDepth 100000 in
set_option maxHeartbeats 1000000 in
theorem split_seq (n : Nat) (hn : 1 ≤ n) (bs : Nat) (s : ByteArray) (hs : s.size ≤ 1000000000) (w0 : World) (hb : w0.heap[bs]? = some (.cells #[.string s] 9 (0, 0))) (hb1 : w0.heap[bs + 1]? = some (.cells #[.string ⟨#[10]⟩] 9 (0, 0))) (hb2 : w0.heap[bs + 1 + 1]? = some (.cells #[.int .i64 0] 3 (0, 0))) :
  SeqCell Fence.wide n Tryz.prog 96 #[.pointer (some ⟨bs + 1, 0, none⟩), .pointer (some ⟨bs, 0, none⟩), .pointer (some ⟨bs + 1 + 1, 0, none⟩)] (fun x : List UInt8 => .string ⟨x.toArray⟩) bs bs (bs + 3) (splitL s.data.toList) w0 := by
 intro l J W hBW hJset hY h0
 refine callsIn_of_wp Tryz.func96 rfl trivial ?_ rfl
 simp only [Tryz.ntmps96, List.size_toArray, List.length_cons, List.length_nil, Nat.reduceAdd, Nat.reduceSub, Array.replicate_succ, Array.replicate_zero, List.push_toArray, List.append_toArray, List.nil_append, List.cons_append]
 have hI := fun (r : ByteArray) (w' : World) => Tryz.strings_Index_one r 10 w'
 have c1 : W.cell? ⟨bs + 1, 0, none⟩ = some (.string ⟨#[10]⟩) := cell_of_row W (bs + 1) 0 _ _ _ ((hBW _ (by omega) (by omega)).trans hb1)
 have HY := Lib.hid hY; have HJ := Lib.hid hJset; have H0 := Lib.hid h0; have HB := Lib.hid hBW; have HII := Lib.hid hI
 have HC1 := Lib.hid hb1; have HC2 := Lib.hid hb2; have HC0 := Lib.hid hb
 clear hY hJset h0 hBW hI hb hb1 hb2
 gi_wp2
 gi_loopw [7, 8] (fun _ _ wr => ∃ (pre : List (List UInt8)) (r : ByteArray), splitL s.data.toList = pre ++ splitL r.data.toList ∧ r.size ≤ s.size ∧ J pre wr ∧ wr.heap[bs]? = some (.cells #[.string r] 9 (0, 0)) ∧ wr.heap[bs + 1]? = some (.cells #[.string ⟨#[10]⟩] 9 (0, 0)) ∧ wr.heap[bs + 1 + 1]? = some (.cells #[.int .i64 0] 3 (0, 0))) (fun _ _ wr => leftS bs wr)
 case atStart =>
  refine ⟨[], s, rfl, Nat.le_refl _, H0.out, ?_, ?_, ?_⟩
  ·exact (HB.out _ (by omega) (by omega)).trans HC0.out
  ·exact (HB.out _ (by omega) (by omega)).trans HC1.out
  ·exact (HB.out _ (by omega) (by omega)).trans HC2.out
 case round =>
  obtain ⟨pre, r, hsp, hrs, hJr, hb0, hb1, hb2⟩ := hrel
  have e0 : wr.cell? ⟨bs, 0, none⟩ = some (.string r) := cell_of_row wr bs 0 _ _ _ hb0
  have e1 : wr.cell? ⟨bs + 1, 0, none⟩ = some (.string ⟨#[10]⟩) := cell_of_row wr (bs + 1) 0 _ _ _ hb1
  have e2 : wr.cell? ⟨bs + 1 + 1, 0, none⟩ = some (.int .i64 0) := cell_of_row wr (bs + 1 + 1) 0 _ _ _ hb2
  have HSP := Lib.hid hsp; have HJR := Lib.hid hJr; have HB0 := Lib.hid hb0; have HB1 := Lib.hid hb1; have HB2 := Lib.hid hb2
  clear hsp hJr hb0 hb1 hb2
  obtain ⟨idx, hidx⟩ : ∃ idx, Lib.indexByte r.data.toList 10 = idx := ⟨_, rfl⟩
  have HIR := Lib.hid (HII.out r)
  rw [hidx] at HIR
  have HIX := Lib.hid hidx
  by_cases hneg : idx < 0
  ·have hno : splitL r.data.toList = [r.data.toList] := splitL_no (index_no (by rw [hidx]; exact hneg))
   have hall : splitL s.data.toList = pre ++ [r.data.toList] := by rw [HSP.out, hno]
   obtain ⟨fn, tmps, assign, body, hy, hR⟩ := HY.out pre r.data.toList wr HJR.out ⟨[], by rw [hall]; simp⟩
   rw [← hall] at hR
   simp only [same_bytes] at hy
   have k1 : decide (idx < 0) = true := decide_eq_true hneg
   clear hidx hno hall hneg
   gi_wp2_with (refine ⟨trivial, ?_⟩; gi_at_call 98; refine (callsIn_wide.2 (HIR.out _)).mono ?_; rintro e w' ⟨rfl, rfl⟩)
   refine hR.mono ?_
   rintro e W3 ⟨rfl, hJ3, hk3⟩
   gi_wp2
   go_end0
   exact ⟨⟨_, rfl⟩, hJ3⟩
  ·obtain ⟨o, rfl⟩ : ∃ o : Nat, idx = o := ⟨idx.toNat, by omega⟩
   obtain ⟨ho, _, hsl⟩ := index_yes hidx
   have hall : splitL s.data.toList = (pre ++ [r.data.toList.take o]) ++ splitL (r.data.toList.drop (o + 1)) := by rw [HSP.out, hsl]; simp
   obtain ⟨fn, tmps, assign, body, hy, hR⟩ := HY.out pre (r.data.toList.take o) wr HJR.out ⟨_, hall.symm⟩
   have hor : o < r.size := by simpa using ho
   simp only [take_bytes] at hy
   have k1 : decide ((o : Int) < 0) = false := decide_eq_false (by omega)
   have HAL := Lib.hid hall
   clear hidx hall hneg hsl ho
   gi_wp2_with (refine ⟨trivial, ?_⟩; gi_at_call 98; refine (callsIn_wide.2 (HIR.out _)).mono ?_; rintro e w' ⟨rfl, rfl⟩)
   refine hR.mono ?_
   rintro e W3 ⟨rfl, hJ3, hk3⟩
   have hc0 := (hk3 _ (by omega) (by omega)).trans HB0.out; have hc1 := (hk3 _ (by omega) (by omega)).trans HB1.out; have hc2 := (hk3 _ (by omega) (by omega)).trans HB2.out
   have f0 : W3.cell? ⟨bs, 0, none⟩ = some (.string r) := cell_of_row W3 bs 0 _ _ _ hc0
   have f1 : W3.cell? ⟨bs + 1, 0, none⟩ = some (.string ⟨#[10]⟩) := cell_of_row W3 (bs + 1) 0 _ _ _ hc1
   have f3 : W3.frozen? ⟨bs, 0, none⟩ = false := by simp [World.frozen?, hc0]
   have HC0' := Lib.hid hc0; have HC1' := Lib.hid hc1; have HC2' := Lib.hid hc2; have HJ3 := Lib.hid hJ3
   clear hc0 hc1 hc2 hJ3 hk3
   gi_wp2
   go_roundw
   case rel =>
    refine ⟨pre ++ [r.data.toList.take o], r.extract (o + 1) r.size, ?_, ?_, HJ.out _ _ _ HJ3.out, ?_, ?_, ?_⟩
    ·rw [drop_bytes]; exact HAL.out
    ·rw [ByteArray.size_extract]; omega
    ·simp [World.setCell, Array.getElem?_modify, HC0'.out]
    ·exact (Below.heap_setCell _ _ _ _ (by simp)).trans HC1'.out
    ·exact (Below.heap_setCell _ _ _ _ (by simp; omega)).trans HC2'.out
   case measure =>
    rw [leftS_eq (r := r.extract (o + 1) r.size) (World.cell?_setCell_same' _ _ _ (by rw [f0]; rfl)), leftS_eq e0, ByteArray.size_extract]
    omega
end Go.Proofs.YtddfdmopaeghnabGreatDoor
namespace Go.Proofs.YtddfdmopaeghnabGreatDoor
open Go.RowKit
set_option maxRecDepth 100000 in
set_option maxHeartbeats 1000000 in
theorem under_c (a b : Nat × Nat) {r : Bool} (h : cLess a b = r) (w : World) :
  Calls Tryz.prog 32 #[.agg #[.int .i64 (a.1 : Nat), .int .i64 (a.2 : Nat)], .agg #[.int .i64 (b.1 : Nat), .int .i64 (b.2 : Nat)]] w (Ret w (.bool r)) := by
 obtain ⟨a1, a2⟩ := a
 obtain ⟨b1, b2⟩ := b
 simp only [cLess] at h ⊢
 subst h
 have he : ((a1 : Int) == (b1 : Int)) = decide (a1 = b1) := by rw [Bool.eq_iff_iff]; simp; omega
 by_cases h1 : a1 < b1
 ·have k1 : decide (a1 < b1) = true := decide_eq_true h1
  have k2 : decide (a1 < b1 ∨ a1 = b1 ∧ a2 < b2) = true := decide_eq_true (.inl h1)
  rw [k2]
  clear k2 he
  go_enter Tryz.func32, Tryz.ntmps32
  go_wp2
  go_ret
  exact ⟨rfl, (by repeat (first | exact Below.refl _ _ | assumption | apply Below.drew | refine below_drewN ?_ _ | apply Below.setCell _ (by first | omega | (simp; done) | (simp; omega)) | apply Below.alloc _ (by first | omega | (simp; done) | (simp; omega))))⟩
 ·have k1 : decide (a1 < b1) = false := decide_eq_false h1
  by_cases h2 : a1 = b1
  ·subst h2
   have k3 : decide (a1 < a1 ∨ a1 = a1 ∧ a2 < b2) = decide (a2 < b2) := by congr 1; simp
   rw [k3]
   clear k3 he h1
   by_cases h3 : a2 < b2
   ·have k4 : decide (a2 < b2) = true := decide_eq_true h3
    rw [k4]
    go_enter Tryz.func32, Tryz.ntmps32
    go_wp2
    go_ret
    exact ⟨rfl, (by repeat (first | exact Below.refl _ _ | assumption | apply Below.drew | refine below_drewN ?_ _ | apply Below.setCell _ (by first | omega | (simp; done) | (simp; omega)) | apply Below.alloc _ (by first | omega | (simp; done) | (simp; omega))))⟩
   ·have k4 : decide (a2 < b2) = false := decide_eq_false h3
    rw [k4]
    go_enter Tryz.func32, Tryz.ntmps32
    go_wp2
    go_ret
    exact ⟨rfl, (by repeat (first | exact Below.refl _ _ | assumption | apply Below.drew | refine below_drewN ?_ _ | apply Below.setCell _ (by first | omega | (simp; done) | (simp; omega)) | apply Below.alloc _ (by first | omega | (simp; done) | (simp; omega))))⟩
  ·have k2 : ((a1 : Int) == (b1 : Int)) = false := by rw [he]; exact decide_eq_false h2
   have k3 : decide (a1 < b1 ∨ a1 = b1 ∧ a2 < b2) = false := decide_eq_false (by omega)
   rw [k3]
   clear k3 he
   go_enter Tryz.func32, Tryz.ntmps32
   go_wp2
   go_ret
   exact ⟨rfl, (by repeat (first | exact Below.refl _ _ | assumption | apply Below.drew | refine below_drewN ?_ _ | apply Below.setCell _ (by first | omega | (simp; done) | (simp; omega)) | apply Below.alloc _ (by first | omega | (simp; done) | (simp; omega))))⟩
def goodC (a : Int × Int) : Bool := decide (0 ≤ a.1 ∧ a.1 ≤ 1000000 ∧ 0 ≤ a.2 ∧ a.2 ≤ 1000000)
def costCells (l : List (Int × Int)) : List Value := l.flatMap fun a => [.int .i64 a.1, .int .i64 a.2]
theorem costs_at : ∀ (l : List (Int × Int)) (k : Nat) (hk : k < l.length), (costCells l)[k * 2]? = some (.int .i64 l[k].1) ∧ (costCells l)[k * 2 + 1]? = some (.int .i64 l[k].2)
 | a :: r, 0, _ => ⟨rfl, rfl⟩
 | a :: r, k + 1, h => by
  have := costs_at r k (by simpa using h)
  have e : (k + 1) * 2 = k * 2 + 1 + 1 := by omega
  rw [e]
  exact this
theorem cost_atW {w wr : World} {A : Option Addr} {l : List (Int × Int)} (h : Sl w w.heap.size 2 A l.length (costCells l)) (hB : Below w.heap.size w wr) {k : Nat} (hk : k < l.length) :
  ∃ b off, A = some ⟨b, off, none⟩ ∧ b < w.heap.size ∧ wr.cell? ⟨b, off + k * 2, none⟩ = some (.int .i64 l[k].1) ∧ wr.cell? ⟨b, off + k * 2 + 1, none⟩ = some (.int .i64 l[k].2) := by
 obtain ⟨b, off, h1, h2, h3⟩ := h.2 (by omega)
 obtain ⟨g1, g2⟩ := costs_at l k hk
 refine ⟨b, off, h1, h2, ?_, ?_⟩
 ·exact (hB.cell (p := ⟨b, off + k * 2, none⟩) h2).trans (h3 _ _ g1)
 ·exact (hB.cell (p := ⟨b, off + k * 2 + 1, none⟩) h2).trans (by rw [Nat.add_assoc]; exact h3 _ _ g2)
theorem all_moreC {l : List (Int × Int)} {k : Nat} (h : (l.take k).all goodC = true) (hk : k < l.length) {x y : Int} (e : l[k] = (x, y)) (hg : goodC (x, y) = true) : (l.take (k + 1)).all goodC = true := by
 rw [List.take_succ_eq_append_getElem hk, List.all_append, h, e]
 simp [hg]
theorem all_bad_at {l : List (Int × Int)} {k : Nat} (hk : k < l.length) {x y : Int} (e : l[k] = (x, y)) (hg : goodC (x, y) = false) : l.all goodC = false := by
 rw [List.all_eq_false]
 exact ⟨l[k], List.getElem_mem hk, by rw [e, hg]; simp⟩
set_option maxRecDepth 100000 in
set_option maxHeartbeats 2000000 in
theorem good_any (l : List (Int × Int)) (n : Nat) (hn : l.length = n) (hs : n ≤ 1000) (A : Option Addr) (c : Nat) (w : World) (h : Sl w w.heap.size 2 A n (costCells l)) :
  Calls Tryz.prog 31 #[.slice A n c] w (Ret w (.bool (l.all goodC))) := by
 subst hn
 have H := Lib.hid h; clear h
 go_enter Tryz.func31, Tryz.ntmps31
 go_wp2
 go_loopw [7] (fun i wr => ∃ k : Nat, k ≤ l.length ∧ i = .int .i64 k ∧ (l.take k).all goodC = true ∧ Below w.heap.size w wr) (fun i _ => l.length - (intOf i).toNat)
 case atStart => exact ⟨0, by omega, rfl, rfl, Below.refl _ _⟩
 case round =>
  obtain ⟨k, hk, rfl, ht, hB⟩ := hrel
  have HT := Lib.hid ht; have HB := Lib.hid hB
  have hsz := hB.size
  by_cases hlt : k < l.length
  ·obtain ⟨b, off, rfl, hb, d1, d2⟩ := cost_atW H.out hB hlt
   obtain ⟨x, y, he⟩ : ∃ x y, l[k] = (x, y) := ⟨_, _, rfl⟩
   rw [he] at d1 d2
   simp only at d1 d2
   have HE := Lib.hid he
   clear ht hB he
   by_cases h1 : x < 0
   ·have k1 : decide (x < 0) = true := decide_eq_true h1
    have HG := Lib.hid (all_bad_at hlt HE.out (by simp [goodC]; omega))
    clear h1
    go_wp2_with fail
    go_ret
    exact ⟨by rw [HG.out]; rfl, HB.out.trans ((Below.refl _ _).alloc (Nat.le_refl _) _ |>.mono hsz)⟩
   ·have k1 : decide (x < 0) = false := decide_eq_false h1
    by_cases h2 : 1000000 < x
    ·have k2 : decide (1000000 < x) = true := decide_eq_true h2
     have HG := Lib.hid (all_bad_at hlt HE.out (by simp [goodC]; omega))
     clear h1 h2
     go_wp2_with fail
     go_ret
     exact ⟨by rw [HG.out]; rfl, HB.out.trans ((Below.refl _ _).alloc (Nat.le_refl _) _ |>.mono hsz)⟩
    ·have k2 : decide (1000000 < x) = false := decide_eq_false h2
     by_cases h3 : y < 0
     ·have k3 : decide (y < 0) = true := decide_eq_true h3
      have HG := Lib.hid (all_bad_at hlt HE.out (by simp [goodC]; omega))
      clear h1 h2 h3
      go_wp2_with fail
      go_ret
      exact ⟨by rw [HG.out]; rfl, HB.out.trans ((Below.refl _ _).alloc (Nat.le_refl _) _ |>.mono hsz)⟩
     ·have k3 : decide (y < 0) = false := decide_eq_false h3
      by_cases h4 : 1000000 < y
      ·have k4 : decide (1000000 < y) = true := decide_eq_true h4
       have HG := Lib.hid (all_bad_at hlt HE.out (by simp [goodC]; omega))
       clear h1 h2 h3 h4
       go_wp2_with fail
       go_ret
       exact ⟨by rw [HG.out]; rfl, HB.out.trans ((Below.refl _ _).alloc (Nat.le_refl _) _ |>.mono hsz)⟩
      ·have k4 : decide (1000000 < y) = false := decide_eq_false h4
       have HG := Lib.hid (all_moreC HT.out hlt HE.out (by simp [goodC]; omega))
       clear h1 h2 h3 h4
       go_wp2_with fail
       go_roundw
       case rel => exact ⟨k + 1, by omega, by go_num, HG.out, HB.out.trans ((Below.refl _ _).alloc (Nat.le_refl _) _ |>.mono hsz)⟩
       case measure => simp [intOf]; omega
  ·have HG : Hid (l.all goodC = true) := Lib.hid (by have := HT.out; rwa [List.take_of_length_le (by omega)] at this)
   go_wp2_with fail
   go_ret
   exact ⟨by rw [HG.out]; rfl, HB.out⟩
theorem costs_lit2 (w : World) (a1 a2 b1 b2 : Int) (g : Nat) (hg : w.heap.size = g) : Sl (w.alloc (.cells #[.int .i64 a1, .int .i64 a2, .int .i64 b1, .int .i64 b2] 33)) (w.alloc (.cells #[.int .i64 a1, .int .i64 a2, .int .i64 b1, .int .i64 b2] 33)).heap.size 2 (some ⟨g, 0, none⟩) 2 [.int .i64 a1, .int .i64 a2, .int .i64 b1, .int .i64 b2] := by
 subst hg
 exact Sl.lit (sz := 2) w #[.int .i64 a1, .int .i64 a2, .int .i64 b1, .int .i64 b2] 33 2 rfl
theorem good_two (a1 a2 b1 b2 : Int) {r : Bool} (hr : [(a1, a2), (b1, b2)].all goodC = r) (A : Option Addr) (c : Nat) (w : World) (h : Sl w w.heap.size 2 A 2 [.int .i64 a1, .int .i64 a2, .int .i64 b1, .int .i64 b2]) :
  Calls Tryz.prog 31 #[.slice A 2 c] w (Ret w (.bool r)) := by
 subst hr
 exact good_any [(a1, a2), (b1, b2)] 2 rfl (by omega) A c w h
end Go.Proofs.YtddfdmopaeghnabGreatDoor
namespace Go.Proofs.YtddfdmopaeghnabGreatDoor
open Go.RowKit
theorem blk_cellC {w : World} {g j : Nat} {cs : Array Value} {T : TypeId} {fr : Nat × Nat} (h : w.heap[g]? = some (.cells cs T fr)) : w.cell? ⟨g, j, none⟩ = cs[j]? := cell_of_row w g j cs T fr h
theorem blk_freeC {w : World} {g j : Nat} {cs : Array Value} {T : TypeId} (h : w.heap[g]? = some (.cells cs T (0, 0))) : w.frozen? ⟨g, j, none⟩ = false := by simp [World.frozen?, h]
theorem blk_setC {w : World} {b : Nat} {x y p q : Value} {T : TypeId} {fr : Nat × Nat} (h : w.heap[b]? = some (.cells #[x, y] T fr)) : ((w.setCell ⟨b, 0, none⟩ p).setCell ⟨b, 1, none⟩ q).heap[b]? = some (.cells #[p, q] T fr) := by
 simp [World.setCell, Array.getElem?_modify, h]
theorem blk_belowC {w w' : World} {g : Nat} {o : Obj} (h : w.heap[g]? = some o) (hb : Below w.heap.size w w') : w'.heap[g]? = some o := (hb.block g (Array.getElem?_eq_some_iff.1 h).1).trans h
set_option maxRecDepth 100000 in
set_option maxHeartbeats 2000000 in
theorem less_ok (a b : Nat × Nat) (ha : a.1 ≤ 1000000 ∧ a.2 ≤ 1000000) (hb : b.1 ≤ 1000000 ∧ b.2 ≤ 1000000) (w : World) :
  Calls Tryz.prog 11 #[.agg #[.int .i64 (a.1 : Nat), .int .i64 (a.2 : Nat)], .agg #[.int .i64 (b.1 : Nat), .int .i64 (b.2 : Nat)]] w (Ret w (.tuple #[.bool (cLess a b), .nilIface])) := by
 have HU := Lib.hid (fun w' => under_c a b rfl w')
 obtain ⟨a1, a2⟩ := a
 obtain ⟨b1, b2⟩ := b
 simp only at ha hb HU
 have hall : ([((a1 : Int), (a2 : Int)), ((b1 : Int), (b2 : Int))] : List (Int × Int)).all goodC = true := by
  simp [goodC]; omega
 have HG := Lib.hid hall
 generalize cLess (a1, a2) (b1, b2) = r at *
 clear hall ha hb
 simp only
 go_enter Tryz.func11, Tryz.ntmps11
 go_wp2_with fail
 refine (good_two _ _ _ _ HG.out _ _ _ (costs_lit2 _ _ _ _ _ _ (by simp))).mono ?_
 rintro e w1 ⟨rfl, hB1⟩
 have hR : w1.heap[w.heap.size]? = some (.cells #[.int .i64 a1, .int .i64 a2] 33 (0, 0)) := by
  refine blk_belowC ?_ hB1
  exact (Below.heap_alloc _ _ _ (by simp; omega)).trans ((Below.heap_alloc _ _ _ (by simp)).trans (heap_new (by simp)))
 have hS : w1.heap[w.heap.size + 1]? = some (.cells #[.int .i64 b1, .int .i64 b2] 33 (0, 0)) := by
  refine blk_belowC ?_ hB1
  exact (Below.heap_alloc _ _ _ (by simp)).trans (heap_new (by simp))
 have r0 := blk_cellC (j := 0) hR; have r1 := blk_cellC (j := 1) hR; have s0 := blk_cellC (j := 0) hS; have s1 := blk_cellC (j := 1) hS
 simp at r0 r1 s0 s1
 have HB1 : Hid (Below w.heap.size w w1) := Lib.hid (Below.trans (by repeat (first | exact Below.refl _ _ | assumption | apply Below.drew | refine below_drewN ?_ _ | apply Below.setCell _ (by first | omega | (simp; done) | (simp; omega)) | apply Below.alloc _ (by first | omega | (simp; done) | (simp; omega)))) (hB1.mono (by simp; omega)))
 clear hR hS hB1
 go_wp2_with (go_at_call 32; refine (HU.out _).mono ?_; rintro e w2 ⟨rfl, hB2⟩)
 go_ret2
 exact ⟨rfl, HB1.out.trans (hB2.mono HB1.out.size)⟩
end Go.Proofs.YtddfdmopaeghnabGreatDoor
namespace Go.Proofs.YtddfdmopaeghnabGreatDoor
open Go.RowKit Go.Shelf
theorem overs_bd (W : Nat) (s : ByteArray) : overs W (splitL s.data.toList) ≤ s.size ∧ (splitL s.data.toList).length ≤ s.size + 1 := by
 have h := split_cost W s.data.toList
 have h1 := ovr_le W s.data.toList 0
 have h2 := lns_le s.data.toList
 have e : s.data.toList.length = s.size := by simp
 simp only [cst, Prod.mk.injEq] at h
 omega
structure OfI (w : World) (W : Nat) (n0 : Nat) (pre : List (List UInt8)) (X : World) : Prop where
 wd : X.heap[w.heap.size]? = some (.cells #[.int .i64 (W : Nat)] 3 (0, 0))
 res : X.heap[w.heap.size + 1]? = some (.cells #[.int .i64 0, .int .i64 0] 33 (0, 0))
 own : X.heap[w.heap.size + 1 + 1]? = some (.cells #[.int .i64 (overs W pre : Nat), .int .i64 ((pre.length : Int) - 1)] 33 (0, 0))
 bel : Below w.heap.size w X
 sz : n0 ≤ X.heap.size
section
attribute [local go_sem] Oper.semAt_some
set_option maxRecDepth 100000 in
set_option maxHeartbeats 1000000 in
theorem of_good (s : ByteArray) (hs : s.size ≤ 60000) (W : Nat) (hW : W ≤ 100) (w : World) :
  Calls Tryz.prog 9 #[.string s, .int .i64 (W : Nat)] w (Ret w (.tuple #[.agg #[.int .i64 ((cst W 0 s.data.toList).1 : Nat), .int .i64 ((cst W 0 s.data.toList).2 : Nat)], .nilIface])) := by
 have k1 : decide (60000 < (s.size : Int)) = false := decide_eq_false (by omega)
 have k2 : decide ((W : Int) < 0) = false := decide_eq_false (by omega)
 have k3 : decide (100 < (W : Int)) = false := decide_eq_false (by omega)
 refine (callsIn_wide (n := 6)).1 ?_
 refine callsIn_of_wp_marks Tryz.func9 rfl trivial ?_ rfl
 simp only [Tryz.ntmps9, List.size_toArray, List.length_cons, List.length_nil, Nat.reduceAdd, Nat.reduceSub, Array.replicate_succ, Array.replicate_zero, List.push_toArray, List.append_toArray, List.nil_append, List.cons_append]
 gi_wp2_with (refine ⟨trivial, ?_⟩; gi_at_call 26; refine (callsIn_wide.2 (splitSeq_all _ _)).mono ?_; rintro e w' ⟨rfl, rfl⟩)
 obtain ⟨X, hX⟩ : ∃ X, splitWorld (((w.alloc (.cells #[.int .i64 (W : Nat)] 3)).alloc (.cells #[.int .i64 0, .int .i64 0] 33)).alloc (.cells #[.int .i64 0, .int .i64 (-1)] 33)) s = X := ⟨_, rfl⟩
 rw [hX]
 have hsz : X.heap.size = w.heap.size + 6 := by rw [← hX]; simp [splitWorld]
 have h0 : OfI w W X.heap.size [] X := by
  have e1 := fun (o : Obj) => (Below.refl w.heap.size w).alloc (Nat.le_refl _) o
  refine ⟨?_, ?_, ?_, ?_, Nat.le_refl _⟩ <;> rw [← hX] <;> simp only [splitWorld]
  ·exact (Below.heap_alloc _ _ _ (by first | (simp; done) | (simp; omega))).trans ((Below.heap_alloc _ _ _ (by first | (simp; done) | (simp; omega))).trans ((Below.heap_alloc _ _ _ (by first | (simp; done) | (simp; omega))).trans ((Below.heap_alloc _ _ _ (by first | (simp; done) | (simp; omega))).trans ((Below.heap_alloc _ _ _ (by first | (simp; done) | (simp; omega))).trans (heap_new (by simp))))))
  ·exact (Below.heap_alloc _ _ _ (by first | (simp; done) | (simp; omega))).trans ((Below.heap_alloc _ _ _ (by first | (simp; done) | (simp; omega))).trans ((Below.heap_alloc _ _ _ (by first | (simp; done) | (simp; omega))).trans ((Below.heap_alloc _ _ _ (by first | (simp; done) | (simp; omega))).trans (heap_new (by simp)))))
  ·exact (Below.heap_alloc _ _ _ (by first | (simp; done) | (simp; omega))).trans ((Below.heap_alloc _ _ _ (by first | (simp; done) | (simp; omega))).trans ((Below.heap_alloc _ _ _ (by first | (simp; done) | (simp; omega))).trans (heap_new (by simp))))
  ·exact (by repeat (first | exact Below.refl _ _ | assumption | apply Below.drew | refine below_drewN ?_ _ | apply Below.setCell _ (by first | omega | (simp; done) | (simp; omega)) | apply Below.alloc _ (by first | omega | (simp; done) | (simp; omega))))
 have hb : X.heap[w.heap.size + 1 + 1 + 1]? = some (.cells #[.string s] 9 (0, 0)) := by
  rw [← hX]
  exact (Below.heap_alloc _ _ _ (by first | (simp; done) | (simp; omega))).trans ((Below.heap_alloc _ _ _ (by first | (simp; done) | (simp; omega))).trans (heap_new (by simp)))
 have hb1 : X.heap[w.heap.size + 1 + 1 + 1 + 1]? = some (.cells #[.string ⟨#[10]⟩] 9 (0, 0)) := by
  rw [← hX]
  exact (Below.heap_alloc _ _ _ (by first | (simp; done) | (simp; omega))).trans (heap_new (by simp))
 have hb2 : X.heap[w.heap.size + 1 + 1 + 1 + 1 + 1]? = some (.cells #[.int .i64 0] 3 (0, 0)) := by
  rw [← hX]
  exact heap_new (by simp)
 clear hX
 refine wpIn_range_cell (F := Fence.wide) rfl (by omega) (gf := 96) (lb := #[.pointer (some ⟨w.heap.size + 1 + 1 + 1 + 1, 0, none⟩), .pointer (some ⟨w.heap.size + 1 + 1 + 1, 0, none⟩), .pointer (some ⟨w.heap.size + 1 + 1 + 1 + 1 + 1, 0, none⟩)]) rfl trivial (enters_of Tryz.func96 (by kernel_rfl) rfl)
  (split_seq 5 (by omega) (w.heap.size + 1 + 1 + 1) s (by omega) X hb hb1 hb2) (by omega) rfl (OfI w W X.heap.size) ?hput ?hset ?halloc h0
  (fun x => { tmps := #[.string s, .int .i64 (W : Nat), undef, .pointer (some ⟨w.heap.size, 0, none⟩), .pointer (some ⟨w.heap.size + 1, 0, none⟩), .nilIface, .pointer (some ⟨w.heap.size + 1 + 1, 0, none⟩), .string ⟨x.toArray⟩, .string s, .int .i64 (s.size : Nat), .bool false, undef, undef, .int .i64 (W : Nat), .bool false, .bool false, .int .i64 (W : Nat), .bool false, .bool false, undef, undef, .agg #[.int .i64 0, .int .i64 (-1)], .string s, splitVal (w.heap.size + 1 + 1 + 1), .string ⟨x.toArray⟩, undef, undef, undef, undef, undef, undef, undef, undef, undef, undef, undef, undef, undef, undef], defers := [] }) ?assign ?body ?done
 case hput =>
  rintro pre Y r o o' h hr ho hle
  exact ⟨putObj_at h.wd (by omega), putObj_at h.res (by omega), putObj_at h.own (by omega), h.bel.grown (grownBy_putObj' Y r o') h.bel.size (fun k e => by cases e; omega), by simpa [World.putObj] using h.sz⟩
 case hset =>
  rintro pre Y v h
  exact ⟨(Below.heap_setCell _ _ _ _ (by simp only; omega)).trans h.wd, (Below.heap_setCell _ _ _ _ (by simp only; omega)).trans h.res, (Below.heap_setCell _ _ _ _ (by simp only; omega)).trans h.own, h.bel.setCell (p := ⟨w.heap.size + 1 + 1 + 1, 0, none⟩) (by simp only; omega) _, by simpa [World.setCell] using h.sz⟩
 case halloc =>
  rintro pre Y o h
  have := h.sz
  exact ⟨(Below.heap_alloc _ _ _ (by omega)).trans h.wd, (Below.heap_alloc _ _ _ (by omega)).trans h.res, (Below.heap_alloc _ _ _ (by omega)).trans h.own, h.bel.alloc h.bel.size _, by simp; omega⟩
 case assign =>
  intro l x Y K hK
  gi_wp2
  exact hK
 case body =>
  rintro l pre x Y h hpre
  obtain ⟨rest, hrest⟩ := hpre
  have hbd := overs_bd W s
  rw [← hrest, overs_app, overs_app] at hbd
  simp only [List.length_append, List.length_cons, List.length_nil, overs] at hbd
  obtain ⟨bx, hbx⟩ : ∃ bx : ByteArray, (⟨x.toArray⟩ : ByteArray) = bx := ⟨_, rfl⟩
  have hbz : bx.size = x.length := by rw [← hbx]; simp [ByteArray.size]
  simp only [hbx]
  have c0 : Y.cell? ⟨w.heap.size, 0, none⟩ = some (.int .i64 (W : Nat)) := blk_cellC h.wd
  have o0 : Y.cell? ⟨w.heap.size + 1 + 1, 0, none⟩ = some (.int .i64 (overs W pre : Nat)) := blk_cellC h.own
  have o1 : Y.cell? ⟨w.heap.size + 1 + 1, 1, none⟩ = some (.int .i64 ((pre.length : Int) - 1)) := blk_cellC h.own
  have f0 := blk_freeC (j := 0) h.own
  have f1 := blk_freeC (j := 1) h.own
  have e1 : ((overs W (pre ++ [x]) : Nat) : Int) = (overs W pre : Nat) + max 0 ((bx.size : Int) - (W : Int)) := by
   rw [overs_app, hbz]; simp only [overs]; omega
  have e2 : (((pre ++ [x]).length : Nat) : Int) - 1 = (pre.length : Int) := by simp
  have HI := Lib.hid h; have HE1 := Lib.hid e1; have HE2 := Lib.hid e2
  have hov : overs W pre ≤ 60000 := by omega
  have hbs : bx.size ≤ 60200 := by omega
  have hpl : pre.length ≤ 60001 := by omega
  clear h e1 e2 hrest hbx hbd hbz h0 hb hb1 hb2
  gi_wp2
  refine ⟨(KeepsOthers.setCell _ _ _).trans (KeepsOthers.setCell _ _ _), (Keep.setCell (by simp only; omega) _).trans (Keep.setCell (by simp only; omega) _), ?_⟩
  refine ⟨?_, ?_, ?_, ?_, ?_⟩
  ·exact (Below.heap_setCell _ _ _ _ (by simp only; omega)).trans ((Below.heap_setCell _ _ _ _ (by simp only; omega)).trans HI.out.wd)
  ·exact (Below.heap_setCell _ _ _ _ (by simp only; omega)).trans ((Below.heap_setCell _ _ _ _ (by simp only; omega)).trans HI.out.res)
  ·rw [HE1.out, HE2.out]
   exact blk_setC HI.out.own
  ·exact (HI.out.bel.setCell (p := ⟨w.heap.size + 1 + 1, 0, none⟩) (by simp only; omega) _).setCell (p := ⟨w.heap.size + 1 + 1, 1, none⟩) (by simp only; omega) _
  ·simpa [World.setCell] using HI.out.sz
 case done =>
  rintro D Y hD h hK
  have o0 : Y.cell? ⟨w.heap.size + 1 + 1, 0, none⟩ = some (.int .i64 (overs W (splitL s.data.toList) : Nat)) := blk_cellC h.own
  have o1 : Y.cell? ⟨w.heap.size + 1 + 1, 1, none⟩ = some (.int .i64 (((splitL s.data.toList).length : Int) - 1)) := blk_cellC h.own
  have r0 : Y.cell? ⟨w.heap.size + 1, 0, none⟩ = some (.int .i64 0) := blk_cellC h.res
  have r1 : Y.cell? ⟨w.heap.size + 1, 1, none⟩ = some (.int .i64 0) := blk_cellC h.res
  have f0 := blk_freeC (j := 0) h.res
  have f1 := blk_freeC (j := 1) h.res
  have HI := Lib.hid h
  have hlt := (Array.getElem?_eq_some_iff.1 h.wd).1
  clear h h0 hb hb1 hb2
  have hcs := split_cost W s.data.toList
  have hne := splitL_ne s.data.toList
  have hpos : 0 < (splitL s.data.toList).length := List.length_pos_iff.2 hne
  simp only [Prod.ext_iff] at hcs
  have E1 : Hid (((cst W 0 s.data.toList).1 : Int) = (overs W (splitL s.data.toList) : Nat)) := Lib.hid (by rw [hcs.1])
  have E2 : Hid (((cst W 0 s.data.toList).2 : Int) = ((splitL s.data.toList).length : Int) - 1) := Lib.hid (by rw [hcs.2]; omega)
  clear hcs hne hpos
  generalize hov : (overs W (splitL s.data.toList) : Int) = ov at *
  generalize hll : ((splitL s.data.toList).length : Int) - 1 = ll at *
  gi_wp2
  refine ⟨by simp, .inl ⟨_, _, rfl, run_takeDeferred (((KeepsOthers.setCell _ _ _).trans (KeepsOthers.setCell _ _ _)).same D _ hK rfl), ?_⟩⟩
  have hres := putObj_at (l := D) (o' := .deferred none) (blk_setC (p := .int .i64 ov) (q := .int .i64 ll) HI.out.res) (by omega)
  have x0 := blk_cellC (j := 0) hres
  have x1 := blk_cellC (j := 1) hres
  simp at x0 x1
  refine ⟨.tuple #[.agg #[.int .i64 ov, .int .i64 ll], .nilIface], by simp [results, Tryz.results9, go_sem, x0, x1], by rw [E1.out, E2.out], ?_⟩
  exact ((HI.out.bel.setCell (p := ⟨w.heap.size + 1, 0, none⟩) (by simp only; omega) _).setCell (p := ⟨w.heap.size + 1, 1, none⟩) (by simp only; omega) _).grown (grownBy_putObj' _ D _) (by simpa [World.setCell] using HI.out.bel.size) (fun k e => by cases e; omega)
end
end Go.Proofs.YtddfdmopaeghnabGreatDoor
namespace Go.Proofs.YtddfdmopaeghnabGreatDoor
open Go.RowKit
theorem badBit_more {ws : List Int} {k : Nat} (ha : badBit (ws.take k) = false) (hk : k < ws.length) {v : Int} (hv : ws[k] = v) (h : v = 0 ∨ v = 1) : badBit (ws.take (k + 1)) = false := by
 unfold badBit at ha ⊢
 rw [List.take_succ_eq_append_getElem hk, List.any_append, ha, hv]
 rcases h with rfl | rfl <;> rfl
def ShowTo (r : Except Int ByteArray) (w : World) (e : Ending) (w' : World) : Prop := e = .returned (match r with | .ok s => .tuple #[.string s, .nilIface] | .error q => .tuple #[.string .empty, .iface 56 (.int .i64 q)]) ∧ Below w.heap.size w w'
set_option maxRecDepth 100000 in
set_option maxHeartbeats 2000000 in
theorem show_bad (l : List Nd) (A : Option Addr) (n c : Nat) (hn : l.length = n) (M : Option Addr) (m cm : Nat) (w : World) (hl : Nds w w.heap.size A l) (he : checkF l ≠ 0) :
  Calls Tryz.prog 10 #[.slice A n c, .slice M m cm] w (ShowTo (.error (checkF l)) w) := by
 subst hn
 have HC := Lib.hid (check_any l A c w hl)
 rw [← errV_pos he] at HC
 generalize checkF l = q at *
 clear he hl
 go_enter Tryz.func10, Tryz.ntmps10
 go_wp2_with (go_at_call 22; refine HC.out.mono ?_; rintro e w1 ⟨rfl, hB1⟩)
 go_ret2
 exact ⟨rfl, (by repeat (first | exact Below.refl _ _ | assumption | apply Below.drew | refine below_drewN ?_ _ | apply Below.setCell _ (by first | omega | (simp; done) | (simp; omega)) | apply Below.alloc _ (by first | omega | (simp; done) | (simp; omega))))⟩
set_option maxRecDepth 100000 in
set_option maxHeartbeats 2000000 in
theorem show_bit (l : List Nd) (A : Option Addr) (n c : Nat) (hn : l.length = n) (ws : List Int) (M : Option Addr) (m cm : Nat) (hm : ws.length = m) (w : World) (hl : Nds w w.heap.size A l) (hM : NumsI w w.heap.size M ws) (he : checkF l = 0) (hb : badBit ws = true) :
  Calls Tryz.prog 10 #[.slice A n c, .slice M m cm] w (ShowTo (.error 1) w) := by
 subst hn hm
 have HC := Lib.hid (check_any l A c w hl)
 rw [he, ← errV_zero rfl] at HC
 have hm63 := hM.2
 unfold maxLen at hm63
 have HM := Lib.hid hM; have HBB := Lib.hid hb
 clear he hl hM hb
 go_enter Tryz.func10, Tryz.ntmps10
 go_wp2_with (go_at_call 22; refine HC.out.mono ?_; rintro e w1 ⟨rfl, hB1⟩)
 have HM1 := Lib.hid (HM.out.past hB1)
 go_loop [25] (fun i => ∃ k : Nat, k ≤ ws.length ∧ i = .int .i64 k ∧ badBit (ws.take k) = false) (fun i => ws.length - (intOf i).toNat)
 case atStart => exact ⟨0, by omega, rfl, rfl⟩
 case round =>
  obtain ⟨k, hk, rfl, ha⟩ := hrel
  have HA := Lib.hid ha; clear ha
  by_cases hlt : k < ws.length
  ·obtain ⟨b, off, v, rfl, hb, hv, hcell⟩ := HM1.out.one (Below.refl _ _) hlt
   have HV := Lib.hid hv; clear hv
   by_cases h0 : v = 0
   ·subst h0
    have HG := Lib.hid (badBit_more HA.out hlt HV.out (.inl rfl))
    go_wp2
    go_round
    case rel => exact ⟨k + 1, by omega, by go_num, HG.out⟩
    case measure => simp [intOf]; omega
   ·by_cases h1 : v = 1
    ·subst h1
     have HG := Lib.hid (badBit_more HA.out hlt HV.out (.inr rfl))
     go_wp2
     go_round
     case rel => exact ⟨k + 1, by omega, by go_num, HG.out⟩
     case measure => simp [intOf]; omega
    ·have k1 : (v != 0) = true := by simpa using h0
     have k2 : (v != 1) = true := by simpa using h1
     clear h0 h1
     go_wp2
     go_ret2
     exact ⟨rfl, (by repeat (first | exact Below.refl _ _ | assumption | apply Below.drew | refine below_drewN ?_ _ | apply Below.setCell _ (by first | omega | (simp; done) | (simp; omega)) | apply Below.alloc _ (by first | omega | (simp; done) | (simp; omega))))⟩
  ·exfalso
   have := HA.out
   rw [List.take_of_length_le (by omega), HBB.out] at this
   cases this
theorem bits_tail {v : Int} {r : List Int} (h : Bits (v :: r)) : (v = 0 ∨ v = 1) ∧ Bits r := ⟨h v (by simp), fun c hc => h c (by simp [hc])⟩
theorem bits_of {ws : List Int} (h : badBit ws = false) : Bits ws := by
 intro c hc
 unfold badBit at h
 rw [List.any_eq_false] at h
 have := h c hc
 simp at this
 by_cases h0 : c = 0
 ·exact .inl h0
 ·exact .inr (this h0)
set_option maxRecDepth 100000 in
set_option maxHeartbeats 8000000 in
theorem show_good (hof : OfSaid) {l : List Nd} {x : D} (hd : Doc l x) (A : Option Addr) (n c : Nat) (hn : l.length = n) (ws : List Int) (M : Option Addr) (m cm : Nat) (hm : ws.length = m) (hcm : m ≤ cm) (w : World) (hl : Nds w w.heap.size A l) (hM : NumsI w w.heap.size M ws) (hb : badBit ws = false) :
  Calls Tryz.prog 10 #[.slice A n c, .slice M m cm] w (ShowTo (showD x ws) w) := by
 subst hn hm
 have HC := Lib.hid (check_any l A c w hl)
 rw [hd.check, ← errV_zero rfl] at HC
 have hm63 := hM.2
 unfold maxLen at hm63
 have h400 := hd.len
 have HOF := Lib.hid hof
 have HM := Lib.hid hM; have HN := Lib.hid hl; have HD := Lib.hid hd
 have HBT := Lib.hid (bits_of hb)
 clear hl hM hb hd hof
 go_enter Tryz.func10, Tryz.ntmps10
 go_wp2_with (go_at_call 22; refine HC.out.mono ?_; rintro e w1 ⟨rfl, hB1⟩)
 have HM1 := Lib.hid (HM.out.past hB1)
 have HN1 := Lib.hid (HN.out.past hB1)
 clear HM HN HC
 go_loop [25] (fun i => ∃ k : Nat, k ≤ ws.length ∧ i = .int .i64 k) (fun i => ws.length - (intOf i).toNat)
 case atStart => exact ⟨0, by omega, rfl⟩
 case round =>
  obtain ⟨k, hk, rfl⟩ := hrel
  by_cases hlt : k < ws.length
  ·obtain ⟨b, off, v, rfl, hb, hv, hcell⟩ := HM1.out.one (Below.refl _ _) hlt
   have h01 : v = 0 ∨ v = 1 := by rw [← hv]; exact HBT.out _ (List.getElem_mem hlt)
   clear hv
   rcases h01 with rfl | rfl
   all_goals
    go_wp2
    go_round
    case rel => exact ⟨k + 1, by omega, by go_num⟩
    case measure => simp [intOf]; omega
  ·go_wp2_with (go_at_call 23; refine (HOF.out l x A c _ HN1.out HD.out).mono ?_; rintro e w2 ⟨gp, rfl, hgp, hpl, hB2⟩; have HPL0 := Lib.hid hpl; clear hpl)
   have HB12 := Lib.hid (hB1.trans (hB2.mono hB1.size))
   have HM2 := Lib.hid (HM1.out.past hB2)
   have HN2 := Lib.hid (HN1.out.past hB2)
   have HPL := HPL0
   have hbn := Bld.new w2
   have hb0 : Below w2.heap.size w2 (w2.alloc (.cells #[.pointer none, .slice none 0 0] 84)) := (Below.refl _ _).alloc (Nat.le_refl _) _
   have HBN := Lib.hid hbn; have HB0 := Lib.hid hb0
   have h0 : endK (layK [(x, 0)] ws .empty) = showD x ws := (showD_K x ws).symm
   have hsx : l.length = x.sz := by rw [HD.out.enc, D.len_enc]
   have HS0 := Lib.hid h0; have HSX := Lib.hid hsx
   clear hbn hb0 h0 hsx HM1 HN1 HPL0 hB1 hB2 hgp
   generalize showD x ws = RES at *
   generalize w2.alloc (.cells #[.pointer none, .slice none 0 0] 84) = w3 at *
   go_loopw [1, 11] (fun way i wr => ∃ (q : Nat) (A' : Option Addr) (c' : Nat) (ws' : List Int) (acc : ByteArray) (K : List (D × Int)), i = .int .i64 q ∧ way = .slice A' ws'.length c' ∧ ws'.length ≤ c' ∧ NumsI w2 w2.heap.size A' ws' ∧ Bits ws' ∧ Rep l q K ∧ endK (layK K ws' acc) = RES ∧ acc.size + 3300 * szK K ≤ 1400000 ∧ Bld w2.heap.size w2.heap.size acc wr ∧ Below w2.heap.size w2 wr) (fun _ i _ => leftOf l (intOf i).toNat)
   case atStart => exact ⟨0, M, cm, ws, .empty, [(x, 0)], rfl, rfl, hcm, HM2.out, HBT.out, HD.out.rep0, HS0.out, by simp only [szK, ByteArray.size_empty]; have := HSX.out; omega, HBN.out, HB0.out⟩
   case round =>
    obtain ⟨q, A', c', ws', acc, K, rfl, rfl, hlc, hnw, hbi, hrp, hen, hac, hbd, hbe⟩ := hrel
    have HNW := Lib.hid hnw; have HBI := Lib.hid hbi; have HR := Lib.hid hrp; have HE := Lib.hid hen; have HBd := Lib.hid hbd; have HBel := Lib.hid hbe
    have hszr := hbe.size
    have hnw63 := hnw.2
    unfold maxLen at hnw63
    clear hnw hbi hrp hen hbd hbe HBN HB0 HS0
    by_cases hlt : q < l.length
    ·obtain ⟨op, t, nn, hND, hops⟩ : ∃ op t nn, l[q] = Nd.mk op t nn ∧ (op = 1 ∨ op = 2 ∨ op = 3 ∨ op = 4 ∨ op = 5 ∨ op = 6 ∨ op = 7 ∨ op = 8 ∨ op = 9) := ⟨l[q].op, l[q].text, l[q].n, rfl, HD.out.ops hlt rfl⟩
     rcases hops with rfl | rfl | rfl | rfl | rfl | rfl | rfl | rfl | rfl
     ·-- op 1
      obtain ⟨K', hr', hsz', hac', hly'⟩ := step_word HD.out HR.out hlt hND
      have hr2 := HE.out
      rw [hly'] at hr2
      have HR' := Lib.hid hr'; have HE' := Lib.hid hr2
      have HM1 : Hid (leftOf l (nextAt l q) < leftOf l q) := Lib.hid (by rw [leftOf_eq HR.out, leftOf_eq hr']; exact hsz')
      clear hr' hly' hr2 hsz'
      have HPC := Lib.hid (fun w' (hp : IsPlan w' gp A c l) (hl : Nds w' w'.heap.size A l) => piece_word HD.out w' hp hl hlt hND)
      generalize nextAt l q = NX at *
      clear hND
      go_wp2_with (first
       | (go_at_call 27; refine (HPC.out _ (HPL.out.past HBel.out) (HN2.out.past HBel.out)).mono ?_; rintro e w3 ⟨rfl, hB3⟩; have HB3 := Lib.hid (HBel.out.trans (hB3.mono HBel.out.size)); have HBD3 := Lib.hid (HBd.out.past hB3); clear hB3)
       | (go_at_call 29; refine (bld_write _ _ _ _ _ HBD3.out (by omega)).mono ?_; rintro e w5 ⟨rfl, hb5, hB5⟩; have HB5 := Lib.hid hb5; have HB6 := Lib.hid (HB3.out.trans hB5); clear hb5 hB5))
      go_roundw
      case measure => simpa [intOf] using HM1.out
      case rel => exact ⟨NX, A', c', ws', _, K', by go_num, rfl, hlc, HNW.out, HBI.out, HR'.out, HE'.out, by rw [ByteArray.size_append]; omega, HB5.out, HB6.out⟩
     ·-- op 2
      obtain ⟨K', hr', hsz', hac', hly'⟩ := step_line HD.out HR.out hlt hND (.inl rfl)
      have hr2 := HE.out
      rw [hly'] at hr2
      have HR' := Lib.hid hr'; have HE' := Lib.hid hr2
      have HM1 : Hid (leftOf l (nextAt l q) < leftOf l q) := Lib.hid (by rw [leftOf_eq HR.out, leftOf_eq hr']; exact hsz')
      clear hr' hly' hr2 hsz'
      have HPC := Lib.hid (fun w' (hp : IsPlan w' gp A c l) (hl : Nds w' w'.heap.size A l) => piece_line HD.out w' hp hl hlt hND (.inl rfl))
      generalize nextAt l q = NX at *
      generalize (⟨#[10]⟩ ++ blanksB (deepAt l q).toNat : ByteArray) = BL at *
      clear hND
      go_wp2_with (first
       | (go_at_call 27; refine (HPC.out _ (HPL.out.past HBel.out) (HN2.out.past HBel.out)).mono ?_; rintro e w3 ⟨rfl, hB3⟩; have HB3 := Lib.hid (HBel.out.trans (hB3.mono HBel.out.size)); have HBD3 := Lib.hid (HBd.out.past hB3); clear hB3)
       | (go_at_call 29; refine (bld_write _ _ _ _ _ HBD3.out (by omega)).mono ?_; rintro e w5 ⟨rfl, hb5, hB5⟩; have HB5 := Lib.hid hb5; have HB6 := Lib.hid (HB3.out.trans hB5); clear hb5 hB5))
      go_roundw
      case measure => simpa [intOf] using HM1.out
      case rel => exact ⟨NX, A', c', ws', _, K', by go_num, rfl, hlc, HNW.out, HBI.out, HR'.out, HE'.out, by rw [ByteArray.size_append]; omega, HB5.out, HB6.out⟩
     ·-- op 3
      obtain ⟨K', hr', hsz', hac', hly'⟩ := step_line HD.out HR.out hlt hND (.inr (.inl rfl))
      have hr2 := HE.out
      rw [hly'] at hr2
      have HR' := Lib.hid hr'; have HE' := Lib.hid hr2
      have HM1 : Hid (leftOf l (nextAt l q) < leftOf l q) := Lib.hid (by rw [leftOf_eq HR.out, leftOf_eq hr']; exact hsz')
      clear hr' hly' hr2 hsz'
      have HPC := Lib.hid (fun w' (hp : IsPlan w' gp A c l) (hl : Nds w' w'.heap.size A l) => piece_line HD.out w' hp hl hlt hND (.inr (.inl rfl)))
      generalize nextAt l q = NX at *
      generalize (⟨#[10]⟩ ++ blanksB (deepAt l q).toNat : ByteArray) = BL at *
      clear hND
      go_wp2_with (first
       | (go_at_call 27; refine (HPC.out _ (HPL.out.past HBel.out) (HN2.out.past HBel.out)).mono ?_; rintro e w3 ⟨rfl, hB3⟩; have HB3 := Lib.hid (HBel.out.trans (hB3.mono HBel.out.size)); have HBD3 := Lib.hid (HBd.out.past hB3); clear hB3)
       | (go_at_call 29; refine (bld_write _ _ _ _ _ HBD3.out (by omega)).mono ?_; rintro e w5 ⟨rfl, hb5, hB5⟩; have HB5 := Lib.hid hb5; have HB6 := Lib.hid (HB3.out.trans hB5); clear hb5 hB5))
      go_roundw
      case measure => simpa [intOf] using HM1.out
      case rel => exact ⟨NX, A', c', ws', _, K', by go_num, rfl, hlc, HNW.out, HBI.out, HR'.out, HE'.out, by rw [ByteArray.size_append]; omega, HB5.out, HB6.out⟩
     ·-- op 4
      obtain ⟨K', hr', hsz', hac', hly'⟩ := step_line HD.out HR.out hlt hND (.inr (.inr rfl))
      have hr2 := HE.out
      rw [hly'] at hr2
      have HR' := Lib.hid hr'; have HE' := Lib.hid hr2
      have HM1 : Hid (leftOf l (nextAt l q) < leftOf l q) := Lib.hid (by rw [leftOf_eq HR.out, leftOf_eq hr']; exact hsz')
      clear hr' hly' hr2 hsz'
      have HPC := Lib.hid (fun w' (hp : IsPlan w' gp A c l) (hl : Nds w' w'.heap.size A l) => piece_line HD.out w' hp hl hlt hND (.inr (.inr rfl)))
      generalize nextAt l q = NX at *
      generalize (⟨#[10]⟩ ++ blanksB (deepAt l q).toNat : ByteArray) = BL at *
      clear hND
      go_wp2_with (first
       | (go_at_call 27; refine (HPC.out _ (HPL.out.past HBel.out) (HN2.out.past HBel.out)).mono ?_; rintro e w3 ⟨rfl, hB3⟩; have HB3 := Lib.hid (HBel.out.trans (hB3.mono HBel.out.size)); have HBD3 := Lib.hid (HBd.out.past hB3); clear hB3)
       | (go_at_call 29; refine (bld_write _ _ _ _ _ HBD3.out (by omega)).mono ?_; rintro e w5 ⟨rfl, hb5, hB5⟩; have HB5 := Lib.hid hb5; have HB6 := Lib.hid (HB3.out.trans hB5); clear hb5 hB5))
      go_roundw
      case measure => simpa [intOf] using HM1.out
      case rel => exact ⟨NX, A', c', ws', _, K', by go_num, rfl, hlc, HNW.out, HBI.out, HR'.out, HE'.out, by rw [ByteArray.size_append]; omega, HB5.out, HB6.out⟩
     ·-- op 5
      obtain ⟨K', hr', hsz', hac', hly'⟩ := step_zero HD.out HR.out hlt hND
      have hr2 := HE.out
      rw [hly'] at hr2
      have HR' := Lib.hid hr'; have HE' := Lib.hid hr2
      have HM1 : Hid (leftOf l (nextAt l q) < leftOf l q) := Lib.hid (by rw [leftOf_eq HR.out, leftOf_eq hr']; exact hsz')
      clear hr' hly' hr2 hsz'
      have HPC := Lib.hid (fun w' (hp : IsPlan w' gp A c l) (hl : Nds w' w'.heap.size A l) => piece_zero HD.out w' hp hl hlt hND)
      generalize nextAt l q = NX at *
      clear hND
      go_wp2_with (first
       | (go_at_call 27; refine (HPC.out _ (HPL.out.past HBel.out) (HN2.out.past HBel.out)).mono ?_; rintro e w3 ⟨rfl, hB3⟩; have HB3 := Lib.hid (HBel.out.trans (hB3.mono HBel.out.size)); have HBD3 := Lib.hid (HBd.out.past hB3); clear hB3)
       | (go_at_call 29; refine (bld_write _ _ _ _ _ HBD3.out (by omega)).mono ?_; rintro e w5 ⟨rfl, hb5, hB5⟩; have HB5 := Lib.hid hb5; have HB6 := Lib.hid (HB3.out.trans hB5); clear hb5 hB5))
      go_roundw
      case measure => simpa [intOf] using HM1.out
      case rel => exact ⟨NX, A', c', ws', _, K', by go_num, rfl, hlc, HNW.out, HBI.out, HR'.out, HE'.out, by rw [ByteArray.size_append]; omega, HB5.out, HB6.out⟩
     ·-- op 6
      obtain ⟨K', hr', hsz', hac', hly'⟩ := step_both HD.out HR.out hlt hND
      have hr2 := HE.out
      rw [hly'] at hr2
      have HR' := Lib.hid hr'; have HE' := Lib.hid hr2
      have HM1 : Hid (leftOf l (q + 1) < leftOf l q) := Lib.hid (by rw [leftOf_eq HR.out, leftOf_eq hr']; exact hsz')
      clear hr' hly' hr2 hsz'
      have HPC := Lib.hid (fun w' (hp : IsPlan w' gp A c l) (hl : Nds w' w'.heap.size A l) => piece_part HD.out w' hp hl hlt hND (.inl rfl))
      clear hND
      go_wp2_with (first
       | (go_at_call 27; refine (HPC.out _ (HPL.out.past HBel.out) (HN2.out.past HBel.out)).mono ?_; rintro e w3 ⟨rfl, hB3⟩; have HB3 := Lib.hid (HBel.out.trans (hB3.mono HBel.out.size)); have HBD3 := Lib.hid (HBd.out.past hB3); clear hB3)
       | (go_at_call 29; refine (bld_write _ _ _ _ _ HBD3.out (by omega)).mono ?_; rintro e w5 ⟨rfl, hb5, hB5⟩; have HB5 := Lib.hid hb5; have HB6 := Lib.hid (HB3.out.trans hB5); clear hb5 hB5))
      go_roundw
      case measure => simpa [intOf] using HM1.out
      case rel => exact ⟨q + 1, A', c', ws', _, K', by go_num, rfl, hlc, HNW.out, HBI.out, HR'.out, HE'.out, by rw [ByteArray.size_append]; omega, HB5.out, HB6.out⟩
     ·-- op 7
      obtain ⟨K', hr', hsz', hac', hly'⟩ := step_deep HD.out HR.out hlt hND
      have hr2 := HE.out
      rw [hly'] at hr2
      have HR' := Lib.hid hr'; have HE' := Lib.hid hr2
      have HM1 : Hid (leftOf l (q + 1) < leftOf l q) := Lib.hid (by rw [leftOf_eq HR.out, leftOf_eq hr']; exact hsz')
      clear hr' hly' hr2 hsz'
      have HPC := Lib.hid (fun w' (hp : IsPlan w' gp A c l) (hl : Nds w' w'.heap.size A l) => piece_part HD.out w' hp hl hlt hND (.inr rfl))
      clear hND
      go_wp2_with (first
       | (go_at_call 27; refine (HPC.out _ (HPL.out.past HBel.out) (HN2.out.past HBel.out)).mono ?_; rintro e w3 ⟨rfl, hB3⟩; have HB3 := Lib.hid (HBel.out.trans (hB3.mono HBel.out.size)); have HBD3 := Lib.hid (HBd.out.past hB3); clear hB3)
       | (go_at_call 29; refine (bld_write _ _ _ _ _ HBD3.out (by omega)).mono ?_; rintro e w5 ⟨rfl, hb5, hB5⟩; have HB5 := Lib.hid hb5; have HB6 := Lib.hid (HB3.out.trans hB5); clear hb5 hB5))
      go_roundw
      case measure => simpa [intOf] using HM1.out
      case rel => exact ⟨q + 1, A', c', ws', _, K', by go_num, rfl, hlc, HNW.out, HBI.out, HR'.out, HE'.out, by rw [ByteArray.size_append]; omega, HB5.out, HB6.out⟩
     ·-- op 8
      have HPC := Lib.hid (fun w' (hp : IsPlan w' gp A c l) (hl : Nds w' w'.heap.size A l) => piece_choice HD.out w' hp hl hlt hND (.inl rfl))
      cases ws' with
      | nil =>
       have hno := pick_none HD.out HR.out hlt hND (.inl rfl) acc
       have hres := HE.out
       rw [hno] at hres
       have HRES := Lib.hid hres
       clear hno hres hND
       go_wp2_with (go_at_call 27; refine (HPC.out _ (HPL.out.past HBel.out) (HN2.out.past HBel.out)).mono ?_; rintro e w3 ⟨rfl, hB3⟩; have HB3 := Lib.hid (HBel.out.trans (hB3.mono HBel.out.size)); have HBD3 := Lib.hid (HBd.out.past hB3); clear hB3)
       go_ret2
       exact ⟨by rw [← HRES.out]; rfl, HB12.out.trans (HB3.out.mono HB12.out.size)⟩
      | cons v r =>
       obtain ⟨h01, hbr⟩ := bits_tail HBI.out
       have HBr := Lib.hid hbr
       have hln : (v :: r).length = r.length + 1 := rfl
       rw [hln] at hlc hnw63 ⊢
       obtain ⟨b2, off2, rfl, hb2, hcw⟩ := HNW.out.1.2 (by simp)
       have x0 : w2.cell? ⟨b2, off2, none⟩ = some (.int .i64 v) := hcw 0 _ rfl
       clear hcw hbr hln
       rcases h01 with rfl | rfl
       ·have HCH := Lib.hid (fun w' (hp : IsPlan w' gp A c l) (hl : Nds w' w'.heap.size A l) => choose_flat HD.out w' hp hl hlt hND)
        cases hfl : (docAt l (q + 1)).flat with
        | none =>
         have hbad := pick_bad HD.out HR.out hlt hND hfl r acc
         have hres := HE.out
         rw [hbad] at hres
         have HRES := Lib.hid hres
         have hla : lineAt l (q + 1) = (.empty, false) := by rw [lineAt, hfl]; rfl
         rw [hla] at HCH
         clear hbad hres hND hfl hla
         go_wp2_with (first
          | (go_at_call 27; refine (HPC.out _ (HPL.out.past HBel.out) (HN2.out.past HBel.out)).mono ?_; rintro e w3 ⟨rfl, hB3⟩; have HB3 := Lib.hid (HBel.out.trans (hB3.mono HBel.out.size)); have HBD3 := Lib.hid (HBd.out.past hB3); clear hB3; have y0 := (HB3.out.cell (p := ⟨b2, off2, none⟩) hb2).trans x0)
          | (go_at_call 28; refine (HCH.out _ (HPL.out.past HB3.out) (HN2.out.past HB3.out)).mono ?_; rintro e w4 ⟨rfl, hB4⟩; have HB4 := Lib.hid (HB3.out.trans (hB4.mono HB3.out.size)); have HBD4 := Lib.hid (HBD3.out.past hB4); clear hB4))
         go_ret2
         exact ⟨by rw [← HRES.out]; rfl, HB12.out.trans (HB4.out.mono HB12.out.size)⟩
        | some s =>
         have hla : lineAt l (q + 1) = (s, true) := by rw [lineAt, hfl]; rfl
         rw [hla] at HCH
         obtain ⟨K', hr', hsz', hac', hly'⟩ := pick_flat HD.out HR.out hlt hND hfl
         have hr2 := HE.out
         rw [hly'] at hr2
         clear hfl hla
         have HR' := Lib.hid hr'; have HE' := Lib.hid hr2
         have HML : Hid (leftOf l (nextAt l q) < leftOf l q) := Lib.hid (by rw [leftOf_eq HR.out, leftOf_eq hr']; exact hsz')
         clear hr' hly' hr2 hsz'
         generalize nextAt l q = NX at *
         clear hND
         have k7 : (1 : Int) ≤ (r.length : Int) + 1 := by omega
         go_wp2_with (first
          | (go_at_call 27; refine (HPC.out _ (HPL.out.past HBel.out) (HN2.out.past HBel.out)).mono ?_; rintro e w3 ⟨rfl, hB3⟩; have HB3 := Lib.hid (HBel.out.trans (hB3.mono HBel.out.size)); have HBD3 := Lib.hid (HBd.out.past hB3); clear hB3; have y0 := (HB3.out.cell (p := ⟨b2, off2, none⟩) hb2).trans x0)
          | (go_at_call 28; refine (HCH.out _ (HPL.out.past HB3.out) (HN2.out.past HB3.out)).mono ?_; rintro e w4 ⟨rfl, hB4⟩; have HB4 := Lib.hid (HB3.out.trans (hB4.mono HB3.out.size)); have HBD4 := Lib.hid (HBD3.out.past hB4); clear hB4))
         go_quiet (fail)
         have HBQ := Lib.hid (HBD4.out.past (below_drewN (Below.refl _ _) nq))
         have HBR := Lib.hid (below_drewN HB4.out nq)
         clear k7
         go_wp2_with (go_at_call 29; refine (bld_write _ _ _ _ _ HBQ.out (by omega)).mono ?_; rintro e w5 ⟨rfl, hb5, hB5⟩; have HB5 := Lib.hid hb5; have HB6 := Lib.hid (HBR.out.trans hB5); clear hb5 hB5)
         go_roundw
         case measure => simpa [intOf] using HML.out
         case rel => exact ⟨NX, _, c' - 1, r, _, K', rfl, rfl, by omega, HNW.out.tail (by simp only [List.length_cons]; omega), HBr.out, HR'.out, HE'.out, by rw [ByteArray.size_append]; omega, HB5.out, HB6.out⟩
       ·have HCH := Lib.hid (fun w' (hp : IsPlan w' gp A c l) (hl : Nds w' w'.heap.size A l) => choose_lines HD.out w' hp hl hlt hND)
        obtain ⟨K', hr', hsz', hac', hly'⟩ := pick_lines HD.out HR.out hlt hND
        have hr2 := HE.out
        rw [hly'] at hr2
        have HR' := Lib.hid hr'; have HE' := Lib.hid hr2
        have HML : Hid (leftOf l (q + 1) < leftOf l q) := Lib.hid (by rw [leftOf_eq HR.out, leftOf_eq hr']; exact hsz')
        clear hr' hly' hr2 hsz'
        clear hND
        have k7 : (1 : Int) ≤ (r.length : Int) + 1 := by omega
        go_wp2_with (first
         | (go_at_call 27; refine (HPC.out _ (HPL.out.past HBel.out) (HN2.out.past HBel.out)).mono ?_; rintro e w3 ⟨rfl, hB3⟩; have HB3 := Lib.hid (HBel.out.trans (hB3.mono HBel.out.size)); have HBD3 := Lib.hid (HBd.out.past hB3); clear hB3; have y0 := (HB3.out.cell (p := ⟨b2, off2, none⟩) hb2).trans x0)
         | (go_at_call 28; refine (HCH.out _ (HPL.out.past HB3.out) (HN2.out.past HB3.out)).mono ?_; rintro e w4 ⟨rfl, hB4⟩; have HB4 := Lib.hid (HB3.out.trans (hB4.mono HB3.out.size)); have HBD4 := Lib.hid (HBD3.out.past hB4); clear hB4))
        go_quiet (fail)
        have HBQ := Lib.hid (HBD4.out.past (below_drewN (Below.refl _ _) nq))
        have HBR := Lib.hid (below_drewN HB4.out nq)
        clear k7
        go_wp2_with (go_at_call 29; refine (bld_write _ _ _ _ _ HBQ.out (by omega)).mono ?_; rintro e w5 ⟨rfl, hb5, hB5⟩; have HB5 := Lib.hid hb5; have HB6 := Lib.hid (HBR.out.trans hB5); clear hb5 hB5)
        go_roundw
        case measure => simpa [intOf] using HML.out
        case rel => exact ⟨q + 1, _, c' - 1, r, _, K', by go_num, rfl, by omega, HNW.out.tail (by simp only [List.length_cons]; omega), HBr.out, HR'.out, HE'.out, by rw [ByteArray.size_append]; omega, HB5.out, HB6.out⟩
     ·-- op 9
      have HPC := Lib.hid (fun w' (hp : IsPlan w' gp A c l) (hl : Nds w' w'.heap.size A l) => piece_choice HD.out w' hp hl hlt hND (.inr rfl))
      cases ws' with
      | nil =>
       have hno := pick_none HD.out HR.out hlt hND (.inr rfl) acc
       have hres := HE.out
       rw [hno] at hres
       have HRES := Lib.hid hres
       clear hno hres hND
       go_wp2_with (go_at_call 27; refine (HPC.out _ (HPL.out.past HBel.out) (HN2.out.past HBel.out)).mono ?_; rintro e w3 ⟨rfl, hB3⟩; have HB3 := Lib.hid (HBel.out.trans (hB3.mono HBel.out.size)); have HBD3 := Lib.hid (HBd.out.past hB3); clear hB3)
       go_ret2
       exact ⟨by rw [← HRES.out]; rfl, HB12.out.trans (HB3.out.mono HB12.out.size)⟩
      | cons v r =>
       obtain ⟨h01, hbr⟩ := bits_tail HBI.out
       have HBr := Lib.hid hbr
       have hln : (v :: r).length = r.length + 1 := rfl
       rw [hln] at hlc hnw63 ⊢
       obtain ⟨b2, off2, rfl, hb2, hcw⟩ := HNW.out.1.2 (by simp)
       have x0 : w2.cell? ⟨b2, off2, none⟩ = some (.int .i64 v) := hcw 0 _ rfl
       clear hcw hbr hln
       have HCH := Lib.hid (fun w' (hp : IsPlan w' gp A c l) (hl : Nds w' w'.heap.size A l) => choose_either HD.out w' v h01 hp hl hlt hND)
       obtain ⟨K', hr', hsz', hac', hly'⟩ := pick_either HD.out HR.out hlt hND h01
       have hr2 := HE.out
       rw [hly'] at hr2
       have HR' := Lib.hid hr'; have HE' := Lib.hid hr2
       have HML : Hid (leftOf l (if v = 0 then q + 1 else endAt l (q + 1)) < leftOf l q) := Lib.hid (by rw [leftOf_eq HR.out, leftOf_eq hr']; exact hsz')
       clear hr' hly' hr2 hsz'
       generalize (if v = 0 then q + 1 else endAt l (q + 1)) = NX at *
       clear hND h01
       have k7 : (1 : Int) ≤ (r.length : Int) + 1 := by omega
       go_wp2_with (first
        | (go_at_call 27; refine (HPC.out _ (HPL.out.past HBel.out) (HN2.out.past HBel.out)).mono ?_; rintro e w3 ⟨rfl, hB3⟩; have HB3 := Lib.hid (HBel.out.trans (hB3.mono HBel.out.size)); have HBD3 := Lib.hid (HBd.out.past hB3); clear hB3; have y0 := (HB3.out.cell (p := ⟨b2, off2, none⟩) hb2).trans x0)
        | (go_at_call 28; refine (HCH.out _ (HPL.out.past HB3.out) (HN2.out.past HB3.out)).mono ?_; rintro e w4 ⟨rfl, hB4⟩; have HB4 := Lib.hid (HB3.out.trans (hB4.mono HB3.out.size)); have HBD4 := Lib.hid (HBD3.out.past hB4); clear hB4))
       go_quiet (fail)
       have HBQ := Lib.hid (HBD4.out.past (below_drewN (Below.refl _ _) nq))
       have HBR := Lib.hid (below_drewN HB4.out nq)
       clear k7
       go_wp2_with (go_at_call 29; refine (bld_write _ _ _ _ _ HBQ.out (by omega)).mono ?_; rintro e w5 ⟨rfl, hb5, hB5⟩; have HB5 := Lib.hid hb5; have HB6 := Lib.hid (HBR.out.trans hB5); clear hb5 hB5)
       go_roundw
       case measure => simpa [intOf] using HML.out
       case rel => exact ⟨NX, _, c' - 1, r, _, K', rfl, rfl, by omega, HNW.out.tail (by simp only [List.length_cons]; omega), HBr.out, HR'.out, HE'.out, by rw [ByteArray.size_append]; omega, HB5.out, HB6.out⟩
    ·obtain ⟨rfl, hql⟩ := HR.out.ge (by omega)
     have hres := HE.out
     simp only [layK] at hres
     cases ws' with
     | nil =>
      have HRES := Lib.hid hres
      clear hres
      go_wp2_with (go_at_call 30; refine (bld_string _ _ _ _ HBd.out).mono ?_; rintro e w5 ⟨rfl, hB5⟩)
      go_ret2
      exact ⟨by rw [← HRES.out]; rfl, HB12.out.trans ((HBel.out.trans hB5).mono HB12.out.size)⟩
     | cons v r =>
      have HRES := Lib.hid hres
      clear hres
      go_wp2
      go_ret2
      exact ⟨by rw [← HRES.out]; rfl, HB12.out.trans (HBel.out.mono HB12.out.size)⟩
end Go.Proofs.YtddfdmopaeghnabGreatDoor
namespace Go.Proofs.YtddfdmopaeghnabGreatDoor
open Go.RowKit
theorem show_ok (hof : OfSaid) {l : List Nd} {x : D} {ws : List Int} {s : ByteArray} (h : Shown l x ws s) (A : Option Addr) (n c : Nat) (hn : l.length = n) (M : Option Addr) (m cm : Nat) (hm : ws.length = m) (hcm : m ≤ cm) (w : World) (hl : Nds w w.heap.size A l) (hM : NumsI w w.heap.size M ws) :
  Calls Tryz.prog 10 #[.slice A n c, .slice M m cm] w (Ret w (.tuple #[.string s, .nilIface])) :=
 (show_good hof h.doc A n c hn ws M m cm hm hcm w hl hM h.bits).mono fun _ _ ⟨he, hb⟩ => by
  have : showD x ws = .ok s := by unfold showD; rw [h.lay]
  rw [this] at he
  exact ⟨he, hb⟩
theorem show_no (hof : OfSaid) {l : List Nd} {ws : List Int} {q : Int} (h : showF l ws = .error q) (A : Option Addr) (n c : Nat) (hn : l.length = n) (M : Option Addr) (m cm : Nat) (hm : ws.length = m) (hcm : m ≤ cm) (w : World) (hl : Nds w w.heap.size A l) (hM : NumsI w w.heap.size M ws) :
  Calls Tryz.prog 10 #[.slice A n c, .slice M m cm] w (Ret w (.tuple #[.string .empty, .iface 56 (.int .i64 q)])) := by
 unfold showF at h
 by_cases he : checkF l = 0
 ·rw [if_neg (by simp [he])] at h
  by_cases hb : badBit ws = true
  ·rw [if_pos hb] at h
   cases h
   exact (show_bit l A n c hn ws M m cm hm w hl hM he hb).mono fun _ _ ⟨a, b⟩ => ⟨a, b⟩
  ·rw [if_neg hb] at h
   obtain ⟨x, hd⟩ := Doc.of_check he
   rw [hd.root] at h
   exact (show_good hof hd A n c hn ws M m cm hm hcm w hl hM (by simpa using hb)).mono fun _ _ ⟨a, b⟩ => by
    rw [h] at a
    exact ⟨a, b⟩
 ·rw [if_pos he] at h
  cases h
  exact (show_bad l A n c hn M m cm w hl he).mono fun _ _ ⟨a, b⟩ => ⟨a, b⟩
def ndD (n : Int) : Nd := ⟨7, .empty, n⟩
theorem Doc.dp {a : List Nd} {x : D} (ha : Doc a x) {n : Int} (h0 : 0 ≤ n) (h8 : n ≤ 8) (hl : a.length + 1 ≤ 400) : Doc (ndD n :: a) (.un (ndD n) x) :=
 ⟨⟨rfl, ha.ok⟩, by rw [D.enc, ha.enc], fun d hd => by
  rcases List.mem_cons.1 hd with rfl | hd
  ·simp [oneF, ndD]; omega
  ·exact ha.one _ hd, by simp; omega⟩
end Go.Proofs.YtddfdmopaeghnabGreatDoor
namespace Go.Proofs.YtddfdmopaeghnabGreatDoor
theorem kidK_few (po ko : Int) (b : Bool) (x : List (List UInt8)) : (kidK po ko b x).length ≤ x.length + 2 := by
 unfold kidK
 split
 ·simp
 ·omega
theorem kidsK_few {l : List Nd} {g : Nat → List (List UInt8)} : ∀ (m a z : Nat), KidsP l a m z → (∀ b, a ≤ b → b < l.length → (g b).length + 3 ≤ 8 * (tEnd l b - b)) → a ≤ z ∧ (kidsK g (tEnd l) a m).length + m ≤ 8 * (z - a) := by
 intro m
 induction m with
 | zero => intro a z h _; rw [KidsP] at h; subst h; simp [kidsK]
 | succ m ih =>
  intro a z h hg
  obtain ⟨h1, h2, h3⟩ := h
  have h4 := hg a (Nat.le_refl _) h1
  obtain ⟨h5, h6⟩ := ih _ _ h3 (fun b hb hb2 => hg b (by omega) hb2)
  refine ⟨by omega, ?_⟩
  rw [kidsK]
  split
  ·rename_i e; subst e; omega
  ·simp only [List.length_cons, List.length_append]
   omega
theorem tokT_few {l : List Nd} (hT : Tr l) : ∀ f i : Nat, l.length ≤ i + f → (hi : i < l.length) → l[i].op ≠ 9 → (tokT l f i).length + 3 ≤ 8 * (tEnd l i - i) := by
 intro f
 induction f with
 | zero => intro i h1 h2; omega
 | succ f ih =>
  intro i h1 h2 h9
  have hk := hT.kidsP h2
  have hb := (tEnd_bd h2).1
  have hm : (manyL l).getD i 0 = (manyF l[i].op l[i].n).toNat := manyL_at h2 rfl
  have hone := hT.one _ (List.getElem_mem h2)
  have hbd := manyF_bd hone
  have hop : 1 ≤ l[i].op ∧ l[i].op ≤ 9 := by
   by_cases hc : l[i].op < 1 ∨ 9 < l[i].op
   ·rw [treeOne, if_pos (by rcases hc with h | h; exact .inl h; exact .inr (.inl h))] at hone; cases hone
   ·omega
  rw [hm] at hk
  have ihk : ∀ b, i + 1 ≤ b → b < l.length → (tokT l f b).length + 3 ≤ 8 * (tEnd l b - b) := fun b hb hl => ih b (by omega) hl (by have := hT.low hl (by omega); omega)
  rw [tokT, getD_at h2]
  generalize l[i].op = op at *
  generalize l[i].n = n at *
  generalize l[i].text = t at *
  have hcs : op = 1 ∨ op = 2 ∨ op = 3 ∨ op = 4 ∨ op = 5 ∨ op = 6 ∨ op = 7 ∨ op = 8 := by omega
  rcases hcs with rfl | rfl | rfl | rfl | rfl | rfl | rfl | rfl
  ·simp; omega
  ·simp; omega
  ·rw [show manyF 3 n = n from rfl] at hk
   obtain ⟨g1, g2⟩ := kidsK_few _ _ _ hk ihk
   rw [if_neg (by decide), if_neg (by decide), if_pos rfl]
   simp only [List.length_cons, List.length_append, List.length_nil]; omega
  ·rw [show manyF 4 n = n from rfl] at hk
   obtain ⟨g1, g2⟩ := kidsK_few _ _ _ hk ihk
   rw [if_neg (by decide), if_neg (by decide), if_neg (by decide), if_pos rfl]
   simp only [List.length_cons, List.length_append, List.length_nil]; omega
  ·obtain ⟨a1, a2, b1, b2, b3⟩ : i + 1 < l.length ∧ i + 1 < tEnd l (i + 1) ∧ tEnd l (i + 1) < l.length ∧ tEnd l (i + 1) < tEnd l (tEnd l (i + 1)) ∧ tEnd l (tEnd l (i + 1)) = tEnd l i := ⟨hk.1, hk.2.1, hk.2.2.1, hk.2.2.2.1, hk.2.2.2.2⟩
   have q1 := ihk _ (Nat.le_refl _) a1
   have q2 := ihk _ (by omega) b1
   have q3 := kidK_few 5 (opAt l (i + 1)) false (tokT l f (i + 1))
   have q4 := kidK_few 5 (opAt l (tEnd l (i + 1))) true (tokT l f (tEnd l (i + 1)))
   rw [if_neg (by decide), if_neg (by decide), if_neg (by decide), if_neg (by decide), if_pos rfl]
   simp only [List.length_cons, List.length_append]; omega
  ·obtain ⟨a1, a2, b1, b2, b3⟩ : i + 1 < l.length ∧ i + 1 < tEnd l (i + 1) ∧ tEnd l (i + 1) < l.length ∧ tEnd l (i + 1) < tEnd l (tEnd l (i + 1)) ∧ tEnd l (tEnd l (i + 1)) = tEnd l i := ⟨hk.1, hk.2.1, hk.2.2.1, hk.2.2.2.1, hk.2.2.2.2⟩
   have q1 := ihk _ (Nat.le_refl _) a1
   have q2 := ihk _ (by omega) b1
   have q3 := kidK_few 6 (opAt l (i + 1)) false (tokT l f (i + 1))
   have q4 := kidK_few 6 (opAt l (tEnd l (i + 1))) true (tokT l f (tEnd l (i + 1)))
   rw [if_neg (by decide), if_neg (by decide), if_neg (by decide), if_neg (by decide), if_neg (by decide), if_pos rfl]
   simp only [List.length_cons, List.length_append]; omega
  ·obtain ⟨a1, a2, b3⟩ : i + 1 < l.length ∧ i + 1 < tEnd l (i + 1) ∧ tEnd l (i + 1) = tEnd l i := ⟨hk.1, hk.2.1, hk.2.2⟩
   have q1 := ihk _ (Nat.le_refl _) a1
   rw [if_neg (by decide), if_neg (by decide), if_neg (by decide), if_neg (by decide), if_neg (by decide), if_neg (by decide), if_pos rfl]
   simp only [List.length_cons, List.length_append, List.length_nil]; omega
  ·obtain ⟨a1, a2, b3⟩ : i + 1 < l.length ∧ i + 1 < tEnd l (i + 1) ∧ tEnd l (i + 1) = tEnd l i := ⟨hk.1, hk.2.1, hk.2.2⟩
   have q1 := ihk _ (Nat.le_refl _) a1
   rw [if_neg (by decide), if_neg (by decide), if_neg (by decide), if_neg (by decide), if_neg (by decide), if_neg (by decide), if_neg (by decide)]
   simp only [List.length_cons, List.length_append, List.length_nil]; omega
theorem way_small {l : List Nd} (ht : treeF l = 0) (h9 : opAt l 0 ≠ 9) {x : D} {u : List Int} {s : ByteArray} (h : Shown (docL l) x u s) : s.size ≤ 30000 := by
 have hT := Tr.of_check ht
 have h0 := hT.pos0
 have hoe : opAt l 0 = (l[0]'h0).op := by rw [opAt, getD_at h0]
 have h9' : (l[0]'h0).op ≠ 9 := by rw [← hoe]; exact h9
 obtain ⟨y, y1, y2, y3, _⟩ := docT_bz hT l.length 0 (by omega) h0 h9'
 obtain rfl := h.doc.same y1 y2
 have h1 := y3 _ _ _ _ (by omega) (by have := hT.len; show 0 + 2 * (l.length - 0) ≤ 80; omega) h.lay
 have h2 := tokT_few hT l.length 0 (by omega) h0 h9'
 have h3 := (tEnd_bd h0).2
 have h4 := hT.len
 omega
end Go.Proofs.YtddfdmopaeghnabGreatDoor
namespace Go.Proofs.YtddfdmopaeghnabGreatDoor
open Go.RowKit
theorem cst_le (W : Nat) (s : ByteArray) : (cst W 0 s.data.toList).1 ≤ s.size ∧ (cst W 0 s.data.toList).2 ≤ s.size := by
 have h1 := ovr_le W s.data.toList 0
 have h2 := lns_le s.data.toList
 have h3 : s.data.toList.length = s.size := by simp
 exact ⟨by simp only [cst]; omega, by simp only [cst]; omega⟩
theorem cst_line (W : Nat) (s : ByteArray) : cst W 0 (s ++ ⟨#[10]⟩ : ByteArray).data.toList = ((cst W 0 s.data.toList).1, (cst W 0 s.data.toList).2 + 1) := by
 rw [ByteArray.data_append, Array.toList_append, cst_app]
 simp [cAdd, cst, ovr, lns]
theorem cLess_line {a b : Nat × Nat} (h : cLess a b = false) : cLess (a.1, a.2 + 1) (b.1, b.2 + 1) = false := by
 rw [cLess_no] at h ⊢
 simp only
 omega
set_option maxRecDepth 100000 in
set_option maxHeartbeats 8000000 in
theorem topLeast_en (l : List Nd) (A : Option Addr) (c N : Nat) (M : Option Addr) (m cm : Nat) (w : World) (hm : MaxL w) (hp : PowT w) (hN0 : N ≤ 100) (u : ByteArray) (hu : u.size ≤ 30000) (HONE : Hid (∀ w', Below w.heap.size w w' → Calls Tryz.prog 6 #[.slice A l.length c, .int .i64 (N : Nat)] w' (Ret w' (.tuple #[.string (u ++ ⟨#[10]⟩), .nilIface])))) (d : List Nd) (HD : Hid (∀ w', Below w.heap.size w w' → Calls Tryz.prog 7 #[.slice A l.length c] w' (LdTo d w'))) (pa pb : Nat) (hpb : pb ≤ 1000000) (HBS : Hid (∀ A c w', Nds w' w'.heap.size A d → Below w.heap.size w w' → Calls Tryz.prog 8 #[.slice A d.length c, .int .i64 (N : Nat)] w' (fun e w'' => ∃ A2 n2 c2, e = .returned (.tuple #[.string u, .slice A2 n2 c2, .agg #[.int .i64 (pa : Nat), .int .i64 (pb : Nat)], .nilIface]) ∧ Below w'.heap.size w' w''))) (HCS : Hid (∀ w', Calls Tryz.prog 9 #[.string (u ++ ⟨#[10]⟩), .int .i64 (N : Nat)] w' (Ret w' (.tuple #[.agg #[.int .i64 (pa : Nat), .int .i64 ((pb : Int) + 1)], .nilIface])))) (q : Int) (HSW : Hid (∀ A c w', Nds w' w'.heap.size A d → Below w.heap.size w w' → Calls Tryz.prog 10 #[.slice A d.length c, .slice M m cm] w' (Ret w' (.tuple #[.string .empty, .iface 56 (.int .i64 q)])))) (hN : ¬ N < 100) :
  Calls Tryz.prog 3 #[.slice A l.length c, .int .i64 (N : Nat), .slice M m cm] w (Ret w (.bool true)) := by
 have HB : Hid (Below w.heap.size w w) := Lib.hid (Below.refl _ _)
 have HO := Lib.hid (fun (w' : World) (hB : Below w.heap.size w w') => topOne_any w' (hm.past hB) (hp.past hB))
 have e1 : decide (100 ≤ (N : Int)) = true := by simp; omega
 have e2 : IntKind.i64.wrap ((pb : Int) + 1) = (pb : Int) + 1 := IntWalk.i64_in _ (by omega)
 have e3 : IntKind.i64.wrap ((N : Int) + 1) = (N : Int) + 1 := IntWalk.i64_in _ (by omega)
 have hb1 : ((u ++ ⟨#[10]⟩ : ByteArray).toList != (u ++ ⟨#[10]⟩ : ByteArray).toList) = false := by simp
 clear hm hp hN
 go_enter Tryz.func3, Tryz.ntmps3
 go_wp2_with (first
  | (go_at_call 5; (fail_if_success have z := T0); refine (HO.out _ HB.out).mono ?_; rintro e u0 ⟨rfl, hB⟩; have HB := Lib.hid (HB.out.trans (hB.mono HB.out.size)); clear hB; have T0 := Lib.hid True.intro)
  | (go_at_call 6; (have z := T0; clear z); (fail_if_success have z := T1); refine (HONE.out _ HB.out).mono ?_; rintro e u1 ⟨rfl, hB⟩; have HB := Lib.hid (HB.out.trans (hB.mono HB.out.size)); clear hB; have T1 := Lib.hid True.intro)
  | (go_at_call 7; (have z := T1; clear z); (fail_if_success have z := T2); refine (HD.out _ HB.out).mono ?_; rintro e u2 ⟨A4, c4, rfl, hn, hB⟩; have HN := Lib.hid hn.1; have HB := Lib.hid (HB.out.trans (hB.mono HB.out.size)); clear hB hn; have T2 := Lib.hid True.intro)
  | (go_at_call 8; (have z := T2; clear z); (fail_if_success have z := T3); refine (HBS.out _ _ _ HN.out HB.out).mono ?_; rintro e u3 ⟨A5, n5, c5, rfl, hB⟩; have HN := Lib.hid (HN.out.past hB); have HB := Lib.hid (HB.out.trans (hB.mono HB.out.size)); clear hB; have T3 := Lib.hid True.intro)
  | (go_at_call 9; (have z := T3; clear z); (fail_if_success have z := T4); refine (HCS.out _).mono ?_; rintro e u4 ⟨rfl, hB⟩; have P : Hid (u4.heap[u3.heap.size]? = some (.cells #[.int .i64 (pa : Nat), .int .i64 (pb : Nat)] 33 (0, 0))) := Lib.hid (blk_below (heap_new rfl) hB); have a0 : ∀ o, (u4.alloc o).cell? ⟨u3.heap.size, 0, none⟩ = some (.int .i64 (pa : Nat)) := (fun o => by rw [blk_cell (j := 0) ((Below.heap_alloc _ _ _ (lt_of_heap P.out)).trans P.out)]; rfl); have a1 : ∀ o, (u4.alloc o).cell? ⟨u3.heap.size, 1, none⟩ = some (.int .i64 (pb : Nat)) := (fun o => by rw [blk_cell (j := 1) ((Below.heap_alloc _ _ _ (lt_of_heap P.out)).trans P.out)]; rfl); have HN := Lib.hid ((HN.out.past ((Below.refl _ _).alloc (Nat.le_refl _) _)).past hB); have HB := Lib.hid (Below.trans (HB.out.alloc HB.out.size _) (hB.mono (Nat.le_trans HB.out.size (by simp)))); clear hB; have T4 := Lib.hid True.intro)
  | (go_at_call 10; (have z := T4; clear z); (fail_if_success have z := T5); refine (HSW.out _ _ _ (HN.out.past ((Below.refl _ _).alloc (Nat.le_refl _) _)) (HB.out.alloc HB.out.size _)).mono ?_; rintro e u5 ⟨rfl, hB⟩; have K : Hid (u5.heap[u4.heap.size]? = some (.cells #[.int .i64 (pa : Nat), .int .i64 ((pb : Int) + 1)] 33 (0, 0))) := Lib.hid (blk_below (heap_new rfl) hB); have P := Lib.hid (blk_below ((Below.heap_alloc _ _ _ (lt_of_heap P.out)).trans P.out) hB); clear a0 a1; have HB := Lib.hid (Below.trans (HB.out.alloc HB.out.size _) (hB.mono (Nat.le_trans HB.out.size (by simp)))); clear hB HN; have T5 := Lib.hid True.intro))
 go_ret
 exact ⟨by first | rfl | (simp; done), by first | exact HB.out | exact HB.out.alloc HB.out.size _⟩
set_option maxRecDepth 100000 in
set_option maxHeartbeats 8000000 in
theorem topLeast_ew (l : List Nd) (A : Option Addr) (c N : Nat) (M : Option Addr) (m cm : Nat) (w : World) (hm : MaxL w) (hp : PowT w) (hN0 : N ≤ 100) (u : ByteArray) (hu : u.size ≤ 30000) (HONE : Hid (∀ w', Below w.heap.size w w' → Calls Tryz.prog 6 #[.slice A l.length c, .int .i64 (N : Nat)] w' (Ret w' (.tuple #[.string (u ++ ⟨#[10]⟩), .nilIface])))) (d : List Nd) (HD : Hid (∀ w', Below w.heap.size w w' → Calls Tryz.prog 7 #[.slice A l.length c] w' (LdTo d w'))) (pa pb : Nat) (hpb : pb ≤ 1000000) (HBS : Hid (∀ A c w', Nds w' w'.heap.size A d → Below w.heap.size w w' → Calls Tryz.prog 8 #[.slice A d.length c, .int .i64 (N : Nat)] w' (fun e w'' => ∃ A2 n2 c2, e = .returned (.tuple #[.string u, .slice A2 n2 c2, .agg #[.int .i64 (pa : Nat), .int .i64 (pb : Nat)], .nilIface]) ∧ Below w'.heap.size w' w''))) (HCS : Hid (∀ w', Calls Tryz.prog 9 #[.string (u ++ ⟨#[10]⟩), .int .i64 (N : Nat)] w' (Ret w' (.tuple #[.agg #[.int .i64 (pa : Nat), .int .i64 ((pb : Int) + 1)], .nilIface])))) (q : Int) (HSW : Hid (∀ A c w', Nds w' w'.heap.size A d → Below w.heap.size w w' → Calls Tryz.prog 10 #[.slice A d.length c, .slice M m cm] w' (Ret w' (.tuple #[.string .empty, .iface 56 (.int .i64 q)])))) (hN : N < 100) (S1 : ByteArray) (qa qb : Nat) (HONE1 : Hid (∀ w', Below w.heap.size w w' → Calls Tryz.prog 6 #[.slice A l.length c, .int .i64 ((N : Int) + 1)] w' (Ret w' (.tuple #[.string S1, .nilIface])))) (HCS1 : Hid (∀ w', Calls Tryz.prog 9 #[.string S1, .int .i64 ((N : Int) + 1)] w' (Ret w' (.tuple #[.agg #[.int .i64 (qa : Nat), .int .i64 (qb : Nat)], .nilIface])))) (HLK : Hid (∀ w', Calls Tryz.prog 11 #[.agg #[.int .i64 (pa : Nat), .int .i64 ((pb : Int) + 1)], .agg #[.int .i64 (qa : Nat), .int .i64 (qb : Nat)]] w' (Ret w' (.tuple #[.bool false, .nilIface])))) :
  Calls Tryz.prog 3 #[.slice A l.length c, .int .i64 (N : Nat), .slice M m cm] w (Ret w (.bool true)) := by
 have HB : Hid (Below w.heap.size w w) := Lib.hid (Below.refl _ _)
 have HO := Lib.hid (fun (w' : World) (hB : Below w.heap.size w w') => topOne_any w' (hm.past hB) (hp.past hB))
 have e1 : decide (100 ≤ (N : Int)) = false := by simp; omega
 have e2 : IntKind.i64.wrap ((pb : Int) + 1) = (pb : Int) + 1 := IntWalk.i64_in _ (by omega)
 have e3 : IntKind.i64.wrap ((N : Int) + 1) = (N : Int) + 1 := IntWalk.i64_in _ (by omega)
 have hb1 : ((u ++ ⟨#[10]⟩ : ByteArray).toList != (u ++ ⟨#[10]⟩ : ByteArray).toList) = false := by simp
 clear hm hp hN
 go_enter Tryz.func3, Tryz.ntmps3
 go_wp2_with (first
  | (go_at_call 5; (fail_if_success have z := T0); refine (HO.out _ HB.out).mono ?_; rintro e u0 ⟨rfl, hB⟩; have HB := Lib.hid (HB.out.trans (hB.mono HB.out.size)); clear hB; have T0 := Lib.hid True.intro)
  | (go_at_call 6; (have z := T0; clear z); (fail_if_success have z := T1); refine (HONE.out _ HB.out).mono ?_; rintro e u1 ⟨rfl, hB⟩; have HB := Lib.hid (HB.out.trans (hB.mono HB.out.size)); clear hB; have T1 := Lib.hid True.intro)
  | (go_at_call 7; (have z := T1; clear z); (fail_if_success have z := T2); refine (HD.out _ HB.out).mono ?_; rintro e u2 ⟨A4, c4, rfl, hn, hB⟩; have HN := Lib.hid hn.1; have HB := Lib.hid (HB.out.trans (hB.mono HB.out.size)); clear hB hn; have T2 := Lib.hid True.intro)
  | (go_at_call 8; (have z := T2; clear z); (fail_if_success have z := T3); refine (HBS.out _ _ _ HN.out HB.out).mono ?_; rintro e u3 ⟨A5, n5, c5, rfl, hB⟩; have HN := Lib.hid (HN.out.past hB); have HB := Lib.hid (HB.out.trans (hB.mono HB.out.size)); clear hB; have T3 := Lib.hid True.intro)
  | (go_at_call 9; (have z := T3; clear z); (fail_if_success have z := T4); refine (HCS.out _).mono ?_; rintro e u4 ⟨rfl, hB⟩; have P : Hid (u4.heap[u3.heap.size]? = some (.cells #[.int .i64 (pa : Nat), .int .i64 (pb : Nat)] 33 (0, 0))) := Lib.hid (blk_below (heap_new rfl) hB); have a0 : ∀ o, (u4.alloc o).cell? ⟨u3.heap.size, 0, none⟩ = some (.int .i64 (pa : Nat)) := (fun o => by rw [blk_cell (j := 0) ((Below.heap_alloc _ _ _ (lt_of_heap P.out)).trans P.out)]; rfl); have a1 : ∀ o, (u4.alloc o).cell? ⟨u3.heap.size, 1, none⟩ = some (.int .i64 (pb : Nat)) := (fun o => by rw [blk_cell (j := 1) ((Below.heap_alloc _ _ _ (lt_of_heap P.out)).trans P.out)]; rfl); have HN := Lib.hid ((HN.out.past ((Below.refl _ _).alloc (Nat.le_refl _) _)).past hB); have HB := Lib.hid (Below.trans (HB.out.alloc HB.out.size _) (hB.mono (Nat.le_trans HB.out.size (by simp)))); clear hB; have T4 := Lib.hid True.intro)
  | (go_at_call 10; (have z := T4; clear z); (fail_if_success have z := T5); refine (HSW.out _ _ _ (HN.out.past ((Below.refl _ _).alloc (Nat.le_refl _) _)) (HB.out.alloc HB.out.size _)).mono ?_; rintro e u5 ⟨rfl, hB⟩; have K : Hid (u5.heap[u4.heap.size]? = some (.cells #[.int .i64 (pa : Nat), .int .i64 ((pb : Int) + 1)] 33 (0, 0))) := Lib.hid (blk_below (heap_new rfl) hB); have P := Lib.hid (blk_below ((Below.heap_alloc _ _ _ (lt_of_heap P.out)).trans P.out) hB); clear a0 a1; have HB := Lib.hid (Below.trans (HB.out.alloc HB.out.size _) (hB.mono (Nat.le_trans HB.out.size (by simp)))); clear hB HN; have T5 := Lib.hid True.intro)
  | (go_at_call 6; (have z := T5; clear z); (fail_if_success have z := T6); refine (HONE1.out _ HB.out).mono ?_; rintro e u6 ⟨rfl, hB⟩; have K := Lib.hid (blk_below K.out hB); have HB := Lib.hid (HB.out.trans (hB.mono HB.out.size)); clear hB; have T6 := Lib.hid True.intro)
  | (go_at_call 9; (have z := T6; clear z); (fail_if_success have z := T7); refine (HCS1.out _).mono ?_; rintro e u7 ⟨rfl, hB⟩; have K := Lib.hid (blk_below K.out hB); have k0 : ∀ o, (u7.alloc o).cell? ⟨u4.heap.size, 0, none⟩ = some (.int .i64 (pa : Nat)) := (fun o => by rw [blk_cell (j := 0) ((Below.heap_alloc _ _ _ (lt_of_heap K.out)).trans K.out)]; rfl); have k1 : ∀ o, (u7.alloc o).cell? ⟨u4.heap.size, 1, none⟩ = some (.int .i64 ((pb : Int) + 1)) := (fun o => by rw [blk_cell (j := 1) ((Below.heap_alloc _ _ _ (lt_of_heap K.out)).trans K.out)]; rfl); have HB := Lib.hid (HB.out.trans (hB.mono HB.out.size)); clear hB; have T7 := Lib.hid True.intro)
  | (go_at_call 11; (have z := T7; clear z); (fail_if_success have z := T8); refine (HLK.out _).mono ?_; rintro e u8 ⟨rfl, hB⟩; clear k0 k1; have HB := Lib.hid (Below.trans (HB.out.alloc HB.out.size _) (hB.mono (Nat.le_trans HB.out.size (by simp)))); clear hB; have T8 := Lib.hid True.intro))
 go_ret
 exact ⟨by first | rfl | (simp; done), by first | exact HB.out | exact HB.out.alloc HB.out.size _⟩
set_option maxRecDepth 100000 in
set_option maxHeartbeats 8000000 in
theorem topLeast_sn (l : List Nd) (A : Option Addr) (c N : Nat) (M : Option Addr) (m cm : Nat) (w : World) (hm : MaxL w) (hp : PowT w) (hN0 : N ≤ 100) (u : ByteArray) (hu : u.size ≤ 30000) (HONE : Hid (∀ w', Below w.heap.size w w' → Calls Tryz.prog 6 #[.slice A l.length c, .int .i64 (N : Nat)] w' (Ret w' (.tuple #[.string (u ++ ⟨#[10]⟩), .nilIface])))) (d : List Nd) (HD : Hid (∀ w', Below w.heap.size w w' → Calls Tryz.prog 7 #[.slice A l.length c] w' (LdTo d w'))) (pa pb : Nat) (hpb : pb ≤ 1000000) (HBS : Hid (∀ A c w', Nds w' w'.heap.size A d → Below w.heap.size w w' → Calls Tryz.prog 8 #[.slice A d.length c, .int .i64 (N : Nat)] w' (fun e w'' => ∃ A2 n2 c2, e = .returned (.tuple #[.string u, .slice A2 n2 c2, .agg #[.int .i64 (pa : Nat), .int .i64 (pb : Nat)], .nilIface]) ∧ Below w'.heap.size w' w''))) (HCS : Hid (∀ w', Calls Tryz.prog 9 #[.string (u ++ ⟨#[10]⟩), .int .i64 (N : Nat)] w' (Ret w' (.tuple #[.agg #[.int .i64 (pa : Nat), .int .i64 ((pb : Int) + 1)], .nilIface])))) (v : ByteArray) (va vb : Nat) (HSW : Hid (∀ A c w', Nds w' w'.heap.size A d → Below w.heap.size w w' → Calls Tryz.prog 10 #[.slice A d.length c, .slice M m cm] w' (Ret w' (.tuple #[.string v, .nilIface])))) (HCV : Hid (∀ w', Calls Tryz.prog 9 #[.string v, .int .i64 (N : Nat)] w' (Ret w' (.tuple #[.agg #[.int .i64 (va : Nat), .int .i64 (vb : Nat)], .nilIface])))) (HLV : Hid (∀ w', Calls Tryz.prog 11 #[.agg #[.int .i64 (va : Nat), .int .i64 (vb : Nat)], .agg #[.int .i64 (pa : Nat), .int .i64 (pb : Nat)]] w' (Ret w' (.tuple #[.bool false, .nilIface])))) (hN : ¬ N < 100) :
  Calls Tryz.prog 3 #[.slice A l.length c, .int .i64 (N : Nat), .slice M m cm] w (Ret w (.bool true)) := by
 have HB : Hid (Below w.heap.size w w) := Lib.hid (Below.refl _ _)
 have HO := Lib.hid (fun (w' : World) (hB : Below w.heap.size w w') => topOne_any w' (hm.past hB) (hp.past hB))
 have e1 : decide (100 ≤ (N : Int)) = true := by simp; omega
 have e2 : IntKind.i64.wrap ((pb : Int) + 1) = (pb : Int) + 1 := IntWalk.i64_in _ (by omega)
 have e3 : IntKind.i64.wrap ((N : Int) + 1) = (N : Int) + 1 := IntWalk.i64_in _ (by omega)
 have hb1 : ((u ++ ⟨#[10]⟩ : ByteArray).toList != (u ++ ⟨#[10]⟩ : ByteArray).toList) = false := by simp
 clear hm hp hN
 go_enter Tryz.func3, Tryz.ntmps3
 go_wp2_with (first
  | (go_at_call 5; (fail_if_success have z := T0); refine (HO.out _ HB.out).mono ?_; rintro e u0 ⟨rfl, hB⟩; have HB := Lib.hid (HB.out.trans (hB.mono HB.out.size)); clear hB; have T0 := Lib.hid True.intro)
  | (go_at_call 6; (have z := T0; clear z); (fail_if_success have z := T1); refine (HONE.out _ HB.out).mono ?_; rintro e u1 ⟨rfl, hB⟩; have HB := Lib.hid (HB.out.trans (hB.mono HB.out.size)); clear hB; have T1 := Lib.hid True.intro)
  | (go_at_call 7; (have z := T1; clear z); (fail_if_success have z := T2); refine (HD.out _ HB.out).mono ?_; rintro e u2 ⟨A4, c4, rfl, hn, hB⟩; have HN := Lib.hid hn.1; have HB := Lib.hid (HB.out.trans (hB.mono HB.out.size)); clear hB hn; have T2 := Lib.hid True.intro)
  | (go_at_call 8; (have z := T2; clear z); (fail_if_success have z := T3); refine (HBS.out _ _ _ HN.out HB.out).mono ?_; rintro e u3 ⟨A5, n5, c5, rfl, hB⟩; have HN := Lib.hid (HN.out.past hB); have HB := Lib.hid (HB.out.trans (hB.mono HB.out.size)); clear hB; have T3 := Lib.hid True.intro)
  | (go_at_call 9; (have z := T3; clear z); (fail_if_success have z := T4); refine (HCS.out _).mono ?_; rintro e u4 ⟨rfl, hB⟩; have P : Hid (u4.heap[u3.heap.size]? = some (.cells #[.int .i64 (pa : Nat), .int .i64 (pb : Nat)] 33 (0, 0))) := Lib.hid (blk_below (heap_new rfl) hB); have a0 : ∀ o, (u4.alloc o).cell? ⟨u3.heap.size, 0, none⟩ = some (.int .i64 (pa : Nat)) := (fun o => by rw [blk_cell (j := 0) ((Below.heap_alloc _ _ _ (lt_of_heap P.out)).trans P.out)]; rfl); have a1 : ∀ o, (u4.alloc o).cell? ⟨u3.heap.size, 1, none⟩ = some (.int .i64 (pb : Nat)) := (fun o => by rw [blk_cell (j := 1) ((Below.heap_alloc _ _ _ (lt_of_heap P.out)).trans P.out)]; rfl); have HN := Lib.hid ((HN.out.past ((Below.refl _ _).alloc (Nat.le_refl _) _)).past hB); have HB := Lib.hid (Below.trans (HB.out.alloc HB.out.size _) (hB.mono (Nat.le_trans HB.out.size (by simp)))); clear hB; have T4 := Lib.hid True.intro)
  | (go_at_call 10; (have z := T4; clear z); (fail_if_success have z := T5); refine (HSW.out _ _ _ (HN.out.past ((Below.refl _ _).alloc (Nat.le_refl _) _)) (HB.out.alloc HB.out.size _)).mono ?_; rintro e u5 ⟨rfl, hB⟩; have K : Hid (u5.heap[u4.heap.size]? = some (.cells #[.int .i64 (pa : Nat), .int .i64 ((pb : Int) + 1)] 33 (0, 0))) := Lib.hid (blk_below (heap_new rfl) hB); have P := Lib.hid (blk_below ((Below.heap_alloc _ _ _ (lt_of_heap P.out)).trans P.out) hB); clear a0 a1; have HB := Lib.hid (Below.trans (HB.out.alloc HB.out.size _) (hB.mono (Nat.le_trans HB.out.size (by simp)))); clear hB HN; have T5 := Lib.hid True.intro)
  | (go_at_call 9; (have z := T5; clear z); (fail_if_success have z := T6); refine (HCV.out _).mono ?_; rintro e u6 ⟨rfl, hB⟩; have K := Lib.hid (blk_below K.out hB); have P := Lib.hid (blk_below P.out hB); have a0 : ∀ o, (u6.alloc o).cell? ⟨u3.heap.size, 0, none⟩ = some (.int .i64 (pa : Nat)) := (fun o => by rw [blk_cell (j := 0) ((Below.heap_alloc _ _ _ (lt_of_heap P.out)).trans P.out)]; rfl); have a1 : ∀ o, (u6.alloc o).cell? ⟨u3.heap.size, 1, none⟩ = some (.int .i64 (pb : Nat)) := (fun o => by rw [blk_cell (j := 1) ((Below.heap_alloc _ _ _ (lt_of_heap P.out)).trans P.out)]; rfl); have HB := Lib.hid (HB.out.trans (hB.mono HB.out.size)); clear hB; have T6 := Lib.hid True.intro)
  | (go_at_call 11; (have z := T6; clear z); (fail_if_success have z := T7); refine (HLV.out _).mono ?_; rintro e u7 ⟨rfl, hB⟩; have K := Lib.hid (blk_below ((Below.heap_alloc _ _ _ (lt_of_heap K.out)).trans K.out) hB); clear a0 a1 P; have HB := Lib.hid (Below.trans (HB.out.alloc HB.out.size _) (hB.mono (Nat.le_trans HB.out.size (by simp)))); clear hB; have T7 := Lib.hid True.intro))
 go_ret
 exact ⟨by first | rfl | (simp; done), by first | exact HB.out | exact HB.out.alloc HB.out.size _⟩
set_option maxRecDepth 100000 in
set_option maxHeartbeats 8000000 in
theorem topLeast_sw (l : List Nd) (A : Option Addr) (c N : Nat) (M : Option Addr) (m cm : Nat) (w : World) (hm : MaxL w) (hp : PowT w) (hN0 : N ≤ 100) (u : ByteArray) (hu : u.size ≤ 30000) (HONE : Hid (∀ w', Below w.heap.size w w' → Calls Tryz.prog 6 #[.slice A l.length c, .int .i64 (N : Nat)] w' (Ret w' (.tuple #[.string (u ++ ⟨#[10]⟩), .nilIface])))) (d : List Nd) (HD : Hid (∀ w', Below w.heap.size w w' → Calls Tryz.prog 7 #[.slice A l.length c] w' (LdTo d w'))) (pa pb : Nat) (hpb : pb ≤ 1000000) (HBS : Hid (∀ A c w', Nds w' w'.heap.size A d → Below w.heap.size w w' → Calls Tryz.prog 8 #[.slice A d.length c, .int .i64 (N : Nat)] w' (fun e w'' => ∃ A2 n2 c2, e = .returned (.tuple #[.string u, .slice A2 n2 c2, .agg #[.int .i64 (pa : Nat), .int .i64 (pb : Nat)], .nilIface]) ∧ Below w'.heap.size w' w''))) (HCS : Hid (∀ w', Calls Tryz.prog 9 #[.string (u ++ ⟨#[10]⟩), .int .i64 (N : Nat)] w' (Ret w' (.tuple #[.agg #[.int .i64 (pa : Nat), .int .i64 ((pb : Int) + 1)], .nilIface])))) (v : ByteArray) (va vb : Nat) (HSW : Hid (∀ A c w', Nds w' w'.heap.size A d → Below w.heap.size w w' → Calls Tryz.prog 10 #[.slice A d.length c, .slice M m cm] w' (Ret w' (.tuple #[.string v, .nilIface])))) (HCV : Hid (∀ w', Calls Tryz.prog 9 #[.string v, .int .i64 (N : Nat)] w' (Ret w' (.tuple #[.agg #[.int .i64 (va : Nat), .int .i64 (vb : Nat)], .nilIface])))) (HLV : Hid (∀ w', Calls Tryz.prog 11 #[.agg #[.int .i64 (va : Nat), .int .i64 (vb : Nat)], .agg #[.int .i64 (pa : Nat), .int .i64 (pb : Nat)]] w' (Ret w' (.tuple #[.bool false, .nilIface])))) (hN : N < 100) (S1 : ByteArray) (qa qb : Nat) (HONE1 : Hid (∀ w', Below w.heap.size w w' → Calls Tryz.prog 6 #[.slice A l.length c, .int .i64 ((N : Int) + 1)] w' (Ret w' (.tuple #[.string S1, .nilIface])))) (HCS1 : Hid (∀ w', Calls Tryz.prog 9 #[.string S1, .int .i64 ((N : Int) + 1)] w' (Ret w' (.tuple #[.agg #[.int .i64 (qa : Nat), .int .i64 (qb : Nat)], .nilIface])))) (HLK : Hid (∀ w', Calls Tryz.prog 11 #[.agg #[.int .i64 (pa : Nat), .int .i64 ((pb : Int) + 1)], .agg #[.int .i64 (qa : Nat), .int .i64 (qb : Nat)]] w' (Ret w' (.tuple #[.bool false, .nilIface])))) :
  Calls Tryz.prog 3 #[.slice A l.length c, .int .i64 (N : Nat), .slice M m cm] w (Ret w (.bool true)) := by
 have HB : Hid (Below w.heap.size w w) := Lib.hid (Below.refl _ _)
 have HO := Lib.hid (fun (w' : World) (hB : Below w.heap.size w w') => topOne_any w' (hm.past hB) (hp.past hB))
 have e1 : decide (100 ≤ (N : Int)) = false := by simp; omega
 have e2 : IntKind.i64.wrap ((pb : Int) + 1) = (pb : Int) + 1 := IntWalk.i64_in _ (by omega)
 have e3 : IntKind.i64.wrap ((N : Int) + 1) = (N : Int) + 1 := IntWalk.i64_in _ (by omega)
 have hb1 : ((u ++ ⟨#[10]⟩ : ByteArray).toList != (u ++ ⟨#[10]⟩ : ByteArray).toList) = false := by simp
 clear hm hp hN
 go_enter Tryz.func3, Tryz.ntmps3
 go_wp2_with (first
  | (go_at_call 5; (fail_if_success have z := T0); refine (HO.out _ HB.out).mono ?_; rintro e u0 ⟨rfl, hB⟩; have HB := Lib.hid (HB.out.trans (hB.mono HB.out.size)); clear hB; have T0 := Lib.hid True.intro)
  | (go_at_call 6; (have z := T0; clear z); (fail_if_success have z := T1); refine (HONE.out _ HB.out).mono ?_; rintro e u1 ⟨rfl, hB⟩; have HB := Lib.hid (HB.out.trans (hB.mono HB.out.size)); clear hB; have T1 := Lib.hid True.intro)
  | (go_at_call 7; (have z := T1; clear z); (fail_if_success have z := T2); refine (HD.out _ HB.out).mono ?_; rintro e u2 ⟨A4, c4, rfl, hn, hB⟩; have HN := Lib.hid hn.1; have HB := Lib.hid (HB.out.trans (hB.mono HB.out.size)); clear hB hn; have T2 := Lib.hid True.intro)
  | (go_at_call 8; (have z := T2; clear z); (fail_if_success have z := T3); refine (HBS.out _ _ _ HN.out HB.out).mono ?_; rintro e u3 ⟨A5, n5, c5, rfl, hB⟩; have HN := Lib.hid (HN.out.past hB); have HB := Lib.hid (HB.out.trans (hB.mono HB.out.size)); clear hB; have T3 := Lib.hid True.intro)
  | (go_at_call 9; (have z := T3; clear z); (fail_if_success have z := T4); refine (HCS.out _).mono ?_; rintro e u4 ⟨rfl, hB⟩; have P : Hid (u4.heap[u3.heap.size]? = some (.cells #[.int .i64 (pa : Nat), .int .i64 (pb : Nat)] 33 (0, 0))) := Lib.hid (blk_below (heap_new rfl) hB); have a0 : ∀ o, (u4.alloc o).cell? ⟨u3.heap.size, 0, none⟩ = some (.int .i64 (pa : Nat)) := (fun o => by rw [blk_cell (j := 0) ((Below.heap_alloc _ _ _ (lt_of_heap P.out)).trans P.out)]; rfl); have a1 : ∀ o, (u4.alloc o).cell? ⟨u3.heap.size, 1, none⟩ = some (.int .i64 (pb : Nat)) := (fun o => by rw [blk_cell (j := 1) ((Below.heap_alloc _ _ _ (lt_of_heap P.out)).trans P.out)]; rfl); have HN := Lib.hid ((HN.out.past ((Below.refl _ _).alloc (Nat.le_refl _) _)).past hB); have HB := Lib.hid (Below.trans (HB.out.alloc HB.out.size _) (hB.mono (Nat.le_trans HB.out.size (by simp)))); clear hB; have T4 := Lib.hid True.intro)
  | (go_at_call 10; (have z := T4; clear z); (fail_if_success have z := T5); refine (HSW.out _ _ _ (HN.out.past ((Below.refl _ _).alloc (Nat.le_refl _) _)) (HB.out.alloc HB.out.size _)).mono ?_; rintro e u5 ⟨rfl, hB⟩; have K : Hid (u5.heap[u4.heap.size]? = some (.cells #[.int .i64 (pa : Nat), .int .i64 ((pb : Int) + 1)] 33 (0, 0))) := Lib.hid (blk_below (heap_new rfl) hB); have P := Lib.hid (blk_below ((Below.heap_alloc _ _ _ (lt_of_heap P.out)).trans P.out) hB); clear a0 a1; have HB := Lib.hid (Below.trans (HB.out.alloc HB.out.size _) (hB.mono (Nat.le_trans HB.out.size (by simp)))); clear hB HN; have T5 := Lib.hid True.intro)
  | (go_at_call 9; (have z := T5; clear z); (fail_if_success have z := T6); refine (HCV.out _).mono ?_; rintro e u6 ⟨rfl, hB⟩; have K := Lib.hid (blk_below K.out hB); have P := Lib.hid (blk_below P.out hB); have a0 : ∀ o, (u6.alloc o).cell? ⟨u3.heap.size, 0, none⟩ = some (.int .i64 (pa : Nat)) := (fun o => by rw [blk_cell (j := 0) ((Below.heap_alloc _ _ _ (lt_of_heap P.out)).trans P.out)]; rfl); have a1 : ∀ o, (u6.alloc o).cell? ⟨u3.heap.size, 1, none⟩ = some (.int .i64 (pb : Nat)) := (fun o => by rw [blk_cell (j := 1) ((Below.heap_alloc _ _ _ (lt_of_heap P.out)).trans P.out)]; rfl); have HB := Lib.hid (HB.out.trans (hB.mono HB.out.size)); clear hB; have T6 := Lib.hid True.intro)
  | (go_at_call 11; (have z := T6; clear z); (fail_if_success have z := T7); refine (HLV.out _).mono ?_; rintro e u7 ⟨rfl, hB⟩; have K := Lib.hid (blk_below ((Below.heap_alloc _ _ _ (lt_of_heap K.out)).trans K.out) hB); clear a0 a1 P; have HB := Lib.hid (Below.trans (HB.out.alloc HB.out.size _) (hB.mono (Nat.le_trans HB.out.size (by simp)))); clear hB; have T7 := Lib.hid True.intro)
  | (go_at_call 6; (have z := T7; clear z); (fail_if_success have z := T8); refine (HONE1.out _ HB.out).mono ?_; rintro e u8 ⟨rfl, hB⟩; have K := Lib.hid (blk_below K.out hB); have HB := Lib.hid (HB.out.trans (hB.mono HB.out.size)); clear hB; have T8 := Lib.hid True.intro)
  | (go_at_call 9; (have z := T8; clear z); (fail_if_success have z := T9); refine (HCS1.out _).mono ?_; rintro e u9 ⟨rfl, hB⟩; have K := Lib.hid (blk_below K.out hB); have k0 : ∀ o, (u9.alloc o).cell? ⟨u4.heap.size, 0, none⟩ = some (.int .i64 (pa : Nat)) := (fun o => by rw [blk_cell (j := 0) ((Below.heap_alloc _ _ _ (lt_of_heap K.out)).trans K.out)]; rfl); have k1 : ∀ o, (u9.alloc o).cell? ⟨u4.heap.size, 1, none⟩ = some (.int .i64 ((pb : Int) + 1)) := (fun o => by rw [blk_cell (j := 1) ((Below.heap_alloc _ _ _ (lt_of_heap K.out)).trans K.out)]; rfl); have HB := Lib.hid (HB.out.trans (hB.mono HB.out.size)); clear hB; have T9 := Lib.hid True.intro)
  | (go_at_call 11; (have z := T9; clear z); (fail_if_success have z := T10); refine (HLK.out _).mono ?_; rintro e u10 ⟨rfl, hB⟩; clear k0 k1; have HB := Lib.hid (Below.trans (HB.out.alloc HB.out.size _) (hB.mono (Nat.le_trans HB.out.size (by simp)))); clear hB; have T10 := Lib.hid True.intro))
 go_ret
 exact ⟨by first | rfl | (simp; done), by first | exact HB.out | exact HB.out.alloc HB.out.size _⟩
set_option maxRecDepth 100000 in
set_option maxHeartbeats 4000000 in
theorem topLeast_bad (l : List Nd) (A : Option Addr) (c : Nat) (W : Int) (M : Option Addr) (m cm : Nat) (w : World) (hm : MaxL w) (hp : PowT w) (q : Int) (HONE : Hid (∀ w', Below w.heap.size w w' → Calls Tryz.prog 6 #[.slice A l.length c, .int .i64 W] w' (Ret w' (.tuple #[.string .empty, .iface 56 (.int .i64 q)])))) (HD : Hid (∀ w', Below w.heap.size w w' → Calls Tryz.prog 7 #[.slice A l.length c] w' (fun e w'' => (∃ x y, e = .returned (.tuple #[x, y])) ∧ Below w'.heap.size w' w''))) :
  Calls Tryz.prog 3 #[.slice A l.length c, .int .i64 W, .slice M m cm] w (Ret w (.bool true)) := by
 have HB : Hid (Below w.heap.size w w) := Lib.hid (Below.refl _ _)
 have HO := Lib.hid (fun (w' : World) (hB : Below w.heap.size w w') => topOne_any w' (hm.past hB) (hp.past hB))
 clear hm hp
 go_enter Tryz.func3, Tryz.ntmps3
 go_wp2_with (first
  | (go_at_call 5; (fail_if_success have z := T0); refine (HO.out _ HB.out).mono ?_; rintro e u0 ⟨rfl, hB⟩; have HB := Lib.hid (HB.out.trans (hB.mono HB.out.size)); clear hB; have T0 := Lib.hid True.intro)
  | (go_at_call 6; (have z := T0; clear z); (fail_if_success have z := T1); refine (HONE.out _ HB.out).mono ?_; rintro e u1 ⟨rfl, hB⟩; have HB := Lib.hid (HB.out.trans (hB.mono HB.out.size)); clear hB; have T1 := Lib.hid True.intro)
  | (go_at_call 7; (have z := T1; clear z); (fail_if_success have z := T2); refine (HD.out _ HB.out).mono ?_; rintro e u2 ⟨⟨dx, dy, rfl⟩, hB⟩; have HB := Lib.hid (HB.out.trans (hB.mono HB.out.size)); clear hB; have T2 := Lib.hid True.intro))
 go_ret
 exact ⟨by first | rfl | (simp; done), HB.out⟩
set_option maxRecDepth 100000 in
set_option maxHeartbeats 4000000 in
theorem topLeast_note (l : List Nd) (A : Option Addr) (c : Nat) (W : Int) (M : Option Addr) (m cm : Nat) (w : World) (hm : MaxL w) (hp : PowT w) (S : ByteArray) (HONE : Hid (∀ w', Below w.heap.size w w' → Calls Tryz.prog 6 #[.slice A l.length c, .int .i64 W] w' (Ret w' (.tuple #[.string S, .nilIface])))) (HD : Hid (∀ w', Below w.heap.size w w' → Calls Tryz.prog 7 #[.slice A l.length c] w' (Ret w' (.tuple #[.slice none 0 0, .iface 56 (.int .i64 2)])))) :
  Calls Tryz.prog 3 #[.slice A l.length c, .int .i64 W, .slice M m cm] w (Ret w (.bool true)) := by
 have HB : Hid (Below w.heap.size w w) := Lib.hid (Below.refl _ _)
 have HO := Lib.hid (fun (w' : World) (hB : Below w.heap.size w w') => topOne_any w' (hm.past hB) (hp.past hB))
 clear hm hp
 go_enter Tryz.func3, Tryz.ntmps3
 go_wp2_with (first
  | (go_at_call 5; (fail_if_success have z := T0); refine (HO.out _ HB.out).mono ?_; rintro e u0 ⟨rfl, hB⟩; have HB := Lib.hid (HB.out.trans (hB.mono HB.out.size)); clear hB; have T0 := Lib.hid True.intro)
  | (go_at_call 6; (have z := T0; clear z); (fail_if_success have z := T1); refine (HONE.out _ HB.out).mono ?_; rintro e u1 ⟨rfl, hB⟩; have HB := Lib.hid (HB.out.trans (hB.mono HB.out.size)); clear hB; have T1 := Lib.hid True.intro)
  | (go_at_call 7; (have z := T1; clear z); (fail_if_success have z := T2); refine (HD.out _ HB.out).mono ?_; rintro e u2 ⟨rfl, hB⟩; have HB := Lib.hid (HB.out.trans (hB.mono HB.out.size)); clear hB; have T2 := Lib.hid True.intro))
 go_ret
 exact ⟨by first | rfl | (simp; done), HB.out⟩
theorem doc_some (l : List Nd) (A : Option Addr) (c : Nat) (w : World) (hl : Nds w w.heap.size A l) (hsh : Short l) (hm : MaxL w) (hp : PowT w) :
  Calls Tryz.prog 7 #[.slice A l.length c] w (fun e w' => (∃ x y, e = .returned (.tuple #[x, y])) ∧ Below w.heap.size w w') := by
 by_cases ht : treeF l = 0
 ·by_cases h9 : opAt l 0 = 9
  ·exact (ldoc_note l A c w hl hsh hm ht h9).mono fun _ _ h => ⟨⟨_, _, h.1⟩, h.2⟩
  ·by_cases h4 : 400 < (docL l).length
   ·exact ((ldoc_good l A c w hl hsh hm hp ht h9).2 h4).mono fun _ _ h => ⟨⟨_, _, h.1⟩, h.2⟩
   ·exact ((ldoc_good l A c w hl hsh hm hp ht h9).1 h4).mono fun _ _ ⟨_, _, h1, _, h2⟩ => ⟨⟨_, _, h1⟩, h2⟩
 ·exact (ldoc_bad l A c w hl hsh hm ht).mono fun _ _ h => ⟨⟨_, _, h.1⟩, h.2⟩
theorem topLeast_any (l : List Nd) (A : Option Addr) (c : Nat) (W : Int) (M : Option Addr) (ws : List Int) (cm : Nat) (w : World) (hl : Nds w w.heap.size A l) (hM : NumsI w w.heap.size M ws) (hcm : ws.length ≤ cm) (hsh : Short l) (hm : MaxL w) (hp : PowT w) :
  Calls Tryz.prog 3 #[.slice A l.length c, .int .i64 W, .slice M ws.length cm] w (Ret w (.bool true)) := by
 by_cases h : oneQ l W = 0
 ·obtain ⟨hw, ht, h4⟩ := oneQ_zero h
  obtain ⟨w10, w100⟩ := wideF_iff.1 hw
  obtain ⟨N, rfl⟩ : ∃ N : Nat, W = N := ⟨W.toNat, by omega⟩
  have w100N : N ≤ 100 := by omega
  have hdc : opAt l 0 ≠ 9 → ∃ x, Doc (docL l) x := fun h9 => docL_doc ht h9 (by have := h4 h9; omega)
  have hoff : OfFromSaid := fun l x A c w hl hd => of_from l x A c w hl hd
  have HONE := Lib.hid (fun (w' : World) (hB : Below w.heap.size w w') => pone_ok hoff l N A c w' (hl.past hB) hsh (hm.past hB) (hp.past hB) hdc h)
  by_cases h9 : opAt l 0 = 9
  ·exact topLeast_note l A c N M _ cm w hm hp _ HONE (Lib.hid (fun (w' : World) (hB : Below w.heap.size w w') => ldoc_note l A c w' (hl.past hB) hsh (hm.past hB) ht h9))
  ·obtain ⟨x, hx⟩ := hdc h9
   have hof : OfSaid := fun l x A c w hl hd => of_any l x A c w hl hd
   have HD := Lib.hid (fun (w' : World) (hB : Below w.heap.size w w') => (ldoc_good l A c w' (hl.past hB) hsh (hm.past hB) (hp.past hB) ht h9).1 (h4 h9))
   have hX : ∀ V : Nat, oneX l (V : Int) = bT V x ++ ⟨#[10]⟩ := fun V => by rw [oneX, if_neg h9, hx.root]; rfl
   have hsz : ∀ V : Nat, (bT V x).size ≤ 30000 := fun V => way_small ht h9 (hx.best_shown V)
   have hbd : ∀ V : Nat, (bC V x).1 ≤ 30000 ∧ (bC V x).2 ≤ 30000 := fun V => by
    rw [bC_T]
    have := cst_le V (bT V x)
    have := hsz V
    omega
   have hcl : ∀ V : Nat, cst V 0 (bT V x ++ ⟨#[10]⟩ : ByteArray).data.toList = ((bC V x).1, (bC V x).2 + 1) := fun V => by rw [cst_line, ← bC_T]
   have hzl : ∀ V : Nat, (bT V x ++ ⟨#[10]⟩ : ByteArray).size ≤ 60000 := fun V => by
    rw [ByteArray.size_append]
    have := hsz V
    show _ + 1 ≤ _
    omega
   rw [hX N] at HONE
   have HBS := Lib.hid (fun (A2 : Option Addr) (c2 : Nat) (w' : World) (hN : Nds w' w'.heap.size A2 (docL l)) (_ : Below w.heap.size w w') => (best_good hoff hx A2 _ c2 rfl N rfl w100N w' hN).mono fun e w'' hh => by
    obtain ⟨A5, c5, h1, -, -, h2⟩ := hh
    exact (⟨A5, _, c5, h1, h2⟩ : ∃ A2 n2 c2, e = .returned (.tuple #[.string (bT N x), .slice A2 n2 c2, .agg #[.int .i64 ((bC N x).1 : Nat), .int .i64 ((bC N x).2 : Nat)], .nilIface]) ∧ Below w'.heap.size w' w''))
   have HCS := Lib.hid (fun (w' : World) => by
    have := of_good _ (hzl N) N w100N w'
    rw [hcl N] at this
    exact (this : Calls Tryz.prog 9 #[.string (bT N x ++ ⟨#[10]⟩), .int .i64 (N : Nat)] w' (Ret w' (.tuple #[.agg #[.int .i64 ((bC N x).1 : Nat), .int .i64 (((bC N x).2 : Int) + 1)], .nilIface]))))
   have hWide : N < 100 → Hid (∀ w', Below w.heap.size w w' → Calls Tryz.prog 6 #[.slice A l.length c, .int .i64 ((N : Int) + 1)] w' (Ret w' (.tuple #[.string (bT (N + 1) x ++ ⟨#[10]⟩), .nilIface]))) ∧ Hid (∀ w', Calls Tryz.prog 9 #[.string (bT (N + 1) x ++ ⟨#[10]⟩), .int .i64 ((N : Int) + 1)] w' (Ret w' (.tuple #[.agg #[.int .i64 ((bC (N + 1) x).1 : Nat), .int .i64 ((bC (N + 1) x).2 + 1 : Nat)], .nilIface]))) ∧ Hid (∀ w', Calls Tryz.prog 11 #[.agg #[.int .i64 ((bC N x).1 : Nat), .int .i64 (((bC N x).2 : Int) + 1)], .agg #[.int .i64 ((bC (N + 1) x).1 : Nat), .int .i64 ((bC (N + 1) x).2 + 1 : Nat)]] w' (Ret w' (.tuple #[.bool false, .nilIface]))) := fun hN => by
    have h1 : oneQ l ((N + 1 : Nat) : Int) = 0 := by
     rw [oneQ, if_neg (by rw [wideF_iff.2 ⟨by omega, by omega⟩]; simp), if_neg (by simp [ht]), if_neg h9, if_neg (h4 h9)]
    refine ⟨Lib.hid fun w' hB => ?_, Lib.hid fun w' => ?_, Lib.hid fun w' => ?_⟩
    ·have := pone_ok hoff l ((N + 1 : Nat) : Int) A c w' (hl.past hB) hsh (hm.past hB) (hp.past hB) hdc h1
     rw [hX (N + 1)] at this
     exact this
    ·have := of_good _ (hzl (N + 1)) (N + 1) (by omega) w'
     rw [hcl (N + 1)] at this
     exact this
    ·have b1 := hbd N
     have b2 := hbd (N + 1)
     have := less_ok ((bC N x).1, (bC N x).2 + 1) ((bC (N + 1) x).1, (bC (N + 1) x).2 + 1) (by simp only; omega) (by simp only; omega) w'
     rw [cLess_line (best_wider N x)] at this
     exact this
   have hb := hbd N
   cases hs : showF (docL l) ws with
   | error q =>
    have HSW := Lib.hid (fun A c (w' : World) (hN : Nds w' w'.heap.size A (docL l)) (hB : Below w.heap.size w w') => show_no hof hs A _ c rfl M _ cm rfl hcm w' hN (hM.past hB))
    by_cases hN : N < 100
    ·obtain ⟨g1, g2, g3⟩ := hWide hN
     exact topLeast_ew l A c N M _ cm w hm hp w100N _ (hsz N) HONE _ HD _ _ (by omega) HBS HCS q HSW hN _ _ _ g1 g2 g3
    ·exact topLeast_en l A c N M _ cm w hm hp w100N _ (hsz N) HONE _ HD _ _ (by omega) HBS HCS q HSW hN
   | ok u =>
    obtain ⟨y, hy⟩ := showF_ok hs
    have hyx : y = x := by rw [← hy.doc.root, hx.root]
    subst hyx
    have HSW := Lib.hid (fun A c (w' : World) (hN : Nds w' w'.heap.size A (docL l)) (hB : Below w.heap.size w w') => show_ok hof hy A _ c rfl M _ cm rfl hcm w' hN (hM.past hB))
    have hus := way_small ht h9 hy
    have hcu := cst_le N u
    have HCV := Lib.hid (fun w' => of_good u (by omega) N w100N w')
    have HLV := Lib.hid (fun w' => (by have := less_ok (cst N 0 u.data.toList) (bC N y) (by omega) (by omega) w'; rwa [hy.least N] at this : Calls Tryz.prog 11 #[.agg #[.int .i64 ((cst N 0 u.data.toList).1 : Nat), .int .i64 ((cst N 0 u.data.toList).2 : Nat)], .agg #[.int .i64 ((bC N y).1 : Nat), .int .i64 ((bC N y).2 : Nat)]] w' (Ret w' (.tuple #[.bool false, .nilIface]))))
    by_cases hN : N < 100
    ·obtain ⟨g1, g2, g3⟩ := hWide hN
     exact topLeast_sw l A c N M _ cm w hm hp w100N _ (hsz N) HONE _ HD _ _ (by omega) HBS HCS u _ _ HSW HCV HLV hN _ _ _ g1 g2 g3
    ·exact topLeast_sn l A c N M _ cm w hm hp w100N _ (hsz N) HONE _ HD _ _ (by omega) HBS HCS u _ _ HSW HCV HLV hN
 ·exact topLeast_bad l A c W M _ cm w hm hp _ (Lib.hid (fun (w' : World) (hB : Below w.heap.size w w') => pone_bad l W A c w' (hl.past hB) hsh (hm.past hB) (hp.past hB) h)) (Lib.hid (fun (w' : World) (hB : Below w.heap.size w w') => doc_some l A c w' (hl.past hB) hsh (hm.past hB) (hp.past hB)))
end Go.Proofs.YtddfdmopaeghnabGreatDoor
