/- What Piece and Choose say at a place, and what is laid then, for the walk of the cheapest course. No condition. -/
import Derived.Test.YtddfdmopaeghnacGreatDoorWayW
import Derived.Test.YtddfdmopaeghnacGreatDoorBestP
namespace Go.Proofs.YtddfdmopaeghnacGreatDoor
open Go.RowKit

/-- A piece's text: without a new line, or with one ahead. -/
def PTxt (t : ByteArray) : Prop := NoNl t.data.toList ∨ ∃ r, NoNl r ∧ t = ⟨(10 :: r).toArray⟩

theorem blanks_no (n : Nat) : NoNl (blanksB n).data.toList := by
  intro c hc
  simp [blanksB] at hc
  rw [hc.2]; decide
theorem ptxt_line (n : Nat) : PTxt (⟨#[10]⟩ ++ blanksB n) := by
  refine .inr ⟨(blanksB n).data.toList, blanks_no n, ?_⟩
  apply ByteArray.ext
  apply Array.ext'
  simp
theorem ptxt_empty : PTxt .empty := .inl (by intro c hc; simp at hc)

theorem step_walk {l : List Nd} {i i' : Nat} {K K1 K2 : List (D × Int)} {txt : ByteArray} (h1 : StepTo l i K txt i' K1) (h2 : WalkTo l K i' K2) : StepTo l i K txt i' K1 ∧ waysK K = waysK K1 := by
  have := h1.1.uniq h2.1
  subst this
  exact ⟨h1, h2.2.2⟩

/-- A place without a choice. -/
theorem best_go {l : List Nd} {x : D} (hd : Doc l x) {gp : Nat} {A : Option Addr} {c i : Nat} {K : List (D × Int)} (hr : Rep l i K) (hi : i < l.length) (ho : l[i].op ≠ 8 ∧ l[i].op ≠ 9) :
    ∃ (txt : ByteArray) (nx : Nat) (K' : List (D × Int)), StepTo l i K txt nx K' ∧ waysK K = waysK K' ∧ PTxt txt ∧ ∀ w, IsPlan w gp A c l → Nds w w.heap.size A l → Calls Tryz.prog 51 #[.pointer (some ⟨gp, 0, none⟩), .int .i64 i] w (Ret w (.tuple #[.string txt, .int .i64 (nx : Nat), .bool false])) := by
  obtain ⟨op, t, n, hnd⟩ : ∃ op t n, l[i] = Nd.mk op t n := ⟨_, _, _, rfl⟩
  rcases hd.ops hi hnd with rfl | rfl | rfl | rfl | rfl | rfl | rfl | rfl | rfl
  · obtain ⟨K', h⟩ := walk_leaf hd hr hi (by rw [hnd]; rfl)
    obtain ⟨K1, h1⟩ := step_word hd hr hi hnd
    obtain ⟨g1, g2⟩ := step_walk h1 h
    refine ⟨_, _, K1, g1, g2, .inl ?_, fun w hp hl => piece_word hd w hp hl hi hnd⟩
    have := oneF_text (hd.one l[i] (List.getElem_mem hi)) (by rw [hnd])
    rw [hnd] at this
    exact this
  · obtain ⟨K', h⟩ := walk_leaf hd hr hi (by rw [hnd]; rfl)
    obtain ⟨K1, h1⟩ := step_line hd hr hi hnd (.inl rfl)
    obtain ⟨g1, g2⟩ := step_walk h1 h
    exact ⟨_, _, K1, g1, g2, ptxt_line _, fun w hp hl => piece_line hd w hp hl hi hnd (.inl rfl)⟩
  · obtain ⟨K', h⟩ := walk_leaf hd hr hi (by rw [hnd]; rfl)
    obtain ⟨K1, h1⟩ := step_line hd hr hi hnd (.inr (.inl rfl))
    obtain ⟨g1, g2⟩ := step_walk h1 h
    exact ⟨_, _, K1, g1, g2, ptxt_line _, fun w hp hl => piece_line hd w hp hl hi hnd (.inr (.inl rfl))⟩
  · obtain ⟨K', h⟩ := walk_leaf hd hr hi (by rw [hnd]; rfl)
    obtain ⟨K1, h1⟩ := step_line hd hr hi hnd (.inr (.inr rfl))
    obtain ⟨g1, g2⟩ := step_walk h1 h
    exact ⟨_, _, K1, g1, g2, ptxt_line _, fun w hp hl => piece_line hd w hp hl hi hnd (.inr (.inr rfl))⟩
  · obtain ⟨K', h⟩ := walk_leaf hd hr hi (by rw [hnd]; rfl)
    obtain ⟨K1, h1⟩ := step_zero hd hr hi hnd
    obtain ⟨g1, g2⟩ := step_walk h1 h
    exact ⟨_, _, K1, g1, g2, ptxt_empty, fun w hp hl => piece_zero hd w hp hl hi hnd⟩
  · obtain ⟨K', h⟩ := walk_both hd hr hi (by rw [hnd])
    obtain ⟨K1, h1⟩ := step_both hd hr hi hnd
    obtain ⟨g1, g2⟩ := step_walk h1 h
    exact ⟨_, _, K1, g1, g2, ptxt_empty, fun w hp hl => piece_part hd w hp hl hi hnd (.inl rfl)⟩
  · obtain ⟨K', h⟩ := walk_deep hd hr hi (by rw [hnd])
    obtain ⟨K1, h1⟩ := step_deep hd hr hi hnd
    obtain ⟨g1, g2⟩ := step_walk h1 h
    exact ⟨_, _, K1, g1, g2, ptxt_empty, fun w hp hl => piece_part hd w hp hl hi hnd (.inr rfl)⟩
  · exact absurd (by rw [hnd]) ho.1
  · exact absurd (by rw [hnd]) ho.2

/-- A choice that may be taken: its text, and what is laid behind it. -/
def TakeTo (K : List (D × Int)) (c : Int) (t : ByteArray) (K' : List (D × Int)) : Prop := NoNl t.data.toList ∧ t.size + 3300 * szK K' ≤ 3300 * szK K ∧ ∀ ws acc, layK K (c :: ws) acc = layK K' ws (acc ++ t)

theorem take_pick {l : List Nd} {i i' : Nat} {K K1 K2 : List (D × Int)} {c : Int} {t : ByteArray} (ht : NoNl t.data.toList) (h : PickTo l i K c t i' K1) (hr : Rep l i' K2) : TakeTo K c t K2 := by
  have := h.1.uniq hr
  subst this
  exact ⟨ht, h.2.2⟩

theorem no_empty : NoNl ByteArray.empty.data.toList := by intro c hc; simp at hc
/-- A choice: what Piece and Choose say. -/
theorem best_ask {l : List Nd} {x : D} (hd : Doc l x) {gp : Nat} {A : Option Addr} {c i : Nat} {K : List (D × Int)} (hr : Rep l i K) (hi : i < l.length) (ho : l[i].op = 8 ∨ l[i].op = 9) :
    ∃ (t0 : ByteArray) (ok0 : Bool) (i0 i1 : Nat) (K0 K1 : List (D × Int)), PartTo l K ok0 i0 i1 K0 K1 ∧ (ok0 = true → TakeTo K 0 t0 K0) ∧ TakeTo K 1 .empty K1 ∧
      (∀ w, IsPlan w gp A c l → Nds w w.heap.size A l → Calls Tryz.prog 51 #[.pointer (some ⟨gp, 0, none⟩), .int .i64 i] w (Ret w (.tuple #[.string .empty, .int .i64 (i : Nat), .bool true]))) ∧
      (∀ w, IsPlan w gp A c l → Nds w w.heap.size A l → Calls Tryz.prog 52 #[.pointer (some ⟨gp, 0, none⟩), .int .i64 i, .int .i64 0] w (Ret w (.tuple #[.string t0, .int .i64 (i0 : Nat), .bool ok0]))) ∧
      (∀ w, IsPlan w gp A c l → Nds w w.heap.size A l → Calls Tryz.prog 52 #[.pointer (some ⟨gp, 0, none⟩), .int .i64 i, .int .i64 1] w (Ret w (.tuple #[.string .empty, .int .i64 (i1 : Nat), .bool true]))) := by
  obtain ⟨op, t, n, hnd⟩ : ∃ op t n, l[i] = Nd.mk op t n := ⟨_, _, _, rfl⟩
  rw [hnd] at ho
  rcases ho with h8 | h9
  · simp only at h8
    subst h8
    obtain ⟨K0, K1, h⟩ := part_group hd hr hi (by rw [hnd])
    have he : (lineAt l (i + 1)).2 = (docAt l (i + 1)).flat.isSome := by
      rw [lineAt]
      cases (docAt l (i + 1)).flat <;> rfl
    obtain ⟨K3, h3⟩ := pick_lines hd hr hi hnd
    refine ⟨(lineAt l (i + 1)).1, (docAt l (i + 1)).flat.isSome, nextAt l i, i + 1, K0, K1, h, fun hok => ?_, take_pick no_empty h3 h.2.1, fun w hp hl => piece_choice hd w hp hl hi hnd (.inl rfl), fun w hp hl => ?_, fun w hp hl => choose_lines hd w hp hl hi hnd⟩
    · cases hfl : (docAt l (i + 1)).flat with
      | none => rw [hfl] at hok; cases hok
      | some s =>
        obtain ⟨K2, h2⟩ := pick_flat hd hr hi hnd hfl
        have hls : (lineAt l (i + 1)).1 = s := by rw [lineAt, hfl]; rfl
        rw [hls]
        have hlt : i + 1 < l.length := (hd.plan_un hi (by rw [hnd]; rfl)).1
        exact take_pick (D.flat_no (hd.good_at hlt) hfl) h2 h.1
    · rw [← he]
      exact choose_flat hd w hp hl hi hnd
  · simp only at h9
    subst h9
    obtain ⟨K0, K1, h⟩ := part_either hd hr hi (by rw [hnd])
    obtain ⟨K2, h2⟩ := pick_either hd hr hi hnd (c := 0) (.inl rfl)
    obtain ⟨K3, h3⟩ := pick_either hd hr hi hnd (c := 1) (.inr rfl)
    exact ⟨.empty, true, i + 1, endAt l (i + 1), K0, K1, h, fun _ => take_pick no_empty h2 h.1, take_pick no_empty h3 h.2.1, fun w hp hl => piece_choice hd w hp hl hi hnd (.inr rfl), fun w hp hl => choose_either hd w 0 (.inl rfl) hp hl hi hnd, fun w hp hl => choose_either hd w 1 (.inr rfl) hp hl hi hnd⟩
end Go.Proofs.YtddfdmopaeghnacGreatDoor
