/- Proved: the law DeskSame returns true and leaves its arguments as they were, for every input; its card. With what it rests on. Conditions: as each theorem states them. -/
import Derived.Test.YtddfdmopaeghnacGreatDoorDkPg
import Derived.Test.YtddfdmopaeghnacGreatDoorDkSy
import Derived.Test.YtddfdmopaeghnacGreatDoorDkM
import Derived.Test.YtddfdmopaeghnacGreatDoorCards
import Derived.Test.YtddfdmopaeghnacGreatDoorTie
import Derived.SevenTiedAt
import Derived.Deep.DeepHandedRow
import Derived.Deep.DeepWitnessRowRef
import Derived.Shelf.Vars
import Derived.Test.YtddfdmopaeghnacGreatDoorDocW
namespace Go.Proofs.YtddfdmopaeghnacGreatDoor.deskSame
open Go.ChangeShapes Go.WideShapes Go.ChangeAt Go.RowKit Go.Deep
open Go.ChangeMaps (open_string)
theorem cellsStep : Tryz.prog.cellsOf 74 = 3 := by kernel_rfl
set_option maxRecDepth 100000 in
theorem open_steps {H : Type} {enc : TypeId × Value → H} {W : World} {base : Nat} {v : Value} {d : DataW H} {p : List MemPlace}
  (hv : Value.okWide Tryz.prog W .any base 66 v) (h : DataW.Trod enc Tryz.prog W 0 (fun _ => true) true 66 v d p) (hlt : ∀ x ∈ p, x.block < W.heap.size) :
  ∃ (A : Option Addr) (c : Nat) (l : List Nd), v = .slice A l.length c ∧ Nds W W.heap.size A l := by
 obtain ⟨A, n, c, css, rfl, rfl, hs, hc, hm, hd, hcs⟩ := open_sl Tryz.underlying66 cellsStep (by omega) hv h hlt
 obtain ⟨l, hl, hw⟩ := list_of (f := ndCells) (q := fun x => x.text.size ≤ maxLen) hcs (fun cs ⟨h1, k, y, hy, _⟩ => by
  obtain ⟨xs, n, _, _, _, hlen, hf⟩ := DataW.trod_struct Tryz.underlying74 hy
  match cs, h1 with
  | [c0, c1, c2], _ =>
   match xs, hlen with
   | [y0, y1, y2], _ =>
    have e0 := hf 0 _ rfl
    have e1 := hf 1 _ rfl
    have e2 := hf 2 _ rfl
    have k0 : Tryz.prog.cellsOf 3 = 1 := by kernel_rfl
    have k1 : Tryz.prog.cellsOf 9 = 1 := by kernel_rfl
    simp [k0, k1] at e0 e1 e2
    obtain ⟨a, ha, _, wa⟩ := DataW.trod_int Tryz.underlying3 e0
    obtain ⟨t, htx, _, wt⟩ := DataW.trod_string Tryz.underlying9 e1
    obtain ⟨b, hb, _, wb⟩ := DataW.trod_int Tryz.underlying3 e2
    simp at ha htx hb
    subst ha htx hb
    exact ⟨⟨a, t, b⟩, rfl, wt⟩)
 rw [flatten_map hl] at hs
 have hlen : css.length = l.length := by rw [hl, List.length_map]
 rw [hlen] at hs hc hm ⊢
 exact ⟨A, c, l, rfl, ⟨hs, hm, hw⟩⟩
theorem laid_met (os : Os) : laidMet Tryz.prog Rows.deskSameRow.laid ((tabWorld7 os).forCall (fun _ _ => 0) ⟨#[], #[.int .i64 0, .slice none 0 0, .string .empty], []⟩).memory :=
 laidMet_of_run' 8 (by kernel_rfl) (by kernel_rfl)
theorem reads (os : Os) {H : Type} (enc : TypeId × Value → H) : ∃ places, DataW.whole enc Tryz.prog ((tabWorld7 os).forCall (fun _ _ => 0) ⟨#[], #[.int .i64 0, .slice none 0 0, .string .empty], []⟩).memory Tryz.f9.params.toList Rows.deskSameSpec.vars false #[Value.int .i64 0, .slice none 0 0, .string .empty].toList 8 = some ([.lit (.int .i64 0), .nil, .lit (.string [])], [], places) :=
 ⟨[], by kernel_rfl⟩
set_option maxRecDepth 100000 in
theorem lifted (os : Os) (started : os.Started) (H : Type) (enc : TypeId × Value → H) (F : Stop.Interp) :
  ReturnsInHanded {} Tryz.checked os 9 .any ((OpenSpec.ofChange Rows.deskSameSpec).preRow enc Tryz.prog Tryz.f9 Rows.deskSameRow.domain false Rows.deskSameRow.laid) (((OpenSpec.ofChange Rows.deskSameSpec).at F).post enc Tryz.prog Tryz.f9 false true false false) := by
 obtain ⟨places, hx⟩ := reads os enc
 refine returnsInHanded_of_row (C := Tryz.checked) (s := OpenSpec.ofChange Rows.deskSameSpec) own started (by kernel_rfl) Tryz.func9
  (witness_row_at (enc := enc) (C := Tryz.checked) false (tabWorld7 os) #[.int .i64 0, .slice none 0 0, .string .empty] rfl (by kernel_rfl) (by kernel_rfl) (by kernel_rfl)
   (OpenSpec.preRow_of_cond 8 hx (by kernel_rfl) (fun k hk => by cases hk) (by kernel_rfl) (laid_met os))) ?_
 intro W base args ds gs before hval0 hW _ _ _ hL hsh _
 have hval : ∀ (j : Nat) t v, Tryz.f9.params[j]? = some t → args[j]? = some v → Value.okWide Tryz.prog W .any base t v := hval0
 have hW' := hW
 have hlt : ∀ x ∈ before, x.block < W.heap.size := fun x hx => hW.lt x hx
 obtain ⟨p, q, hA0, hV, rfl, hfz, hnd⟩ := hW
 have hA : DataW.TrodAll enc Tryz.prog W 0 (fun _ => true) true Tryz.f9.params.toList args.toList ds p := hA0
 rw [Tryz.params9] at hA hval
 obtain ⟨v0, v1, v2, d0, d1, d2, p0, p1, p2, hargs, rfl, rfl, h0, h1, h2⟩ := trodAll_three hA
 obtain ⟨rfl, rfl⟩ := trodVars_none hV
 obtain rfl : args = #[v0, v1, v2] := by cases args; simp_all
 obtain ⟨t, rfl, rfl, rfl, ht⟩ := open_int Tryz.underlying3 (hval 0 _ v0 rfl rfl) h0
 obtain ⟨A, c, l, rfl, hl⟩ := open_steps (hval 1 _ v1 rfl rfl) h1 (fun x hx => hlt x (by simp [hx]))
 obtain ⟨s, rfl, rfl, rfl, hs⟩ := open_string Tryz.underlying9 (hval 2 _ v2 rfl rfl) h2
 have hL2 : laidMet Tryz.prog Rows.deskSameRow.laid W := hL
 have walk := deskSame_any t l A c s W hs (maxL_of hsh) (powT_of_third hL2) hl
 refine walk.mono fun e W' ⟨he, hb⟩ => ?_
 subst he
 exact ⟨_, rfl, law_post hW' rfl rfl rfl Tryz.underlying4 laidOut (by kernel_rfl) hb⟩
set_option maxHeartbeats 8000000 in
theorem closed : joinedFacts Tryz.pinned.checked.prog 9 Tryz.f9 (OpenSpec.ofChange Rows.deskSameSpec).bare Rows.deskSameRow = true := by
 unfold joinedFacts
 simp only [Bool.and_eq_true]
 and_intros
 all_goals (as_aux_lemma => kernel_rfl)
theorem row : Rows.DeskSameSaid :=
 OpenClaim.holds_of_cond 9 Tryz.f9 rfl rfl rfl rfl rfl rfl rfl ⟨rfl, rfl, rfl, rfl, rfl⟩ rfl rfl rfl rfl rfl (by kernel_rfl) Tryz.func9 closed
  (of_decide_eq_true (by kernel_rfl)) (by unfold Func.isWrapper; first | (rw [if_pos (by decide +kernel)]; kernel_rfl) | (rw [if_neg (by decide +kernel)]; exact ⟨rfl, rfl⟩))
  (fun os started H enc _ F => by rw [OpenClaim.pre_eq_preRow]; exact lifted os started H enc F)
theorem plain (f : FuncId) (fn : Func) (hf : Tryz.pinned.checked.prog.funcNamed "pargetry/pargetrylaw2.DeskSame" = some f) (hfn : Tryz.pinned.checked.prog.funcs[f]? = some fn) :
  true = Tryz.pinned.checked.prog.looks [] ∧ ∀ (j : Nat) t, fn.params[j]? = some t → Tryz.pinned.checked.prog.wantsStandIn t = false := by
 obtain rfl : f = 9 := Option.some.inj ((show Tryz.prog.funcNamed "pargetry/pargetrylaw2.DeskSame" = some 9 by kernel_rfl).symm.trans hf) |>.symm
 obtain rfl : fn = Tryz.f9 := (Option.some.inj (Tryz.func9.symm.trans hfn)).symm
 refine ⟨by kernel_rfl, fun j t ht => ?_⟩
 rw [Tryz.params9] at ht
 have h3 : t = 3 ∨ t = 66 ∨ t = 9 := by simpa using Array.mem_of_getElem? ht
 rcases h3 with rfl | rfl | rfl
 ·exact (show Tryz.prog.wantsStandIn 3 = false by kernel_rfl)
 ·exact (show Tryz.prog.wantsStandIn 66 = false by kernel_rfl)
 ·exact (show Tryz.prog.wantsStandIn 9 = false by kernel_rfl)
theorem proved : Rows.DeskSameCardSaid :=
 Claim7.holds_tied_plain_at .later [] _ _ _ _ row (fun _ h => by cases h) (by kernel_rfl) (fun _ h => by cases h) deskSame_row_tie rfl ⟨rfl, rfl⟩ (by kernel_rfl) rfl plain (by kernel_rfl)
#print axioms proved
end Go.Proofs.YtddfdmopaeghnacGreatDoor.deskSame
