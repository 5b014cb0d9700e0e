/- Proved: the law TopLeast returns true and leaves its arguments as they were, for every input of bulk at most 1048576; its card. With what it rests on. Conditions: as each theorem states them. -/
import Derived.Test.YtddfdmopaeghnabGreatDoorTpPg
import Derived.Test.YtddfdmopaeghnabGreatDoorTpSy
import Derived.Test.YtddfdmopaeghnabGreatDoorTpCo
import Derived.Test.YtddfdmopaeghnabGreatDoorCards
import Derived.Test.YtddfdmopaeghnabGreatDoorTie
import Derived.SevenTiedAt
namespace Go.Proofs.YtddfdmopaeghnabGreatDoor.topLeast
open Go.ChangeShapes Go.WideShapes Go.ChangeAt Go.RowKit
theorem laid_met (os : Os) : laidMet Tryz.prog Rows.topLeastUptoRow.laid ((tabWorld7 os).forCall (fun _ _ => 0) ⟨#[], #[.slice none 0 0, .int .i64 0, .slice none 0 0], []⟩).memory :=
 laidMet_of_run' 8 (by kernel_rfl) (by kernel_rfl)
theorem reads (os : Os) {H : Type} (enc : TypeId × Value → H) : ∃ places, DataW.whole enc Tryz.prog ((tabWorld7 os).forCall (fun _ _ => 0) ⟨#[], #[.slice none 0 0, .int .i64 0, .slice none 0 0], []⟩).memory Tryz.f3.params.toList Rows.topLeastSpec.vars false #[Value.slice none 0 0, .int .i64 0, .slice none 0 0].toList 8 = some ([.nil, .lit (.int .i64 0), .nil], [], places) :=
 ⟨[], by kernel_rfl⟩
set_option maxRecDepth 100000 in
theorem lifted (os : Os) (started : os.Started) (H : Type) (enc : TypeId × Value → H) (F : Stop.Interp) :
  ReturnsInHanded {} Tryz.checked os 3 .any ((Rows.OpenSpec.upto Rows.topLeastSpec).preRow enc Tryz.prog Tryz.f3 Rows.topLeastUptoRow.domain false Rows.topLeastUptoRow.laid) (((Rows.OpenSpec.upto Rows.topLeastSpec).at F).post enc Tryz.prog Tryz.f3 false true false false) := by
 obtain ⟨places, hx⟩ := reads os enc
 refine returnsInHanded_of_row (C := Tryz.checked) (s := Rows.OpenSpec.upto Rows.topLeastSpec) own started (by kernel_rfl) Tryz.func3
  (witness_row_at (enc := enc) (C := Tryz.checked) false (tabWorld7 os) #[.slice none 0 0, .int .i64 0, .slice none 0 0] rfl (by kernel_rfl) (by kernel_rfl) (by kernel_rfl)
   (OpenSpec.preRow_of_cond 8 hx (by kernel_rfl) (fun k hk => by cases hk; kernel_rfl) (by kernel_rfl) (laid_met os))) ?_
 intro W base args ds gs before hval0 hW _ hcond _ hL hsh _
 have hval : ∀ (j : Nat) t v, Tryz.f3.params[j]? = some t → args[j]? = some v → Value.okWide Tryz.prog W .any base t v := hval0
 have hW' := hW
 have hlt : ∀ x ∈ before, x.block < W.heap.size := fun x hx => hW.lt x hx
 obtain ⟨p, q, hA0, hV, rfl, hfz, hnd⟩ := hW
 have hA : DataW.TrodAll enc Tryz.prog W 0 (fun _ => true) true Tryz.f3.params.toList args.toList ds p := hA0
 rw [Tryz.params3] at hA hval
 obtain ⟨v0, v1, v2, d0, d1, d2, p0, p1, p2, hargs, rfl, rfl, h0, h1, h2⟩ := trodAll_three hA
 obtain ⟨rfl, rfl⟩ := trodVars_none hV
 obtain rfl : args = #[v0, v1, v2] := by cases args; simp_all
 obtain ⟨A, c, l, rfl, hl, _, hbulk⟩ := open_trees (hval 0 _ v0 rfl rfl) h0 (fun x hx => hlt x (by simp [hx]))
 obtain ⟨k, rfl, rfl, rfl, wk⟩ := open_int Tryz.underlying3 (hval 1 _ v1 rfl rfl) h1
 obtain ⟨M, cm, ws, rfl, hM, hcm, hmm, _⟩ := open_nums Tryz.underlying23 Tryz.underlying3 (by kernel_rfl) (hval 2 _ v2 rfl rfl) h2 (fun x hx => hlt x (by simp [hx]))
 have hk := of_decide_eq_true (hcond _ rfl)
 have hsmall : Short l := by
  intro x hx
  simp only [List.append_nil, Rows.uptoBulkAll] at hk
  have h := hbulk x hx
  omega
 have hL' : laidMet Tryz.prog Rows.topLeastUptoRow.laid W := hL
 have hpw := powT_of_third hL'
 have walk := topLeast_any l A c k M ws cm W hl ⟨hM, hmm⟩ hcm hsmall (maxL_of hsh) hpw
 refine walk.mono fun e W' ⟨he, hb⟩ => ?_
 subst he
 exact ⟨_, rfl, law_post hW' rfl rfl rfl Tryz.underlying4 laidOut (by kernel_rfl) hb⟩
set_option maxHeartbeats 8000000 in
theorem closed : joinedFacts Tryz.pinned.checked.prog 3 Tryz.f3 (Rows.OpenSpec.upto Rows.topLeastSpec).bare Rows.topLeastUptoRow = true := by
 unfold joinedFacts
 simp only [Bool.and_eq_true]
 and_intros
 all_goals (as_aux_lemma => kernel_rfl)
theorem row : Rows.TopLeastUptoSaid :=
 OpenClaim.holds_of_cond 3 Tryz.f3 rfl rfl rfl rfl rfl rfl rfl ⟨rfl, rfl, rfl, rfl, rfl⟩ rfl rfl rfl rfl rfl (by kernel_rfl) Tryz.func3 closed
  (of_decide_eq_true (by kernel_rfl)) (by unfold Func.isWrapper; first | (rw [if_pos (by decide +kernel)]; kernel_rfl) | (rw [if_neg (by decide +kernel)]; exact ⟨rfl, rfl⟩))
  (fun os started H enc _ F => by rw [OpenClaim.pre_eq_preRow]; exact lifted os started H enc F)
theorem plain (f : FuncId) (fn : Func) (hf : Tryz.pinned.checked.prog.funcNamed "pargetry/pargetrytop.TopLeast" = some f) (hfn : Tryz.pinned.checked.prog.funcs[f]? = some fn) :
  true = Tryz.pinned.checked.prog.looks [] ∧ ∀ (j : Nat) t, fn.params[j]? = some t → Tryz.pinned.checked.prog.wantsStandIn t = false := by
 obtain rfl : f = 3 := Option.some.inj ((show Tryz.prog.funcNamed "pargetry/pargetrytop.TopLeast" = some 3 by kernel_rfl).symm.trans hf) |>.symm
 obtain rfl : fn = Tryz.f3 := (Option.some.inj (Tryz.func3.symm.trans hfn)).symm
 refine ⟨by kernel_rfl, fun j t ht => ?_⟩
 rw [Tryz.params3] at ht
 have h3 : t = 22 ∨ t = 3 ∨ t = 23 := by simpa using Array.mem_of_getElem? ht
 rcases h3 with rfl | rfl | rfl
 ·exact (show Tryz.prog.wantsStandIn 22 = false by kernel_rfl)
 ·exact (show Tryz.prog.wantsStandIn 3 = false by kernel_rfl)
 ·exact (show Tryz.prog.wantsStandIn 23 = false by kernel_rfl)
theorem proved : Rows.TopLeastUptoCardSaid :=
 Claim7.holds_tied_plain_at .later [] _ _ _ _ row (fun _ h => by cases h) (by kernel_rfl) (fun _ h => by cases h) topLeastUpto_row_tie rfl ⟨rfl, rfl⟩ (by kernel_rfl) rfl plain (by kernel_rfl)
#print axioms proved
end Go.Proofs.YtddfdmopaeghnabGreatDoor.topLeast
