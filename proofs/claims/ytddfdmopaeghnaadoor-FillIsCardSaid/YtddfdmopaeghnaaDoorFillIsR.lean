/- Proved: the law FillIs returns true and leaves its arguments as they were, for every input; its card. Condition: errors.errorType reads as the program's text lays it. -/
import Derived.Test.YtddfdmopaeghnaaDoorLaw
import Derived.Test.YtddfdmopaeghnaaDoorFillIsW
import Derived.Test.YtddfdmopaeghnaaDoorErrT
import Derived.Test.YtddfdmopaeghnaaDoorCards
import Derived.Test.YtddfdmopaeghnaaDoorTie
import Derived.SevenTiedAt
namespace Go.Proofs.YtddfdmopaeghnaaDoor.fillIs
open Go.ChangeShapes Go.WideShapes Go.ChangeAt Go.RowKit

set_option maxRecDepth 100000 in
theorem lifted (os : Os) (started : os.Started) (H : Type) (enc : TypeId × Value → H) :
    ReturnsInHanded {} Tryd.checked os 6 .any (fun w args => (Rows.fillIsSpec.pre enc Tryd.prog Tryd.f6 [] false w args ∧ laidMetH Tryd.prog [("errors.errorType", Rows.laid_errors_errorType)] w) ∧ sizedMet enc Tryd.prog Tryd.f6 (OpenSpec.ofChange Rows.fillIsSpec) false w args)
      (Rows.fillIsSpec.post enc Tryd.prog Tryd.f6 false true false false) := by
  refine returnsInHanded_of_change_and (C := Tryd.checked) (X := fun w _ => laidMetH Tryd.prog [("errors.errorType", Rows.laid_errors_errorType)] w) (fun _ _ _ hh h => h.of_heap hh) own started (by kernel_rfl) Tryd.func6
    (ChangeSpec.witness_at (enc := enc) (C := Tryd.checked) (os := os) (X := fun w _ => laidMetH Tryd.prog [("errors.errorType", Rows.laid_errors_errorType)] w) false (laidWorld os) #[.slice none 0 0, .slice none 0 0, .int .i64 0] 8 rfl (by kernel_rfl) (by kernel_rfl) (by kernel_rfl) (by kernel_rfl) (by kernel_rfl) (laidWorld_met os _)) ?_
  intro W base args ds gs before hval0 hW _ _ hL _
  have hval : ∀ (j : Nat) t v, Tryd.f6.params[j]? = some t → args[j]? = some v → Value.okWide Tryd.prog W .any base t v := hval0
  have hW' := hW
  have hlt : ∀ x ∈ before, x.block < W.heap.size := fun x hx => hW.lt x hx
  obtain ⟨p, q, hA0, hV, rfl, hfz, hnd⟩ := hW
  have hA : DataW.TrodAll enc Tryd.prog W 0 (fun _ => true) true Tryd.f6.params.toList args.toList ds p := hA0
  rw [Tryd.params6] at hA hval
  obtain ⟨v0, v1, v2, d0, d1, d2, p0, p1, p2, hargs, rfl, rfl, h0, h1, h2⟩ := trodAll_three hA
  obtain ⟨rfl, rfl⟩ := trodVars_none hV
  obtain rfl : args = #[v0, v1, v2] := by cases args; simp_all
  obtain ⟨A, c, l, rfl, hl, hlc, hlm, _, hlt0⟩ := open_texts Tryd.underlying43 Tryd.underlying9 (by kernel_rfl) (hval 0 _ v0 rfl rfl) h0 (fun x hx => hlt x (by simp [hx]))
  obtain ⟨M, cm, many, rfl, hM, _, hmm, _⟩ := open_nums Tryd.underlying44 Tryd.underlying3 (by kernel_rfl) (hval 1 _ v1 rfl rfl) h1 (fun x hx => hlt x (by simp [hx]))
  obtain ⟨width, rfl, _, _, _⟩ := open_int Tryd.underlying3 (hval 2 _ v2 rfl rfl) h2
  have hg := errT_of_laid hL
  have hl' : Txs W W.heap.size A l := ⟨hl, hlm, hlt0⟩
  have hM' : NumsI W W.heap.size M many := ⟨hM, hmm⟩
  have walk : Calls Tryd.prog 6 #[.slice A l.length c, .slice M many.length cm, .int .i64 width] W (Ret W (.bool true)) := by
    by_cases he : wordsF l = 0
    · by_cases hw : width < 1 ∨ 100 < width
      · exact fillIs_2 l A _ c rfl M _ cm width W hl' he hw hg hg.size
      · exact fillIs_3 l many A _ c rfl hlc M _ cm rfl width W hl' hM' (by rw [checkedF, if_neg (by simp [he]), if_neg hw]) hg hg.size
    · exact fillIs_1 l A _ c rfl M _ cm width W hl' he hg hg.size
  refine walk.mono fun e W' ⟨he, hb⟩ => ?_
  subst he
  exact ⟨_, rfl, law_post hW' rfl rfl rfl Tryd.underlying4 laidOut (by kernel_rfl) hb⟩

theorem row : Rows.FillIsSaid :=
  OpenClaim.holds_of_wide 6 Tryd.f6 rfl rfl rfl rfl rfl rfl rfl ⟨rfl, rfl, rfl, rfl, rfl⟩ rfl rfl rfl rfl rfl (by kernel_rfl) Tryd.func6 (by kernel_rfl)
    (of_decide_eq_true (by kernel_rfl)) (by unfold Func.isWrapper; first | (rw [if_pos (by decide +kernel)]; kernel_rfl) | (rw [if_neg (by decide +kernel)]; exact ⟨rfl, rfl⟩))
    (fun os started H enc _ => lifted os started H enc)

theorem proved : Rows.FillIsCardSaid :=
  Claim7.holds_tied_plain_at .later [] _ _ _ _
    row (fun _ h => by cases h) (by kernel_rfl) (fun _ h => by cases h) fillIs_row_tie rfl ⟨rfl, rfl⟩ (by kernel_rfl) rfl
    (fun f fn hf hfn => by
      obtain rfl : f = 6 := Option.some.inj ((show Tryd.prog.funcNamed "pargetry/pargetrylaw1.FillIs" = some 6 by kernel_rfl).symm.trans hf) |>.symm
      obtain rfl : fn = Tryd.f6 := (Option.some.inj (Tryd.func6.symm.trans hfn)).symm
      exact ⟨by kernel_rfl, fun j t ht => by
        rw [Tryd.params6] at ht
        have h3 : t = 43 ∨ t = 44 ∨ t = 3 := by simpa using Array.mem_of_getElem? ht
        rcases h3 with rfl | rfl | rfl
        · exact (show Tryd.prog.wantsStandIn 43 = false by kernel_rfl)
        · exact (show Tryd.prog.wantsStandIn 44 = false by kernel_rfl)
        · exact (show Tryd.prog.wantsStandIn 3 = false by kernel_rfl)⟩)
    (by kernel_rfl)
#print axioms proved
end Go.Proofs.YtddfdmopaeghnaaDoor.fillIs
