/- Proved: the law BestParts returns true and leaves its arguments as they were, for every input. No condition. -/
import Derived.Test.YtddfdmopaeghnabLawNd
import Derived.Test.YtddfdmopaeghnabOfE
import Derived.Test.YtddfdmopaeghnabBestPartsW
namespace Go.Proofs.Ytddfdmopaeghnab.bestParts
open Go.ChangeShapes Go.WideShapes Go.ChangeAt Go.RowKit

theorem bytesNode : Try.prog.bytesOf 31 = 32 := by kernel_rfl

set_option maxRecDepth 100000 in
theorem lifted (os : Os) (started : os.Started) (H : Type) (enc : TypeId × Value → H) :
    ReturnsInHanded {} Try.checked os 4 .any (Rows.bestPartsSpec.pre6 enc Try.prog Try.f4 Rows.bestPartsRow.domain false) (Rows.bestPartsSpec.post enc Try.prog Try.f4 false true false false) := by
  refine returnsInHanded_of_change_sized (C := Try.checked) own started (by kernel_rfl) Try.func4
    (ChangeSpec.witness6 (enc := enc) (C := Try.checked) false ⟨#[], #[.slice none 0 0, .slice none 0 0, .int .i64 0], []⟩ 8 (by kernel_rfl) (by kernel_rfl) (by kernel_rfl) (by kernel_rfl)) ?_
  intro W base args ds gs before hval0 hW hcnd hz _
  have hval : ∀ (j : Nat) t v, Try.f4.params[j]? = some t → args[j]? = some v → Value.okWide Try.prog W .any base t v := hval0
  have hW' := hW
  have hlt : ∀ x ∈ before, x.block < W.heap.size := fun x hx => hW.lt x hx
  obtain ⟨p, q, hA0, hV, rfl, hfz, hnd⟩ := hW
  have hA : DataW.TrodAll enc Try.prog W 0 (fun _ => true) true Try.f4.params.toList args.toList ds p := hA0
  rw [Try.params4] at hA hval hz
  obtain ⟨v0, v1, v2, d0, d1, d2, p0, p1, p2, hargs, rfl, rfl, h0, h1, h2⟩ := trodAll_three hA
  obtain ⟨rfl, rfl⟩ := trodVars_none hV
  obtain rfl : args = #[v0, v1, v2] := by cases args; simp_all
  obtain ⟨A, c, a, rfl, na, _⟩ := open_nodes (hval 0 _ v0 rfl rfl) h0 (fun x hx => hlt x (by simp [hx]))
  obtain ⟨B, d, b, rfl, nb, _, hbd, _⟩ := open_nodes (hval 1 _ v1 rfl rfl) h1 (fun x hx => hlt x (by simp [hx]))
  obtain ⟨k, rfl, rfl, rfl, wk⟩ := open_int Try.underlying3 (hval 2 _ v2 rfl rfl) h2
  have hb62 : b.length ≤ 4611686018427387904 := by
    rcases hbd with rfl | ⟨elems, spare, rfl, hel⟩
    · obtain ⟨A', n', c', css, hv', hn', _, _, _, _, hall⟩ := open_sl Try.underlying22 cellsNode (by omega) (hval 1 _ _ rfl rfl) h1 (fun x hx => hlt x (by simp [hx]))
      injection hv' with _ e2 _
      cases css with
      | nil => simp at hn'; omega
      | cons cs r => obtain ⟨_, _, _, _, _, _, _, hd, _⟩ := hall cs (by simp); cases hd
    · have : (elems.length + spare.length) * Try.prog.bytesOf 31 ≤ reachBytes := sized_slice hz (j := 1) rfl rfl Try.underlying22
      rw [bytesNode] at this
      have := reachBytes_lt
      omega
  refine (bestParts_any (fun l x A c w hl hd => of_from l x A c w hl hd) a b k A B c d W na nb hb62).mono fun e W' ⟨he, hb⟩ => ?_
  subst he
  exact ⟨_, rfl, law_post hW' rfl rfl rfl Try.underlying4 laidOut (by kernel_rfl) hb⟩

theorem proved : Rows.BestPartsSaid :=
  OpenClaim.holds_of_wide 4 Try.f4 rfl rfl rfl rfl rfl rfl rfl ⟨rfl, rfl, rfl, rfl, rfl⟩ rfl rfl rfl rfl rfl (by kernel_rfl) Try.func4 (by kernel_rfl)
    (of_decide_eq_true (by kernel_rfl)) (by unfold Func.isWrapper; first | (rw [if_pos (by decide +kernel)]; kernel_rfl) | (rw [if_neg (by decide +kernel)]; exact ⟨rfl, rfl⟩))
    (fun os started H enc _ => lifted os started H enc)
#print axioms proved
end Go.Proofs.Ytddfdmopaeghnab.bestParts
