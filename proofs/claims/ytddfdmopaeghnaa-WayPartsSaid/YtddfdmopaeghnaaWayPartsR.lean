/- Proved: the law WayParts returns true and leaves its arguments as they were, for every input. No condition. -/
import Derived.Test.YtddfdmopaeghnaaLawNd
import Derived.Test.YtddfdmopaeghnaaOfE
import Derived.Test.YtddfdmopaeghnaaWayPartsW
namespace Go.Proofs.Ytddfdmopaeghnaa.wayParts
open Go.ChangeShapes Go.WideShapes Go.ChangeAt Go.RowKit

theorem bytesNode : Try.prog.bytesOf 32 = 32 := by kernel_rfl

set_option maxRecDepth 100000 in
theorem lifted (os : Os) (started : os.Started) (H : Type) (enc : TypeId × Value → H) :
    ReturnsInHanded {} Try.checked os 6 .any (Rows.wayPartsSpec.pre6 enc Try.prog Try.f6 Rows.wayPartsRow.domain false) (Rows.wayPartsSpec.post enc Try.prog Try.f6 false true false false) := by
  refine returnsInHanded_of_change_sized (C := Try.checked) own started (by kernel_rfl) Try.func6
    (ChangeSpec.witness6 (enc := enc) (C := Try.checked) false ⟨#[], #[.slice none 0 0, .slice none 0 0, .slice none 0 0, .slice none 0 0, .int .i64 0], []⟩ 8 (by kernel_rfl) (by kernel_rfl) (by kernel_rfl) (by kernel_rfl)) ?_
  intro W base args ds gs before hval0 hW hcnd hz _
  have hval : ∀ (j : Nat) t v, Try.f6.params[j]? = some t → args[j]? = some v → Value.okWide Try.prog W .any base t v := hval0
  have hW' := hW
  have hlt : ∀ x ∈ before, x.block < W.heap.size := fun x hx => hW.lt x hx
  obtain ⟨p, q, hA0, hV, rfl, hfz, hnd⟩ := hW
  have hA : DataW.TrodAll enc Try.prog W 0 (fun _ => true) true Try.f6.params.toList args.toList ds p := hA0
  rw [Try.params6] at hA hval hz
  obtain ⟨v0, vs1, d0, ds1, p0, q0, hargs, rfl, rfl, h0, hA1⟩ := trodAll_cons hA
  obtain ⟨v1, vs2, d1, ds2, p1, q1, rfl, rfl, rfl, h1, hA2⟩ := trodAll_cons hA1
  obtain ⟨v2, vs3, d2, ds3, p2, q2, rfl, rfl, rfl, h2, hA3⟩ := trodAll_cons hA2
  obtain ⟨v3, vs4, d3, ds4, p3, q3, rfl, rfl, rfl, h3, hA4⟩ := trodAll_cons hA3
  obtain ⟨v4, vs5, d4, ds5, p4, q4, rfl, rfl, rfl, h4, hA5⟩ := trodAll_cons hA4
  obtain ⟨rfl, rfl, rfl⟩ := trodAll_nil hA5
  obtain ⟨rfl, rfl⟩ := trodVars_none hV
  obtain rfl : args = #[v0, v1, v2, v3, v4] := by cases args; simp_all
  obtain ⟨A, c, a, rfl, na, _⟩ := open_nodes (hval 0 _ v0 rfl rfl) h0 (fun x hx => hlt x (by simp [hx]))
  obtain ⟨U, cu, u, rfl, hU, hcu, hum, _⟩ := open_nums Try.underlying35 Try.underlying3 (by kernel_rfl) (hval 1 _ v1 rfl rfl) h1 (fun x hx => hlt x (by simp [hx]))
  obtain ⟨B, d, b, rfl, nb, _, hbd, _⟩ := open_nodes (hval 2 _ v2 rfl rfl) h2 (fun x hx => hlt x (by simp [hx]))
  obtain ⟨V, cv, v, rfl, hV', hcv, hvm, _⟩ := open_nums Try.underlying35 Try.underlying3 (by kernel_rfl) (hval 3 _ v3 rfl rfl) h3 (fun x hx => hlt x (by simp [hx]))
  obtain ⟨k, rfl, rfl, rfl, wk⟩ := open_int Try.underlying3 (hval 4 _ v4 rfl rfl) h4
  have hb62 : b.length ≤ 4611686018427387904 := by
    rcases hbd with rfl | ⟨elems, spare, rfl, hel⟩
    · obtain ⟨A', n', c', css, hv', hn', _, _, _, _, hall⟩ := open_sl Try.underlying25 cellsNode (by omega) (hval 2 _ _ rfl rfl) h2 (fun x hx => hlt x (by simp [hx]))
      injection hv' with _ e2 _
      cases css with
      | nil => simp at hn'; omega
      | cons cs r => obtain ⟨_, _, _, _, _, _, _, hd, _⟩ := hall cs (by simp); cases hd
    · have : (elems.length + spare.length) * Try.prog.bytesOf 32 ≤ reachBytes := sized_slice hz (j := 2) rfl rfl Try.underlying25
      rw [bytesNode] at this
      have := reachBytes_lt
      omega
  refine (wayParts_any (fun l x A c w hl hd => of_any l x A c w hl hd) a b u v k A U B V c cu d cv W na ⟨hU, hum⟩ nb ⟨hV', hvm⟩ hcu hcv hb62).mono fun e W' ⟨he, hb⟩ => ?_
  subst he
  exact ⟨_, rfl, law_post hW' rfl rfl rfl Try.underlying4 laidOut (by kernel_rfl) hb⟩

theorem proved : Rows.WayPartsSaid :=
  OpenClaim.holds_of_wide 6 Try.f6 rfl rfl rfl rfl rfl rfl rfl ⟨rfl, rfl, rfl, rfl, rfl⟩ rfl rfl rfl rfl rfl (by kernel_rfl) Try.func6 (by kernel_rfl)
    (of_decide_eq_true (by kernel_rfl)) (by unfold Func.isWrapper; first | (rw [if_pos (by decide +kernel)]; kernel_rfl) | (rw [if_neg (by decide +kernel)]; exact ⟨rfl, rfl⟩))
    (fun os started H enc _ => lifted os started H enc)
#print axioms proved
end Go.Proofs.Ytddfdmopaeghnaa.wayParts
