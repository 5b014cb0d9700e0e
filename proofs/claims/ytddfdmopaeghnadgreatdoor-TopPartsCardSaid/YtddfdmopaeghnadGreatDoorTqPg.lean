/- What every law's row wants: arguments read as before behind a call that leaves old memory as it was; slices of nodes, of texts, of numbers opened. With what it rests on. Conditions: as each theorem states them. -/
import Derived.Test.YtddfdmopaeghnadGreatDoorRows
import Derived.Test.YtddfdmopaeghnadGreatDoorMem
import Derived.ProofKit
import Derived.Deep.Slices
import Derived.SizedLaws
import Derived.Test.YtddfdmopaeghnadGreatDoorDocW
import Derived.WalkKit
import Derived.LaidEql
import Derived.Stop.Asserts
import Derived.RowKitTokens
import Derived.WalkSpells
import Derived.WalkLawsBesides
import Derived.ChangeSame
import Derived.ChangeVars
import Derived.JoinedOf
import Derived.RowKit
import Derived.LaidLaws
import Derived.LaidHandle
import Derived.Stop.Joined
import Derived.Test.YtddfdmopaeghnadGreatDoorTqSy
import Derived.Lib.LaidTab
import Derived.Lib.TrailingZeros
import Derived.Lib.ItoaNum
import Derived.Test.YtddfdmopaeghnadGreatDoorTqTr
import Derived.Deep.DeepHandedRow
import Derived.Shelf.Vars
import Derived.Test.YtddfdmopaeghnadGreatDoorTqPs
import Derived.Test.YtddfdmopaeghnadGreatDoorTqBe
namespace Go.Proofs.YtddfdmopaeghnadGreatDoor
open Go.ChangeShapes Go.WideShapes Go.ChangeAt Go.RowKit Go.Deep
theorem own : ownKnob Tryz.prog.godebug = none := by kernel_rfl
theorem laidOut : laidOutB Tryz.prog = true := by kernel_rfl
section
variable {H : Type} {enc : TypeId × Value → H} {P : Program}
theorem trodAll_stay (hl : laidOutB P = true) {W W' : World} (hb : Below W.heap.size W W') {sp : Nat → Bool} :
  ∀ {ts : List TypeId} {vs : List Value} {ds : List (DataW H)} {p : List MemPlace}, (∀ t ∈ ts, P.readableRec t = true ∧ t < P.types.size) →
   DataW.TrodAll enc P W 0 (fun _ => true) true ts vs ds p → (∀ x ∈ p, x.block < W.heap.size) → (∀ x ∈ p, sp x.block = true) → DataW.TrodAll enc P W' 0 sp true ts vs ds p
 | [], _, _, _, _, h, _, _ => by
  obtain ⟨rfl, rfl, rfl⟩ := trodAll_nil h
  exact h
 | t :: ts, _, _, _, hr, h, hlt, hsp => by
  obtain ⟨v, vs1, d, ds1, a, b, rfl, rfl, rfl, h1, h2⟩ := trodAll_cons h
  obtain ⟨r1, r2⟩ := hr t (by simp)
  exact ⟨a, b, WideElems.Trod_stays hl r1 r2 h1 (fun x hx => hb.same (hlt x (List.mem_append_left _ hx))) (fun x hx => hsp x (List.mem_append_left _ hx)),
   trodAll_stay hl hb (fun t ht => hr t (by simp [ht])) h2 (fun x hx => hlt x (List.mem_append_right _ hx)) (fun x hx => hsp x (List.mem_append_right _ hx)), rfl⟩
theorem law_post {f : Func} {s : ChangeSpec} {W W' : World} {args : Array Value} {ds gs : List (DataW H)} {before : List MemPlace} {t : TypeId}
  (hW : DataW.Whole enc P f.params.toList s.vars false W args.toList ds gs before) (hv : s.vars = [])
  (hfn : s.fn H (ds ++ []) = { results := [.lit (.bool true)], args := ds }) (hres : f.resultTypes = #[t]) (ht : P.underlying t = some .bool)
  (hl : laidOutB P = true) (hr : (f.params.toList.all fun t => P.readableRec t && decide (t < P.types.size)) = true) (hb : Below W.heap.size W W') :
  s.post enc P f false true false false W args (.bool true) W' := by
 have hW0 := hW
 have hlt : ∀ x ∈ before, x.block < W.heap.size := fun x hx => hW.lt x hx
 obtain ⟨p, q, hA, hV, rfl, hfz, hnd⟩ := hW
 rw [hv] at hV
 obtain ⟨rfl, rfl⟩ := trodVars_none hV
 have hr' : ∀ t ∈ f.params.toList, P.readableRec t = true ∧ t < P.types.size := fun t ht => by
  have := List.all_eq_true.1 hr t ht
  simpa using this
 refine ⟨ds, [], p ++ [], [], p, [], hW0, ?_, ?_, ?_, hb.frame _, fun h => by cases h⟩
 ·rw [hfn, hres]
  exact trodAll_mk1 (shut_bool ht true)
 ·rw [hfn]
  refine trodAll_stay hl hb hr' hA (fun x hx => hlt x (by simpa using hx)) (fun x hx => by simpa using hlt x (by simpa using hx))
 ·rw [hfn, hv]
  exact rfl
end
end Go.Proofs.YtddfdmopaeghnadGreatDoor
namespace Go.Proofs.YtddfdmopaeghnadGreatDoor
open Go.RowKit Go.Extern.Stop Go.Stop Go.Extern
theorem asx_valueOf27 (t : Addr) (w : World) : (ReflectliteValue.unpack (.iface 117 (.pointer (some t)))).run Tryz.prog w
  = .ok (.agg #[.pointer (some ⟨9, 117, none⟩), .pointer (some ⟨w.heap.size, 0, none⟩), .int .u64 150]) (w.alloc (.cells #[.pointer (some t)] 117)) := by kernel_rfl
theorem asx_type27 (a : Addr) (w : World) : (ReflectliteValue.methodAny (ReflectliteValue.valueError "reflectlite.Value.Type" 0) (fun t _ _ _ => ReflectliteType.toType t) #[.agg #[.pointer (some ⟨9, 117, none⟩), .pointer (some a), .int .u64 150]]).run Tryz.prog w
  = .ok (.iface 249 (.agg #[.pointer (some ⟨9, 117, none⟩)])) w := by kernel_rfl
theorem asx_methodKind (h : Value) (w : World) : (Go.method 459 249 (.agg #[h]) "Kind").run Tryz.prog w = .ok (257, h) w := by kernel_rfl
theorem asx_kind27 (w : World) : ((ReflectliteType.abiMethod fun t => (fun a : Nat => Value.int IntKind.u8 (a : Int)) <$> Rtype.kind t) #[.pointer (some ⟨9, 117, none⟩)]).run Tryz.prog w = .ok (.int .u8 22) w := by kernel_rfl
theorem asx_kind25 (w : World) : ((ReflectliteType.abiMethod fun t => (fun a : Nat => Value.int IntKind.u8 (a : Int)) <$> Rtype.kind t) #[.pointer (some ⟨9, 24, none⟩)]).run Tryz.prog w = .ok (.int .u8 2) w := by kernel_rfl
theorem rlm (z : Sem Value) (f : TypeId → Addr → Nat → Nat → Sem Value) (v : Value) :
  ReflectliteValue.method z f #[v] = (do match ← ReflectliteValue.parts v with | none => z | some (t, a, fl) => f t a fl (fl % 32)) := rfl
theorem asx_parts27 (a : Addr) (w : World) : (ReflectliteValue.parts (.agg #[.pointer (some ⟨9, 117, none⟩), .pointer (some a), .int .u64 150])).run Tryz.prog w = .ok (some (117, a, 150)) w := by kernel_rfl
theorem asx_isNil27 (a p : Addr) (W : World) (ha : W.cell? a = some (.pointer (some p))) :
  (ReflectliteValue.method (ReflectliteValue.valueError "reflectlite.Value.IsNil" 0) ReflectliteValue.isNil #[.agg #[.pointer (some ⟨9, 117, none⟩), .pointer (some a), .int .u64 150]]).run Tryz.prog W = .ok (.bool false) W := by
 rw [rlm]
 simp only [Sem.run_bind, asx_parts27, Result.andThen]
 simp [ReflectliteValue.isNil, loadVar, isAgg, underlying, Tryz.underlying117, ha, Result.andThen]
theorem asx_methodElem (h : Value) (w : World) : (Go.method 459 249 (.agg #[h]) "Elem").run Tryz.prog w = .ok (266, .agg #[h]) w := by kernel_rfl
theorem asx_methodImplements (h : Value) (w : World) : (Go.method 459 249 (.agg #[h]) "Implements").run Tryz.prog w = .ok (267, .agg #[h]) w := by kernel_rfl
theorem asx_methodAssignableTo (h : Value) (w : World) : (Go.method 459 249 (.agg #[h]) "AssignableTo").run Tryz.prog w = .ok (264, .agg #[h]) w := by kernel_rfl
theorem asx_elem27 (w : World) : (ReflectliteType.method ReflectliteType.elem #[.agg #[.pointer (some ⟨9, 117, none⟩)]]).run Tryz.prog w = .ok (.iface 249 (.agg #[.pointer (some ⟨9, 24, none⟩)])) w := by kernel_rfl
theorem asx_implements25 (w : World) : (ReflectliteType.relation "Implements" ReflectliteType.implements_ #[.agg #[.pointer (some ⟨9, 24, none⟩)], .iface 249 (.agg #[.pointer (some ⟨9, 27, none⟩)])]).run Tryz.prog w = .ok (.bool true) w := by kernel_rfl
theorem asx_typeOf25 (v : Value) (w : World) : (ReflectliteType.typeOf #[.iface 24 v]).run Tryz.prog w = .ok (.iface 249 (.agg #[.pointer (some ⟨9, 24, none⟩)])) w := by kernel_rfl
theorem asx_assignable25 (w : World) : (ReflectliteType.relation "AssignableTo" ReflectliteType.assignableTo #[.agg #[.pointer (some ⟨9, 24, none⟩)], .iface 249 (.agg #[.pointer (some ⟨9, 24, none⟩)])]).run Tryz.prog w = .ok (.bool true) w := by kernel_rfl
theorem asx_valueOf25 (k : Int) (w : World) : (ReflectliteValue.unpack (.iface 24 (.int .i64 k))).run Tryz.prog w
  = .ok (.agg #[.pointer (some ⟨9, 24, none⟩), .pointer (some ⟨w.heap.size, 0, none⟩), .int .u64 130]) (w.alloc (.cells #[.int .i64 k] 24)) := by kernel_rfl
theorem asx_elemOf27 (w : World) : (Rtype.elem? 117).run Tryz.prog w = .ok (some 24) w := by kernel_rfl
theorem asx_mk25 (p : Addr) (w : World) : (ReflectliteValue.mk 24 p ReflectliteValue.flagAddr).run Tryz.prog w = .ok (.agg #[.pointer (some ⟨9, 24, none⟩), .pointer (some p), .int .u64 386]) w := by kernel_rfl
theorem asx_elemV27 (a p : Addr) (W : World) (ha : W.cell? a = some (.pointer (some p))) :
  (ReflectliteValue.method (ReflectliteValue.valueError "reflectlite.Value.Elem" 0) ReflectliteValue.elem #[.agg #[.pointer (some ⟨9, 117, none⟩), .pointer (some a), .int .u64 150]]).run Tryz.prog W
   = .ok (.agg #[.pointer (some ⟨9, 24, none⟩), .pointer (some p), .int .u64 386]) W := by
 rw [rlm]
 simp only [Sem.run_bind, asx_parts27, Result.andThen]
 simp [ReflectliteValue.elem, loadVar, isAgg, underlying, Tryz.underlying117, ha, Result.andThen, asx_elemOf27, asx_mk25]
theorem rls (v x : Value) : ∃ (s1 s2 s3 s4 s5 : String), ReflectliteValue.set #[v, x] = (do
  let (some (dst, a, fl), some (src, b, _)) := (← ReflectliteValue.parts v, ← ReflectliteValue.parts x)
   | unsupported (.noEntry s1)
  if fl / ReflectliteValue.flagAddr % 2 == 0 then unsupported (.noEntry s2)
  let val ← loadVar src b
  if ← Rtype.directlyAssignable dst src then storeVar dst a val
  else if ← Rtype.implements dst src then
   if (← Rtype.kind src) == 20 then
    match val with
    | .nilIface => unsupported (.noEntry s3)
    | _ => storeVar dst a val
   else storeVar dst a (.iface src val)
  else panicString (s4 ++ (← Rtype.spelt src) ++ s5 ++ (← Rtype.spelt dst))
  pure (.tuple #[])) := ⟨_, _, _, _, _, rfl⟩
theorem asx_parts25a (a : Addr) (w : World) : (ReflectliteValue.parts (.agg #[.pointer (some ⟨9, 24, none⟩), .pointer (some a), .int .u64 386])).run Tryz.prog w = .ok (some (24, a, 386)) w := by kernel_rfl
theorem asx_parts25 (a : Addr) (w : World) : (ReflectliteValue.parts (.agg #[.pointer (some ⟨9, 24, none⟩), .pointer (some a), .int .u64 130])).run Tryz.prog w = .ok (some (24, a, 130)) w := by kernel_rfl
theorem asx_direct25 (w : World) : (Rtype.directlyAssignable 24 24).run Tryz.prog w = .ok true w := by kernel_rfl
theorem asx_set25 (ta b : Addr) (k : Int) (old : Value) (W : World) (hb : W.cell? b = some (.int .i64 k)) (ht : W.cell? ta = some old) (hf : W.frozen? ta = false) :
  (ReflectliteValue.set #[.agg #[.pointer (some ⟨9, 24, none⟩), .pointer (some ta), .int .u64 386], .agg #[.pointer (some ⟨9, 24, none⟩), .pointer (some b), .int .u64 130]]).run Tryz.prog W
   = .ok (.tuple #[]) (W.setCell ta (.int .i64 k)) := by
 obtain ⟨s1, s2, s3, s4, s5, hz⟩ := rls (.agg #[.pointer (some ⟨9, 24, none⟩), .pointer (some ta), .int .u64 386]) (.agg #[.pointer (some ⟨9, 24, none⟩), .pointer (some b), .int .u64 130])
 rw [hz]
 simp only [Sem.run_bind, asx_parts25a, asx_parts25, Result.andThen]
 simp [ReflectliteValue.flagAddr, loadVar, isAgg, underlying, Tryz.underlying24, hb, Result.andThen, asx_direct25, storeVar, Value.cells, storeCells, Addr.add]
 rw [run_store Tryz.prog W ta _ _ (by rfl)]
 simp [ht, hf]
set_option maxHeartbeats 4000000 in
theorem as_hit (k : Int) (t : Addr) (old : Value) (w : World) (hg : w.cell? ⟨0, 0, none⟩ = some (.iface 249 (.agg #[.pointer (some ⟨9, 27, none⟩)]))) (ht0 : w.cell? t = some old) (hf0 : w.frozen? t = false) :
  Calls Tryz.prog 49 #[.iface 24 (.int .i64 k), .iface 117 (.pointer (some t))] w fun ev w' => ev = .returned (.bool true) ∧ w' = ((((w.alloc (.cells #[.pointer (some t)] 117)).alloc (.cells #[.pointer (some ⟨9, 117, none⟩), .pointer (some ⟨w.heap.size, 0, none⟩), .int .u64 150] 179)).alloc (.cells #[.pointer (some ⟨9, 117, none⟩), .pointer (some ⟨w.heap.size, 0, none⟩), .int .u64 150] 179)).alloc (.cells #[.int .i64 k] 24)).setCell t (.int .i64 k) := by
 have h6 := @run_callFunc_extern Tryz.prog 92 _ (fun args => ReflectliteValue.unpack (args.getD 0 (.tuple #[]))) Tryz.func92 (by kernel_rfl) (by kernel_rfl) (by kernel_rfl) (by kernel_rfl)
 have h7 := @run_callFunc_extern Tryz.prog 93 _ (ReflectliteValue.methodAny (ReflectliteValue.valueError "reflectlite.Value.Type" 0) (fun t _ _ _ => ReflectliteType.toType t)) Tryz.func93 (by kernel_rfl) (by kernel_rfl) (by kernel_rfl) (by kernel_rfl)
 have h8 := @run_callFunc_extern Tryz.prog 94 _ (ReflectliteValue.method (ReflectliteValue.valueError "reflectlite.Value.IsNil" 0) ReflectliteValue.isNil) Tryz.func94 (by kernel_rfl) (by kernel_rfl) (by kernel_rfl) (by kernel_rfl)
 have h27 := @run_callFunc_extern Tryz.prog 257 _ (ReflectliteType.abiMethod fun t => do pure (.int .u8 (← Rtype.kind t))) Tryz.func257 (by kernel_rfl) (by kernel_rfl) (by kernel_rfl) (by kernel_rfl)
 have h37 := @run_callFunc_extern Tryz.prog 266 _ (ReflectliteType.method ReflectliteType.elem) Tryz.func266 (by kernel_rfl) (by kernel_rfl) (by kernel_rfl) (by kernel_rfl)
 have h38 := @run_callFunc_extern Tryz.prog 267 _ (ReflectliteType.relation "Implements" ReflectliteType.implements_) Tryz.func267 (by kernel_rfl) (by kernel_rfl) (by kernel_rfl) (by kernel_rfl)
 have h10 := @run_callFunc_extern Tryz.prog 164 _ ReflectliteType.typeOf Tryz.func164 (by kernel_rfl) (by kernel_rfl) (by kernel_rfl) (by kernel_rfl)
 have h35 := @run_callFunc_extern Tryz.prog 264 _ (ReflectliteType.relation "AssignableTo" ReflectliteType.assignableTo) Tryz.func264 (by kernel_rfl) (by kernel_rfl) (by kernel_rfl) (by kernel_rfl)
 have h11 := @run_callFunc_extern Tryz.prog 165 _ (ReflectliteValue.method (ReflectliteValue.valueError "reflectlite.Value.Elem" 0) ReflectliteValue.elem) Tryz.func165 (by kernel_rfl) (by kernel_rfl) (by kernel_rfl) (by kernel_rfl)
 have h12 := @run_callFunc_extern Tryz.prog 166 _ ReflectliteValue.set Tryz.func166 (by kernel_rfl) (by kernel_rfl) (by kernel_rfl) (by kernel_rfl)
 have tO := asx_typeOf25
 have mA := asx_methodAssignableTo
 have a25 := asx_assignable25
 have v25 := asx_valueOf25
 have f6 := asx_valueOf27
 have f7 := asx_type27
 have mK := asx_methodKind
 have mE := asx_methodElem
 have mI := asx_methodImplements
 have k27 := asx_kind27
 have k25 := asx_kind25
 have e27 := asx_elem27
 have i25 := asx_implements25
 have n8 := asx_isNil27 ⟨w.heap.size, 0, none⟩ t ((w.alloc (.cells #[.pointer (some t)] 117)).alloc (.cells #[.pointer (some ⟨9, 117, none⟩), .pointer (some ⟨w.heap.size, 0, none⟩), .int .u64 150] 179)) (by simp)
 have hlt : 0 < w.heap.size := by
  rcases Nat.eq_zero_or_pos w.heap.size with h0 | h
  ·simp [World.cell?, h0] at hg
  ·exact h
 have hg2 : ((w.alloc (.cells #[.pointer (some t)] 117)).alloc (.cells #[.pointer (some ⟨9, 117, none⟩), .pointer (some ⟨w.heap.size, 0, none⟩), .int .u64 150] 179)).cell? ⟨0, 0, none⟩ = some (.iface 249 (.agg #[.pointer (some ⟨9, 27, none⟩)])) := by
  rw [World.cell?_alloc_lt _ _ ⟨0, 0, none⟩ (by simp), World.cell?_alloc_lt _ _ ⟨0, 0, none⟩ hlt]; exact hg
 have htl : t.block < w.heap.size := by
  rcases Nat.lt_or_ge t.block w.heap.size with h | h
  ·exact h
  ·simp [World.cell?, Array.getElem?_eq_none h] at ht0
 have el := asx_elemV27 ⟨w.heap.size, 0, none⟩ t (((w.alloc (.cells #[.pointer (some t)] 117)).alloc (.cells #[.pointer (some ⟨9, 117, none⟩), .pointer (some ⟨w.heap.size, 0, none⟩), .int .u64 150] 179)).alloc (.cells #[.pointer (some ⟨9, 117, none⟩), .pointer (some ⟨w.heap.size, 0, none⟩), .int .u64 150] 179)) (by rw [World.cell?_alloc_lt _ _ ⟨w.heap.size, 0, none⟩ (by simp; omega)]; simp)
 have st := asx_set25 t ⟨w.heap.size + 1 + 1 + 1, 0, none⟩ k old ((((w.alloc (.cells #[.pointer (some t)] 117)).alloc (.cells #[.pointer (some ⟨9, 117, none⟩), .pointer (some ⟨w.heap.size, 0, none⟩), .int .u64 150] 179)).alloc (.cells #[.pointer (some ⟨9, 117, none⟩), .pointer (some ⟨w.heap.size, 0, none⟩), .int .u64 150] 179)).alloc (.cells #[.int .i64 k] 24))
  (by rw [World.cell?_alloc_at _ _ _ _ (by simp)]; rfl)
  (by rw [World.cell?_alloc_lt _ _ t (by simp; omega), World.cell?_alloc_lt _ _ t (by simp; omega), World.cell?_alloc_lt _ _ t (by simp; omega), World.cell?_alloc_lt _ _ t htl]; exact ht0)
  (by rw [World.frozen?_alloc_old _ _ t (by simp; omega), World.frozen?_alloc_old _ _ t (by simp; omega), World.frozen?_alloc_old _ _ t (by simp; omega), World.frozen?_alloc_old _ _ t (Nat.ne_of_lt htl)]; exact hf0)
 go_enter Tryz.func49, Tryz.ntmps49
 go_wp2
 refine wp_loop_rounds 1 ?_
 rw [rounds_succ]
 go_wp2
 go_ret
 exact ⟨rfl, rfl⟩
end Go.Proofs.YtddfdmopaeghnadGreatDoor
namespace Go.Proofs.YtddfdmopaeghnadGreatDoor
open Go.RowKit
def ErrT (w : World) : Prop := w.cell? ⟨0, 0, none⟩ = some (.iface 249 (.agg #[.pointer (some ⟨9, 27, none⟩)]))
set_option maxHeartbeats 1000000 in
theorem told_nil (w : World) : Calls Tryz.prog 24 #[.nilIface] w fun e w' => e = .returned (.int .i64 0) ∧ w = w' := by
 go_enter Tryz.func24, Tryz.ntmps24
 go_wp2_with fail
 go_ret
 exact ⟨rfl, rfl⟩
set_option maxHeartbeats 1000000 in
theorem told_hit (k : Int) (w : World) (hg : ErrT w) (hs : 0 + 1 ≤ w.heap.size) : Calls Tryz.prog 24 #[.iface 24 (.int .i64 k)] w (Ret w (.int .i64 k)) := by
 have hlt : (0 : Nat) < w.heap.size := by omega
 go_enter Tryz.func24, Tryz.ntmps24
 have hg2 : (w.alloc (.cells #[.int .i64 0] 24)).cell? ⟨0, 0, none⟩ = some (.iface 249 (.agg #[.pointer (some ⟨9, 27, none⟩)])) := by
  rw [World.cell?_alloc_lt _ _ ⟨0, 0, none⟩ hlt]; exact hg
 have HG := Lib.hid hg2; clear hg2 hg
 go_wp2_with (go_at_call 49; refine (as_hit k ⟨w.heap.size, 0, none⟩ (.int .i64 0) _ HG.out (by simp) (by simp)).mono ?_; rintro e w1 ⟨rfl, rfl⟩)
 go_ret
 exact ⟨rfl, (by repeat (first | exact Below.refl _ _ | assumption | apply Below.drew | refine below_drewN ?_ _ | apply Below.setCell _ (by first | omega | (simp; done) | (simp; omega)) | apply Below.alloc _ (by first | omega | (simp; done) | (simp; omega))))⟩
theorem same_error (n e : Int) (w : World) (hg : ErrT w) (hs : 0 + 1 ≤ w.heap.size) : Calls Tryz.prog 9 #[errV n, .int .i64 e] w (Ret w (.bool (n == e))) := by
 by_cases hn : n = 0
 ·subst hn
  rw [← errV_zero rfl]
  clear hg
  by_cases he : e = 0
  ·subst he
   go_enter Tryz.func9, Tryz.ntmps9
   go_wp2_with (go_at_call 24; refine (told_nil _).mono ?_; rintro e w1 ⟨rfl, rfl⟩)
   go_ret
   exact ⟨by simp, Below.refl _ _⟩
  ·have h0 : ((0 : Int) == e) = false := by simp; omega
   have H0 := Lib.hid h0
   go_enter Tryz.func9, Tryz.ntmps9
   go_wp2_with (go_at_call 24; refine (told_nil _).mono ?_; rintro e w1 ⟨rfl, rfl⟩)
   go_ret
   exact ⟨by rw [H0.out]; rfl, Below.refl _ _⟩
 ·rw [← errV_pos hn]
  have HG := Lib.hid hg; clear hg
  clear hn
  go_enter Tryz.func9, Tryz.ntmps9
  go_wp2_with (go_at_call 24; refine (told_hit n _ HG.out hs).mono ?_; rintro e w1 ⟨rfl, hB1⟩)
  go_ret
  exact ⟨rfl, hB1⟩
end Go.Proofs.YtddfdmopaeghnadGreatDoor
namespace Go.Proofs.YtddfdmopaeghnadGreatDoor
open Go.RowKit
theorem ErrT.past {w w' : World} (h : ErrT w) (hs : 0 + 1 ≤ w.heap.size) (hb : Below w.heap.size w w') : ErrT w' :=
 (hb.cell (p := ⟨0, 0, none⟩) (Nat.lt_of_lt_of_le (by decide) hs)).trans h
theorem Below.next {a b c : World} (h : Below a.heap.size a b) (h2 : Below b.heap.size b c) : Below a.heap.size a c := h.trans (h2.mono h.size)
theorem ErrT.drew {w : World} (h : ErrT w) : ErrT w.drew := h
theorem error_same (k : Int) (hk : k ≠ 0) (w : World) (hg : ErrT w) (hs : 0 + 1 ≤ w.heap.size) : Calls Tryz.prog 9 #[.iface 24 (.int .i64 k), .int .i64 k] w (Ret w (.bool true)) := by
 have h := same_error k k w hg hs
 rw [← errV_pos hk, beq_self_eq_true] at h
 exact h
end Go.Proofs.YtddfdmopaeghnadGreatDoor
namespace Go.Proofs.YtddfdmopaeghnadGreatDoor
open Go.ChangeShapes Go.WideShapes Go.RowKit
theorem etName : Tryz.prog.globalNamed "errors.errorType" = some 0 := by kernel_rfl
theorem rtType : (Tryz.prog.cutTypes.find? (·.1 == "internal/reflectlite.rtype")).map (·.2) = some 249 := by kernel_rfl
theorem oneError : ((List.range 359).filter fun t => Tryz.prog.rowNamed t [101, 114, 114, 111, 114]) = [27] := by kernel_rfl
theorem manyTypes : Tryz.prog.types.size = 359 := by kernel_rfl
theorem errT_of_laid {W : World} (h : laidMetH Tryz.prog [("errors.errorType", Rows.laid_errors_errorType)] W) : ErrT W := by
 have h' : laidMet Tryz.prog [] W ∧ handlesMet Tryz.prog [("errors.errorType", Rows.laid_errors_errorType)] W := h
 obtain ⟨name, u, ty, e1, e2, e3, e4, e5⟩ := h'.2 _ (List.mem_singleton.2 rfl)
 have en : name = [101, 114, 114, 111, 114] := (Option.some.inj e1).symm
 subst en
 obtain rfl := Option.some.inj (rtType.symm.trans e2)
 have hm : ty ∈ (List.range 359).filter fun t => Tryz.prog.rowNamed t [101, 114, 114, 111, 114] := List.mem_filter.2 ⟨List.mem_range.2 (by rw [← manyTypes]; exact e3), e4⟩
 rw [oneError] at hm
 obtain rfl := List.mem_singleton.1 hm
 have hh : typeHandle Tryz.prog 27 = .pointer (some ⟨9, 27, none⟩) := by kernel_rfl
 rw [hh] at e5
 have := World.var?_cell etName e5 0
 simpa [ErrT] using this
theorem ErrT.size {W : World} (h : ErrT W) : 0 + 1 ≤ W.heap.size := by
 rcases Nat.lt_or_ge 0 W.heap.size with h1 | h1
 ·exact h1
 ·unfold ErrT World.cell? at h
  simp [Array.getElem?_eq_none h1] at h
end Go.Proofs.YtddfdmopaeghnadGreatDoor
namespace Go.Proofs.YtddfdmopaeghnadGreatDoor
open Go.ChangeShapes Go.WideShapes Go.RowKit
theorem errT_of_six {l : List (String × DataW Unit)} (hf : l.filter (fun x => x.2.handleName?.isSome) = [("errors.errorType", Rows.laid_errors_errorType)]) {W : World} (h : laidMetH Tryz.prog l W) : ErrT W := by
 refine errT_of_laid ?_
 unfold laidMetH at h ⊢
 rw [hf] at h
 have e2 : ([("errors.errorType", Rows.laid_errors_errorType)] : List (String × DataW Unit)).filter (fun x => x.2.handleName?.isSome) = [("errors.errorType", Rows.laid_errors_errorType)] := rfl
 rw [e2]
 exact ⟨laidMet_nil _ _, h.2⟩
theorem powT_of_six {a b : String × DataW Unit} {l rest : List (String × DataW Unit)} (hf : l.filter (fun x => x.2.handleName?.isSome) = [("errors.errorType", Rows.laid_errors_errorType)])
  (hn : l.filter (fun x => x.2.handleName?.isNone) = a :: b :: ("internal/strconv.uint64pow10", Lib.tabData .u64 Lib.pow10Tab) :: rest) {W : World} (h : laidMetH Tryz.prog l W) : PowT W := by
 unfold laidMetH at h
 rw [hf] at h
 have h1 := h.1
 rw [hn] at h1
 obtain ⟨ps, ⟨_, _, _, _, _, q1, _, _, _, _, ⟨_, _, _, _, _, q2, _, _, _, _, ⟨g', t', cs, fuel, p, q, hg', ht', hvar, hd, _, _⟩, _⟩, _⟩, _⟩ := h1
 have hg : Tryz.prog.globalNamed "internal/strconv.uint64pow10" = some 4 := by kernel_rfl
 obtain rfl := Option.some.inj (hg.symm.trans hg')
 have hty : (Tryz.prog.globals[4]?).map (·.type) = some 315 := by kernel_rfl
 obtain rfl := Option.some.inj (hty.symm.trans ht')
 unfold PowT Lib.TabIs
 rw [hvar, ← Lib.cells_of_tab Tryz.underlying315 Tryz.underlying298 (by kernel_rfl) (by kernel_rfl) hd]
end Go.Proofs.YtddfdmopaeghnadGreatDoor
namespace Go.Proofs.YtddfdmopaeghnadGreatDoor
open Go.RowKit
noncomputable def tabWorld8 (os : Os) : World :=
 let w0 := World.holding Tryz.prog os ⟨#[], #[], []⟩
 let n := w0.heap.size
 { w0 with heap := (((((((((w0.heap.modify 7 fun
   | .cells _ t frozen => .cells (Lib.deBruijn32tab.map fun n : Nat => Value.int .u8 n).toArray t frozen
   | o => o).modify 8 fun
   | .cells _ t frozen => .cells (Lib.deBruijn64tab.map fun n : Nat => Value.int .u8 n).toArray t frozen
   | o => o).modify 4 fun
   | .cells _ t frozen => .cells (Lib.pow10Tab.map fun n : Int => Value.int .u64 n).toArray t frozen
   | o => o).modify 5 fun
   | .cells _ t frozen => .cells (Go.Pinned.utf8FirstZ.map fun n : Nat => Value.int .u8 n).toArray t frozen
   | o => o).modify 6 fun
   | .cells _ t frozen => .cells (([128, 191, 160, 191, 128, 159, 144, 191, 128, 143] ++ List.replicate 22 0).map fun n : Nat => Value.int .u8 n).toArray t frozen
   | o => o).modify 0 fun
   | .cells _ t frozen => .cells #[.iface 249 (.agg #[.pointer (some ⟨9, 27, none⟩)])] t frozen
   | o => o).modify 3 fun
   | .cells _ t frozen => .cells #[.iface 323 (.pointer (some ⟨n, 0, none⟩))] t frozen
   | o => o).modify 2 fun
   | .cells _ t frozen => .cells #[.iface 323 (.pointer (some ⟨n + 1, 0, none⟩))] t frozen
   | o => o).push (.cells #[.string ⟨#[118, 97, 108, 117, 101, 32, 111, 117, 116, 32, 111, 102, 32, 114, 97, 110, 103, 101]⟩] 325 (0, 0))).push (.cells #[.string ⟨#[105, 110, 118, 97, 108, 105, 100, 32, 115, 121, 110, 116, 97, 120]⟩] 325 (0, 0)) }
end Go.Proofs.YtddfdmopaeghnadGreatDoor
namespace Go.Proofs.YtddfdmopaeghnadGreatDoor
open Go.ChangeShapes Go.WideShapes Go.ChangeAt Go.RowKit Go.Deep
theorem maxL_of {W : World} (h : W.ShapedOpen Tryz.prog) : MaxL W := by
 obtain ⟨m, hm⟩ := cell_of_shapedOpen_int (P := Tryz.prog) (g := 1) (t := 3) (zero := #[.int .i64 0]) (k := .i64) h (of_decide_eq_true (by kernel_rfl)) (by kernel_rfl) rfl (by kernel_rfl) (by kernel_rfl) Tryz.underlying3
 refine ⟨?_, m, hm⟩
 rcases Nat.lt_or_ge 1 W.heap.size with h1 | h1
 ·exact h1
 ·unfold World.cell? at hm
  simp [Array.getElem?_eq_none h1] at hm
end Go.Proofs.YtddfdmopaeghnadGreatDoor
namespace Go.Proofs.YtddfdmopaeghnadGreatDoor
open Go.RowKit
def formE (W : Int) : List (List Nd) → Int
 | [] => 0
 | u :: r => if oneQ u W ≠ 0 then oneQ u W else formE W r
def formT (W : Int) : List (List Nd) → ByteArray
 | [] => .empty
 | u :: r => oneX u W ++ formT W r
theorem formT_step (W : Int) {p : List (List Nd)} {k : Nat} {u : List Nd} (hu : p[k]? = some u) : formT W (p.take (k + 1)) = formT W (p.take k) ++ oneX u W := by
 have happ : ∀ a b : List (List Nd), formT W (a ++ b) = formT W a ++ formT W b := fun a b => by
  induction a with
  | nil => simp [formT]
  | cons x r ih => simp [formT, ih, ByteArray.append_assoc]
 rw [List.take_add_one, hu, happ]
 simp [formT]
theorem formE_step (W : Int) {p : List (List Nd)} {k : Nat} {u : List Nd} (hu : p[k]? = some u) (h : formE W (p.drop k) = formE W p) : (oneQ u W ≠ 0 → formE W p = oneQ u W) ∧ (oneQ u W = 0 → formE W (p.drop (k + 1)) = formE W p) := by
 obtain ⟨hk, rfl⟩ := List.getElem?_eq_some_iff.1 hu
 rw [List.drop_eq_getElem_cons hk, formE] at h
 constructor
 ·intro hq; rw [if_pos hq] at h; exact h.symm
 ·intro hq; rw [if_neg (by simpa using hq)] at h; exact h
def fmtF (s : ByteArray) (W : Int) : Int × Nat × ByteArray :=
 if wideF W = false then (1, 0, .empty)
 else if (parseF s).1 ≠ 0 then ((parseF s).1, (parseF s).2.1, .empty)
 else if formE W (parseF s).2.2 ≠ 0 then (formE W (parseF s).2.2, 0, .empty)
 else (0, 0, formT W (parseF s).2.2)
def FmtTo (T : ByteArray) (k : Nat) (v : Value) (w : World) (e : Ending) (w' : World) : Prop := e = .returned (.tuple #[.string T, .int .i64 (k : Nat), v]) ∧ Below w.heap.size w w'
set_option maxRecDepth 100000 in
set_option maxHeartbeats 4000000 in
theorem fmt_bad (s : ByteArray) (W : Int) (w : World) (hs : s.size ≤ maxLen) (hm : MaxL w) (h : wideF W = false ∨ (parseF s).1 ≠ 0) :
  Calls Tryz.prog 20 #[.string s, .int .i64 W] w (FmtTo .empty (fmtF s W).2.1 (.iface 24 (.int .i64 (fmtF s W).1)) w) := by
 have HW := Lib.hid (fun w' => wide_any W w')
 by_cases hw : wideF W = false
 ·have hr : fmtF s W = (1, 0, .empty) := by rw [fmtF, if_pos hw]
  rw [hr]
  rw [hw] at HW
  clear hs hm h hw hr
  go_enter Tryz.func20, Tryz.ntmps20
  go_wp2_with (go_at_call 23; refine (HW.out _).mono ?_; rintro e w1 ⟨rfl, rfl⟩)
  go_ret3
  exact ⟨rfl, Below.refl _ _⟩
 ·have hw1 : wideF W = true := by simpa using hw
  have hf : (parseF s).1 ≠ 0 := by
   rcases h with h | h
   ·exact absurd h hw
   ·exact h
  have hr : fmtF s W = ((parseF s).1, (parseF s).2.1, .empty) := by rw [fmtF, if_neg hw, if_pos hf]
  rw [hr]
  rw [hw1] at HW
  have HP := Lib.hid (parse_bad hf w hs hm)
  generalize parseF s = r at *
  clear hs hm h hw hw1 hr hf
  go_enter Tryz.func20, Tryz.ntmps20
  go_wp2_with (first
   | (go_at_call 23; refine (HW.out _).mono ?_; rintro e w1 ⟨rfl, rfl⟩)
   | (go_at_call 21; refine HP.out.mono ?_; rintro e w2 ⟨A2, c2, rfl, hF, hB⟩; have HB := Lib.hid hB; clear hF hB))
  go_ret3
  exact ⟨rfl, HB.out⟩
set_option maxRecDepth 100000 in
set_option maxHeartbeats 4000000 in
theorem fmt_any (s : ByteArray) (W : Int) (w : World) (hs : s.size ≤ maxLen) (hm : MaxL w) (hp : PowT w) :
  Calls Tryz.prog 20 #[.string s, .int .i64 W] w (FmtTo (fmtF s W).2.2 (fmtF s W).2.1 (errV (fmtF s W).1) w) := by
 by_cases hbad : wideF W = false ∨ (parseF s).1 ≠ 0
 ·have h1 := fmt_bad s W w hs hm hbad
  have h2 : (fmtF s W).2.2 = .empty ∧ (fmtF s W).1 ≠ 0 := by
   unfold fmtF
   split
   ·exact ⟨rfl, by decide⟩
   ·split
    ·rename_i hf; exact ⟨rfl, hf⟩
    ·rename_i hw hf
     rcases hbad with h | h
     ·exact absurd h hw
     ·exact absurd h hf
  rw [h2.1, ← errV_pos h2.2]
  exact h1
 ·have hw : wideF W = true := by
   cases h : wideF W with
   | true => rfl
   | false => exact absurd (.inl h) hbad
  have hf : (parseF s).1 = 0 := by
   by_cases h : (parseF s).1 = 0
   ·exact h
   ·exact absurd (.inr h) hbad
  have HW := Lib.hid (fun w' => wide_any W w')
  rw [hw] at HW
  have hR : fmtF s W = if formE W (parseF s).2.2 ≠ 0 then (formE W (parseF s).2.2, 0, .empty) else (0, 0, formT W (parseF s).2.2) := by
   rw [fmtF, if_neg (by simp [hw]), if_neg (by simp [hf])]
  have hP := parse_ok hf w hs hm
  have htr := progF_facts (parsed_words hf).1
  have h20 := htr.1
  have HT := Lib.hid htr.2.1
  rw [hR]
  generalize (parseF s).2.2 = p at *
  generalize (parseF s).2.1 = k0 at *
  have HE0 : Hid (formE W p = 0 → (if formE W p ≠ 0 then (formE W p, 0, ByteArray.empty) else ((0 : Int), (0 : Nat), formT W p)) = (0, 0, formT W p)) := Lib.hid (fun h => by rw [if_neg (by simpa using h)])
  have HE1 : Hid (formE W p ≠ 0 → (if formE W p ≠ 0 then (formE W p, 0, ByteArray.empty) else ((0 : Int), (0 : Nat), formT W p)) = (formE W p, 0, .empty)) := Lib.hid (fun h => by rw [if_pos h])
  have HP := Lib.hid hP
  have HM := Lib.hid hm; have HPW := Lib.hid hp
  have HSZ : Hid (∀ k, k ≤ p.length → (∀ j u, p[j]? = some u → j < k → oneQ u W = 0) → (formT W (p.take k)).size ≤ 1500000 * k) := Lib.hid (fun k => by
   induction k with
   | zero => intro _ _; simp [formT]
   | succ k ih =>
    intro hk h
    have hlt : k < p.length := by omega
    have hu : p[k]? = some p[k] := List.getElem?_eq_getElem hlt
    rw [formT_step W hu, ByteArray.size_append]
    have h1 := ih (by omega) (fun j u hj hjk => h j u hj (by omega))
    have hq := h k p[k] hu (by omega)
    have ht := (oneQ_zero hq).2.1
    have h2 := (oneX_is hq (fun h9 => docL_doc ht h9 (by have := (oneQ_zero hq).2.2 h9; omega))).small
    omega)
  have hend : formE W (p.drop p.length) = formE W p → formE W p = 0 := fun h => by rw [← h, List.drop_length]; rfl
  have HEND := Lib.hid hend
  have HALL : Hid (∀ k, p.length ≤ k → formT W (p.take k) = formT W p) := Lib.hid (fun k hk => by rw [List.take_of_length_le hk])
  clear hs hP hm hp hR htr hend hbad hw hf
  generalize hZ : (if formE W p ≠ 0 then (formE W p, 0, ByteArray.empty) else ((0 : Int), (0 : Nat), formT W p)) = Z at *
  clear hZ
  go_enter Tryz.func20, Tryz.ntmps20
  go_wp2_with (first
   | (go_at_call 23; refine (HW.out _).mono ?_; rintro e w0 ⟨rfl, rfl⟩)
   | (go_at_call 21; refine HP.out.mono ?_; rintro e w1 ⟨P1, c1, rfl, hF, hB1⟩; have HPR := Lib.hid hF.prg; have HB1 := Lib.hid hB1; clear hF hB1))
  have hb1 : Below w1.heap.size w1 (w1.alloc (.cells #[.pointer none, .slice none 0 0] 88)) := (Below.refl _ _).alloc (Nat.le_refl _) _
  have HBD : Hid (Bld w1.heap.size w1.heap.size .empty (w1.alloc (.cells #[.pointer none, .slice none 0 0] 88))) := Lib.hid (Bld.new w1)
  have hz1 := HB1.out.size
  have HB0 := Lib.hid hb1
  clear hb1
  go_loopw [10, 11, 12, 29] (fun _ _ _ i wr => ∃ k : Nat, k ≤ p.length ∧ i = .int .i64 k ∧ Hid (formE W (p.drop k) = formE W p ∧ ∀ j u, p[j]? = some u → j < k → oneQ u W = 0) ∧ Hid (Bld w1.heap.size w1.heap.size (formT W (p.take k)) wr) ∧ Hid (Below w1.heap.size w1 wr)) (fun _ _ _ i _ => p.length - (intOf i).toNat)
  case atStart => exact ⟨0, by omega, rfl, Lib.hid ⟨rfl, fun j u hj hjk => by omega⟩, HBD, HB0⟩
  case round =>
   clear HBD HB0
   obtain ⟨k, hk, rfl, HA, HBD, HB0⟩ := hrel
   by_cases hlt : k < p.length
   ·obtain ⟨b, off, Ak, ck, u, rfl, hb, hu, hc, hN, hS⟩ := HPR.out.one HB0.out hlt
    have hmem : u ∈ p := List.mem_of_getElem? hu
    have hut := HT.out u hmem
    have HB01 := Lib.hid (HB1.out.trans (HB0.out.mono hz1))
    obtain ⟨e1, e2⟩ := formE_step W hu HA.out.1
    by_cases hq : oneQ u W = 0
    ·have hdc : opAt u 0 ≠ 9 → ∃ x, Doc (docL u) x := fun h9 => docL_doc hut h9 (by have := (oneQ_zero hq).2.2 h9; omega)
     have HONE := Lib.hid (pone_ok (fun l x A c w hl hd => of_from l x A c w hl hd) u W Ak ck wr hN hS (HM.out.past HB01.out) (HPW.out.past HB01.out) hdc hq)
     have hsm := (oneX_is hq hdc).small
     have HST := Lib.hid (formT_step W hu)
     have HA2 : Hid (formE W (p.drop (k + 1)) = formE W p ∧ ∀ j v, p[j]? = some v → j < k + 1 → oneQ v W = 0) := Lib.hid ⟨e2 hq, fun j v hj hjk => by
      by_cases hjk2 : j = k
      ·subst hjk2; rw [hu] at hj; cases hj; exact hq
      ·exact HA.out.2 j v hj (by omega)⟩
     have hks := HSZ.out k hk HA.out.2
     generalize formT W (p.take k) = Q at *
     generalize oneX u W = T at *
     have hz0 := HB0.out.size
     clear hN hS hu hmem hut e1 e2 hq hdc HA
     go_wp2_with (first
      | (go_at_call 22; refine HONE.out.mono ?_; rintro e w3 ⟨rfl, hB3⟩; have HB3 := Lib.hid (HBD.out.past hB3); have HB4 := Lib.hid (HB0.out.trans (hB3.mono hz0)); clear hB3)
      | (go_at_call 35; refine (bld_write _ _ Q _ _ HB3.out (by omega)).mono ?_; rintro e w4 ⟨rfl, hb5, hB5⟩; have HB5 := Lib.hid hb5; have HB6 := Lib.hid (HB4.out.trans hB5); clear hb5 hB5))
     go_roundw
     case measure => simp [intOf]; omega
     case rel => exact ⟨k + 1, by omega, by go_num, HA2, Lib.hid (by rw [HST.out]; exact HB5.out), HB6⟩
    ·have HONE := Lib.hid (pone_bad u W Ak ck wr hN hS (HM.out.past HB01.out) (HPW.out.past HB01.out) hq)
     have hfe := e1 hq
     have hzz := HE1.out (by rw [hfe]; exact hq)
     subst hzz
     have HV := Lib.hid (errV_pos hq)
     rw [hfe]
     generalize oneQ u W = q at *
     clear hN hS hu hmem hut e1 e2 HA
     go_wp2_with (go_at_call 22; refine HONE.out.mono ?_; rintro e w3 ⟨rfl, hB3⟩; have HB4 := Lib.hid (HB01.out.trans (hB3.mono HB01.out.size)); clear hB3)
     go_ret3
     exact ⟨by rw [← HV.out]; rfl, HB4.out⟩
   ·have hkp : k = p.length := by omega
    have h0 := HEND.out (by have := HA.out.1; rwa [hkp] at this)
    have hzz := HE0.out h0
    subst hzz
    have HBZ : Hid (Bld w1.heap.size w1.heap.size (formT W p) wr) := Lib.hid (by rw [← HALL.out k (by omega)]; exact HBD.out)
    generalize formT W p = TT at *
    clear HBD
    go_wp2_with (go_at_call 37; refine (bld_string _ _ _ _ HBZ.out).mono ?_; rintro e w5 ⟨rfl, hB5⟩; have HB7 := Lib.hid (HB1.out.trans ((HB0.out.trans hB5).mono hz1)); clear hB5)
    go_ret3
    exact ⟨rfl, HB7.out⟩
end Go.Proofs.YtddfdmopaeghnadGreatDoor
namespace Go.Proofs.YtddfdmopaeghnadGreatDoor
def Bz (h K : Nat) (ns : List Nd) : Prop :=
 ∃ x : D, x.ok ∧ x.enc = ns ∧ (∀ (dp : Int) (w r : List Int) (s : ByteArray), 0 ≤ dp → dp.toNat + 2 * h ≤ 80 → x.lay dp w = .ok (s, r) → s.size ≤ K) ∧ ∀ s, x.flat = some s → s.size ≤ K
theorem Bz.word {h K : Nat} {s : ByteArray} (hs : s.size ≤ K) : Bz h K (wordN s) := by
 refine ⟨.leaf ⟨1, s, 0⟩, rfl, rfl, fun dp w r t _ _ ht => ?_, fun t ht => ?_⟩
 ·simp only [D.lay, if_true] at ht
  cases ht; exact hs
 ·simp only [D.flat, if_true] at ht
  cases ht; exact hs
theorem line_size (n : Nat) : (⟨#[10]⟩ ++ blanksB n : ByteArray).size = n + 1 := by
 rw [ByteArray.size_append, show (blanksB n).size = n by simp [blanksB, ByteArray.size]]
 show 1 + n = n + 1
 omega
theorem Bz.blank {h : Nat} : Bz h 81 (opN 2) := by
 refine ⟨.leaf ⟨2, .empty, 0⟩, rfl, rfl, fun dp w r t h0 hh ht => ?_, fun t ht => ?_⟩
 ·simp only [D.lay, show ¬ (2 : Int) = 1 by decide, show ¬ (2 : Int) = 5 by decide, if_false] at ht
  cases ht
  rw [line_size]; omega
 ·simp only [D.flat, show ¬ (2 : Int) = 1 by decide, if_false, if_true] at ht
  cases ht; decide
theorem Bz.soft {h : Nat} : Bz h 81 (opN 3) := by
 refine ⟨.leaf ⟨3, .empty, 0⟩, rfl, rfl, fun dp w r t h0 hh ht => ?_, fun t ht => ?_⟩
 ·simp only [D.lay, show ¬ (3 : Int) = 1 by decide, show ¬ (3 : Int) = 5 by decide, if_false] at ht
  cases ht
  rw [line_size]; omega
 ·simp only [D.flat, show ¬ (3 : Int) = 1 by decide, show ¬ (3 : Int) = 2 by decide, if_false] at ht
  cases ht; decide
theorem Bz.both {h K1 K2 : Nat} {m n : List Nd} (h1 : Bz h K1 m) (h2 : Bz h K2 n) : Bz h (K1 + K2) (bothN m n) := by
 obtain ⟨x, x1, x2, x3, x4⟩ := h1
 obtain ⟨y, y1, y2, y3, y4⟩ := h2
 refine ⟨.bin ⟨6, .empty, 0⟩ x y, ⟨by decide, x1, y1⟩, by simp [D.enc, bothN, x2, y2], fun dp w r t h0 hh ht => ?_, fun t ht => ?_⟩
 ·obtain ⟨s1, w1, s2, g1, g2, rfl⟩ := both_layX ht
  rw [Int.add_zero] at g1 g2
  have := x3 _ _ _ _ h0 hh g1
  have := y3 _ _ _ _ h0 hh g2
  rw [ByteArray.size_append]; omega
 ·obtain ⟨s1, s2, g1, g2, rfl⟩ := both_flatX ht
  have := x4 _ g1
  have := y4 _ g2
  rw [ByteArray.size_append]; omega
theorem Bz.group {h K : Nat} {n : List Nd} (hn : Bz h K n) : Bz h K (groupN n) := by
 obtain ⟨x, x1, x2, x3, x4⟩ := hn
 refine ⟨.un ⟨8, .empty, 0⟩ x, ⟨by decide, x1⟩, by simp [D.enc, groupN, x2], fun dp w r s h0 hh hs => ?_, fun s hs => x4 s hs⟩
 simp only [D.lay, show ¬ (8 : Int) = 7 by decide, if_false] at hs
 cases w with
 | nil => cases hs
 | cons c w =>
  simp only at hs
  split at hs
  ·cases hf : x.flat with
   | none => rw [hf] at hs; cases hs
   | some u => rw [hf] at hs; cases hs; exact x4 _ hf
  ·rw [Int.add_zero] at hs
   exact x3 _ _ _ _ h0 hh hs
theorem Bz.deep {h K : Nat} {n : List Nd} (hn : Bz h K n) : Bz (h + 1) K (deepN n) := by
 obtain ⟨x, x1, x2, x3, x4⟩ := hn
 refine ⟨.un ⟨7, .empty, 2⟩ x, ⟨by decide, x1⟩, by simp [D.enc, deepN, x2], fun dp w r s h0 hh hs => ?_, fun s hs => x4 s hs⟩
 simp only [D.lay, if_true] at hs
 exact x3 _ _ _ _ (by omega) (by omega) hs
theorem Bz.more {h h' K K' : Nat} {n : List Nd} (hn : Bz h K n) (hh : h ≤ h') (hk : K ≤ K') : Bz h' K' n := by
 obtain ⟨x, x1, x2, x3, x4⟩ := hn
 exact ⟨x, x1, x2, fun dp w r s h0 h1 hs => Nat.le_trans (x3 dp w r s h0 (by omega) hs) hk, fun s hs => Nat.le_trans (x4 s hs) hk⟩
theorem Bz.kid {h K : Nat} {po ko : Int} {b : Bool} {n : List Nd} {t : List (List UInt8)} (hn : Bz h (90 * t.length) n) (hk : 90 * (kidK po ko b t).length ≤ K) : Bz h K (kidD po ko b n) := by
 unfold kidK at hk
 unfold kidD
 split
 ·rename_i hb
  rw [if_pos hb] at hk
  simp only [List.length_cons, List.length_append, List.length_nil] at hk
  exact ((Bz.word (K := 1) (by decide)).both (hn.both (Bz.word (K := 1) (by decide)))).more (Nat.le_refl _) (by omega)
 ·rename_i hb
  rw [if_neg hb] at hk
  exact hn.more (Nat.le_refl _) hk
theorem Bz.kids {l : List Nd} {h : Nat} {g : Nat → List Nd} {t : Nat → List (List UInt8)} : ∀ (m a z : Nat), KidsP l a m z → 0 < m → (∀ b, a ≤ b → b < l.length → Bz h (90 * (t b).length) (g b)) → Bz h (90 * (kidsK t (tEnd l) a m).length) (kidsD g (tEnd l) a m) := by
 intro m
 induction m with
 | zero => intro a z h h0; omega
 | succ m ih =>
  intro a z hz _ hg
  obtain ⟨h1, h2, h3⟩ := hz
  have h4 := hg a (Nat.le_refl _) h1
  rw [kidsD, kidsK]
  split
  ·exact h4
  ·have h5 := ih _ _ h3 (by omega) (fun b hb hb2 => hg b (by omega) hb2)
   refine ((h4.both (Bz.word (K := 1) (by decide))).both (Bz.blank.both h5)).more (Nat.le_refl _) ?_
   simp only [List.length_append, List.length_cons]
   omega
theorem Bz.listed {h Ko K T : Nat} {o c : ByteArray} {m : Nat} {k : List Nd} (ho : o.size ≤ Ko) (hc : c.size = 1) (hk : 0 < m → Bz h K k) (h0 : m = 0 → Ko + 1 ≤ T) (hT : 0 < m → Ko + (81 + K + (81 + 1)) ≤ T) : Bz (h + 1) T (listD o c m k) := by
 unfold listD
 split
 ·rename_i e
  exact Bz.word (by rw [ByteArray.size_append]; have := h0 e; omega)
 ·rename_i e
  have hm : 0 < m := by omega
  exact (((Bz.word ho).both ((Bz.deep (Bz.soft.both (hk hm))).both (Bz.soft.both (Bz.word (K := 1) (by omega))))).group).more (Nat.le_refl _) (hT hm)
theorem docT_bz {l : List Nd} (hT : Tr l) : ∀ f i : Nat, l.length ≤ i + f → (hi : i < l.length) → l[i].op ≠ 9 → Bz (l.length - i) (90 * (tokT l f i).length) (docT l f i) := by
 intro f
 induction f with
 | zero => intro i h1 h2; omega
 | succ f ih =>
  intro i h1 h2 h9
  have hk := hT.kidsP h2
  have hm : (manyL l).getD i 0 = (manyF l[i].op l[i].n).toNat := manyL_at h2 rfl
  have hone := hT.one _ (List.getElem_mem h2)
  have hop : 1 ≤ l[i].op ∧ l[i].op ≤ 9 := by
   by_cases hc : l[i].op < 1 ∨ 9 < l[i].op
   ·rw [treeOne, if_pos (by rcases hc with h | h; exact .inl h; exact .inr (.inl h))] at hone; cases hone
   ·omega
  rw [hm] at hk
  have ihk : ∀ b, i + 1 ≤ b → b < l.length → Bz (l.length - (i + 1)) (90 * (tokT l f b).length) (docT l f b) := fun b hb hl => (ih b (by omega) hl (by have := hT.low hl (by omega); omega)).more (by omega) (Nat.le_refl _)
  have hsucc : l.length - i = l.length - (i + 1) + 1 := by omega
  rw [docT, tokT, getD_at h2]
  generalize l[i].op = op at *
  generalize l[i].n = n at *
  generalize l[i].text = t at *
  have hcs : op = 1 ∨ op = 2 ∨ op = 3 ∨ op = 4 ∨ op = 5 ∨ op = 6 ∨ op = 7 ∨ op = 8 := by omega
  rcases hcs with rfl | rfl | rfl | rfl | rfl | rfl | rfl | rfl
  ·obtain ⟨n0, n1⟩ := tone_num hone
   simp only [if_true]
   have hl := itoa_len6 n0 n1
   exact Bz.word (by simp only [ByteArray.size, List.size_toArray, List.length_cons, List.length_nil]; omega)
  ·have hnm := tone_word hone rfl (by decide)
   have := (name_facts hnm).2.1
   simp only [show ¬ (2 : Int) = 1 by decide, if_false, if_true]
   exact Bz.word (by simp only [List.length_cons, List.length_nil]; omega)
  ·have hnm := tone_word hone rfl (by decide)
   have h8 := (name_facts hnm).2.1
   rw [show manyF 3 n = n from rfl] at hk
   simp only [show ¬ (3 : Int) = 1 by decide, show ¬ (3 : Int) = 2 by decide, if_false, if_true]
   rw [hsucc]
   refine Bz.listed (Ko := 9) ?_ rfl (fun h0 => Bz.kids _ _ _ hk h0 ihk) ?_ ?_
   ·rw [ByteArray.size_append]; show t.size + 1 ≤ 9; omega
   ·intro _; simp only [List.length_cons, List.length_append, List.length_nil]; omega
   ·intro _; simp only [List.length_cons, List.length_append, List.length_nil]; omega
  ·rw [show manyF 4 n = n from rfl] at hk
   simp only [show ¬ (4 : Int) = 1 by decide, show ¬ (4 : Int) = 2 by decide, show ¬ (4 : Int) = 3 by decide, if_false, if_true]
   rw [hsucc]
   refine Bz.listed (Ko := 1) (by decide) rfl (fun h0 => Bz.kids _ _ _ hk h0 ihk) ?_ ?_
   ·intro _; simp only [List.length_cons, List.length_append, List.length_nil]; omega
   ·intro _; simp only [List.length_cons, List.length_append, List.length_nil]; omega
  ·obtain ⟨a1, a2, b1, b2, b3⟩ : i + 1 < l.length ∧ i + 1 < tEnd l (i + 1) ∧ tEnd l (i + 1) < l.length ∧ tEnd l (i + 1) < tEnd l (tEnd l (i + 1)) ∧ tEnd l (tEnd l (i + 1)) = tEnd l i := ⟨hk.1, hk.2.1, hk.2.2.1, hk.2.2.2.1, hk.2.2.2.2⟩
   have q1 := ihk _ (Nat.le_refl _) a1
   have q2 := ihk _ (by omega) b1
   simp only [show ¬ (5 : Int) = 1 by decide, show ¬ (5 : Int) = 2 by decide, show ¬ (5 : Int) = 3 by decide, show ¬ (5 : Int) = 4 by decide, if_false, if_true]
   rw [hsucc]
   refine (((q1.kid (po := 5) (ko := opAt l (i + 1)) (b := false) (Nat.le_refl _)).more (Nat.le_succ _) (Nat.le_refl _)).both (Bz.deep (Bz.blank.both ((Bz.word (K := 2) (by decide)).both (q2.kid (po := 5) (ko := opAt l (tEnd l (i + 1))) (b := true) (Nat.le_refl _)))))).group.more (Nat.le_refl _) ?_
   simp only [List.length_append, List.length_cons]
   omega
  ·obtain ⟨a1, a2, b1, b2, b3⟩ : i + 1 < l.length ∧ i + 1 < tEnd l (i + 1) ∧ tEnd l (i + 1) < l.length ∧ tEnd l (i + 1) < tEnd l (tEnd l (i + 1)) ∧ tEnd l (tEnd l (i + 1)) = tEnd l i := ⟨hk.1, hk.2.1, hk.2.2.1, hk.2.2.2.1, hk.2.2.2.2⟩
   have q1 := ihk _ (Nat.le_refl _) a1
   have q2 := ihk _ (by omega) b1
   simp only [show ¬ (6 : Int) = 1 by decide, show ¬ (6 : Int) = 2 by decide, show ¬ (6 : Int) = 3 by decide, show ¬ (6 : Int) = 4 by decide, show ¬ (6 : Int) = 5 by decide, if_false, if_true]
   rw [hsucc]
   refine (((q1.kid (po := 6) (ko := opAt l (i + 1)) (b := false) (Nat.le_refl _)).more (Nat.le_succ _) (Nat.le_refl _)).both (Bz.deep (Bz.blank.both ((Bz.word (K := 2) (by decide)).both (q2.kid (po := 6) (ko := opAt l (tEnd l (i + 1))) (b := true) (Nat.le_refl _)))))).group.more (Nat.le_refl _) ?_
   simp only [List.length_append, List.length_cons]
   omega
  ·have hnm := tone_word hone rfl (by decide)
   have h8 := (name_facts hnm).2.1
   obtain ⟨a1, a2, b3⟩ : i + 1 < l.length ∧ i + 1 < tEnd l (i + 1) ∧ tEnd l (i + 1) = tEnd l i := ⟨hk.1, hk.2.1, hk.2.2⟩
   have q1 := ihk _ (Nat.le_refl _) a1
   simp only [show ¬ (7 : Int) = 1 by decide, show ¬ (7 : Int) = 2 by decide, show ¬ (7 : Int) = 3 by decide, show ¬ (7 : Int) = 4 by decide, show ¬ (7 : Int) = 5 by decide, show ¬ (7 : Int) = 6 by decide, if_false, if_true]
   rw [hsucc]
   have hw : (⟨#[108, 101, 116, 32]⟩ ++ t ++ ⟨#[32, 61]⟩ : ByteArray).size ≤ 14 := by
    rw [ByteArray.size_append, ByteArray.size_append]; show 4 + t.size + 2 ≤ 14; omega
   refine ((Bz.word hw).both (Bz.deep (Bz.blank.both (q1.both (Bz.word (K := 1) (by decide)))))).group.more (Nat.le_refl _) ?_
   simp only [List.length_append, List.length_cons, List.length_nil]
   omega
  ·obtain ⟨a1, a2, b3⟩ : i + 1 < l.length ∧ i + 1 < tEnd l (i + 1) ∧ tEnd l (i + 1) = tEnd l i := ⟨hk.1, hk.2.1, hk.2.2⟩
   have q1 := ihk _ (Nat.le_refl _) a1
   simp only [show ¬ (8 : Int) = 1 by decide, show ¬ (8 : Int) = 2 by decide, show ¬ (8 : Int) = 3 by decide, show ¬ (8 : Int) = 4 by decide, show ¬ (8 : Int) = 5 by decide, show ¬ (8 : Int) = 6 by decide, show ¬ (8 : Int) = 7 by decide, if_false]
   rw [hsucc]
   refine ((q1.more (Nat.le_succ _) (Nat.le_refl _)).both (Bz.word (K := 1) (by decide))).more (Nat.le_refl _) ?_
   simp only [List.length_append, List.length_cons, List.length_nil]
   omega
theorem Few.groups {width : Int} {l : List ByteArray} (h : Few width l) : ∀ (f i : Nat), l.length ≤ i + f → ∃ gs : List (List ByteArray), linesG width l f i = gs.map fillJ ∧ gs.flatten = l.drop i ∧ ∀ g ∈ gs, g ≠ [] := by
 intro f
 induction f with
 | zero => intro i hi; exact ⟨[], rfl, by rw [List.drop_eq_nil_of_le (by omega)]; rfl, by simp⟩
 | succ f ih =>
  intro i hi
  rw [linesG]
  split
  ·rename_i hl
   exact ⟨[], rfl, by rw [List.drop_eq_nil_of_le hl]; rfl, by simp⟩
  ·rename_i hl
   obtain ⟨_, _, h1, h2, _⟩ := h.at_ (i := i) (by omega)
   obtain ⟨gs, g1, g2, g3⟩ := ih (i + manyAt width l i) (by omega)
   refine ⟨(l.drop i).take (manyAt width l i) :: gs, by rw [g1]; rfl, ?_, fun g hg => ?_⟩
   ·rw [List.flatten_cons, g2, ← List.drop_drop, List.take_append_drop]
   ·rcases List.mem_cons.1 hg with rfl | hg
    ·intro e
     have := congrArg List.length e
     rw [List.length_take, List.length_drop] at this
     simp at this
     omega
    ·exact g3 g hg
theorem noteB_lx : ∀ {gs : List (List ByteArray)}, (∀ g ∈ gs, g ≠ []) → (∀ g ∈ gs, ∀ w ∈ g, wordF w = true) → Lx false (gs.map lineK) (noteB (gs.map fillJ)).data.toList
 | [], _, _ => Lx.nil
 | g :: gs, h0, h => by
  have hg := h g (by simp)
  have hj : Lib.join (g.map (·.data.toList)) [32] = (fillJ g).data.toList := by simp [fillJ]
  rw [List.map_cons, List.map_cons, noteB_toList]
  have hlk : lineK g = 35 :: 32 :: (fillJ g).data.toList := by rw [lineK, hj]
  have hb := line_bytes hg
  rw [hlk] at hb ⊢
  have h1 : Lx false [35 :: 32 :: (fillJ g).data.toList] (35 :: (32 :: (fillJ g).data.toList) ++ [10]) := Lx.note (w := 32 :: (fillJ g).data.toList) (fun c hc => by
   have := hb c (by simp only [List.mem_cons] at hc ⊢; exact .inr hc)
   simp only [prB, Bool.and_eq_true, decide_eq_true_eq]; exact this) (trim_line hg (h0 g (by simp)) hj)
  have h2 := h1.app (noteB_lx (gs := gs) (fun x hx => h0 x (by simp [hx])) (fun x hx => h x (by simp [hx]))) (fun e => by cases e)
  have e : 35 :: (32 :: (fillJ g).data.toList) ++ [10] ++ (noteB (gs.map fillJ)).data.toList = 35 :: 32 :: ((fillJ g).data.toList ++ 10 :: (noteB (gs.map fillJ)).data.toList) := by simp
  rw [e] at h2
  exact h2
theorem noteB_len : ∀ {gs : List (List ByteArray)}, (∀ g ∈ gs, g ≠ []) → (∀ g ∈ gs, ∀ w ∈ g, w.size ≤ 20) → (noteB (gs.map fillJ)).size ≤ 23 * gs.flatten.length
 | [], _, _ => by simp [noteB]
 | g :: gs, h0, h => by
  have ih := noteB_len (gs := gs) (fun x hx => h0 x (by simp [hx])) (fun x hx => h x (by simp [hx]))
  have hl := List.length_pos_iff.2 (h0 g (by simp))
  have h1 := fillJ_size g hl
  have h2 := sum_le g (h g (by simp))
  simp only [List.map_cons, noteB, ByteArray.size_append, List.flatten_cons, List.length_append]
  show 2 + (fillJ g).size + 1 + (noteB (gs.map fillJ)).size ≤ _
  unfold longW at h1
  omega
theorem noteT_lx {x : ByteArray} (h1 : treeOne 9 x 0 = 0) {W : Int} (hw : wideF W = true) : (∃ tk, NoteK x tk ∧ Lx false tk (noteT x W).data.toList) ∧ (noteT x W).size ≤ 1500 := by
 by_cases h0 : noteL x = []
 ·rw [noteT, if_pos h0]
  exact ⟨⟨[[35]], .inl ⟨h0, rfl⟩, Lx.note (w := []) (by simp) (by decide)⟩, by decide⟩
 ·rw [noteT, if_neg h0]
  obtain ⟨hfew, _⟩ := note_few h1 hw
  have hwf : wordsF (noteL x) = 0 := by
   unfold treeOne at h1
   split at h1
   ·cases h1
   ·split at h1
    ·cases h1
    ·simpa using h1
  obtain ⟨hlen, hws⟩ := wordsF_facts hwf
  obtain ⟨gs, g1, g2, g3⟩ := hfew.groups (noteL x).length 0 (by omega)
  rw [List.drop_zero] at g2
  have hfill : fillW (W - 2) (noteL x) = gs.map fillJ := by rw [fillW, linesAt, Nat.sub_zero]; exact g1
  have hmem : ∀ g ∈ gs, ∀ w ∈ g, w ∈ noteL x := fun g hg w hw => by rw [← g2]; exact List.mem_flatten.2 ⟨g, hg, hw⟩
  rw [hfill]
  refine ⟨⟨gs.map lineK, .inr ⟨gs, fun e => ?_, g3, g2, rfl⟩, noteB_lx g3 fun g hg w hw => hws w (hmem g hg w hw)⟩, ?_⟩
  ·rw [e] at g2; exact h0 g2.symm
  ·have := noteB_len g3 (fun g hg w hw => (wordF_facts (hws w (hmem g hg w hw))).2.1)
   rw [g2] at this
   omega
theorem oneX_lx {l : List Nd} {W : Int} (h : oneQ l W = 0) : (∃ tk, PcK l tk ∧ Lx false tk (oneX l W).data.toList) ∧ (oneX l W).size ≤ 90 * nTok l + 1500 := by
 obtain ⟨hw, ht, h4⟩ := oneQ_zero h
 by_cases h9 : opAt l 0 = 9
 ·obtain ⟨x, rfl, h1⟩ := tree_note ht h9
  have hx : oneX [⟨9, x, 0⟩] W = noteT x W := by rw [oneX, if_pos h9]; rfl
  rw [hx]
  obtain ⟨⟨tk, t1, t2⟩, hz⟩ := noteT_lx h1 hw
  exact ⟨⟨tk, .inr ⟨x, rfl, t1⟩, t2⟩, by omega⟩
 ·obtain ⟨x, hx⟩ := docL_doc ht h9 (by have := h4 h9; omega)
  have hr : oneX l W = bT W.toNat x ++ ⟨#[10]⟩ := by rw [oneX, if_neg h9, hx.root]
  have hlay := (hx.best_shown W.toNat).lay
  have hT := Tr.of_check ht
  have h0 := hT.pos0
  have hoe : opAt l 0 = (l[0]'h0).op := by rw [opAt, getD_at h0]
  rw [hr]
  refine ⟨⟨tokT l l.length 0, .inl ⟨h9, rfl⟩, lx_stmt ht h9 fun y y1 y2 => .inr ⟨0, bU W.toNat x, [], ?_⟩⟩, ?_⟩
  ·obtain rfl := hx.same y1 y2
   exact hlay
  ·obtain ⟨y, y1, y2, y3, _⟩ := docT_bz hT l.length 0 (by omega) h0 (by rw [← hoe]; exact h9)
   obtain rfl := hx.same y1 y2
   have := y3 _ _ _ _ (by omega) (by have := hT.len; show 0 + 2 * (l.length - 0) ≤ 80; omega) hlay
   rw [nTok, if_neg h9, ByteArray.size_append]
   show _ + 1 ≤ _
   omega
theorem formE_all {W : Int} : ∀ {p : List (List Nd)}, formE W p = 0 → ∀ u ∈ p, oneQ u W = 0
 | [], _, u, hu => by cases hu
 | v :: r, h, u, hu => by
  rw [formE] at h
  split at h
  ·rename_i hq; exact absurd h hq
  ·rename_i hq
   rcases List.mem_cons.1 hu with rfl | hu
   ·simpa using hq
   ·exact formE_all h u hu
theorem formT_bytes (W : Int) : ∀ p : List (List Nd), (formT W p).data.toList = p.flatMap fun u => (oneX u W).data.toList
 | [] => rfl
 | u :: r => by rw [formT, ByteArray.data_append, Array.toList_append, formT_bytes W r, List.flatMap_cons]
theorem formT_size {W : Int} : ∀ {p : List (List Nd)}, (∀ u ∈ p, oneQ u W = 0) → (formT W p).size ≤ 90 * (p.map nTok).sum + 1500 * p.length
 | [], _ => by simp [formT]
 | u :: r, h => by
  have h1 := (oneX_lx (h u (by simp))).2
  have h2 := formT_size (p := r) (fun v hv => h v (by simp [hv]))
  rw [formT, ByteArray.size_append, List.map_cons, List.sum_cons, List.length_cons]
  omega
theorem parse_form {p : List (List Nd)} {W : Int} (h0 : (progF p).2 = 0) (hn : (p.map nTok).sum ≤ 300) (h : formE W p = 0) : parseF (formT W p) = (0, 0, p) ∧ (formT W p).size ≤ 60000 := by
 have hf := progF_facts h0
 have hq := formE_all h
 obtain ⟨q, q1, q2, q3⟩ := print_lx (fun u => oneX u W) hf.2.1 (fun u hu => (oneX_lx (hq u hu)).1)
 rw [← formT_bytes] at q3
 have hz : (formT W p).size ≤ 60000 := by
  have := formT_size hq
  have := hf.1
  omega
 have h1 := parse_text hz q2 (by rw [q1]; exact h0) q3
 rw [q1, if_neg (by omega)] at h1
 exact ⟨h1, hz⟩
end Go.Proofs.YtddfdmopaeghnadGreatDoor
namespace Go.Proofs.YtddfdmopaeghnadGreatDoor
open Go.RowKit
theorem fmt_ok_is {s : ByteArray} {W : Int} {k : Nat} {T : ByteArray} (h : fmtF s W = (0, k, T)) (w : World) (hs : s.size ≤ maxLen) (hm : MaxL w) (hp : PowT w) : Calls Tryz.prog 20 #[.string s, .int .i64 W] w (Ret w (.tuple #[.string T, .int .i64 (k : Nat), .nilIface])) := by
 have := fmt_any s W w hs hm hp
 rw [h] at this
 exact this
theorem fmt_bad_is {s : ByteArray} {W f : Int} {k : Nat} {T : ByteArray} (h : fmtF s W = (f, k, T)) (hf : f ≠ 0) (w : World) (hs : s.size ≤ maxLen) (hm : MaxL w) (hp : PowT w) : Calls Tryz.prog 20 #[.string s, .int .i64 W] w (Ret w (.tuple #[.string T, .int .i64 (k : Nat), .iface 24 (.int .i64 f)])) := by
 have := fmt_any s W w hs hm hp
 rw [h, ← errV_pos hf] at this
 exact this
theorem parse_okB {s : ByteArray} {k n : Nat} {l : List (List Nd)} (h : parseF s = (0, k, l)) (hn : l.length = n) (w : World) (hs : s.size ≤ maxLen) (hm : MaxL w) : Calls Tryz.prog 21 #[.string s] w fun e w' => ∃ A c, e = .returned (.tuple #[.slice A n c, .int .i64 (k : Nat), .nilIface]) ∧ PrgF w.heap.size w' A l ∧ Below w.heap.size w w' := by
 have := parse_ok (s := s) (by rw [h]) w hs hm
 rw [h] at this
 subst hn
 exact this
theorem fmt_parts {s : ByteArray} {W : Int} (h : (fmtF s W).1 = 0) : wideF W = true ∧ (parseF s).1 = 0 ∧ formE W (parseF s).2.2 = 0 ∧ fmtF s W = (0, 0, formT W (parseF s).2.2) := by
 unfold fmtF at h ⊢
 split at h
 ·cases h
 ·rename_i hw
  split at h
  ·rename_i hf; exact absurd h hf
  ·rename_i hf
   split at h
   ·rename_i he; exact absurd h he
   ·rename_i he
    rw [if_neg hw, if_neg hf, if_neg he]
    exact ⟨by simpa using hw, by simpa using hf, by simpa using he, rfl⟩
theorem fmt_of {s : ByteArray} {k : Nat} {p : List (List Nd)} (h : parseF s = (0, k, p)) (W : Int) : fmtF s W = if wideF W = false then (1, 0, .empty) else if formE W p ≠ 0 then (formE W p, 0, .empty) else (0, 0, formT W p) := by
 rw [fmtF, h]
 simp
end Go.Proofs.YtddfdmopaeghnadGreatDoor
namespace Go.Proofs.YtddfdmopaeghnadGreatDoor
open Go.RowKit
set_option maxHeartbeats 1000000 in
theorem differs_same (T : ByteArray) (w : World) : Calls Tryz.prog 74 #[.string T, .string T] w (Ret w (.int .i64 (-1))) := by
 have hb1 : (T.toList == T.toList) = true := by simp
 go_enter Tryz.func74, Tryz.ntmps74
 go_wp2
 go_ret
 exact ⟨rfl, Below.refl _ _⟩
set_option maxHeartbeats 2000000 in
theorem check_same {T : ByteArray} {W : Int} {k : Nat} (h : fmtF T W = (0, k, T)) (w : World) (hs : T.size ≤ maxLen) (hm : MaxL w) (hp : PowT w) :
  Calls Tryz.prog 41 #[.string T, .int .i64 W] w (Ret w (.tuple #[.int .i64 (-1), .int .i64 0, .nilIface])) := by
 have HF := Lib.hid (fmt_ok_is h w hs hm hp)
 clear h hs hm hp
 go_enter Tryz.func41, Tryz.ntmps41
 go_wp2_with (first
  | (go_at_call 20; refine HF.out.mono ?_; rintro e w1 ⟨rfl, hB1⟩; have HB1 := Lib.hid hB1; clear hB1)
  | (go_at_call 74; refine (differs_same T _).mono ?_; rintro e w2 ⟨rfl, hB2⟩; have HB2 := Lib.hid (HB1.out.trans (hB2.mono HB1.out.size)); clear hB2))
 go_ret3
 exact ⟨rfl, HB2.out⟩
end Go.Proofs.YtddfdmopaeghnadGreatDoor
namespace Go.Proofs.YtddfdmopaeghnadGreatDoor
open Go.RowKit
def factOI : ByteArray := ⟨#[102, 40, 32, 49, 32, 41, 59]⟩
def factOO : ByteArray := ⟨#[102, 40, 49, 41, 59, 10]⟩
def factOP : List Nd := [⟨8, .empty, 0⟩, ⟨3, ⟨#[102]⟩, 1⟩, ⟨1, .empty, 1⟩]
theorem factO_parse : parseF factOI = (0, 0, [factOP]) ∧ parseF factOO = (0, 0, [factOP]) := ⟨by kernel_rfl, by kernel_rfl⟩
theorem factO_one : oneQ factOP 20 = 0 ∧ oneX factOP 20 = factOO := ⟨by kernel_rfl, by kernel_rfl⟩
theorem factO_err : formE 20 [factOP] = 0 := by
 rw [formE, if_neg (by rw [factO_one.1]; simp)]; rfl
theorem factO_text : formT 20 [factOP] = factOO := by
 rw [formT, factO_one.2, formT]; simp
theorem factO_is : fmtF factOI 20 = (0, 0, factOO) := by
 rw [fmt_of factO_parse.1, if_neg (by decide), if_neg (by rw [factO_err]; simp), factO_text]
theorem factO_again : fmtF factOO 20 = (0, 0, factOO) := by
 rw [fmt_of factO_parse.2, if_neg (by decide), if_neg (by rw [factO_err]; simp), factO_text]
set_option maxHeartbeats 2000000 in
theorem topOne_any (w : World) (hm : MaxL w) (hp : PowT w) : Calls Tryz.prog 19 #[] w (Ret w (.bool true)) := by
 have HF := Lib.hid (fmt_ok_is factO_is w (by decide) hm hp)
 have HC := Lib.hid (fun (w' : World) (hB : Below w.heap.size w w') => check_same factO_again w' (by decide) (hm.past hB) (hp.past hB))
 unfold factOI factOO at HF
 unfold factOO at HC
 clear hm hp
 go_enter Tryz.func19, Tryz.ntmps19
 go_wp2_with (first
  | (go_at_call 20; refine HF.out.mono ?_; rintro e w1 ⟨rfl, hB1⟩; have HB1 := Lib.hid hB1; clear hB1)
  | (go_at_call 41; refine (HC.out _ HB1.out).mono ?_; rintro e w2 ⟨rfl, hB2⟩; have HB2 := Lib.hid (HB1.out.trans (hB2.mono HB1.out.size)); clear hB2))
 go_ret
 exact ⟨by first | rfl | (simp; done), HB2.out⟩
end Go.Proofs.YtddfdmopaeghnadGreatDoor
namespace Go.Proofs.YtddfdmopaeghnadGreatDoor
theorem formE_app {W : Int} : ∀ {p q : List (List Nd)}, formE W p = 0 → formE W q = 0 → formE W (p ++ q) = 0
 | [], _, _, h => h
 | u :: r, q, h1, h2 => by
  rw [formE] at h1
  split at h1
  ·rename_i hq; exact absurd h1 hq
  ·rename_i hq
   rw [List.cons_append, formE, if_neg hq]
   exact formE_app h1 h2
theorem formT_app (W : Int) : ∀ p q : List (List Nd), formT W (p ++ q) = formT W p ++ formT W q
 | [], q => by simp [formT]
 | u :: r, q => by rw [List.cons_append, formT, formT, formT_app W r q, ByteArray.append_assoc]
theorem progK_app : ∀ {p q : List (List Nd)} {i j : Nat} {pn : Bool}, (progK p i pn).2 = 0 → (progK q j false).2 = 0 → ((p = [] ∧ pn = false) ∨ (∃ u, p.getLast? = some u ∧ isNote u = false) ∨ ∃ v r, q = v :: r ∧ isNote v = false) → q ≠ [] → (progK (p ++ q) i pn).2 = 0
 | [], [], _, _, _, _, _, _, hne => absurd rfl hne
 | [], v :: r, i, j, pn, _, h2, h3, _ => by
  have key : ∀ (r : List (List Nd)) (a b : Nat) (x : Bool), (progK r a x).2 = 0 → (progK r b x).2 = 0 := by
   intro r
   induction r with
   | nil => intro a b x _; rfl
   | cons t r ih =>
    intro a b x h
    rw [progK] at h ⊢
    by_cases c1 : treeF t = 0
    ·rw [if_neg (by simp [c1])] at h ⊢
     by_cases c2 : (x && isNote t) = true
     ·rw [if_pos c2] at h; cases h
     ·rw [if_neg c2] at h ⊢
      exact ih _ _ _ h
    ·rw [if_pos c1] at h; exact absurd h c1
  rw [List.nil_append]
  rw [progK] at h2 ⊢
  by_cases c1 : treeF v = 0
  ·rw [if_neg (by simp [c1])] at h2 ⊢
   rw [if_neg (by simp)] at h2
   have c2 : ¬((pn && isNote v) = true) := by
    rcases h3 with ⟨_, h⟩ | ⟨u, h, _⟩ | ⟨v', r', h, hn⟩
    ·simp [h]
    ·simp at h
    ·injection h with h _
     subst h
     simp [hn]
   rw [if_neg c2]
   exact key _ _ _ _ h2
  ·rw [if_pos c1] at h2; exact absurd h2 c1
 | u :: r, q, i, j, pn, h1, h2, h3, hne => by
  rw [List.cons_append]
  rw [progK] at h1 ⊢
  by_cases c1 : treeF u = 0
  ·rw [if_neg (by simp [c1])] at h1 ⊢
   by_cases c2 : (pn && isNote u) = true
   ·rw [if_pos c2] at h1; cases h1
   ·rw [if_neg c2] at h1 ⊢
    refine progK_app (j := j) h1 h2 ?_ hne
    rcases h3 with ⟨h, _⟩ | ⟨v, h, hn⟩ | h
    ·cases h
    ·cases r with
     | nil =>
      rw [List.getLast?_singleton] at h
      injection h with h
      subst h
      exact .inl ⟨rfl, hn⟩
     | cons y r =>
      rw [List.getLast?_cons_cons] at h
      exact .inr (.inl ⟨v, h, hn⟩)
    ·exact .inr (.inr h)
  ·rw [if_pos c1] at h1; exact absurd h1 c1
theorem progF_app {p q : List (List Nd)} (hp : (progF p).2 = 0) (hq : (progF q).2 = 0) (hl : p.length + q.length ≤ 20) (hn : (∃ u, p.getLast? = some u ∧ isNote u = false) ∨ ∃ v r, q = v :: r ∧ isNote v = false) (hne : q ≠ []) : (progF (p ++ q)).2 = 0 := by
 unfold progF at hp hq ⊢
 split at hp
 ·cases hp
 ·split at hq
  ·cases hq
  ·rw [if_neg (by rw [List.length_append]; omega)]
   exact progK_app hp hq (.inr hn) hne
theorem parse_form_full {p : List (List Nd)} {W : Int} (h0 : (progF p).2 = 0) (hn : 300 < (p.map nTok).sum) (h : formE W p = 0) : (parseF (formT W p)).1 = 3 := by
 by_cases hz : (formT W p).size ≤ 60000
 ·have hf := progF_facts h0
  have hq := formE_all h
  obtain ⟨q, q1, q2, q3⟩ := print_lx (fun u => oneX u W) hf.2.1 (fun u hu => (oneX_lx (hq u hu)).1)
  rw [← formT_bytes] at q3
  have h1 := parse_text hz q2 (by rw [q1]; exact h0) q3
  rw [q1, if_pos hn] at h1
  rw [h1]
 ·have he : lexE (formT W p) = (3, 0) := by rw [lexE, if_pos (by omega)]
  rw [parseF_lex (by rw [he]; decide), he]
end Go.Proofs.YtddfdmopaeghnadGreatDoor
