/- errors. With what it rests on. Conditions: as each theorem states them. -/
import Derived.Test.YtddfdmopaeghnadGreatDoorRqMm
import Derived.Test.YtddfdmopaeghnadGreatDoorRqDw
import Derived.WalkKit
import Derived.LaidEql
import Derived.Stop.Asserts
import Derived.RowKitTokens
import Derived.WalkSpells
import Derived.WalkLawsBesides
set_option maxRecDepth 100000
set_option maxHeartbeats 16000000
namespace Go.Proofs.YtddfdmopaeghnadGreatDoor
open Go.RowKit Go.Extern.Stop Go.Stop Go.Extern
theorem asx_valueOf27 (t:Addr) (w:World):(ReflectliteValue.unpack (.iface 117 (.pointer (some t)))).run Tryz.prog w
  = .ok (.agg #[.pointer (some ⟨9,117,none⟩),.pointer (some ⟨w.heap.size,0,none⟩),.int .u64 150]) (w.alloc (.cells #[.pointer (some t)] 117)):=by kernel_rfl
theorem asx_type27 (a : Addr) (w : World) : (ReflectliteValue.methodAny (ReflectliteValue.valueError "reflectlite.Value.Type" 0) (fun t _ _ _ => ReflectliteType.toType t) #[.agg #[.pointer (some ⟨9, 117, none⟩), .pointer (some a), .int .u64 150]]).run Tryz.prog w
  = .ok (.iface 249 (.agg #[.pointer (some ⟨9,117,none⟩)])) w:=by kernel_rfl
theorem asx_methodKind (h : Value) (w : World) : (Go.method 459 249 (.agg #[h]) "Kind").run Tryz.prog w = .ok (257, h) w := by kernel_rfl
theorem asx_kind27 (w:World):((ReflectliteType.abiMethod fun t=>(fun a:Nat=>Value.int IntKind.u8 (a:Int)) <$> Rtype.kind t) #[.pointer (some ⟨9,117,none⟩)]).run Tryz.prog w=.ok (.int .u8 22) w:=by kernel_rfl
theorem asx_kind25 (w:World):((ReflectliteType.abiMethod fun t=>(fun a:Nat=>Value.int IntKind.u8 (a:Int)) <$> Rtype.kind t) #[.pointer (some ⟨9,24,none⟩)]).run Tryz.prog w=.ok (.int .u8 2) w:=by kernel_rfl
theorem rlm (z:Sem Value) (f:TypeId->Addr->Nat->Nat->Sem Value) (v:Value) :
  ReflectliteValue.method z f #[v]=(do match ← ReflectliteValue.parts v with|none=>z|some (t,a,fl)=>f t a fl (fl % 32)):=rfl
theorem asx_parts27 (a:Addr) (w:World):(ReflectliteValue.parts (.agg #[.pointer (some ⟨9,117,none⟩),.pointer (some a),.int .u64 150])).run Tryz.prog w=.ok (some (117,a,150)) w:=by kernel_rfl
theorem asx_isNil27 (a p:Addr) (W:World) (ha:W.cell? a=some (.pointer (some p))) :
  (ReflectliteValue.method (ReflectliteValue.valueError "reflectlite.Value.IsNil" 0) ReflectliteValue.isNil #[.agg #[.pointer (some ⟨9, 117, none⟩), .pointer (some a), .int .u64 150]]).run Tryz.prog W = .ok (.bool false) W := by
 rw [rlm]
 simp only [Sem.run_bind,asx_parts27,Result.andThen]
 simp [ReflectliteValue.isNil,loadVar,isAgg,underlying,Tryz.underlying117,ha,Result.andThen]
theorem asx_methodElem (h : Value) (w : World) : (Go.method 459 249 (.agg #[h]) "Elem").run Tryz.prog w = .ok (266, .agg #[h]) w := by kernel_rfl
theorem asx_methodImplements (h : Value) (w : World) : (Go.method 459 249 (.agg #[h]) "Implements").run Tryz.prog w = .ok (267, .agg #[h]) w := by kernel_rfl
theorem asx_methodAssignableTo (h : Value) (w : World) : (Go.method 459 249 (.agg #[h]) "AssignableTo").run Tryz.prog w = .ok (264, .agg #[h]) w := by kernel_rfl
theorem asx_elem27 (w:World):(ReflectliteType.method ReflectliteType.elem #[.agg #[.pointer (some ⟨9,117,none⟩)]]).run Tryz.prog w=.ok (.iface 249 (.agg #[.pointer (some ⟨9,24,none⟩)])) w:=by kernel_rfl
theorem asx_implements25 (w : World) : (ReflectliteType.relation "Implements" ReflectliteType.implements_ #[.agg #[.pointer (some ⟨9, 24, none⟩)], .iface 249 (.agg #[.pointer (some ⟨9, 27, none⟩)])]).run Tryz.prog w = .ok (.bool true) w := by kernel_rfl
theorem asx_typeOf25 (v:Value) (w:World):(ReflectliteType.typeOf #[.iface 24 v]).run Tryz.prog w=.ok (.iface 249 (.agg #[.pointer (some ⟨9,24,none⟩)])) w:=by kernel_rfl
theorem asx_assignable25 (w : World) : (ReflectliteType.relation "AssignableTo" ReflectliteType.assignableTo #[.agg #[.pointer (some ⟨9, 24, none⟩)], .iface 249 (.agg #[.pointer (some ⟨9, 24, none⟩)])]).run Tryz.prog w = .ok (.bool true) w := by kernel_rfl
theorem asx_valueOf25 (k:Int) (w:World):(ReflectliteValue.unpack (.iface 24 (.int .i64 k))).run Tryz.prog w
  = .ok (.agg #[.pointer (some ⟨9,24,none⟩),.pointer (some ⟨w.heap.size,0,none⟩),.int .u64 130]) (w.alloc (.cells #[.int .i64 k] 24)):=by kernel_rfl
theorem asx_elemOf27 (w:World):(Rtype.elem? 117).run Tryz.prog w=.ok (some 24) w:=by kernel_rfl
theorem asx_mk25 (p:Addr) (w:World):(ReflectliteValue.mk 24 p ReflectliteValue.flagAddr).run Tryz.prog w=.ok (.agg #[.pointer (some ⟨9,24,none⟩),.pointer (some p),.int .u64 386]) w:=by kernel_rfl
theorem asx_elemV27 (a p:Addr) (W:World) (ha:W.cell? a=some (.pointer (some p))) :
  (ReflectliteValue.method (ReflectliteValue.valueError "reflectlite.Value.Elem" 0) ReflectliteValue.elem #[.agg #[.pointer (some ⟨9, 117, none⟩), .pointer (some a), .int .u64 150]]).run Tryz.prog W
   = .ok (.agg #[.pointer (some ⟨9,24,none⟩),.pointer (some p),.int .u64 386]) W:=by
 rw [rlm]
 simp only [Sem.run_bind,asx_parts27,Result.andThen]
 simp [ReflectliteValue.elem,loadVar,isAgg,underlying,Tryz.underlying117,ha,Result.andThen,asx_elemOf27,asx_mk25]
theorem rls (v x:Value):∃ (s1 s2 s3 s4 s5:String),ReflectliteValue.set #[v,x]=(do
  let (some (dst,a,fl),some (src,b,_)):=(← ReflectliteValue.parts v,← ReflectliteValue.parts x)
   | unsupported (.noEntry s1)
  if fl / ReflectliteValue.flagAddr % 2==0 then unsupported (.noEntry s2)
  let val ← loadVar src b
  if ← Rtype.directlyAssignable dst src then storeVar dst a val
  else if ← Rtype.implements dst src then
   if (← Rtype.kind src)==20 then
    match val with
    | .nilIface=>unsupported (.noEntry s3)
    | _=>storeVar dst a val
   else storeVar dst a (.iface src val)
  else panicString (s4++(← Rtype.spelt src)++s5++(← Rtype.spelt dst))
  pure (.tuple #[])):=⟨_,_,_,_,_,rfl⟩
theorem asx_parts25a (a:Addr) (w:World):(ReflectliteValue.parts (.agg #[.pointer (some ⟨9,24,none⟩),.pointer (some a),.int .u64 386])).run Tryz.prog w=.ok (some (24,a,386)) w:=by kernel_rfl
theorem asx_parts25 (a:Addr) (w:World):(ReflectliteValue.parts (.agg #[.pointer (some ⟨9,24,none⟩),.pointer (some a),.int .u64 130])).run Tryz.prog w=.ok (some (24,a,130)) w:=by kernel_rfl
theorem asx_direct25 (w:World):(Rtype.directlyAssignable 24 24).run Tryz.prog w=.ok true w:=by kernel_rfl
theorem asx_set25 (ta b:Addr) (k:Int) (old:Value) (W:World) (hb:W.cell? b=some (.int .i64 k)) (ht:W.cell? ta=some old) (hf:W.frozen? ta=false) :
  (ReflectliteValue.set #[.agg #[.pointer (some ⟨9,24,none⟩),.pointer (some ta),.int .u64 386],.agg #[.pointer (some ⟨9,24,none⟩),.pointer (some b),.int .u64 130]]).run Tryz.prog W
   = .ok (.tuple #[]) (W.setCell ta (.int .i64 k)):=by
 obtain ⟨s1,s2,s3,s4,s5,hz⟩:=rls (.agg #[.pointer (some ⟨9,24,none⟩),.pointer (some ta),.int .u64 386]) (.agg #[.pointer (some ⟨9,24,none⟩),.pointer (some b),.int .u64 130])
 rw [hz]
 simp only [Sem.run_bind,asx_parts25a,asx_parts25,Result.andThen]
 simp [ReflectliteValue.flagAddr,loadVar,isAgg,underlying,Tryz.underlying24,hb,Result.andThen,asx_direct25,storeVar,Value.cells,storeCells,Addr.add]
 rw [run_store Tryz.prog W ta _ _ (by rfl)]
 simp [ht,hf]
theorem as_hit (k:Int) (t:Addr) (old:Value) (w:World) (hg:w.cell? ⟨0,0,none⟩=some (.iface 249 (.agg #[.pointer (some ⟨9,27,none⟩)]))) (ht0:w.cell? t=some old) (hf0:w.frozen? t=false) :
  Calls Tryz.prog 49 #[.iface 24 (.int .i64 k),.iface 117 (.pointer (some t))] w fun ev w'=>ev=.returned (.bool true)/\w'=((((w.alloc (.cells #[.pointer (some t)] 117)).alloc (.cells #[.pointer (some ⟨9,117,none⟩),.pointer (some ⟨w.heap.size,0,none⟩),.int .u64 150] 179)).alloc (.cells #[.pointer (some ⟨9,117,none⟩),.pointer (some ⟨w.heap.size,0,none⟩),.int .u64 150] 179)).alloc (.cells #[.int .i64 k] 24)).setCell t (.int .i64 k):=by
 have h6:=@run_callFunc_extern Tryz.prog 92 _ (fun args=>ReflectliteValue.unpack (args.getD 0 (.tuple #[]))) Tryz.func92 (by kernel_rfl) (by kernel_rfl) (by kernel_rfl) (by kernel_rfl)
 have h7 := @run_callFunc_extern Tryz.prog 93 _ (ReflectliteValue.methodAny (ReflectliteValue.valueError "reflectlite.Value.Type" 0) (fun t _ _ _ => ReflectliteType.toType t)) Tryz.func93 (by kernel_rfl) (by kernel_rfl) (by kernel_rfl) (by kernel_rfl)
 have h8 := @run_callFunc_extern Tryz.prog 94 _ (ReflectliteValue.method (ReflectliteValue.valueError "reflectlite.Value.IsNil" 0) ReflectliteValue.isNil) Tryz.func94 (by kernel_rfl) (by kernel_rfl) (by kernel_rfl) (by kernel_rfl)
 have h27:=@run_callFunc_extern Tryz.prog 257 _ (ReflectliteType.abiMethod fun t=>do pure (.int .u8 (← Rtype.kind t))) Tryz.func257 (by kernel_rfl) (by kernel_rfl) (by kernel_rfl) (by kernel_rfl)
 have h37:=@run_callFunc_extern Tryz.prog 266 _ (ReflectliteType.method ReflectliteType.elem) Tryz.func266 (by kernel_rfl) (by kernel_rfl) (by kernel_rfl) (by kernel_rfl)
 have h38 := @run_callFunc_extern Tryz.prog 267 _ (ReflectliteType.relation "Implements" ReflectliteType.implements_) Tryz.func267 (by kernel_rfl) (by kernel_rfl) (by kernel_rfl) (by kernel_rfl)
 have h10:=@run_callFunc_extern Tryz.prog 164 _ ReflectliteType.typeOf Tryz.func164 (by kernel_rfl) (by kernel_rfl) (by kernel_rfl) (by kernel_rfl)
 have h35 := @run_callFunc_extern Tryz.prog 264 _ (ReflectliteType.relation "AssignableTo" ReflectliteType.assignableTo) Tryz.func264 (by kernel_rfl) (by kernel_rfl) (by kernel_rfl) (by kernel_rfl)
 have h11 := @run_callFunc_extern Tryz.prog 165 _ (ReflectliteValue.method (ReflectliteValue.valueError "reflectlite.Value.Elem" 0) ReflectliteValue.elem) Tryz.func165 (by kernel_rfl) (by kernel_rfl) (by kernel_rfl) (by kernel_rfl)
 have h12:=@run_callFunc_extern Tryz.prog 166 _ ReflectliteValue.set Tryz.func166 (by kernel_rfl) (by kernel_rfl) (by kernel_rfl) (by kernel_rfl)
 have tO:=asx_typeOf25
 have mA:=asx_methodAssignableTo
 have a25:=asx_assignable25
 have v25:=asx_valueOf25
 have f6:=asx_valueOf27
 have f7:=asx_type27
 have mK:=asx_methodKind
 have mE:=asx_methodElem
 have mI:=asx_methodImplements
 have k27:=asx_kind27
 have k25:=asx_kind25
 have e27:=asx_elem27
 have i25:=asx_implements25
 have n8:=asx_isNil27 ⟨w.heap.size,0,none⟩ t ((w.alloc (.cells #[.pointer (some t)] 117)).alloc (.cells #[.pointer (some ⟨9,117,none⟩),.pointer (some ⟨w.heap.size,0,none⟩),.int .u64 150] 179)) (by simp)
 have hlt:0<w.heap.size:=by
  rcases Nat.eq_zero_or_pos w.heap.size with h0|h
  ·simp [World.cell?,h0] at hg
  ·exact h
 have hg2:((w.alloc (.cells #[.pointer (some t)] 117)).alloc (.cells #[.pointer (some ⟨9,117,none⟩),.pointer (some ⟨w.heap.size,0,none⟩),.int .u64 150] 179)).cell? ⟨0,0,none⟩=some (.iface 249 (.agg #[.pointer (some ⟨9,27,none⟩)])):=by
  rw [World.cell?_alloc_lt _ _ ⟨0,0,none⟩ (by simp),World.cell?_alloc_lt _ _ ⟨0,0,none⟩ hlt];exact hg
 have htl:t.block<w.heap.size:=by
  rcases Nat.lt_or_ge t.block w.heap.size with h|h
  ·exact h
  ·simp [World.cell?,Array.getElem?_eq_none h] at ht0
 have el:=asx_elemV27 ⟨w.heap.size,0,none⟩ t (((w.alloc (.cells #[.pointer (some t)] 117)).alloc (.cells #[.pointer (some ⟨9,117,none⟩),.pointer (some ⟨w.heap.size,0,none⟩),.int .u64 150] 179)).alloc (.cells #[.pointer (some ⟨9,117,none⟩),.pointer (some ⟨w.heap.size,0,none⟩),.int .u64 150] 179)) (by rw [World.cell?_alloc_lt _ _ ⟨w.heap.size,0,none⟩ (by simp;omega)];simp)
 have st:=asx_set25 t ⟨w.heap.size+1+1+1,0,none⟩ k old ((((w.alloc (.cells #[.pointer (some t)] 117)).alloc (.cells #[.pointer (some ⟨9,117,none⟩),.pointer (some ⟨w.heap.size,0,none⟩),.int .u64 150] 179)).alloc (.cells #[.pointer (some ⟨9,117,none⟩),.pointer (some ⟨w.heap.size,0,none⟩),.int .u64 150] 179)).alloc (.cells #[.int .i64 k] 24))
  (by rw [World.cell?_alloc_at _ _ _ _ (by simp)];rfl)
  (by rw [World.cell?_alloc_lt _ _ t (by simp;omega),World.cell?_alloc_lt _ _ t (by simp;omega),World.cell?_alloc_lt _ _ t (by simp;omega),World.cell?_alloc_lt _ _ t htl];exact ht0)
  (by rw [World.frozen?_alloc_old _ _ t (by simp;omega),World.frozen?_alloc_old _ _ t (by simp;omega),World.frozen?_alloc_old _ _ t (by simp;omega),World.frozen?_alloc_old _ _ t (Nat.ne_of_lt htl)];exact hf0)
 go_enter Tryz.func49,Tryz.ntmps49
 go_wp2
 refine wp_loop_rounds 1 ?_
 rw [rounds_succ]
 go_wp2
 go_ret
 exact ⟨rfl,rfl⟩
end Go.Proofs.YtddfdmopaeghnadGreatDoor
namespace Go.Proofs.YtddfdmopaeghnadGreatDoor
open Go.RowKit
def ErrT (w:World):Prop:=w.cell? ⟨0,0,none⟩=some (.iface 249 (.agg #[.pointer (some ⟨9,27,none⟩)]))
theorem ErrT.past {w w':World} (h:ErrT w) (hs:0+1<=w.heap.size) (hb:Below w.heap.size w w'):ErrT w' :=
 (hb.cell (p:=⟨0,0,none⟩) (Nat.lt_of_lt_of_le (by decide) hs)).trans h
theorem ErrT.drew {w:World} (h:ErrT w):ErrT w.drew:=h
end Go.Proofs.YtddfdmopaeghnadGreatDoor
