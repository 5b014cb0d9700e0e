/- errors. With what it rests on. Conditions: as each theorem states them. -/
import Derived.Test.YtddfdmopaeghnadGreatDoorDqDw
import Derived.LaidEql
import Derived.Stop.Asserts
import Derived.RowKitTokens
set_option maxRecDepth 100000
set_option maxHeartbeats 16000000
namespace Go.Proofs.YtddfdmopaeghnadGreatDoor
section
open Go.RowKit Go.Extern.Stop Go.Stop Go.Extern
theorem vV_ (t:Addr) (w:World):(ReflectliteValue.unpack (.iface 117 (.pointer (some t)))).run Tryz.prog w
  = .ok (.agg #[.pointer (some ⟨9,117,none⟩),.pointer (some ⟨w.heap.size,0,none⟩),.int .u64 150]) (w.alloc (.cells #[.pointer (some t)] 117)):=by kernel_rfl
theorem ab0_ (a : Addr) (w : World) : (ReflectliteValue.methodAny (ReflectliteValue.valueError "reflectlite.Value.Type" 0) (fun t _ _ _ => ReflectliteType.toType t) #[.agg #[.pointer (some ⟨9, 117, none⟩), .pointer (some a), .int .u64 150]]).run Tryz.prog w
  = .ok (.iface 249 (.agg #[.pointer (some ⟨9,117,none⟩)])) w:=by kernel_rfl
theorem sZ_ (h : Value) (w : World) : (Go.method 459 249 (.agg #[h]) "Kind").run Tryz.prog w = .ok (257, h) w := by kernel_rfl
theorem aaZ_ (w:World):((ReflectliteType.abiMethod fun t=>(fun a:Nat=>Value.int IntKind.u8 (a:Int)) <$> Rtype.kind t) #[.pointer (some ⟨9,117,none⟩)]).run Tryz.prog w=.ok (.int .u8 22) w:=by kernel_rfl
theorem aaY_ (w:World):((ReflectliteType.abiMethod fun t=>(fun a:Nat=>Value.int IntKind.u8 (a:Int)) <$> Rtype.kind t) #[.pointer (some ⟨9,24,none⟩)]).run Tryz.prog w=.ok (.int .u8 2) w:=by kernel_rfl
theorem rlm (z:Sem Value) (f:TypeId->Addr->Nat->Nat->Sem Value) (v:Value) :
  ReflectliteValue.method z f #[v]=(do match ← ReflectliteValue.parts v with|none=>z|some (t,a,fl)=>f t a fl (fl % 32)):=rfl
theorem q0_ (a:Addr) (w:World):(ReflectliteValue.parts (.agg #[.pointer (some ⟨9,117,none⟩),.pointer (some a),.int .u64 150])).run Tryz.prog w=.ok (some (117,a,150)) w:=by kernel_rfl
theorem yY_ (a p:Addr) (W:World) (ha:W.cell? a=some (.pointer (some p))) :
  (ReflectliteValue.method (ReflectliteValue.valueError "reflectlite.Value.IsNil" 0) ReflectliteValue.isNil #[.agg #[.pointer (some ⟨9, 117, none⟩), .pointer (some a), .int .u64 150]]).run Tryz.prog W = .ok (.bool false) W := by
 rw [rlm]
 simp only [Sem.run_bind,q0_,Result.andThen]
 simp [ReflectliteValue.isNil,loadVar,isAgg,underlying,Tryz.underlying117,ha,Result.andThen]
theorem sY_ (h : Value) (w : World) : (Go.method 459 249 (.agg #[h]) "Elem").run Tryz.prog w = .ok (266, .agg #[h]) w := by kernel_rfl
theorem mM_ (h : Value) (w : World) : (Go.method 459 249 (.agg #[h]) "Implements").run Tryz.prog w = .ok (267, .agg #[h]) w := by kernel_rfl
theorem lV_ (h : Value) (w : World) : (Go.method 459 249 (.agg #[h]) "AssignableTo").run Tryz.prog w = .ok (264, .agg #[h]) w := by kernel_rfl
theorem aaX_ (w:World):(ReflectliteType.method ReflectliteType.elem #[.agg #[.pointer (some ⟨9,117,none⟩)]]).run Tryz.prog w=.ok (.iface 249 (.agg #[.pointer (some ⟨9,24,none⟩)])) w:=by kernel_rfl
theorem qI_ (w : World) : (ReflectliteType.relation "Implements" ReflectliteType.implements_ #[.agg #[.pointer (some ⟨9, 24, none⟩)], .iface 249 (.agg #[.pointer (some ⟨9, 27, none⟩)])]).run Tryz.prog w = .ok (.bool true) w := by kernel_rfl
theorem wP_ (v:Value) (w:World):(ReflectliteType.typeOf #[.iface 24 v]).run Tryz.prog w=.ok (.iface 249 (.agg #[.pointer (some ⟨9,24,none⟩)])) w:=by kernel_rfl
theorem qH_ (w : World) : (ReflectliteType.relation "AssignableTo" ReflectliteType.assignableTo #[.agg #[.pointer (some ⟨9, 24, none⟩)], .iface 249 (.agg #[.pointer (some ⟨9, 24, none⟩)])]).run Tryz.prog w = .ok (.bool true) w := by kernel_rfl
theorem vU_ (k:Int) (w:World):(ReflectliteValue.unpack (.iface 24 (.int .i64 k))).run Tryz.prog w
  = .ok (.agg #[.pointer (some ⟨9,24,none⟩),.pointer (some ⟨w.heap.size,0,none⟩),.int .u64 130]) (w.alloc (.cells #[.int .i64 k] 24)):=by kernel_rfl
theorem wN_ (w:World):(Rtype.elem? 117).run Tryz.prog w=.ok (some 24) w:=by kernel_rfl
theorem ahP_ (p:Addr) (w:World):(ReflectliteValue.mk 24 p ReflectliteValue.flagAddr).run Tryz.prog w=.ok (.agg #[.pointer (some ⟨9,24,none⟩),.pointer (some p),.int .u64 386]) w:=by kernel_rfl
theorem yX_ (a p:Addr) (W:World) (ha:W.cell? a=some (.pointer (some p))) :
  (ReflectliteValue.method (ReflectliteValue.valueError "reflectlite.Value.Elem" 0) ReflectliteValue.elem #[.agg #[.pointer (some ⟨9, 117, none⟩), .pointer (some a), .int .u64 150]]).run Tryz.prog W
   = .ok (.agg #[.pointer (some ⟨9,24,none⟩),.pointer (some p),.int .u64 386]) W:=by
 rw [rlm]
 simp only [Sem.run_bind,q0_,Result.andThen]
 simp [ReflectliteValue.elem,loadVar,isAgg,underlying,Tryz.underlying117,ha,Result.andThen,wN_,ahP_]
theorem rls (v x:Value):∃ (s1 s2 s3 s4 s5:String),ReflectliteValue.set #[v,x]=(do
  let (some (dst,a,fl),some (src,b,_)):=(← ReflectliteValue.parts v,← ReflectliteValue.parts x)
   | unsupported (.noEntry s1)
  if fl / ReflectliteValue.flagAddr % 2==0 then unsupported (.noEntry s2)
  let val ← loadVar src b
  if ← Rtype.directlyAssignable dst src then storeVar dst a val
  else if ← Rtype.implements dst src then
   if (← Rtype.kind src)==20 then
    match val with
    | .nilIface=>unsupported (.noEntry s3)
    | _=>storeVar dst a val
   else storeVar dst a (.iface src val)
  else panicString (s4++(← Rtype.spelt src)++s5++(← Rtype.spelt dst))
  pure (.tuple #[])):=⟨_,_,_,_,_,rfl⟩
theorem wO_ (a:Addr) (w:World):(ReflectliteValue.parts (.agg #[.pointer (some ⟨9,24,none⟩),.pointer (some a),.int .u64 386])).run Tryz.prog w=.ok (some (24,a,386)) w:=by kernel_rfl
theorem yZ_ (a:Addr) (w:World):(ReflectliteValue.parts (.agg #[.pointer (some ⟨9,24,none⟩),.pointer (some a),.int .u64 130])).run Tryz.prog w=.ok (some (24,a,130)) w:=by kernel_rfl
theorem wM_ (w:World):(Rtype.directlyAssignable 24 24).run Tryz.prog w=.ok true w:=by kernel_rfl
theorem ae9_ (ta b:Addr) (k:Int) (old:Value) (W:World) (hb:W.cell? b=some (.int .i64 k)) (ht:W.cell? ta=some old) (hf:W.frozen? ta=false) :
  (ReflectliteValue.set #[.agg #[.pointer (some ⟨9,24,none⟩),.pointer (some ta),.int .u64 386],.agg #[.pointer (some ⟨9,24,none⟩),.pointer (some b),.int .u64 130]]).run Tryz.prog W
   = .ok (.tuple #[]) (W.setCell ta (.int .i64 k)):=by
 obtain ⟨s1,s2,s3,s4,s5,hz⟩:=rls (.agg #[.pointer (some ⟨9,24,none⟩),.pointer (some ta),.int .u64 386]) (.agg #[.pointer (some ⟨9,24,none⟩),.pointer (some b),.int .u64 130])
 rw [hz]
 simp only [Sem.run_bind,wO_,yZ_,Result.andThen]
 simp [ReflectliteValue.flagAddr,loadVar,isAgg,underlying,Tryz.underlying24,hb,Result.andThen,wM_,storeVar,Value.cells,storeCells,Addr.add]
 rw [run_store Tryz.prog W ta _ _ (by rfl)]
 simp [ht,hf]
theorem apX_ (k:Int) (t:Addr) (old:Value) (w:World) (hg:w.cell? ⟨0,0,none⟩=some (.iface 249 (.agg #[.pointer (some ⟨9,27,none⟩)]))) (ht0:w.cell? t=some old) (hf0:w.frozen? t=false) :
  Calls Tryz.prog 49 #[.iface 24 (.int .i64 k),.iface 117 (.pointer (some t))] w fun ev w'=>ev=.returned (.bool true)/\w'=((((w.alloc (.cells #[.pointer (some t)] 117)).alloc (.cells #[.pointer (some ⟨9,117,none⟩),.pointer (some ⟨w.heap.size,0,none⟩),.int .u64 150] 179)).alloc (.cells #[.pointer (some ⟨9,117,none⟩),.pointer (some ⟨w.heap.size,0,none⟩),.int .u64 150] 179)).alloc (.cells #[.int .i64 k] 24)).setCell t (.int .i64 k):=by
 have h6:=@run_callFunc_extern Tryz.prog 92 _ (fun args=>ReflectliteValue.unpack (args.getD 0 (.tuple #[]))) Tryz.func92 kr_ kr_ kr_ kr_
 have h7 := @run_callFunc_extern Tryz.prog 93 _ (ReflectliteValue.methodAny (ReflectliteValue.valueError "reflectlite.Value.Type" 0) (fun t _ _ _ => ReflectliteType.toType t)) Tryz.func93 kr_ kr_ kr_ kr_
 have h8 := @run_callFunc_extern Tryz.prog 94 _ (ReflectliteValue.method (ReflectliteValue.valueError "reflectlite.Value.IsNil" 0) ReflectliteValue.isNil) Tryz.func94 kr_ kr_ kr_ kr_
 have h27:=@run_callFunc_extern Tryz.prog 257 _ (ReflectliteType.abiMethod fun t=>do pure (.int .u8 (← Rtype.kind t))) Tryz.func257 kr_ kr_ kr_ kr_
 have h37:=@run_callFunc_extern Tryz.prog 266 _ (ReflectliteType.method ReflectliteType.elem) Tryz.func266 kr_ kr_ kr_ kr_
 have h38 := @run_callFunc_extern Tryz.prog 267 _ (ReflectliteType.relation "Implements" ReflectliteType.implements_) Tryz.func267 kr_ kr_ kr_ kr_
 have h10:=@run_callFunc_extern Tryz.prog 164 _ ReflectliteType.typeOf Tryz.func164 kr_ kr_ kr_ kr_
 have h35 := @run_callFunc_extern Tryz.prog 264 _ (ReflectliteType.relation "AssignableTo" ReflectliteType.assignableTo) Tryz.func264 kr_ kr_ kr_ kr_
 have h11 := @run_callFunc_extern Tryz.prog 165 _ (ReflectliteValue.method (ReflectliteValue.valueError "reflectlite.Value.Elem" 0) ReflectliteValue.elem) Tryz.func165 kr_ kr_ kr_ kr_
 have h12:=@run_callFunc_extern Tryz.prog 166 _ ReflectliteValue.set Tryz.func166 kr_ kr_ kr_ kr_
 have tO:=wP_
 have mA:=lV_
 have a25:=qH_
 have v25:=vU_
 have f6:=vV_
 have f7:=ab0_
 have mK:=sZ_
 have mE:=sY_
 have mI:=mM_
 have k27:=aaZ_
 have k25:=aaY_
 have e27:=aaX_
 have i25:=qI_
 have n8:=yY_ ⟨w.heap.size,0,none⟩ t ((w.alloc (.cells #[.pointer (some t)] 117)).alloc (.cells #[.pointer (some ⟨9,117,none⟩),.pointer (some ⟨w.heap.size,0,none⟩),.int .u64 150] 179)) si_
 have hlt:0<w.heap.size:=by
  rcases Nat.eq_zero_or_pos w.heap.size with h0|h
  ·simp [World.cell?,h0] at hg
  ·exact h
 have hg2:((w.alloc (.cells #[.pointer (some t)] 117)).alloc (.cells #[.pointer (some ⟨9,117,none⟩),.pointer (some ⟨w.heap.size,0,none⟩),.int .u64 150] 179)).cell? ⟨0,0,none⟩=some (.iface 249 (.agg #[.pointer (some ⟨9,27,none⟩)])):=by
  rw [World.cell?_alloc_lt _ _ ⟨0,0,none⟩ si_,World.cell?_alloc_lt _ _ ⟨0,0,none⟩ hlt];exact hg
 have htl:t.block<w.heap.size:=by
  rcases Nat.lt_or_ge t.block w.heap.size with h|h
  ·exact h
  ·simp [World.cell?,Array.getElem?_eq_none h] at ht0
 have el:=yX_ ⟨w.heap.size,0,none⟩ t (((w.alloc (.cells #[.pointer (some t)] 117)).alloc (.cells #[.pointer (some ⟨9,117,none⟩),.pointer (some ⟨w.heap.size,0,none⟩),.int .u64 150] 179)).alloc (.cells #[.pointer (some ⟨9,117,none⟩),.pointer (some ⟨w.heap.size,0,none⟩),.int .u64 150] 179)) (by rw [World.cell?_alloc_lt _ _ ⟨w.heap.size,0,none⟩ so_];simp)
 have st:=ae9_ t ⟨w.heap.size+1+1+1,0,none⟩ k old ((((w.alloc (.cells #[.pointer (some t)] 117)).alloc (.cells #[.pointer (some ⟨9,117,none⟩),.pointer (some ⟨w.heap.size,0,none⟩),.int .u64 150] 179)).alloc (.cells #[.pointer (some ⟨9,117,none⟩),.pointer (some ⟨w.heap.size,0,none⟩),.int .u64 150] 179)).alloc (.cells #[.int .i64 k] 24))
  (by rw [World.cell?_alloc_at _ _ _ _ si_];rfl)
  (by rw [World.cell?_alloc_lt _ _ t so_,World.cell?_alloc_lt _ _ t so_,World.cell?_alloc_lt _ _ t so_,World.cell?_alloc_lt _ _ t htl];exact ht0)
  (by rw [World.frozen?_alloc_old _ _ t so_,World.frozen?_alloc_old _ _ t so_,World.frozen?_alloc_old _ _ t so_,World.frozen?_alloc_old _ _ t (Nat.ne_of_lt htl)];exact hf0)
 go_enter Tryz.func49,Tryz.ntmps49
 go_wp2
 refine wp_loop_rounds 1 ?_
 rw [rounds_succ]
 go_wp2
 go_ret
 exact ⟨rfl,rfl⟩
end
section
open Go.RowKit
def gT_ (w:World):Prop:=w.cell? ⟨0,0,none⟩=some (.iface 249 (.agg #[.pointer (some ⟨9,27,none⟩)]))
theorem yS_ (w:World):Calls Tryz.prog 24 #[.nilIface] w fun e w'=>e=.returned (.int .i64 0)/\w=w':=by
 go_enter Tryz.func24,Tryz.ntmps24
 go_wp2_with fail
 go_ret
 exact ⟨rfl,rfl⟩
theorem al6_ (k:Int) (w:World) (hg:gT_ w) (hs:0+1<=w.heap.size):Calls Tryz.prog 24 #[.iface 24 (.int .i64 k)] w (Ret w (.int .i64 k)):=by
 have hlt:(0:Nat)<w.heap.size:=by omega
 go_enter Tryz.func24,Tryz.ntmps24
 have hg2:(w.alloc (.cells #[.int .i64 0] 24)).cell? ⟨0,0,none⟩=some (.iface 249 (.agg #[.pointer (some ⟨9,27,none⟩)])):=by
  rw [World.cell?_alloc_lt _ _ ⟨0,0,none⟩ hlt];exact hg
 have HG:=hd_ hg2;clear hg2 hg
 go_wp2_with (go_at_call 49;refine (apX_ k ⟨w.heap.size,0,none⟩ (.int .i64 0) _ HG.out si_ si_).mono ?_;rintro e w1 ⟨rfl,rfl⟩)
 go_ret
 exact ⟨rfl,aF_⟩
theorem sI_ (n e:Int) (w:World) (hg:gT_ w) (hs:0+1<=w.heap.size):Calls Tryz.prog 9 #[eQ_ n,.int .i64 e] w (Ret w (.bool (n==e))):=by
 by_cases hn:n=0
 ·subst hn
  rw [← fA_ rfl]
  clear hg
  by_cases he:e=0
  ·subst he
   go_enter Tryz.func9,Tryz.ntmps9
   go_wp2_with (go_at_call 24;refine (yS_ _).mono ?_;rintro e w1 ⟨rfl,rfl⟩)
   go_ret
   exact ⟨by simp,Below.refl _ _⟩
  ·have h0:((0:Int)==e)=false:=by simp;omega
   have H0:=hd_ h0
   go_enter Tryz.func9,Tryz.ntmps9
   go_wp2_with (go_at_call 24;refine (yS_ _).mono ?_;rintro e w1 ⟨rfl,rfl⟩)
   go_ret
   exact ⟨by rw [H0.out];rfl,Below.refl _ _⟩
 ·rw [← d2_ hn]
  have HG:=hd_ hg;clear hg
  clear hn
  go_enter Tryz.func9,Tryz.ntmps9
  go_wp2_with (go_at_call 24;refine (al6_ n _ HG.out hs).mono ?_;rintro e w1 ⟨rfl,hB1⟩)
  go_ret
  exact ⟨rfl,hB1⟩
theorem gT_.past {w w':World} (h:gT_ w) (hs:0+1<=w.heap.size) (hb:Below w.heap.size w w'):gT_ w' :=
 (hb.cell (p:=⟨0,0,none⟩) (Nat.lt_of_lt_of_le de_ hs)).trans h
theorem uD_ (w:World) (hg:gT_ w) (hs:0+1<=w.heap.size):Calls Tryz.prog 9 #[.nilIface,.int .i64 0] w (Ret w (.bool true)):=by
 have h:=sI_ 0 0 w hg hs
 rw [← fA_ rfl] at h
 exact h
theorem rV_ (k:Int) (hk:k≠0) (w:World) (hg:gT_ w) (hs:0+1<=w.heap.size):Calls Tryz.prog 9 #[.iface 24 (.int .i64 k),.int .i64 k] w (Ret w (.bool true)):=by
 have h:=sI_ k k w hg hs
 rw [← d2_ hk,beq_self_eq_true] at h
 exact h
end
end Go.Proofs.YtddfdmopaeghnadGreatDoor
