/- errors. With what it rests on. Conditions: as each theorem states them. -/
import Derived.Test.YtddfdmopaeghnacGreatDoorLqMm
import Derived.Test.YtddfdmopaeghnacGreatDoorLqDw
import Derived.WalkKit
import Derived.LaidEql
import Derived.Stop.Asserts
import Derived.RowKitTokens
import Derived.WalkSpells
import Derived.WalkLawsBesides
set_option maxRecDepth 100000
set_option maxHeartbeats 16000000
namespace Go.Proofs.YtddfdmopaeghnacGreatDoor
open Go.RowKit Go.Extern.Stop Go.Stop Go.Extern
theorem t9_ (t:Addr) (w:World):(ReflectliteValue.unpack (.iface 190 (.pointer (some t)))).run Tryz.prog w
  = .ok (.agg #[.pointer (some ⟨9,190,none⟩),.pointer (some ⟨w.heap.size,0,none⟩),.int .u64 150]) (w.alloc (.cells #[.pointer (some t)] 190)):=by kernel_rfl
theorem y2_ (a : Addr) (w : World) : (ReflectliteValue.methodAny (ReflectliteValue.valueError "reflectlite.Value.Type" 0) (fun t _ _ _ => ReflectliteType.toType t) #[.agg #[.pointer (some ⟨9, 190, none⟩), .pointer (some a), .int .u64 150]]).run Tryz.prog w
  = .ok (.iface 273 (.agg #[.pointer (some ⟨9,190,none⟩)])) w:=by kernel_rfl
theorem qT_ (h : Value) (w : World) : (Go.method 455 273 (.agg #[h]) "Kind").run Tryz.prog w = .ok (256, h) w := by kernel_rfl
theorem y1_ (w:World):((ReflectliteType.abiMethod fun t=>(fun a:Nat=>Value.int IntKind.u8 (a:Int)) <$> Rtype.kind t) #[.pointer (some ⟨9,190,none⟩)]).run Tryz.prog w=.ok (.int .u8 22) w:=by kernel_rfl
theorem y0_ (w:World):((ReflectliteType.abiMethod fun t=>(fun a:Nat=>Value.int IntKind.u8 (a:Int)) <$> Rtype.kind t) #[.pointer (some ⟨9,43,none⟩)]).run Tryz.prog w=.ok (.int .u8 2) w:=by kernel_rfl
theorem rlm (z:Sem Value) (f:TypeId->Addr->Nat->Nat->Sem Value) (v:Value) :
  ReflectliteValue.method z f #[v]=(do match ← ReflectliteValue.parts v with|none=>z|some (t,a,fl)=>f t a fl (fl % 32)):=rfl
theorem oF_ (a:Addr) (w:World):(ReflectliteValue.parts (.agg #[.pointer (some ⟨9,190,none⟩),.pointer (some a),.int .u64 150])).run Tryz.prog w=.ok (some (190,a,150)) w:=by kernel_rfl
theorem w2_ (a p:Addr) (W:World) (ha:W.cell? a=some (.pointer (some p))) :
  (ReflectliteValue.method (ReflectliteValue.valueError "reflectlite.Value.IsNil" 0) ReflectliteValue.isNil #[.agg #[.pointer (some ⟨9, 190, none⟩), .pointer (some a), .int .u64 150]]).run Tryz.prog W = .ok (.bool false) W := by
 rw [rlm]
 simp only [Sem.run_bind,oF_,Result.andThen]
 simp [ReflectliteValue.isNil,loadVar,isAgg,underlying,Tryz.underlying190,ha,Result.andThen]
theorem qS_ (h : Value) (w : World) : (Go.method 455 273 (.agg #[h]) "Elem").run Tryz.prog w = .ok (267, .agg #[h]) w := by kernel_rfl
theorem lG_ (h : Value) (w : World) : (Go.method 455 273 (.agg #[h]) "Implements").run Tryz.prog w = .ok (268, .agg #[h]) w := by kernel_rfl
theorem kQ_ (h : Value) (w : World) : (Go.method 455 273 (.agg #[h]) "AssignableTo").run Tryz.prog w = .ok (265, .agg #[h]) w := by kernel_rfl
theorem xZ_ (w:World):(ReflectliteType.method ReflectliteType.elem #[.agg #[.pointer (some ⟨9,190,none⟩)]]).run Tryz.prog w=.ok (.iface 273 (.agg #[.pointer (some ⟨9,43,none⟩)])) w:=by kernel_rfl
theorem oW_ (w : World) : (ReflectliteType.relation "Implements" ReflectliteType.implements_ #[.agg #[.pointer (some ⟨9, 43, none⟩)], .iface 273 (.agg #[.pointer (some ⟨9, 28, none⟩)])]).run Tryz.prog w = .ok (.bool true) w := by kernel_rfl
theorem u0_ (v:Value) (w:World):(ReflectliteType.typeOf #[.iface 43 v]).run Tryz.prog w=.ok (.iface 273 (.agg #[.pointer (some ⟨9,43,none⟩)])) w:=by kernel_rfl
theorem oV_ (w : World) : (ReflectliteType.relation "AssignableTo" ReflectliteType.assignableTo #[.agg #[.pointer (some ⟨9, 43, none⟩)], .iface 273 (.agg #[.pointer (some ⟨9, 43, none⟩)])]).run Tryz.prog w = .ok (.bool true) w := by kernel_rfl
theorem t8_ (k:Int) (w:World):(ReflectliteValue.unpack (.iface 43 (.int .i64 k))).run Tryz.prog w
  = .ok (.agg #[.pointer (some ⟨9,43,none⟩),.pointer (some ⟨w.heap.size,0,none⟩),.int .u64 130]) (w.alloc (.cells #[.int .i64 k] 43)):=by kernel_rfl
theorem tY_ (w:World):(Rtype.elem? 190).run Tryz.prog w=.ok (some 43) w:=by kernel_rfl
theorem acW_ (p:Addr) (w:World):(ReflectliteValue.mk 43 p ReflectliteValue.flagAddr).run Tryz.prog w=.ok (.agg #[.pointer (some ⟨9,43,none⟩),.pointer (some p),.int .u64 386]) w:=by kernel_rfl
theorem w1_ (a p:Addr) (W:World) (ha:W.cell? a=some (.pointer (some p))) :
  (ReflectliteValue.method (ReflectliteValue.valueError "reflectlite.Value.Elem" 0) ReflectliteValue.elem #[.agg #[.pointer (some ⟨9, 190, none⟩), .pointer (some a), .int .u64 150]]).run Tryz.prog W
   = .ok (.agg #[.pointer (some ⟨9,43,none⟩),.pointer (some p),.int .u64 386]) W:=by
 rw [rlm]
 simp only [Sem.run_bind,oF_,Result.andThen]
 simp [ReflectliteValue.elem,loadVar,isAgg,underlying,Tryz.underlying190,ha,Result.andThen,tY_,acW_]
theorem rls (v x:Value):∃ (s1 s2 s3 s4 s5:String),ReflectliteValue.set #[v,x]=(do
  let (some (dst,a,fl),some (src,b,_)):=(← ReflectliteValue.parts v,← ReflectliteValue.parts x)
   | unsupported (.noEntry s1)
  if fl / ReflectliteValue.flagAddr % 2==0 then unsupported (.noEntry s2)
  let val ← loadVar src b
  if ← Rtype.directlyAssignable dst src then storeVar dst a val
  else if ← Rtype.implements dst src then
   if (← Rtype.kind src)==20 then
    match val with
    | .nilIface=>unsupported (.noEntry s3)
    | _=>storeVar dst a val
   else storeVar dst a (.iface src val)
  else panicString (s4++(← Rtype.spelt src)++s5++(← Rtype.spelt dst))
  pure (.tuple #[])):=⟨_,_,_,_,_,rfl⟩
theorem tZ_ (a:Addr) (w:World):(ReflectliteValue.parts (.agg #[.pointer (some ⟨9,43,none⟩),.pointer (some a),.int .u64 386])).run Tryz.prog w=.ok (some (43,a,386)) w:=by kernel_rfl
theorem w3_ (a:Addr) (w:World):(ReflectliteValue.parts (.agg #[.pointer (some ⟨9,43,none⟩),.pointer (some a),.int .u64 130])).run Tryz.prog w=.ok (some (43,a,130)) w:=by kernel_rfl
theorem tX_ (w:World):(Rtype.directlyAssignable 43 43).run Tryz.prog w=.ok true w:=by kernel_rfl
theorem aa1_ (ta b:Addr) (k:Int) (old:Value) (W:World) (hb:W.cell? b=some (.int .i64 k)) (ht:W.cell? ta=some old) (hf:W.frozen? ta=false) :
  (ReflectliteValue.set #[.agg #[.pointer (some ⟨9,43,none⟩),.pointer (some ta),.int .u64 386],.agg #[.pointer (some ⟨9,43,none⟩),.pointer (some b),.int .u64 130]]).run Tryz.prog W
   = .ok (.tuple #[]) (W.setCell ta (.int .i64 k)):=by
 obtain ⟨s1,s2,s3,s4,s5,hz⟩:=rls (.agg #[.pointer (some ⟨9,43,none⟩),.pointer (some ta),.int .u64 386]) (.agg #[.pointer (some ⟨9,43,none⟩),.pointer (some b),.int .u64 130])
 rw [hz]
 simp only [Sem.run_bind,tZ_,w3_,Result.andThen]
 simp [ReflectliteValue.flagAddr,loadVar,isAgg,underlying,Tryz.underlying43,hb,Result.andThen,tX_,storeVar,Value.cells,storeCells,Addr.add]
 rw [run_store Tryz.prog W ta _ _ (by rfl)]
 simp [ht,hf]
theorem ahX_ (k:Int) (t:Addr) (old:Value) (w:World) (hg:w.cell? ⟨0,0,none⟩=some (.iface 273 (.agg #[.pointer (some ⟨9,28,none⟩)]))) (ht0:w.cell? t=some old) (hf0:w.frozen? t=false) :
  Calls Tryz.prog 108 #[.iface 43 (.int .i64 k),.iface 190 (.pointer (some t))] w fun ev w'=>ev=.returned (.bool true)/\w'=((((w.alloc (.cells #[.pointer (some t)] 190)).alloc (.cells #[.pointer (some ⟨9,190,none⟩),.pointer (some ⟨w.heap.size,0,none⟩),.int .u64 150] 238)).alloc (.cells #[.pointer (some ⟨9,190,none⟩),.pointer (some ⟨w.heap.size,0,none⟩),.int .u64 150] 238)).alloc (.cells #[.int .i64 k] 43)).setCell t (.int .i64 k):=by
 have h6:=@run_callFunc_extern Tryz.prog 156 _ (fun args=>ReflectliteValue.unpack (args.getD 0 (.tuple #[]))) Tryz.func156 (by kernel_rfl) (by kernel_rfl) (by kernel_rfl) (by kernel_rfl)
 have h7 := @run_callFunc_extern Tryz.prog 157 _ (ReflectliteValue.methodAny (ReflectliteValue.valueError "reflectlite.Value.Type" 0) (fun t _ _ _ => ReflectliteType.toType t)) Tryz.func157 (by kernel_rfl) (by kernel_rfl) (by kernel_rfl) (by kernel_rfl)
 have h8 := @run_callFunc_extern Tryz.prog 158 _ (ReflectliteValue.method (ReflectliteValue.valueError "reflectlite.Value.IsNil" 0) ReflectliteValue.isNil) Tryz.func158 (by kernel_rfl) (by kernel_rfl) (by kernel_rfl) (by kernel_rfl)
 have h27:=@run_callFunc_extern Tryz.prog 256 _ (ReflectliteType.abiMethod fun t=>do pure (.int .u8 (← Rtype.kind t))) Tryz.func256 (by kernel_rfl) (by kernel_rfl) (by kernel_rfl) (by kernel_rfl)
 have h37:=@run_callFunc_extern Tryz.prog 267 _ (ReflectliteType.method ReflectliteType.elem) Tryz.func267 (by kernel_rfl) (by kernel_rfl) (by kernel_rfl) (by kernel_rfl)
 have h38 := @run_callFunc_extern Tryz.prog 268 _ (ReflectliteType.relation "Implements" ReflectliteType.implements_) Tryz.func268 (by kernel_rfl) (by kernel_rfl) (by kernel_rfl) (by kernel_rfl)
 have h10:=@run_callFunc_extern Tryz.prog 186 _ ReflectliteType.typeOf Tryz.func186 (by kernel_rfl) (by kernel_rfl) (by kernel_rfl) (by kernel_rfl)
 have h35 := @run_callFunc_extern Tryz.prog 265 _ (ReflectliteType.relation "AssignableTo" ReflectliteType.assignableTo) Tryz.func265 (by kernel_rfl) (by kernel_rfl) (by kernel_rfl) (by kernel_rfl)
 have h11 := @run_callFunc_extern Tryz.prog 187 _ (ReflectliteValue.method (ReflectliteValue.valueError "reflectlite.Value.Elem" 0) ReflectliteValue.elem) Tryz.func187 (by kernel_rfl) (by kernel_rfl) (by kernel_rfl) (by kernel_rfl)
 have h12:=@run_callFunc_extern Tryz.prog 188 _ ReflectliteValue.set Tryz.func188 (by kernel_rfl) (by kernel_rfl) (by kernel_rfl) (by kernel_rfl)
 have tO:=u0_
 have mA:=kQ_
 have a25:=oV_
 have v25:=t8_
 have f6:=t9_
 have f7:=y2_
 have mK:=qT_
 have mE:=qS_
 have mI:=lG_
 have k27:=y1_
 have k25:=y0_
 have e27:=xZ_
 have i25:=oW_
 have n8:=w2_ ⟨w.heap.size,0,none⟩ t ((w.alloc (.cells #[.pointer (some t)] 190)).alloc (.cells #[.pointer (some ⟨9,190,none⟩),.pointer (some ⟨w.heap.size,0,none⟩),.int .u64 150] 238)) (by simp)
 have hlt:0<w.heap.size:=by
  rcases Nat.eq_zero_or_pos w.heap.size with h0|h
  ·simp [World.cell?,h0] at hg
  ·exact h
 have hg2:((w.alloc (.cells #[.pointer (some t)] 190)).alloc (.cells #[.pointer (some ⟨9,190,none⟩),.pointer (some ⟨w.heap.size,0,none⟩),.int .u64 150] 238)).cell? ⟨0,0,none⟩=some (.iface 273 (.agg #[.pointer (some ⟨9,28,none⟩)])):=by
  rw [World.cell?_alloc_lt _ _ ⟨0,0,none⟩ (by simp),World.cell?_alloc_lt _ _ ⟨0,0,none⟩ hlt];exact hg
 have htl:t.block<w.heap.size:=by
  rcases Nat.lt_or_ge t.block w.heap.size with h|h
  ·exact h
  ·simp [World.cell?,Array.getElem?_eq_none h] at ht0
 have el:=w1_ ⟨w.heap.size,0,none⟩ t (((w.alloc (.cells #[.pointer (some t)] 190)).alloc (.cells #[.pointer (some ⟨9,190,none⟩),.pointer (some ⟨w.heap.size,0,none⟩),.int .u64 150] 238)).alloc (.cells #[.pointer (some ⟨9,190,none⟩),.pointer (some ⟨w.heap.size,0,none⟩),.int .u64 150] 238)) (by rw [World.cell?_alloc_lt _ _ ⟨w.heap.size,0,none⟩ (by simp;omega)];simp)
 have st:=aa1_ t ⟨w.heap.size+1+1+1,0,none⟩ k old ((((w.alloc (.cells #[.pointer (some t)] 190)).alloc (.cells #[.pointer (some ⟨9,190,none⟩),.pointer (some ⟨w.heap.size,0,none⟩),.int .u64 150] 238)).alloc (.cells #[.pointer (some ⟨9,190,none⟩),.pointer (some ⟨w.heap.size,0,none⟩),.int .u64 150] 238)).alloc (.cells #[.int .i64 k] 43))
  (by rw [World.cell?_alloc_at _ _ _ _ (by simp)];rfl)
  (by rw [World.cell?_alloc_lt _ _ t (by simp;omega),World.cell?_alloc_lt _ _ t (by simp;omega),World.cell?_alloc_lt _ _ t (by simp;omega),World.cell?_alloc_lt _ _ t htl];exact ht0)
  (by rw [World.frozen?_alloc_old _ _ t (by simp;omega),World.frozen?_alloc_old _ _ t (by simp;omega),World.frozen?_alloc_old _ _ t (by simp;omega),World.frozen?_alloc_old _ _ t (Nat.ne_of_lt htl)];exact hf0)
 go_enter Tryz.func108,Tryz.ntmps108
 go_wp2
 refine wp_loop_rounds 1 ?_
 rw [rounds_succ]
 go_wp2
 go_ret
 exact ⟨rfl,rfl⟩
end Go.Proofs.YtddfdmopaeghnacGreatDoor
namespace Go.Proofs.YtddfdmopaeghnacGreatDoor
open Go.RowKit
def hW_ (w:World):Prop:=w.cell? ⟨0,0,none⟩=some (.iface 273 (.agg #[.pointer (some ⟨9,28,none⟩)]))
theorem vW_ (w:World):Calls Tryz.prog 64 #[.nilIface] w fun e w'=>e=.returned (.int .i64 0)/\w=w':=by
 go_enter Tryz.func64,Tryz.ntmps64
 go_wp2_with fail
 go_ret
 exact ⟨rfl,rfl⟩
theorem af3_ (k:Int) (w:World) (hg:hW_ w) (hs:0+1<=w.heap.size):Calls Tryz.prog 64 #[.iface 43 (.int .i64 k)] w (Ret w (.int .i64 k)):=by
 have hlt:(0:Nat)<w.heap.size:=by omega
 go_enter Tryz.func64,Tryz.ntmps64
 have hg2:(w.alloc (.cells #[.int .i64 0] 43)).cell? ⟨0,0,none⟩=some (.iface 273 (.agg #[.pointer (some ⟨9,28,none⟩)])):=by
  rw [World.cell?_alloc_lt _ _ ⟨0,0,none⟩ hlt];exact hg
 have HG:=hd_ hg2;clear hg2 hg
 go_wp2_with (go_at_call 108;refine (ahX_ k ⟨w.heap.size,0,none⟩ (.int .i64 0) _ HG.out (by simp) (by simp)).mono ?_;rintro e w1 ⟨rfl,rfl⟩)
 go_ret
 exact ⟨rfl,aA_⟩
theorem qE_ (n e:Int) (w:World) (hg:hW_ w) (hs:0+1<=w.heap.size):Calls Tryz.prog 25 #[dU_ n,.int .i64 e] w (Ret w (.bool (n==e))):=by
 by_cases hn:n=0
 ·subst hn
  rw [← dN_ rfl]
  clear hg
  by_cases he:e=0
  ·subst he
   go_enter Tryz.func25,Tryz.ntmps25
   go_wp2_with (go_at_call 64;refine (vW_ _).mono ?_;rintro e w1 ⟨rfl,rfl⟩)
   go_ret
   exact ⟨by simp,Below.refl _ _⟩
  ·have h0:((0:Int)==e)=false:=by simp;omega
   have H0:=hd_ h0
   go_enter Tryz.func25,Tryz.ntmps25
   go_wp2_with (go_at_call 64;refine (vW_ _).mono ?_;rintro e w1 ⟨rfl,rfl⟩)
   go_ret
   exact ⟨by rw [H0.out];rfl,Below.refl _ _⟩
 ·rw [← bQ_ hn]
  have HG:=hd_ hg;clear hg
  clear hn
  go_enter Tryz.func25,Tryz.ntmps25
  go_wp2_with (go_at_call 64;refine (af3_ n _ HG.out hs).mono ?_;rintro e w1 ⟨rfl,hB1⟩)
  go_ret
  exact ⟨rfl,hB1⟩
theorem hW_.past {w w':World} (h:hW_ w) (hs:0+1<=w.heap.size) (hb:Below w.heap.size w w'):hW_ w' :=
 (hb.cell (p:=⟨0,0,none⟩) (Nat.lt_of_lt_of_le (by decide) hs)).trans h
theorem n1_ (w:World) (hg:hW_ w) (hs:0+1<=w.heap.size):Calls Tryz.prog 25 #[.nilIface,.int .i64 0] w (Ret w (.bool true)):=by
 have h:=qE_ 0 0 w hg hs
 rw [← dN_ rfl] at h
 exact h
theorem g0_ (k:Int) (hk:k≠0) (w:World) (hg:hW_ w) (hs:0+1<=w.heap.size):Calls Tryz.prog 25 #[.iface 43 (.int .i64 k),.int .i64 k] w (Ret w (.bool true)):=by
 have h:=qE_ k k w hg hs
 rw [← bQ_ hk,beq_self_eq_true] at h
 exact h
end Go.Proofs.YtddfdmopaeghnacGreatDoor
