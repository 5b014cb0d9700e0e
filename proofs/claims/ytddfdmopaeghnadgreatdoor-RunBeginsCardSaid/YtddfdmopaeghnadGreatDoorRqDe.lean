/- A desk's map of lines, read and written; each statement's line is its own. With what it rests on. Conditions: as each theorem states them. -/
import Derived.Test.YtddfdmopaeghnadGreatDoorRqPg
import Derived.Test.YtddfdmopaeghnadGreatDoorRqPs
import Derived.Test.YtddfdmopaeghnadGreatDoorRqBc
import Derived.Maps.Keyed
import Derived.Deep.RegionHeld3
set_option maxRecDepth 100000
set_option maxHeartbeats 16000000
namespace Go.Proofs.YtddfdmopaeghnadGreatDoor
open Go.RowKit Go.Maps
theorem lineL_inj {u v:List Nd} (hu:treeF u=0) (hv:treeF v=0) (h:lineL u=lineL v):u=v:=by
 obtain ⟨tk,k1,l1⟩:=line_lx hu
 obtain ⟨tk',k2,l2⟩:=line_lx hv
 rw [h] at l1
 have e:tk=tk':=by
  have a:=(l1 0 [] (fun e=>by cases e)).1
  rw [(l2 0 [] (fun e=>by cases e)).1] at a
  exact (List.append_cancel_right a).symm
 subst e
 have r:∀ z:List Nd,treeF z=0->PcK z tk->progP (toB tk) 1 [] 0=.ok [z]:=fun z hz hk=>by
  have:=(prog_read (ws:=toB tk) [(z,tk)] 1 0 [] (fun y hy=>by simp at hy;subst hy;exact ⟨hz,hk⟩) trivial (by simpa using at_toB tk) (by simp [toB]) (by simp)).1
  simpa using this
 have h1:=(r u hu k1).symm.trans (r v hv k2)
 injection h1 with h1
 injection h1
theorem strLaw:Keyed Tryz.prog 9:=string_keyed Tryz.underlying9
theorem strKey {s:ByteArray} (hs:s.size<=maxLen):∃ l,keyOf Tryz.prog 9 (.string s)=some l:=by
 refine ⟨.string s.data.toList, ?_⟩
 simp [keyOf,mapKey,Tryz.underlying9,hs]
theorem mapType:Tryz.prog.underlying 63=some (.map 9 9):=by kernel_rfl
theorem strZero (w:World):(zeroValue 9).run Tryz.prog w=.ok (.string .empty) w:=by kernel_rfl
theorem nil_look {s:ByteArray} (hs:s.size<=maxLen) (w:World):(Instr.lookup 63 (.map none) (.string s) true).run Tryz.prog w=.ok (.tuple #[.string .empty,.bool false]) w:=by
 obtain ⟨l,hl⟩:=strKey hs
 have hf:(Instr.findKey 9 (.string s) []).run Tryz.prog w=.ok none w:=by
  rcases strLaw.find w hl [] (fun e he=>by cases he) with ⟨h,_⟩|⟨j,e,_,h,_⟩
  ·exact h
  ·simp at h
 simp [Instr.lookup,run_underlying mapType,strLaw.check w true hl,hf,Result.andThen]
 rfl
def KnownF (W:Int) (K:List ByteArray) (f:Value->Option Value):Prop :=
 (∀ key v,f key=some v->∃ u,treeF u=0/\True/\oneQ u W=0/\key=.string (lineL u)/\v=.string (oneX u W)/\lineL u ∈ K)/\∀ x ∈ K,(f (.string x)).isSome=true
def KnownM (W:Int) (K:List ByteArray) (mv:Value) (w:World):Prop :=
 (mv=.map none/\K=[])∨∃ b f,mv=.map (some b)/\MapF Tryz.prog 9 f b w/\KnownF W K f
theorem KnownM.past {W:Int} {K:List ByteArray} {mv:Value} {w w':World} (h:KnownM W K mv w) (hb:Below w.heap.size w w'):KnownM W K mv w':=by
 rcases h with h|⟨b,f,h1,h2,h3⟩
 ·exact .inl h
 ·exact .inr ⟨b,f,h1,h2.below hb,h3⟩
theorem KnownF.at {W:Int} {K:List ByteArray} {f:Value->Option Value} (h:KnownF W K f) {u:List Nd} (hu:treeF u=0) (_:True) :
  (lineL u ∈ K->f (.string (lineL u))=some (.string (oneX u W))/\oneQ u W=0)/\(lineL u ∉ K->f (.string (lineL u))=none):=by
 constructor
 ·intro hk
  cases hf:f (.string (lineL u)) with
  | none=>have:=h.2 _ hk;rw [hf] at this;cases this
  | some v =>
   obtain ⟨x,x1,x2,x3,x4,x5,x6⟩:=h.1 _ _ hf
   injection x4 with x4
   obtain rfl:=lineL_inj hu x1 x4
   exact ⟨by rw [x5],x3⟩
 ·intro hk
  cases hf:f (.string (lineL u)) with
  | none=>rfl
  | some v =>
   obtain ⟨x,x1,x2,x3,x4,x5,x6⟩:=h.1 _ _ hf
   injection x4 with x4
   rw [x4] at hk
   exact absurd x6 hk
theorem KnownM.look {W:Int} {K:List ByteArray} {mv:Value} {w:World} (h:KnownM W K mv w) {u:List Nd} (hu:treeF u=0) (nu:True) (hs:(lineL u).size<=maxLen) :
  (lineL u ∈ K/\oneQ u W=0/\(Instr.lookup 63 mv (.string (lineL u)) true).run Tryz.prog w=.ok (.tuple #[.string (oneX u W),.bool true]) w) ∨
  (lineL u ∉ K/\(Instr.lookup 63 mv (.string (lineL u)) true).run Tryz.prog w=.ok (.tuple #[.string .empty,.bool false]) w):=by
 rcases h with ⟨rfl,rfl⟩|⟨b,f,rfl,h2,h3⟩
 ·exact .inr ⟨by simp,nil_look hs w⟩
 ·obtain ⟨l,hl⟩:=strKey hs
  have hlk:=h2.look strLaw mapType (strZero w) hl
  obtain ⟨a1,a2⟩:=h3.at hu nu
  by_cases hk:lineL u ∈ K
  ·obtain ⟨b1,b2⟩:=a1 hk
   rw [b1] at hlk
   exact .inl ⟨hk,b2,hlk⟩
  ·rw [a2 hk] at hlk
   exact .inr ⟨hk,hlk⟩
theorem KnownF.put {W:Int} {K:List ByteArray} {f:Value->Option Value} (h:KnownF W K f) {u:List Nd} (hu:treeF u=0) (nu:True) (hq:oneQ u W=0):KnownF W (lineL u::K) (putF f (.string (lineL u)) (.string (oneX u W))):=by
 refine ⟨fun key v hv=>?_,fun x hx=>?_⟩
 ·rcases putF_some hv with ⟨rfl,rfl⟩|hv
  ·exact ⟨u,hu,nu,hq,rfl,rfl,by simp⟩
  ·obtain ⟨x,x1,x2,x3,x4,x5,x6⟩:=h.1 _ _ hv
   exact ⟨x,x1,x2,x3,x4,x5,by simp [x6]⟩
 ·by_cases he:x=lineL u
  ·subst he
   rw [putF_same];rfl
  ·rw [putF_other f _ (by simpa using he)]
   rcases List.mem_cons.1 hx with hx|hx
   ·exact absurd hx he
   ·exact h.2 x hx
theorem KnownF.none_ (W:Int):KnownF W [] (fun _=>none):=⟨fun _ _ h=>(by cases h),fun x hx=>(by cases hx)⟩
open Classical in
noncomputable def newN (K:List ByteArray):List ByteArray->List (List Nd)->Nat
 | _,[]=>0
 | S,u::r=>if lineL u ∈ S then newN K S r else (if lineL u ∈ K then 0 else 1)+newN K (lineL u::S) r
open Classical in
noncomputable def seenL:List ByteArray->List (List Nd)->List ByteArray
 | S,[]=>S
 | S,u::r=>if lineL u ∈ S then seenL S r else seenL (lineL u::S) r
theorem seenL_all:∀ {p:List (List Nd)} {S:List ByteArray},(∀ x ∈ S,x ∈ seenL S p)/\∀ u ∈ p,lineL u ∈ seenL S p
 | [],S=>⟨fun x hx=>hx,fun u hu=>by cases hu⟩
 | u::r,S=>by
  rw [seenL]
  split
  ·rename_i h
   obtain ⟨h1,h2⟩:=seenL_all (p:=r) (S:=S)
   exact ⟨h1,fun v hv=>by rcases List.mem_cons.1 hv with rfl|hv;exact h1 _ h;exact h2 v hv⟩
  ·obtain ⟨h1,h2⟩:=seenL_all (p:=r) (S:=lineL u::S)
   exact ⟨fun x hx=>h1 x (by simp [hx]),fun v hv=>by rcases List.mem_cons.1 hv with rfl|hv;exact h1 _ (by simp);exact h2 v hv⟩
end Go.Proofs.YtddfdmopaeghnadGreatDoor
namespace Go.Proofs.YtddfdmopaeghnadGreatDoor
open Go.RowKit Go.Maps
def SheetTo (W:Int) (P:Option Addr) (n c:Nat) (p:List (List Nd)) (K:List ByteArray) (w:World) (e:Ending) (w':World):Prop :=
 ∃ b f,e=.returned (.tuple #[.agg #[.int .i64 W,.slice P n c,.map (some b)],.int .i64 (newN K [] p:Nat),.nilIface])/\MapF Tryz.prog 9 f b w'/\KnownF W (seenL [] p) f/\w.heap.size<=b/\Below w.heap.size w w'
def SheetNo (q:Int) (w:World) (e:Ending) (w':World):Prop :=
 e=.returned (.tuple #[.agg #[.int .i64 0,.slice none 0 0,.map none],.int .i64 0,.iface 24 (.int .i64 q)])/\Below w.heap.size w w'
theorem newN_le (K:List ByteArray):∀ (p:List (List Nd)) (S:List ByteArray),newN K S p<=p.length
 | [],_=>Nat.le_refl _
 | u::r,S=>by
  rw [newN]
  split
  ·exact Nat.le_trans (newN_le K r S) (by simp)
  ·have:=newN_le K r (lineL u::S)
   rw [List.length_cons]
   split <;> omega
structure DkAt (W:Int) (p:List (List Nd)) (K:List ByteArray) (k:Nat) (S:List ByteArray) (n:Nat):Prop where
 cnt:newN K [] p=n+newN K S (p.drop k)
 seen:seenL [] p=seenL S (p.drop k)
 err:formE W p=formE W (p.drop k)
theorem DkAt.start (W:Int) (p:List (List Nd)) (K:List ByteArray):DkAt W p K 0 [] 0:=⟨by simp,by simp,by simp⟩
theorem DkAt.old {W:Int} {p:List (List Nd)} {K S:List ByteArray} {k n:Nat} (h:DkAt W p K k S n) {u:List Nd} (hu:p[k]?=some u) (hS:lineL u ∈ S) (hq:oneQ u W=0):DkAt W p K (k+1) S n:=by
 obtain ⟨hk,rfl⟩:=List.getElem?_eq_some_iff.1 hu
 obtain ⟨h1,h2,h3⟩:=h
 rw [List.drop_eq_getElem_cons hk] at h1 h2 h3
 rw [newN,if_pos hS] at h1
 rw [seenL,if_pos hS] at h2
 rw [formE,if_neg (by simpa using hq)] at h3
 exact ⟨h1,h2,h3⟩
theorem DkAt.fresh {W:Int} {p:List (List Nd)} {K S:List ByteArray} {k n:Nat} (h:DkAt W p K k S n) {u:List Nd} (hu:p[k]?=some u) (hS:lineL u ∉ S) (hq:oneQ u W=0) :
  (lineL u ∈ K->DkAt W p K (k+1) (lineL u::S) n)/\(lineL u ∉ K->DkAt W p K (k+1) (lineL u::S) (n+1)):=by
 obtain ⟨hk,rfl⟩:=List.getElem?_eq_some_iff.1 hu
 obtain ⟨h1,h2,h3⟩:=h
 rw [List.drop_eq_getElem_cons hk] at h1 h2 h3
 rw [newN,if_neg hS] at h1
 rw [seenL,if_neg hS] at h2
 rw [formE,if_neg (by simpa using hq)] at h3
 refine ⟨fun hK=>⟨?_,h2,h3⟩,fun hK=>⟨?_,h2,h3⟩⟩
 ·rw [if_pos hK] at h1;omega
 ·rw [if_neg hK] at h1;omega
theorem DkAt.stop {W:Int} {p:List (List Nd)} {K S:List ByteArray} {k n:Nat} (h:DkAt W p K k S n) {u:List Nd} (hu:p[k]?=some u) (hq:oneQ u W≠0):formE W p=oneQ u W:=by
 obtain ⟨hk,rfl⟩:=List.getElem?_eq_some_iff.1 hu
 rw [h.err,List.drop_eq_getElem_cons hk,formE,if_pos hq]
theorem DkAt.end_ {W:Int} {p:List (List Nd)} {K S:List ByteArray} {k n:Nat} (h:DkAt W p K k S n) (hk:p.length<=k):newN K [] p=n/\seenL [] p=S/\formE W p=0:=by
 obtain ⟨h1,h2,h3⟩:=h
 rw [List.drop_eq_nil_of_le hk] at h1 h2 h3
 exact ⟨h1,h2,h3⟩
theorem wp_namedD {P:Program} {c:Code} {Q:Exit->Act->World->Prop} {a:Act} {w:World} (S:World->Prop) (hS:S w) (h:∀ w',S w'->Code.wp P c Q a w'):Code.wp P c Q a w:=h w hS
theorem three_heap (w:World) (a b c:Obj):Below w.heap.size w (((w.alloc a).alloc b).alloc c)/\(((w.alloc a).alloc b).alloc c).heap[w.heap.size]?=some a/\(((w.alloc a).alloc b).alloc c).heap[w.heap.size+1]?=some b/\(((w.alloc a).alloc b).alloc c).heap[w.heap.size+1+1]?=some c:=by
 refine ⟨(((Below.refl _ _).alloc (Nat.le_refl _) _).alloc (by simp) _).alloc (by simp;omega) _, ?_, ?_,heap_new (by simp)⟩
 ·exact (Below.heap_alloc _ _ _ (by simp;omega)).trans ((Below.heap_alloc _ _ _ (by simp)).trans (heap_new rfl))
 ·exact (Below.heap_alloc _ _ _ (by simp)).trans (heap_new (by simp))
theorem dlaid_any (W:Int) (p:List (List Nd)) (n:Nat) (hn:p.length=n) (P:Option Addr) (c:Nat) (K:List ByteArray) (mv:Value) (w:World) (hp:Prg w w.heap.size P p) (hT:∀ u ∈ p,treeF u=0/\True) (h20:p.length<=20) (hK:KnownM W K mv w) (hm:MaxL w) (hpw:PowT w) :
  Calls Tryz.prog 26 #[.int .i64 W,.slice P n c,mv] w (fun e w'=>(formE W p=0->SheetTo W P n c p K w e w')/\(formE W p≠0->SheetNo (formE W p) w e w')):=by
 subst hn
 have HPR:=hd_ hp;have HT:=hd_ hT;have HKN:=hd_ hK;have HM:=hd_ hm;have HPW:=hd_ hpw
 clear hp hT hK hm hpw
 have hmm:=@run_makeMap Tryz.prog
 go_enter Tryz.func26,Tryz.ntmps26
 go_upto_region 3 with fail
 refine wp_namedD (fun wx=>Below w.heap.size w wx/\wx.heap[w.heap.size]?=some (.cells #[.int .i64 0,.slice none 0 0,.map none] 65 (0,0))/\wx.heap[w.heap.size+1]?=some (.map #[] 0)/\wx.heap[w.heap.size+1+1]?=some (.cells #[.int .i64 W,.slice P p.length c,.map (some (w.heap.size+1))] 65 (0,0))) (three_heap w _ _ _) ?_
 rintro w0 ⟨hB0,h60,hm0,h90⟩
 have HB0:=hd_ hB0;have H60:=hd_ h60;have HM0:=hd_ hm0;have H90:=hd_ h90
 clear hB0 h60 hm0 h90 hmm
 go_wp2_with fail
 go_loopw [10,12,13,14,15,16,17,18,19,26] (fun cnt _ _ _ _ _ _ _ _ i wr=>∃ (k nn:Nat) (S:List ByteArray) (f:Value->Option Value),k<=p.length/\i=.int .i64 k/\cnt=.int .i64 nn/\nn<=k/\Hid (DkAt W p K k S nn)/\Hid (KnownF W S f/\MapF Tryz.prog 9 f (w.heap.size+1) wr)/\Hid (wr.heap[w.heap.size]?=some (.cells #[.int .i64 0,.slice none 0 0,.map none] 65 (0,0)))/\Hid (wr.heap[w.heap.size+1+1]?=some (.cells #[.int .i64 W,.slice P p.length c,.map (some (w.heap.size+1))] 65 (0,0)))/\Hid (Below w.heap.size w wr)) (fun _ _ _ _ _ _ _ _ _ i _=>p.length-(intOf i).toNat)
 case atStart=>exact ⟨0,0,[],fun _=>none,by omega,rfl,rfl,Nat.le_refl _,hd_ (DkAt.start W p K),hd_ ⟨KnownF.none_ W,⟨#[],0,HM0.out,by simp,by simp,by simp⟩⟩,H60,H90,HB0⟩
 case round =>
  clear HB0 H60 H90 HM0
  obtain ⟨k,nn,S,f,hk,rfl,rfl,hnk,HA,HF,H6,H9,HB⟩:=hrel
  by_cases hlt:k<p.length
  ·obtain ⟨b,off,Ak,ck,u,rfl,hb,hu,hc,hN,hSh⟩:=HPR.out.one HB.out hlt
   have hmem:u ∈ p:=List.mem_of_getElem? hu
   obtain ⟨hut,hnt⟩:=HT.out u hmem
   obtain ⟨hsz,hline⟩:=lineSaid_all hut
   have HLN:=hd_ (hline Ak ck wr hN (HPW.out.past HB.out))
   have hsm:(lineL u).size<=maxLen:=by simp only [maxLen];omega
   have hat:=HF.out.1.at hut hnt
   have HU:=hd_ hu
   have H93:Hid (∀ w3,Below wr.heap.size wr w3->w3.cell? ⟨w.heap.size+1+1,2,none⟩=some (.map (some (w.heap.size+1)))):=hd_ (fun w3 hB3=>by rw [blk_cell (j:=2) (blk_below H9.out hB3)];rfl)
   have HLS:=hd_ (fun w3 (hB3:Below wr.heap.size wr w3)=>KnownM.look (w:=w3) (mv:=.map (some (w.heap.size+1))) (.inr ⟨_,f,rfl,HF.out.2.below hB3,HF.out.1⟩) hut hnt hsm)
   have HLK:=hd_ (fun w3 (hB3:Below wr.heap.size wr w3)=>KnownM.look (w:=w3) (mv:=mv) ((HKN.out.past HB.out).past hB3) hut hnt hsm)
   obtain ⟨l,hl⟩:=strKey hsm
   have HST:=hd_ (fun w3 (hB3:Below wr.heap.size wr w3)=>(HF.out.2.below hB3).store strLaw mapType hl (.string (oneX u W)))
   by_cases hS:lineL u ∈ S
   ·have hq:=(hat.1 hS).2
    have HA2:=hd_ (HA.out.old hu hS hq)
    have HL1:=hd_ (fun w3 (hB3:Below wr.heap.size wr w3)=>((HLS.out w3 hB3).resolve_right (fun x=>x.1 hS)).2.2)
    generalize lineL u=LU at *
    generalize oneX u W=X at *
    clear hN hSh hu hmem hut hnt hsz hline hsm hat HLS HLK HST hS hq HU HA hl
    go_wp2_with (go_at_call 36;refine HLN.out.mono ?_;rintro e w3 ⟨rfl,hB3⟩;have e1:=HL1.out w3 hB3;have e2:=H93.out w3 hB3;have HB3:=hd_ hB3;clear hB3)
    go_roundw
    case measure=>simp [intOf];omega
    case rel=>exact ⟨k+1,nn,S,f,by omega,by go_num,rfl,by omega,HA2,hd_ ⟨HF.out.1,HF.out.2.below HB3.out⟩,hd_ (blk_below H6.out HB3.out),hd_ (blk_below H9.out HB3.out),hd_ (HB.out.trans (HB3.out.mono HB.out.size))⟩
   ·have HL1:=hd_ (fun w3 (hB3:Below wr.heap.size wr w3)=>((HLS.out w3 hB3).resolve_left (fun x=>hS x.1)).2)
    by_cases hK2:lineL u ∈ K
    ·have hq:=((HLK.out wr (Below.refl _ _)).resolve_right (fun x=>x.1 hK2)).2.1
     have HA2:=hd_ ((HA.out.fresh hu hS hq).1 hK2)
     have HL2:=hd_ (fun w3 (hB3:Below wr.heap.size wr w3)=>((HLK.out w3 hB3).resolve_right (fun x=>x.1 hK2)).2.2)
     have HKP:=hd_ (HF.out.1.put hut hnt hq)
     generalize lineL u=LU at *
     generalize oneX u W=X at *
     clear hN hSh hu hmem hut hnt hsz hline hsm hat HLS HLK hS hq HU HA hl hK2
     go_wp2_with (go_at_call 36;refine HLN.out.mono ?_;rintro e w3 ⟨rfl,hB3⟩;have e1:=HL1.out w3 hB3;have e2:=H93.out w3 hB3;have e4:=HL2.out w3 hB3;obtain ⟨o,ho⟩:=HST.out w3 hB3;obtain ⟨o1,o2,o3⟩:=ho w3 rfl;have O2:=hd_ o2;have O3:=hd_ o3;have HB3:=hd_ hB3;clear hB3 o2 o3 ho)
     go_roundw
     case measure=>simp [intOf];omega
     case rel =>
      have hlt6:=lt_of_heap H6.out
      have hlt9:=lt_of_heap H9.out
      have hz3:=HB3.out.size
      exact ⟨k+1,nn,LU::S,_,by omega,by go_num,rfl,by omega,HA2,hd_ ⟨HKP.out,O2.out⟩,hd_ ((O3.out.block _ (by omega) (by simp)).trans (blk_below H6.out HB3.out)),hd_ ((O3.out.block _ (by omega) (by simp)).trans (blk_below H9.out HB3.out)),hd_ ((HB.out.trans (HB3.out.mono HB.out.size)).grown O3.out (Nat.le_trans HB.out.size hz3) (fun j e=>by injection e with e;omega))⟩
    ·have HL2:=hd_ (fun w3 (hB3:Below wr.heap.size wr w3)=>((HLK.out w3 hB3).resolve_left (fun x=>hK2 x.1)).2)
     have H63:Hid (∀ w3,Below wr.heap.size wr w3->w3.heap[w.heap.size]?=some (.cells #[.int .i64 0,.slice none 0 0,.map none] 65 (0,0))):=hd_ (fun w3 hB3=>blk_below H6.out hB3)
     by_cases hq:oneQ u W=0
     ·have HA2:=hd_ ((HA.out.fresh hu hS hq).2 hK2)
      have HKP:=hd_ (HF.out.1.put hut hnt hq)
      have HONE:=hd_ (fun w3 (hB3:Below wr.heap.size wr w3)=>pone_ok (fun l x A c w hl hd=>of_from l x A c w hl hd) u W Ak ck w3 (hN.past hB3) hSh ((HM.out.past HB.out).past hB3) ((HPW.out.past HB.out).past hB3) (fun h9=>docL_doc hut h9 (by have:=(oneQ_zero hq).2.2 h9;omega)) hq)
      generalize lineL u=LU at *
      generalize oneX u W=X at *
      clear hN hSh hu hmem hut hnt hsz hline hsm hat HLS HLK hS hq HU HA hl hK2 H63
      go_wp2_with (first
       | (go_at_call 36;refine HLN.out.mono ?_;rintro e w3 ⟨rfl,hB3⟩;have e1:=HL1.out w3 hB3;have e2:=H93.out w3 hB3;have e4:=HL2.out w3 hB3;have HB3:=hd_ hB3;clear hB3)
       | (go_at_call 22;refine (HONE.out _ HB3.out).mono ?_;rintro e w5 ⟨rfl,hB5⟩;have HB5:=hd_ (HB3.out.trans (hB5.mono HB3.out.size));have e6:=H93.out w5 HB5.out;obtain ⟨o,ho⟩:=HST.out w5 HB5.out;obtain ⟨o1,o2,o3⟩:=ho w5 rfl;have O2:=hd_ o2;have O3:=hd_ o3;clear hB5 o2 o3 ho))
      go_roundw
      case measure=>simp [intOf];omega
      case rel =>
       have hlt6:=lt_of_heap H6.out
       have hlt9:=lt_of_heap H9.out
       have hz3:=HB5.out.size
       exact ⟨k+1,nn+1,LU::S,_,by omega,by go_num,by go_num,by omega,HA2,hd_ ⟨HKP.out,O2.out⟩,hd_ ((O3.out.block _ (by omega) (by simp)).trans (blk_below H6.out HB5.out)),hd_ ((O3.out.block _ (by omega) (by simp)).trans (blk_below H9.out HB5.out)),hd_ ((HB.out.trans (HB5.out.mono HB.out.size)).grown O3.out (Nat.le_trans HB.out.size hz3) (fun j e=>by injection e with e;omega))⟩
     ·have HE:=hd_ (HA.out.stop hu hq)
      have HONE:=hd_ (fun w3 (hB3:Below wr.heap.size wr w3)=>pone_bad u W Ak ck w3 (hN.past hB3) hSh ((HM.out.past HB.out).past hB3) ((HPW.out.past HB.out).past hB3) hq)
      have HQ:=hd_ hq
      generalize lineL u=LU at *
      generalize oneX u W=X at *
      generalize oneQ u W=q at *
      clear hN hSh hu hmem hut hnt hsz hline hsm hat HLS HLK hS hq HU HA hl hK2 HST
      go_wp2_with (first
       | (go_at_call 36;refine HLN.out.mono ?_;rintro e w3 ⟨rfl,hB3⟩;have e1:=HL1.out w3 hB3;have e2:=H93.out w3 hB3;have e4:=HL2.out w3 hB3;have HB3:=hd_ hB3;clear hB3)
       | (go_at_call 22;refine (HONE.out _ HB3.out).mono ?_;rintro e w5 ⟨rfl,hB5⟩;have HB5:=hd_ (HB3.out.trans (hB5.mono HB3.out.size));have h6:=H63.out w5 HB5.out;have r0:=blk_cell (j:=0) h6;have r1:=blk_cell (j:=1) h6;have r2:=blk_cell (j:=2) h6;have f0:=blk_free (j:=0) h6;have f1:=blk_free (j:=1) h6;have f2:=blk_free (j:=2) h6;simp at r0 r1 r2;have H65:=hd_ h6;clear hB5 h6))
      have b0:=blk_set3 (p:=.int .i64 0) (q:=.slice none 0 0) (r:=.map none) H65.out
      have b1:=blk_cell (j:=0) b0
      have b2:=blk_cell (j:=1) b0
      have b3:=blk_cell (j:=2) b0
      simp at b1 b2 b3
      simp [bodyPost,results,Tryz.results26,go_sem,b1,b2,b3]
      refine ⟨fun h=>absurd (HE.out.symm.trans h) HQ.out,fun _=>⟨by rw [HE.out], ?_⟩⟩
      exact (((HB.out.trans (HB5.out.mono HB.out.size)).setCell (p:=⟨w.heap.size,0,none⟩) (Nat.le_refl _) _).setCell (p:=⟨w.heap.size,1,none⟩) (Nat.le_refl _) _).setCell (p:=⟨w.heap.size,2,none⟩) (Nat.le_refl _) _
  ·obtain ⟨g1,g2,g3⟩:=HA.out.end_ (by omega)
   have h6:=H6.out
   have h9:=H9.out
   have r0:=blk_cell (j:=0) h6
   have r1:=blk_cell (j:=1) h6
   have r2:=blk_cell (j:=2) h6
   have f0:=blk_free (j:=0) h6
   have f1:=blk_free (j:=1) h6
   have f2:=blk_free (j:=2) h6
   have s0:=blk_cell (j:=0) h9
   have s1:=blk_cell (j:=1) h9
   have s2:=blk_cell (j:=2) h9
   simp at r0 r1 r2 s0 s1 s2
   clear h6 h9
   go_wp2_with fail
   have b0:=blk_set3 (p:=.int .i64 W) (q:=.slice P p.length c) (r:=.map (some (w.heap.size+1))) H6.out
   have b1:=blk_cell (j:=0) b0
   have b2:=blk_cell (j:=1) b0
   have b3:=blk_cell (j:=2) b0
   simp at b1 b2 b3
   simp [bodyPost,results,Tryz.results26,go_sem,b1,b2,b3]
   refine ⟨fun _=>⟨w.heap.size+1,f,by rw [g1], ?_,by rw [g2];exact HF.out.1,by omega, ?_⟩,fun h=>absurd g3 h⟩
   ·refine HF.out.2.of_block ?_
    simp [World.setCell,Array.getElem?_modify]
   ·exact ((HB.out.setCell (p:=⟨w.heap.size,0,none⟩) (Nat.le_refl _) _).setCell (p:=⟨w.heap.size,1,none⟩) (Nat.le_refl _) _).setCell (p:=⟨w.heap.size,2,none⟩) (Nat.le_refl _) _
end Go.Proofs.YtddfdmopaeghnadGreatDoor
namespace Go.Proofs.YtddfdmopaeghnadGreatDoor
open Go.RowKit Go.Maps
theorem dnew_bad {W:Int} (hW:wideF W=false) (w:World):Calls Tryz.prog 8 #[.int .i64 W] w (Ret w (.tuple #[.pointer none,.iface 24 (.int .i64 1)])):=by
 have HW:=hd_ (fun w'=>wide_any W w')
 rw [hW] at HW
 clear hW
 go_enter Tryz.func8,Tryz.ntmps8
 go_wp2_with (go_at_call 23;refine (HW.out _).mono ?_;rintro e w1 ⟨rfl,rfl⟩)
 go_ret2
 exact ⟨rfl,Below.refl _ _⟩
theorem dnew_ok {W:Int} (hW:wideF W=true) (w:World):Calls Tryz.prog 8 #[.int .i64 W] w fun e w'=>e=.returned (.tuple #[.pointer (some ⟨w.heap.size,0,none⟩),.nilIface])/\w'=w.alloc (.cells #[.int .i64 W,.slice none 0 0,.map none] 67):=by
 have HW:=hd_ (fun w'=>wide_any W w')
 rw [hW] at HW
 clear hW
 go_enter Tryz.func8,Tryz.ntmps8
 go_wp2_with (go_at_call 23;refine (HW.out _).mono ?_;rintro e w1 ⟨rfl,rfl⟩)
 go_ret2
 exact ⟨rfl,rfl⟩
theorem dwidth_any {d:Nat} {W:Int} {x y:Value} (w:World) (h:w.heap[d]?=some (.cells #[.int .i64 W,x,y] 67 (0,0))):Calls Tryz.prog 16 #[.pointer (some ⟨d,0,none⟩)] w fun e w'=>e=.returned (.int .i64 W)/\w'=w:=by
 have r0:=blk_cell (j:=0) h
 simp at r0
 clear h
 go_enter Tryz.func16,Tryz.ntmps16
 go_wp2
 go_ret
 exact ⟨rfl,rfl⟩
end Go.Proofs.YtddfdmopaeghnadGreatDoor
namespace Go.Proofs.YtddfdmopaeghnadGreatDoor
open Go.RowKit Go.Maps
structure OnDesk (W:Int) (p:List (List Nd)):Prop where
 wide:wideF W=true
 few:p.length<=20
 stm:∀ u ∈ p,treeF u=0/\True
 fits:formE W p=0
theorem OnDesk.of_parse {s:ByteArray} {k:Nat} {p:List (List Nd)} (h:parseF s=(0,k,p)) {W:Int} (hW:wideF W=true) (hf:formE W p=0):OnDesk W p:=by
 have hw:=parsed_ok (s:=s) (by rw [h])
 rw [h] at hw
 have hp:=progF_facts hw
 exact ⟨hW,hp.1,fun u hu=>⟨hp.2.1 u hu,trivial⟩,hf⟩
theorem OnDesk.nil_ {W:Int} (hW:wideF W=true):OnDesk W []:=⟨hW,by simp,by simp,rfl⟩
def DeskL (d lo:Nat) (W:Int) (p:List (List Nd)) (K:List ByteArray) (w:World):Prop :=
 ∃ P c mv,w.heap[d]?=some (.cells #[.int .i64 W,.slice P p.length c,mv] 67 (0,0))/\PrgF lo w P p/\KnownM W K mv w/\(∀ u ∈ p,lineL u ∈ K)/\(∀ b,mv=.map (some b)->lo<=b)/\OnDesk W p
def DeskK (d:Nat) (W:Int) (p:List (List Nd)) (K:List ByteArray) (w:World):Prop:=DeskL d (d+1) W p K w
theorem DeskL.past {d lo:Nat} {W:Int} {p:List (List Nd)} {K:List ByteArray} {w w':World} (h:DeskL d lo W p K w) (hb:Below w.heap.size w w'):DeskL d lo W p K w':=by
 obtain ⟨P,c,mv,h1,h2,h3,h4,h5,h6⟩:=h
 exact ⟨P,c,mv,blk_below h1 hb,h2.past hb,h3.past hb,h4,h5,h6⟩
theorem DeskK.past {d:Nat} {W:Int} {p:List (List Nd)} {K:List ByteArray} {w w':World} (h:DeskK d W p K w) (hb:Below w.heap.size w w'):DeskK d W p K w':=by
 obtain ⟨P,c,mv,h1,h2,h3,h4,h5,h6⟩:=h
 exact ⟨P,c,mv,blk_below h1 hb,h2.past hb,h3.past hb,h4,h5,h6⟩
theorem DeskK.new {W:Int} (hW:wideF W=true) (w:World):DeskK w.heap.size W [] [] (w.alloc (.cells #[.int .i64 W,.slice none 0 0,.map none] 67)) :=
 ⟨none,0,.map none,heap_new rfl,PrgF.nil_ _ _,.inl ⟨rfl,rfl⟩,by simp,fun b h=>(by cases h),OnDesk.nil_ hW⟩
end Go.Proofs.YtddfdmopaeghnadGreatDoor
namespace Go.Proofs.YtddfdmopaeghnadGreatDoor
open Go.RowKit Go.Maps
theorem dwide_no {d:Nat} {V:Int} {w:World} (hV:wideF V=false) :
  Calls Tryz.prog 11 #[.pointer (some ⟨d,0,none⟩),.int .i64 V] w (Ret w (.iface 24 (.int .i64 1))):=by
 have HW:=hd_ (fun w'=>wide_any V w')
 rw [hV] at HW
 clear hV
 go_enter Tryz.func11,Tryz.ntmps11
 go_wp2_with (go_at_call 23;refine (HW.out _).mono ?_;rintro e w1 ⟨rfl,rfl⟩)
 go_ret
 exact ⟨rfl,Below.refl _ _⟩
theorem dwide_full {d:Nat} {W V:Int} {p:List (List Nd)} {K:List ByteArray} {w:World} (h:DeskK d W p K w) (hV:wideF V=true) (hm:MaxL w) (hpw:PowT w) (hq:formE V p≠0) :
  Calls Tryz.prog 11 #[.pointer (some ⟨d,0,none⟩),.int .i64 V] w (Ret w (.iface 24 (.int .i64 (formE V p)))):=by
 have HW:=hd_ (fun w'=>wide_any V w')
 rw [hV] at HW
 obtain ⟨P,c,mv,h1,h2,h3,h4,h5,h6⟩:=h
 have r1:=blk_cell (j:=1) h1
 simp at r1
 have HL:=hd_ (dlaid_any V p p.length rfl P c [] (.map none) w h2.prg h6.stm h6.few (.inl ⟨rfl,rfl⟩) hm hpw)
 have HQ:=hd_ hq
 generalize formE V p=q at *
 clear hV hm hpw h1 h2 h3 h4 h5 h6 hq
 go_enter Tryz.func11,Tryz.ntmps11
 go_wp2_with (first
  | (go_at_call 23;refine (HW.out _).mono ?_;rintro e w1 ⟨rfl,rfl⟩)
  | (go_at_call 26;refine HL.out.mono ?_;rintro e w2 ⟨-,hz⟩;obtain ⟨rfl,hB⟩:=hz HQ.out;have HB:=hd_ hB;clear hz hB))
 go_ret
 exact ⟨rfl,HB.out.alloc HB.out.size _⟩
theorem grown_at {w w':World} (hb:Below w.heap.size w w') (row:Option Nat):w.grownBy w' row:=⟨hb.os,hb.tape,hb.output,hb.size,fun k hk _=>hb.block k hk⟩
theorem set3_grown {w:World} {d:Nat} (x y z:Value):w.grownBy (((w.setCell ⟨d,0,none⟩ x).setCell ⟨d,1,none⟩ y).setCell ⟨d,2,none⟩ z) (some d) :=
 ⟨rfl,rfl,rfl,by simp [World.setCell],fun i _ hi=>by
  have hne:d≠i:=fun e=>hi (by rw [e])
  simp [World.setCell,Array.getElem?_modify,hne]⟩
end Go.Proofs.YtddfdmopaeghnadGreatDoor
namespace Go.Proofs.YtddfdmopaeghnadGreatDoor
open Go.RowKit Go.Maps
theorem dset_no {d:Nat} {s:ByteArray} {f:Int} {k:Nat} {q:List (List Nd)} (h:parseF s=(f,k,q)) (hf:f≠0) (w:World) (hs:s.size<=maxLen) (hm:MaxL w) :
  Calls Tryz.prog 14 #[.pointer (some ⟨d,0,none⟩),.string s] w (Ret w (.tuple #[.int .i64 0,.int .i64 (k:Nat),.iface 24 (.int .i64 f)])):=by
 have HP:=hd_ (parse_badB h hf rfl w hs hm)
 clear h hf hs hm
 go_enter Tryz.func14,Tryz.ntmps14
 go_wp2_with (go_at_call 21;refine HP.out.mono ?_;rintro e w1 ⟨A1,c1,rfl,-,hB⟩)
 go_ret3
 exact ⟨rfl,hB⟩
end Go.Proofs.YtddfdmopaeghnadGreatDoor
namespace Go.Proofs.YtddfdmopaeghnadGreatDoor
open Go.RowKit Go.Maps
theorem KnownM.get {W:Int} {K:List ByteArray} {mv:Value} {w:World} (h:KnownM W K mv w) {u:List Nd} (hu:treeF u=0) (nu:True) (hs:(lineL u).size<=maxLen) (hK:lineL u ∈ K) :
  oneQ u W=0/\(Instr.lookup 63 mv (.string (lineL u)) false).run Tryz.prog w=.ok (.string (oneX u W)) w:=by
 rcases h with ⟨rfl,rfl⟩|⟨b,f,rfl,h2,h3⟩
 ·cases hK
 ·obtain ⟨l,hl⟩:=strKey hs
  have hlk:=h2.get strLaw mapType (strZero w) hl
  obtain ⟨b1,b2⟩:=(h3.at hu nu).1 hK
  rw [b1] at hlk
  exact ⟨b2,hlk⟩
theorem dtext_size {W:Int} {p:List (List Nd)} (h:∀ u ∈ p,oneQ u W=0):∀ k,k<=p.length->(formT W (p.take k)).size<=1500000*k:=by
 intro k
 induction k with
 | zero=>intro _;simp [formT]
 | succ k ih =>
  intro hk
  have hlt:k<p.length:=by omega
  have hu:p[k]?=some p[k]:=List.getElem?_eq_getElem hlt
  rw [formT_step W hu,ByteArray.size_append]
  have h1:=ih (by omega)
  have hq:=h p[k] (List.getElem_mem hlt)
  have ht:=(oneQ_zero hq).2.1
  have h2:=(oneX_is hq (fun h9=>docL_doc ht h9 (by have:=(oneQ_zero hq).2.2 h9;omega))).small
  omega
theorem dtext_any {d:Nat} {W:Int} {p:List (List Nd)} {K:List ByteArray} {w:World} (h:DeskK d W p K w) (hpw:PowT w) :
  Calls Tryz.prog 15 #[.pointer (some ⟨d,0,none⟩)] w (Ret w (.string (formT W p))):=by
 obtain ⟨P,c,mv,h1,h2,h3,h4,h5,h6⟩:=h
 have hdl:=lt_of_heap h1
 have hb1:Below w.heap.size w (w.alloc (.cells #[.pointer none,.slice none 0 0] 88)):=(Below.refl _ _).alloc (Nat.le_refl _) _
 have r1:=blk_cell (j:=1) (blk_below h1 hb1)
 simp at r1
 have HBD:Hid (Bld w.heap.size w.heap.size .empty (w.alloc (.cells #[.pointer none,.slice none 0 0] 88))):=hd_ (Bld.new w)
 have HB0:=hd_ hb1
 have HH:Hid (∀ w',Below w.heap.size w w'->w'.cell? ⟨d,2,none⟩=some mv):=hd_ (fun w' hB=>by rw [blk_cell (j:=2) (blk_below h1 hB)];rfl)
 have HKM:=hd_ (fun w' (hB:Below w.heap.size w w')=>h3.past hB)
 have HPR:=hd_ h2.prg;have HT:=hd_ h6.stm;have HK4:=hd_ h4;have HPW:=hd_ hpw
 have h20:=h6.few
 have hq0:∀ u ∈ p,oneQ u W=0:=fun u hu=>(h3.get (h6.stm u hu).1 (h6.stm u hu).2 (by have:=(lineSaid_all (h6.stm u hu).1).1;simp only [maxLen];omega) (h4 u hu)).1
 have HSZ:=hd_ (dtext_size hq0)
 have HALL:Hid (∀ k,p.length<=k->formT W (p.take k)=formT W p):=hd_ (fun k hk=>by rw [List.take_of_length_le hk])
 clear h1 h2 h3 h4 h5 h6 hpw hq0 hb1
 go_enter Tryz.func15,Tryz.ntmps15
 go_wp2
 go_loopw [5,12] (fun _ i wr=>∃ k:Nat,k<=p.length/\i=.int .i64 k/\Hid (Bld w.heap.size w.heap.size (formT W (p.take k)) wr)/\Hid (Below w.heap.size w wr)) (fun _ i _=>p.length-(intOf i).toNat)
 case atStart=>exact ⟨0,by omega,rfl,HBD,HB0⟩
 case round =>
  clear HBD HB0
  obtain ⟨k,hk,rfl,HBD,HB⟩:=hrel
  by_cases hlt:k<p.length
  ·obtain ⟨b,off,Ak,ck,u,rfl,hb,hu,hc,hN,hSh⟩:=HPR.out.one HB.out hlt
   have hmem:u ∈ p:=List.mem_of_getElem? hu
   obtain ⟨hut,hnt⟩:=HT.out u hmem
   obtain ⟨hsz,hline⟩:=lineSaid_all hut
   have HLN:=hd_ (fun (w':World) (hB:Below wr.heap.size wr w')=>hline Ak ck w' (hN.past hB) (HPW.out.past (HB.out.trans (hB.mono HB.out.size))))
   have hsm:(lineL u).size<=maxLen:=by simp only [maxLen];omega
   have HL1:=hd_ (fun w3 (hB3:Below wr.heap.size wr w3)=>((HKM.out _ (HB.out.trans (hB3.mono HB.out.size))).get hut hnt hsm (HK4.out u hmem)).2)
   have hq:=((HKM.out _ HB.out).get hut hnt hsm (HK4.out u hmem)).1
   have hxs:=(oneX_is hq (fun h9=>docL_doc hut h9 (by have:=(oneQ_zero hq).2.2 h9;omega))).small
   have HST:=hd_ (formT_step W hu)
   have hks:=HSZ.out k hk
   have HC2:Hid (∀ w3,Below wr.heap.size wr w3->w3.cell? ⟨d,2,none⟩=some mv):=hd_ (fun w3 hB3=>HH.out _ (HB.out.trans (hB3.mono HB.out.size)))
   have e0:=HH.out _ HB.out
   generalize lineL u=LU at *
   generalize formT W (p.take k)=Q at *
   generalize oneX u W=X at *
   have hz0:=HB.out.size
   clear hN hSh hu hmem hut hnt hsz hline hsm hq
   go_upto_region 5 with fail
   go_region_held3 (fun w'=>w'.cell? ⟨d,2,none⟩=some mv) (first|exact e0|exact e2|exact e3)
    (first
    | (go_at_call 36;refine (HLN.out _ bel_).mono ?_;rintro e w3 ⟨rfl,hB3⟩;have hB3:Below wr.heap.size wr w3:=(by first|exact hB3|exact past_drew hB3|exact past_drewN hB3);have e1:=HL1.out w3 hB3;have e2:=HC2.out w3 hB3;have HB3:=hd_ (HBD.out.past hB3);have HB4:=hd_ (HB.out.trans (hB3.mono hz0));clear hB3)
    | (go_at_call 35;refine (bld_write _ _ Q _ _ HB3.out (by omega)).mono ?_;rintro e w4 ⟨rfl,hb5,hB5⟩;have HB5:=hd_ hb5;have HB6:=hd_ (HB4.out.trans hB5);have e3:=HH.out _ HB6.out;clear hb5 hB5))
   go_wp2
   go_roundw
   case measure=>simp [intOf];omega
   case rel=>exact ⟨k+1,by omega,by go_num,hd_ (by rw [HST.out];exact HB5.out),HB6⟩
  ·have HBZ:Hid (Bld w.heap.size w.heap.size (formT W p) wr):=hd_ (by rw [← HALL.out k (by omega)];exact HBD.out)
   generalize formT W p=TT at *
   clear HBD
   go_wp2_with (go_at_call 37;refine (bld_string _ _ _ _ HBZ.out).mono ?_;rintro e w5 ⟨rfl,hB5⟩;have HB7:=hd_ (HB.out.trans hB5);clear hB5)
   go_ret
   exact ⟨rfl,HB7.out⟩
end Go.Proofs.YtddfdmopaeghnadGreatDoor
namespace Go.Proofs.YtddfdmopaeghnadGreatDoor
open Go.RowKit Go.Maps
theorem heap_new_drew (w:World) (o:Obj):(w.alloc o).drew.heap[w.heap.size]?=some o:=heap_new (w:=w) rfl
theorem dset_full {d:Nat} {W:Int} {p:List (List Nd)} {K:List ByteArray} {w:World} (h:DeskK d W p K w) {s:ByteArray} {k:Nat} {q:List (List Nd)} (hp:parseF s=(0,k,q)) (hs:s.size<=maxLen) (hm:MaxL w) (hpw:PowT w) (hq:formE W q≠0) :
  Calls Tryz.prog 14 #[.pointer (some ⟨d,0,none⟩),.string s] w (Ret w (.tuple #[.int .i64 0,.int .i64 0,.iface 24 (.int .i64 (formE W q))])):=by
 obtain ⟨P,c,mv,h1,h2,h3,h4,h5,h6⟩:=h
 have hw:=parsed_ok (s:=s) (by rw [hp])
 rw [hp] at hw
 have hpf:=progF_facts hw
 have HP:=hd_ (parse_okB hp rfl w hs hm)
 have HL:=hd_ (fun (P1:Option Addr) (c1:Nat) (w1:World) (hB:Below w.heap.size w w1) (hF:Prg w1 w1.heap.size P1 q)=>dlaid_any W q q.length rfl P1 c1 K mv w1 hF (fun u hu=>⟨hpf.2.1 u hu,trivial⟩) hpf.1 (h3.past hB) (hm.past hB) (hpw.past hB))
 have HQ:=hd_ hq;have H1:=hd_ h1
 generalize formE W q=f at *
 clear h2 h3 h4 h5 h6 hm hpw hs hp hq h1 hw hpf
 have HC:Hid (∀ w',Below w.heap.size w w'->w'.cell? ⟨d,0,none⟩=some (.int .i64 W)/\w'.cell? ⟨d,2,none⟩=some mv):=hd_ (fun w' hB=>by rw [blk_cell (j:=0) (blk_below H1.out hB),blk_cell (j:=2) (blk_below H1.out hB)];exact ⟨rfl,rfl⟩)
 go_enter Tryz.func14,Tryz.ntmps14
 go_upto_region 4 with (go_at_call 21;refine HP.out.mono ?_;rintro e w1 ⟨P1,c1,rfl,hF,hB⟩;have HF1:=hd_ hF;clear hF)
 have hz1:=hB.size
 go_region_held3 (fun w'=>w'.cell? ⟨d,0,none⟩=some (.int .i64 W)/\w'.cell? ⟨d,2,none⟩=some mv) (first|exact HC.out _ bel_|exact HC.out _ hB2)
  (first
  | (go_at_call 26;refine (HL.out P1 c1 _ bel_ (HF1.out.past bel_).prg).mono ?_;rintro e w2 ⟨-,hz⟩;obtain ⟨rfl,hB'⟩:=hz HQ.out;have hB2:Below w.heap.size w w2:=Below.trans bel_ (hB'.mono (Below.size bel_));have hz2:=hB2.size;(try (have hx:w2.heap[w1.heap.size]?=some (.cells #[.int .i64 0,.slice none 0 0,.map none] 65 (0,0)):=blk_below (heap_new_drew _ _) hB';have f0:=blk_free (j:=0) hx;have f1:=blk_free (j:=1) hx;have f2:=blk_free (j:=2) hx;have x0:=blk_cell (j:=0) hx;have x1:=blk_cell (j:=1) hx;have x2:=blk_cell (j:=2) hx;simp at x0 x1 x2))))
 all_goals
  go_wp2
  go_ret3
  exact ⟨rfl,bel_⟩
end Go.Proofs.YtddfdmopaeghnadGreatDoor
