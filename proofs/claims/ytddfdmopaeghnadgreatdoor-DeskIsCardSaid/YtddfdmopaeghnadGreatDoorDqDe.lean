/- A desk's state and calls. Conditions: as each theorem states them. -/
import Derived.Test.YtddfdmopaeghnadGreatDoorDqRt
set_option maxRecDepth 100000
set_option maxHeartbeats 16000000
namespace Go.Proofs.YtddfdmopaeghnadGreatDoor
variable {P Q:Prop}
section
open Go.RowKit Go.Maps
theorem afN_ {u v:List Nd} (hu:aM_ u=0) (hv:aM_ v=0) (h:aB_ u=aB_ v):u=v:=by
 obtain ⟨tk,k1,l1⟩:=aaF_ hu;obtain ⟨tk',k2,l2⟩:=aaF_ hv;rw [h] at l1;have e:tk=tk':=by
  have a:=(l1 0 [] (fun e=>by cases e)).1;rw [(l2 0 [] (fun e=>by cases e)).1] at a;exact (List.append_cancel_right a).symm
 subst e;have r:∀ z:List Nd,aM_ z=0->PcK z tk->d9_ (toB tk) 1 [] 0=.ok [z]:=fun z hz hk=>by
  have:=(agC_ (ws:=toB tk) [(z,tk)] 1 0 [] (fun y hy=>by simp at hy;subst hy;exact ⟨hz,hk⟩) trivial (by simpa using aq0_ tk) (by simp [toB]) si_).1
  simpa using this
 have h1:=(r u hu k1).symm.trans (r v hv k2);injection h1 with h1;injection h1
theorem p7_:Keyed Tryz.prog 9:=string_keyed Tryz.underlying9
theorem sO_ {s:ByteArray} (hs:s.size<=maxLen):∃ l,keyOf Tryz.prog 9 (.string s)=some l:=by
 refine ⟨.string s.data.toList, ?_⟩;simp [keyOf,mapKey,Tryz.underlying9,hs]
theorem pP_:Tryz.prog.underlying 63=some (.map 9 9):=by kernel_rfl
theorem aaR_ (w:World):(zeroValue 9).run Tryz.prog w=.ok (.string .empty) w:=by kernel_rfl
theorem ajO_ {s:ByteArray} (hs:s.size<=maxLen) (w:World):(Instr.lookup 63 (.map none) (.string s) true).run Tryz.prog w=.ok (.tuple #[.string .empty,.bool false]) w:=by
 obtain ⟨l,hl⟩:=sO_ hs;have hf:(Instr.findKey 9 (.string s) []).run Tryz.prog w=.ok none w:=by
  rcases p7_.find w hl [] (fun e he=>by cases he) with ⟨h,_⟩|⟨j,e,_,h,_⟩
  ·exact h
  ·simp at h
 simp [Instr.lookup,run_underlying pP_,p7_.check w true hl,hf,Result.andThen];rfl
def gV_ (W:Int) (K:List ByteArray) (f:Value->Option Value):Prop :=
 (∀ key v,f key=some v->∃ u,aM_ u=0/\True/\cB_ u W=0/\key=.string (aB_ u)/\v=.string (eJ_ u W)/\aB_ u ∈ K)/\∀ x ∈ K,(f (.string x)).isSome=true
def gW_ (W:Int) (K:List ByteArray) (mv:Value) (w:World):Prop :=
 (mv=.map none/\K=[])∨∃ b f,mv=.map (some b)/\dL_ Tryz.prog 9 f b w/\gV_ W K f
theorem gW_.past {W:Int} {K:List ByteArray} {mv:Value} {w w':World} (h:gW_ W K mv w) (hb:Below w.heap.size w w'):gW_ W K mv w':=by
 rcases h with h|⟨b,f,h1,h2,h3⟩
 ·exact .inl h
 ·exact .inr ⟨b,f,h1,h2.below hb,h3⟩
theorem gV_.at {W:Int} {K:List ByteArray} {f:Value->Option Value} (h:gV_ W K f) {u:List Nd} (hu:aM_ u=0) (_:True) :
  (aB_ u ∈ K->f (.string (aB_ u))=some (.string (eJ_ u W))/\cB_ u W=0)/\(aB_ u ∉ K->f (.string (aB_ u))=none):=by
 constructor
 ·intro hk
  cases hf:f (.string (aB_ u)) with
  | none=>have:=h.2 _ hk;rw [hf] at this;cases this
  | some v =>
   obtain ⟨x,x1,x2,x3,x4,x5,x6⟩:=h.1 _ _ hf;injection x4 with x4;obtain rfl:=afN_ hu x1 x4;exact ⟨by rw [x5],x3⟩
 ·intro hk
  cases hf:f (.string (aB_ u)) with
  | none=>rfl
  | some v =>
   obtain ⟨x,x1,x2,x3,x4,x5,x6⟩:=h.1 _ _ hf;injection x4 with x4;rw [x4] at hk;exact absurd x6 hk
theorem gW_.look {W:Int} {K:List ByteArray} {mv:Value} {w:World} (h:gW_ W K mv w) {u:List Nd} (hu:aM_ u=0) (nu:True) (hs:(aB_ u).size<=maxLen) :
  (aB_ u ∈ K/\cB_ u W=0/\(Instr.lookup 63 mv (.string (aB_ u)) true).run Tryz.prog w=.ok (.tuple #[.string (eJ_ u W),.bool true]) w) ∨
  (aB_ u ∉ K/\(Instr.lookup 63 mv (.string (aB_ u)) true).run Tryz.prog w=.ok (.tuple #[.string .empty,.bool false]) w):=by
 rcases h with ⟨rfl,rfl⟩|⟨b,f,rfl,h2,h3⟩
 ·exact .inr ⟨by simp,ajO_ hs w⟩
 ·obtain ⟨l,hl⟩:=sO_ hs;have hlk:=h2.look p7_ pP_ (aaR_ w) hl;obtain ⟨a1,a2⟩:=h3.at hu nu
  by_cases hk:aB_ u ∈ K
  ·obtain ⟨b1,b2⟩:=a1 hk;rw [b1] at hlk;exact .inl ⟨hk,b2,hlk⟩
  ·rw [a2 hk] at hlk;exact .inr ⟨hk,hlk⟩
theorem gV_.put {W:Int} {K:List ByteArray} {f:Value->Option Value} (h:gV_ W K f) {u:List Nd} (hu:aM_ u=0) (nu:True) (hq:cB_ u W=0):gV_ W (aB_ u::K) (hH_ f (.string (aB_ u)) (.string (eJ_ u W))):=by
 refine ⟨fun key v hv=>?_,fun x hx=>?_⟩
 ·rcases oV_ hv with ⟨rfl,rfl⟩|hv
  ·exact ⟨u,hu,nu,hq,rfl,rfl,by simp⟩
  ·obtain ⟨x,x1,x2,x3,x4,x5,x6⟩:=h.1 _ _ hv;exact ⟨x,x1,x2,x3,x4,x5,by simp [x6]⟩
 ·by_cases he:x=aB_ u
  ·subst he;rw [oU_];rfl
  ·rw [k7_ f _ (by simpa using he)]
   rcases List.mem_cons.1 hx with hx|hx
   ·exact absurd hx he
   ·exact h.2 x hx
theorem gV_.none_ (W:Int):gV_ W [] (fun _=>none):=⟨fun _ _ h=>(by cases h),fun x hx=>(by cases hx)⟩
open Classical in
noncomputable def iY_ (K:List ByteArray):List ByteArray->List (List Nd)->Nat
 | _,[]=>0
 | S,u::r=>if aB_ u ∈ S then iY_ K S r else (if aB_ u ∈ K then 0 else 1)+iY_ K (aB_ u::S) r
open Classical in
noncomputable def eE_:List ByteArray->List (List Nd)->List ByteArray
 | S,[]=>S
 | S,u::r=>if aB_ u ∈ S then eE_ S r else eE_ (aB_ u::S) r
theorem lL_:∀ {p:List (List Nd)} {S:List ByteArray},(∀ x ∈ S,x ∈ eE_ S p)/\∀ u ∈ p,aB_ u ∈ eE_ S p
 | [],S=>⟨fun x hx=>hx,fun u hu=>by cases hu⟩
 | u::r,S=>by
  rw [eE_]
  split
  ·rename_i h;obtain ⟨h1,h2⟩:=lL_ (p:=r) (S:=S);exact ⟨h1,fun v hv=>by rcases List.mem_cons.1 hv with rfl|hv;exact h1 _ h;exact h2 v hv⟩
  ·obtain ⟨h1,h2⟩:=lL_ (p:=r) (S:=aB_ u::S);exact ⟨fun x hx=>h1 x (by simp [hx]),fun v hv=>by rcases List.mem_cons.1 hv with rfl|hv;exact h1 _ si_;exact h2 v hv⟩
end
section
open Go.RowKit Go.Maps
def anL_ (W:Int) (P:Option Addr) (n c:Nat) (p:List (List Nd)) (K:List ByteArray) (w:World) (e:Ending) (w':World):Prop :=
 ∃ b f,e=.returned (.tuple #[.agg #[.int .i64 W,.slice P n c,.map (some b)],.int .i64 (iY_ K [] p:Nat),.nilIface])/\dL_ Tryz.prog 9 f b w'/\gV_ W (eE_ [] p) f/\w.heap.size<=b/\Below w.heap.size w w'
def anK_ (q:Int) (w:World) (e:Ending) (w':World):Prop :=
 e=.returned (.tuple #[.agg #[.int .i64 0,.slice none 0 0,.map none],.int .i64 0,.iface 24 (.int .i64 q)])/\Below w.heap.size w w'
structure hR_ (W:Int) (p:List (List Nd)) (K:List ByteArray) (k:Nat) (S:List ByteArray) (n:Nat):Prop where
 cnt:iY_ K [] p=n+iY_ K S (p.drop k)
 seen:eE_ [] p=eE_ S (p.drop k)
 err:bH_ W p=bH_ W (p.drop k)
theorem hR_.start (W:Int) (p:List (List Nd)) (K:List ByteArray):hR_ W p K 0 [] 0:=⟨by simp,by simp,by simp⟩
theorem hR_.old {W:Int} {p:List (List Nd)} {K S:List ByteArray} {k n:Nat} (h:hR_ W p K k S n) {u:List Nd} (hu:p[k]?=some u) (hS:aB_ u ∈ S) (hq:cB_ u W=0):hR_ W p K (k+1) S n:=by
 obtain ⟨hk,rfl⟩:=List.getElem?_eq_some_iff.1 hu;obtain ⟨h1,h2,h3⟩:=h;rw [List.drop_eq_getElem_cons hk] at h1 h2 h3;rw [iY_,if_pos hS] at h1;rw [eE_,if_pos hS] at h2;rw [bH_,if_neg (by simpa using hq)] at h3;exact ⟨h1,h2,h3⟩
theorem hR_.fresh {W:Int} {p:List (List Nd)} {K S:List ByteArray} {k n:Nat} (h:hR_ W p K k S n) {u:List Nd} (hu:p[k]?=some u) (hS:aB_ u ∉ S) (hq:cB_ u W=0) :
  (aB_ u ∈ K->hR_ W p K (k+1) (aB_ u::S) n)/\(aB_ u ∉ K->hR_ W p K (k+1) (aB_ u::S) (n+1)):=by
 obtain ⟨hk,rfl⟩:=List.getElem?_eq_some_iff.1 hu;obtain ⟨h1,h2,h3⟩:=h;rw [List.drop_eq_getElem_cons hk] at h1 h2 h3;rw [iY_,if_neg hS] at h1;rw [eE_,if_neg hS] at h2;rw [bH_,if_neg (by simpa using hq)] at h3;refine ⟨fun hK=>⟨?_,h2,h3⟩,fun hK=>⟨?_,h2,h3⟩⟩
 ·rw [if_pos hK] at h1;omega
 ·rw [if_neg hK] at h1;omega
theorem hR_.stop {W:Int} {p:List (List Nd)} {K S:List ByteArray} {k n:Nat} (h:hR_ W p K k S n) {u:List Nd} (hu:p[k]?=some u) (hq:cB_ u W≠0):bH_ W p=cB_ u W:=by
 obtain ⟨hk,rfl⟩:=List.getElem?_eq_some_iff.1 hu;rw [h.err,List.drop_eq_getElem_cons hk,bH_,if_pos hq]
theorem hR_.end_ {W:Int} {p:List (List Nd)} {K S:List ByteArray} {k n:Nat} (h:hR_ W p K k S n) (hk:p.length<=k):iY_ K [] p=n/\eE_ [] p=S/\bH_ W p=0:=by
 obtain ⟨h1,h2,h3⟩:=h;rw [List.drop_eq_nil_of_le hk] at h1 h2 h3;exact ⟨h1,h2,h3⟩
theorem pE_ {P:Program} {c:Code} {Q:Exit->Act->World->Prop} {a:Act} {w:World} (S:World->Prop) (hS:S w) (h:∀ w',S w'->Code.wp P c Q a w'):Code.wp P c Q a w:=h w hS
theorem adR_ (w:World) (a b c:Obj):Below w.heap.size w (((w.alloc a).alloc b).alloc c)/\(((w.alloc a).alloc b).alloc c).heap[w.heap.size]?=some a/\(((w.alloc a).alloc b).alloc c).heap[w.heap.size+1]?=some b/\(((w.alloc a).alloc b).alloc c).heap[w.heap.size+1+1]?=some c:=by
 refine ⟨((aE_).alloc si_ _).alloc so_ _, ?_, ?_,aG_ si_⟩
 ·exact (Below.heap_alloc _ _ _ so_).trans ((Below.heap_alloc _ _ _ si_).trans (aG_ rfl))
 ·exact (Below.heap_alloc _ _ _ si_).trans (aG_ si_)
theorem anC_ (h:P:=by
 have b1:=a1_ (j:=0) b0;have b2:=a1_ (j:=1) b0;have b3:=a1_ (j:=2) b0;simp at b1 b2 b3;simp [bodyPost,results,Tryz.results26,go_sem,b1,b2,b3]
 first
 |
  refine ⟨fun h=>absurd (HE.out.symm.trans h) HQ.out,fun _=>⟨by rw [HE.out], ?_⟩⟩;exact (((HB.out.trans (HB5.out.mono HB.out.size)).setCell (p:=⟨w.heap.size,0,none⟩) (Nat.le_refl _) _).setCell (p:=⟨w.heap.size,1,none⟩) (Nat.le_refl _) _).setCell (p:=⟨w.heap.size,2,none⟩) (Nat.le_refl _) _
  done
  done
 |
  refine ⟨fun _=>⟨w.heap.size+1,f,by rw [g1], ?_,by rw [g2];exact HF.out.1,by omega, ?_⟩,fun h=>absurd g3 h⟩
  ·refine HF.out.2.of_block ?_;simp [World.setCell,Array.getElem?_modify]
  ·exact ((HB.out.setCell (p:=⟨w.heap.size,0,none⟩) (Nat.le_refl _) _).setCell (p:=⟨w.heap.size,1,none⟩) (Nat.le_refl _) _).setCell (p:=⟨w.heap.size,2,none⟩) (Nat.le_refl _) _):P:=h
theorem ac5_ (h:P:=by
 generalize aB_ u=LU at *;generalize eJ_ u W=X at *
 first
 |
  clear hN hSh hu hmem hut hnt hsz hline hsm hat HLS HLK HST hS hq HU HA hl;go_wp2_with (go_at_call 36;refine HLN.out.mono ?_;rintro e w3 ⟨rfl,hB3⟩;have e1:=HL1.out w3 hB3;have e2:=H93.out w3 hB3;have HB3:=hd_ hB3;clear hB3);go_roundw
  case measure=>exact me_
  case rel=>exact ⟨k+1,nn,S,f,by omega,by go_num,rfl,by omega,HA2,hd_ ⟨HF.out.1,HF.out.2.below HB3.out⟩,hd_ (a6_ H6.out HB3.out),hd_ (a6_ H9.out HB3.out),hd_ (HB.out.trans (HB3.out.mono HB.out.size))⟩
  done
 |
  generalize cB_ u W=q at *;clear hN hSh hu hmem hut hnt hsz hline hsm hat HLS HLK hS hq HU HA hl hK2 HST;go_wp2_with (first
   | (go_at_call 36;refine HLN.out.mono ?_;rintro e w3 ⟨rfl,hB3⟩;have e1:=HL1.out w3 hB3;have e2:=H93.out w3 hB3;have e4:=HL2.out w3 hB3;have HB3:=hd_ hB3;clear hB3)
   | (go_at_call 22;refine (HONE.out _ HB3.out).mono ?_;rintro e w5 ⟨rfl,hB5⟩;have HB5:=hd_ (HB3.out.trans (hB5.mono HB3.out.size));have h6:=H63.out w5 HB5.out;have r0:=a1_ (j:=0) h6;have r1:=a1_ (j:=1) h6;have r2:=a1_ (j:=2) h6;have f0:=aS_ (j:=0) h6;have f1:=aS_ (j:=1) h6;have f2:=aS_ (j:=2) h6;simp at r0 r1 r2;have H65:=hd_ h6;clear hB5 h6))
  have b0:=eW_ (p:=.int .i64 0) (q:=.slice none 0 0) (r:=.map none) H65.out;exact anC_
 |
  clear hN hSh hu hmem hut hnt hsz hline hsm hat HLS HLK hS hq HU HA hl hK2;go_wp2_with (go_at_call 36;refine HLN.out.mono ?_;rintro e w3 ⟨rfl,hB3⟩;have e1:=HL1.out w3 hB3;have e2:=H93.out w3 hB3;have e4:=HL2.out w3 hB3;obtain ⟨o,ho⟩:=HST.out w3 hB3;obtain ⟨o1,o2,o3⟩:=ho w3 rfl;have O2:=hd_ o2;have O3:=hd_ o3;have HB3:=hd_ hB3;clear hB3 o2 o3 ho);go_roundw
  case measure=>exact me_
  case rel =>
   have hlt6:=a5_ H6.out;have hlt9:=a5_ H9.out;have hz3:=HB3.out.size;exact ⟨k+1,nn,LU::S,_,by omega,by go_num,rfl,by omega,HA2,hd_ ⟨HKP.out,O2.out⟩,hd_ ((O3.out.block _ om_ si_).trans (a6_ H6.out HB3.out)),hd_ ((O3.out.block _ om_ si_).trans (a6_ H9.out HB3.out)),hd_ ((HB.out.trans (HB3.out.mono HB.out.size)).grown O3.out (Nat.le_trans HB.out.size hz3) (fun j e=>by injection e with e;omega))⟩):P:=h
theorem l1_ (W:Int) (p:List (List Nd)) (n:Nat) (hn:p.length=n) (P:Option Addr) (c:Nat) (K:List ByteArray) (mv:Value) (w:World) (hp:Prg w w.heap.size P p) (hT:∀ u ∈ p,aM_ u=0/\True) (h20:p.length<=20) (hK:gW_ W K mv w) (hm:cQ_ w) (hpw:dM_ w) :
  Calls Tryz.prog 26 #[.int .i64 W,.slice P n c,mv] w (fun e w'=>(bH_ W p=0->anL_ W P n c p K w e w')/\(bH_ W p≠0->anK_ (bH_ W p) w e w')):=by
 subst hn;have HPR:=hd_ hp;have HT:=hd_ hT;have HKN:=hd_ hK;have HM:=hd_ hm;have HPW:=hd_ hpw;clear hp hT hK hm hpw;have hmm:=@run_makeMap Tryz.prog;go_enter Tryz.func26,Tryz.ntmps26;go_upto_region 3 with fail;refine pE_ (fun wx=>Below w.heap.size w wx/\wx.heap[w.heap.size]?=some (.cells #[.int .i64 0,.slice none 0 0,.map none] 65 (0,0))/\wx.heap[w.heap.size+1]?=some (.map #[] 0)/\wx.heap[w.heap.size+1+1]?=some (.cells #[.int .i64 W,.slice P p.length c,.map (some (w.heap.size+1))] 65 (0,0))) (adR_ w _ _ _) ?_;rintro w0 ⟨hB0,h60,hm0,h90⟩;have HB0:=hd_ hB0;have H60:=hd_ h60;have HM0:=hd_ hm0;have H90:=hd_ h90;clear hB0 h60 hm0 h90 hmm;go_wp2_with fail;go_loopw [10,12,13,14,15,16,17,18,19,26] (fun cnt _ _ _ _ _ _ _ _ i wr=>∃ (k nn:Nat) (S:List ByteArray) (f:Value->Option Value),k<=p.length/\i=.int .i64 k/\cnt=.int .i64 nn/\nn<=k/\Hid (hR_ W p K k S nn)/\Hid (gV_ W S f/\dL_ Tryz.prog 9 f (w.heap.size+1) wr)/\Hid (wr.heap[w.heap.size]?=some (.cells #[.int .i64 0,.slice none 0 0,.map none] 65 (0,0)))/\Hid (wr.heap[w.heap.size+1+1]?=some (.cells #[.int .i64 W,.slice P p.length c,.map (some (w.heap.size+1))] 65 (0,0)))/\Hid (Below w.heap.size w wr)) (fun _ _ _ _ _ _ _ _ _ i _=>p.length-(intOf i).toNat)
 case atStart=>exact ⟨0,0,[],fun _=>none,by omega,rfl,rfl,Nat.le_refl _,hd_ (hR_.start W p K),hd_ ⟨gV_.none_ W,⟨#[],0,HM0.out,by simp,by simp,by simp⟩⟩,H60,H90,HB0⟩
 case round =>
  clear HB0 H60 H90 HM0;obtain ⟨k,nn,S,f,hk,rfl,rfl,hnk,HA,HF,H6,H9,HB⟩:=hrel
  by_cases hlt:k<p.length
  ·obtain ⟨b,off,Ak,ck,u,rfl,hb,hu,hc,hN,hSh⟩:=HPR.out.one HB.out hlt;have hmem:u ∈ p:=List.mem_of_getElem? hu;obtain ⟨hut,hnt⟩:=HT.out u hmem;obtain ⟨hsz,hline⟩:=kO_ hut;have HLN:=hd_ (hline Ak ck wr hN (HPW.out.past HB.out));have hsm:(aB_ u).size<=maxLen:=by simp only [maxLen];omega
   have hat:=HF.out.1.at hut hnt;have HU:=hd_ hu;have H93:Hid (∀ w3,Below wr.heap.size wr w3->w3.cell? ⟨w.heap.size+1+1,2,none⟩=some (.map (some (w.heap.size+1)))):=hd_ (fun w3 hB3=>by rw [a1_ (j:=2) (a6_ H9.out hB3)];rfl);have HLS:=hd_ (fun w3 (hB3:Below wr.heap.size wr w3)=>gW_.look (w:=w3) (mv:=.map (some (w.heap.size+1))) (.inr ⟨_,f,rfl,HF.out.2.below hB3,HF.out.1⟩) hut hnt hsm);have HLK:=hd_ (fun w3 (hB3:Below wr.heap.size wr w3)=>gW_.look (w:=w3) (mv:=mv) ((HKN.out.past HB.out).past hB3) hut hnt hsm);obtain ⟨l,hl⟩:=sO_ hsm;have HST:=hd_ (fun w3 (hB3:Below wr.heap.size wr w3)=>(HF.out.2.below hB3).store p7_ pP_ hl (.string (eJ_ u W)))
   by_cases hS:aB_ u ∈ S
   ·have hq:=(hat.1 hS).2;have HA2:=hd_ (HA.out.old hu hS hq);have HL1:=hd_ (fun w3 (hB3:Below wr.heap.size wr w3)=>((HLS.out w3 hB3).resolve_right (fun x=>x.1 hS)).2.2);exact ac5_
   ·have HL1:=hd_ (fun w3 (hB3:Below wr.heap.size wr w3)=>((HLS.out w3 hB3).resolve_left (fun x=>hS x.1)).2)
    by_cases hK2:aB_ u ∈ K
    ·have hq:=((HLK.out wr (Below.refl _ _)).resolve_right (fun x=>x.1 hK2)).2.1;have HA2:=hd_ ((HA.out.fresh hu hS hq).1 hK2);have HL2:=hd_ (fun w3 (hB3:Below wr.heap.size wr w3)=>((HLK.out w3 hB3).resolve_right (fun x=>x.1 hK2)).2.2);have HKP:=hd_ (HF.out.1.put hut hnt hq);exact ac5_
    ·have HL2:=hd_ (fun w3 (hB3:Below wr.heap.size wr w3)=>((HLK.out w3 hB3).resolve_left (fun x=>hK2 x.1)).2);have H63:Hid (∀ w3,Below wr.heap.size wr w3->w3.heap[w.heap.size]?=some (.cells #[.int .i64 0,.slice none 0 0,.map none] 65 (0,0))):=hd_ (fun w3 hB3=>a6_ H6.out hB3)
     by_cases hq:cB_ u W=0
     ·have HA2:=hd_ ((HA.out.fresh hu hS hq).2 hK2);have HKP:=hd_ (HF.out.1.put hut hnt hq);have HONE:=hd_ (fun w3 (hB3:Below wr.heap.size wr w3)=>ap3_ (fun l x A c w hl hd=>aoY_ l x A c w hl hd) u W Ak ck w3 (hN.past hB3) hSh ((HM.out.past HB.out).past hB3) ((HPW.out.past HB.out).past hB3) (fun h9=>iR_ hut h9 (by have:=(fL_ hq).2.2 h9;omega)) hq);generalize aB_ u=LU at *;generalize eJ_ u W=X at *;clear hN hSh hu hmem hut hnt hsz hline hsm hat HLS HLK hS hq HU HA hl hK2 H63;go_wp2_with (first
       | (go_at_call 36;refine HLN.out.mono ?_;rintro e w3 ⟨rfl,hB3⟩;have e1:=HL1.out w3 hB3;have e2:=H93.out w3 hB3;have e4:=HL2.out w3 hB3;have HB3:=hd_ hB3;clear hB3)
       | (go_at_call 22;refine (HONE.out _ HB3.out).mono ?_;rintro e w5 ⟨rfl,hB5⟩;have HB5:=hd_ (HB3.out.trans (hB5.mono HB3.out.size));have e6:=H93.out w5 HB5.out;obtain ⟨o,ho⟩:=HST.out w5 HB5.out;obtain ⟨o1,o2,o3⟩:=ho w5 rfl;have O2:=hd_ o2;have O3:=hd_ o3;clear hB5 o2 o3 ho))
      go_roundw
      case measure=>exact me_
      case rel =>
       have hlt6:=a5_ H6.out;have hlt9:=a5_ H9.out;have hz3:=HB5.out.size;exact ⟨k+1,nn+1,LU::S,_,by omega,by go_num,by go_num,by omega,HA2,hd_ ⟨HKP.out,O2.out⟩,hd_ ((O3.out.block _ om_ si_).trans (a6_ H6.out HB5.out)),hd_ ((O3.out.block _ om_ si_).trans (a6_ H9.out HB5.out)),hd_ ((HB.out.trans (HB5.out.mono HB.out.size)).grown O3.out (Nat.le_trans HB.out.size hz3) (fun j e=>by injection e with e;omega))⟩
     ·have HE:=hd_ (HA.out.stop hu hq);have HONE:=hd_ (fun w3 (hB3:Below wr.heap.size wr w3)=>ak0_ u W Ak ck w3 (hN.past hB3) hSh ((HM.out.past HB.out).past hB3) ((HPW.out.past HB.out).past hB3) hq);have HQ:=hd_ hq;exact ac5_
  ·obtain ⟨g1,g2,g3⟩:=HA.out.end_ om_;have h6:=H6.out;have h9:=H9.out;have r0:=a1_ (j:=0) h6;have r1:=a1_ (j:=1) h6;have r2:=a1_ (j:=2) h6;have f0:=aS_ (j:=0) h6;have f1:=aS_ (j:=1) h6;have f2:=aS_ (j:=2) h6;have s0:=a1_ (j:=0) h9;have s1:=a1_ (j:=1) h9;have s2:=a1_ (j:=2) h9;simp at r0 r1 r2 s0 s1 s2;clear h6 h9;go_wp2_with fail;have b0:=eW_ (p:=.int .i64 W) (q:=.slice P p.length c) (r:=.map (some (w.heap.size+1))) H6.out;exact anC_
end
section
open Go.RowKit Go.Maps
theorem ai5_ {W:Int} (hW:bQ_ W=false) (w:World):Calls Tryz.prog 8 #[.int .i64 W] w (Ret w (.tuple #[.pointer none,.iface 24 (.int .i64 1)])):=by
 have HW:=hd_ (fun w'=>i1_ W w');rw [hW] at HW;clear hW;go_enter Tryz.func8,Tryz.ntmps8;go_wp2_with (go_at_call 23;refine (HW.out _).mono ?_;rintro e w1 ⟨rfl,rfl⟩);go_ret2;exact ⟨rfl,Below.refl _ _⟩
theorem anY_ {W:Int} (hW:bQ_ W=true) (w:World):Calls Tryz.prog 8 #[.int .i64 W] w fun e w'=>e=.returned (.tuple #[.pointer (some ⟨w.heap.size,0,none⟩),.nilIface])/\w'=w.alloc (.cells #[.int .i64 W,.slice none 0 0,.map none] 67):=by
 have HW:=hd_ (fun w'=>i1_ W w');rw [hW] at HW;clear hW;go_enter Tryz.func8,Tryz.ntmps8;go_wp2_with (go_at_call 23;refine (HW.out _).mono ?_;rintro e w1 ⟨rfl,rfl⟩);go_ret2;exact ⟨rfl,rfl⟩
theorem acM_ {d:Nat} {W:Int} {x y:Value} (w:World) (h:w.heap[d]?=some (.cells #[.int .i64 W,x,y] 67 (0,0))):Calls Tryz.prog 16 #[.pointer (some ⟨d,0,none⟩)] w fun e w'=>e=.returned (.int .i64 W)/\w'=w:=by
 have r0:=a1_ (j:=0) h;simp at r0;clear h;go_enter Tryz.func16,Tryz.ntmps16;go_wp2;go_ret;exact ⟨rfl,rfl⟩
end
section
open Go.RowKit Go.Maps
structure gX_ (W:Int) (p:List (List Nd)):Prop where
 wide:bQ_ W=true
 few:p.length<=20
 stm:∀ u ∈ p,aM_ u=0/\True
 fits:bH_ W p=0
theorem gX_.of_parse {s:ByteArray} {k:Nat} {p:List (List Nd)} (h:bC_ s=(0,k,p)) {W:Int} (hW:bQ_ W=true) (hf:bH_ W p=0):gX_ W p:=by
 have hw:=oP_ (s:=s) (by rw [h]);rw [h] at hw;have hp:=m2_ hw;exact ⟨hW,hp.1,fun u hu=>⟨hp.2.1 u hu,trivial⟩,hf⟩
theorem gX_.nil_ {W:Int} (hW:bQ_ W=true):gX_ W []:=⟨hW,by simp,by simp,rfl⟩
def fT_ (d lo:Nat) (W:Int) (p:List (List Nd)) (K:List ByteArray) (w:World):Prop :=
 ∃ P c mv,w.heap[d]?=some (.cells #[.int .i64 W,.slice P p.length c,mv] 67 (0,0))/\d1_ lo w P p/\gW_ W K mv w/\(∀ u ∈ p,aB_ u ∈ K)/\(∀ b,mv=.map (some b)->lo<=b)/\gX_ W p
def hD_ (d:Nat) (W:Int) (p:List (List Nd)) (K:List ByteArray) (w:World):Prop:=fT_ d (d+1) W p K w
theorem fT_.deskK {d lo:Nat} {W:Int} {p:List (List Nd)} {K:List ByteArray} {w:World} (h:fT_ d lo W p K w) (hl:d<lo):hD_ d W p K w:=by
 obtain ⟨P,c,mv,h1,h2,h3,h4,h5,h6⟩:=h;exact ⟨P,c,mv,h1,h2.less hl,h3,h4,fun b e=>Nat.lt_of_lt_of_le hl (h5 b e),h6⟩
theorem fT_.past {d lo:Nat} {W:Int} {p:List (List Nd)} {K:List ByteArray} {w w':World} (h:fT_ d lo W p K w) (hb:Below w.heap.size w w'):fT_ d lo W p K w':=by
 obtain ⟨P,c,mv,h1,h2,h3,h4,h5,h6⟩:=h;exact ⟨P,c,mv,a6_ h1 hb,h2.past hb,h3.past hb,h4,h5,h6⟩
theorem fT_.beside {d lo m:Nat} {W:Int} {p:List (List Nd)} {K:List ByteArray} {w w':World} (h:fT_ d lo W p K w) (hg:w.grownBy w' (some m)) (hd:d≠m) (hm:m<lo):fT_ d lo W p K w':=by
 obtain ⟨P,c,mv,h1,h2,h3,h4,h5,h6⟩:=h;refine ⟨P,c,mv,(hg.block d (a5_ h1) (fun e=>hd (by injection e))).trans h1,h2.grow hg (fun k e=>by injection e with e;omega), ?_,h4,h5,h6⟩
 rcases h3 with g|⟨b,f,rfl,g2,g3⟩
 ·exact .inl g
 ·exact .inr ⟨b,f,rfl,g2.kept hg (fun e=>by injection e with e;have:=h5 b rfl;omega),g3⟩
theorem hD_.past {d:Nat} {W:Int} {p:List (List Nd)} {K:List ByteArray} {w w':World} (h:hD_ d W p K w) (hb:Below w.heap.size w w'):hD_ d W p K w':=by
 obtain ⟨P,c,mv,h1,h2,h3,h4,h5,h6⟩:=h;exact ⟨P,c,mv,a6_ h1 hb,h2.past hb,h3.past hb,h4,h5,h6⟩
theorem hD_.new {W:Int} (hW:bQ_ W=true) (w:World):hD_ w.heap.size W [] [] (w.alloc (.cells #[.int .i64 W,.slice none 0 0,.map none] 67)) :=
 ⟨none,0,.map none,aG_ rfl,d1_.nil_ _ _,.inl ⟨rfl,rfl⟩,by simp,fun b h=>(by cases h),gX_.nil_ hW⟩
theorem hD_.onDesk {d:Nat} {W:Int} {p:List (List Nd)} {K:List ByteArray} {w:World} (h:hD_ d W p K w):gX_ W p/\(∀ u ∈ p,aB_ u ∈ K)/\d<w.heap.size:=by
 obtain ⟨P,c,mv,h1,h2,h3,h4,h5,h6⟩:=h;exact ⟨h6,h4,a5_ h1⟩
end
section
open Go.RowKit Go.Maps
theorem aj0_ {d:Nat} {V:Int} {w:World} (hV:bQ_ V=false) :
  Calls Tryz.prog 11 #[.pointer (some ⟨d,0,none⟩),.int .i64 V] w (Ret w (.iface 24 (.int .i64 1))):=by
 have HW:=hd_ (fun w'=>i1_ V w');rw [hV] at HW;clear hV;go_enter Tryz.func11,Tryz.ntmps11;go_wp2_with (go_at_call 23;refine (HW.out _).mono ?_;rintro e w1 ⟨rfl,rfl⟩);go_ret;exact ⟨rfl,Below.refl _ _⟩
theorem acL_ {d:Nat} {W V:Int} {p:List (List Nd)} {K:List ByteArray} {w:World} (h:hD_ d W p K w) (hV:bQ_ V=true) (hm:cQ_ w) (hpw:dM_ w) (hq:bH_ V p≠0) :
  Calls Tryz.prog 11 #[.pointer (some ⟨d,0,none⟩),.int .i64 V] w (Ret w (.iface 24 (.int .i64 (bH_ V p)))):=by
 have HW:=hd_ (fun w'=>i1_ V w');rw [hV] at HW;obtain ⟨P,c,mv,h1,h2,h3,h4,h5,h6⟩:=h;have r1:=a1_ (j:=1) h1;simp at r1;have HL:=hd_ (l1_ V p p.length rfl P c [] (.map none) w h2.prg h6.stm h6.few (.inl ⟨rfl,rfl⟩) hm hpw);have HQ:=hd_ hq;generalize bH_ V p=q at *;clear hV hm hpw h1 h2 h3 h4 h5 h6 hq;go_enter Tryz.func11,Tryz.ntmps11;go_wp2_with (first
  | (go_at_call 23;refine (HW.out _).mono ?_;rintro e w1 ⟨rfl,rfl⟩)
  | (go_at_call 26;refine HL.out.mono ?_;rintro e w2 ⟨-,hz⟩;obtain ⟨rfl,hB⟩:=hz HQ.out;have HB:=hd_ hB;clear hz hB))
 go_ret;exact ⟨rfl,HB.out.alloc HB.out.size _⟩
theorem xB_ {w w':World} (hb:Below w.heap.size w w') (row:Option Nat):w.grownBy w' row:=⟨hb.os,hb.tape,hb.output,hb.size,fun k hk _=>hb.block k hk⟩
theorem nT_ {w:World} {d:Nat} (x y z:Value):w.grownBy (((w.setCell ⟨d,0,none⟩ x).setCell ⟨d,1,none⟩ y).setCell ⟨d,2,none⟩ z) (some d) :=
 ⟨rfl,rfl,rfl,by simp [World.setCell],fun i _ hi=>by
  have hne:d≠i:=fun e=>hi (by rw [e])
  simp [World.setCell,Array.getElem?_modify,hne]⟩
theorem aj1_ {d lo:Nat} {W V:Int} {p:List (List Nd)} {K:List ByteArray} {w:World} (h:fT_ d lo W p K w) (hdl0:d<lo) (hlo:lo<=w.heap.size) (hV:bQ_ V=true) (hm:cQ_ w) (hpw:dM_ w) (hq:bH_ V p=0) :
  Calls Tryz.prog 11 #[.pointer (some ⟨d,0,none⟩),.int .i64 V] w (fun e w'=>e=.returned .nilIface/\fT_ d lo V p (eE_ [] p) w'/\Below d w w'/\w.grownBy w' (some d)):=by
 have HW:=hd_ (fun w'=>i1_ V w');rw [hV] at HW;obtain ⟨P,c,mv,h1,h2,h3,h4,h5,h6⟩:=h;have hdl:=a5_ h1;have r1:=a1_ (j:=1) h1;simp at r1;have HL:=hd_ (l1_ V p p.length rfl P c [] (.map none) w h2.prg h6.stm h6.few (.inl ⟨rfl,rfl⟩) hm hpw);have HQ:=hd_ hq;have H1:=hd_ h1;have H2:=hd_ h2;have HO:Hid (gX_ V p):=hd_ ⟨hV,h6.few,h6.stm,hq⟩;clear hV hm hpw h1 h2 h3 h4 h5 h6 hq;go_enter Tryz.func11,Tryz.ntmps11;go_wp2_with (first
  | (go_at_call 23;refine (HW.out _).mono ?_;rintro e w1 ⟨rfl,rfl⟩)
  | (go_at_call 26;refine HL.out.mono ?_;rintro e w2 ⟨hz,-⟩;obtain ⟨b,f,rfl,hM,hF,hb,hB⟩:=hz HQ.out;have HB:=hd_ hB;have HMF:=hd_ hM;have HKF:=hd_ hF;have hd2:=a6_ H1.out hB;have hda:∀ o,(w2.alloc o).heap[d]?=some (.cells #[.int .i64 W,.slice P p.length c,mv] 67 (0,0)):=(fun o=>(Below.heap_alloc _ _ _ (a5_ hd2)).trans hd2);have f0:∀ o,(w2.alloc o).frozen? ⟨d,0,none⟩=false:=(fun o=>aS_ (j:=0) (hda o));have f1:∀ o,(w2.alloc o).frozen? ⟨d,1,none⟩=false:=(fun o=>aS_ (j:=1) (hda o));have f2:∀ o,(w2.alloc o).frozen? ⟨d,2,none⟩=false:=(fun o=>aS_ (j:=2) (hda o));have c0:∀ o,(w2.alloc o).cell? ⟨d,0,none⟩=some (.int .i64 W):=(fun o=>by rw [a1_ (j:=0) (hda o)];rfl);have c1:∀ o,(w2.alloc o).cell? ⟨d,1,none⟩=some (.slice P p.length c):=(fun o=>by rw [a1_ (j:=1) (hda o)];rfl);have c2:∀ o,(w2.alloc o).cell? ⟨d,2,none⟩=some mv:=(fun o=>by rw [a1_ (j:=2) (hda o)];rfl);clear hda;have HD2:=hd_ hd2;clear hz hB hM hF hd2))
 go_ret;have hz:=HB.out.size;have hba:Below w2.heap.size w2 (w2.alloc (.cells #[.int .i64 V,.slice P p.length c,.map (some b)] 65)):=aE_;have hg:=nT_ (w:=w2.alloc (.cells #[.int .i64 V,.slice P p.length c,.map (some b)] 65)) (d:=d) (.int .i64 V) (.slice P p.length c) (.map (some b));refine ⟨rfl,⟨P,c,.map (some b),eW_ (a6_ HD2.out hba),((H2.out.past HB.out).past hba).grow hg (fun k e=>by injection e with e;omega),.inr ⟨b,f,rfl,(HMF.out.below hba).kept hg (fun e=>by injection e with e;omega),HKF.out⟩,fun u hu=>lL_.2 u hu,fun b' e=>by cases e;omega,HO.out⟩, ?_,(xB_ (HB.out.alloc hz _) (some d)).trans hg⟩;have hbd:Below d w w2:=HB.out.mono om_;have hdz:d<=w2.heap.size:=by omega
 exact (((hbd.alloc hdz _).setCell (p:=⟨d,0,none⟩) (Nat.le_refl _) _).setCell (p:=⟨d,1,none⟩) (Nat.le_refl _) _).setCell (p:=⟨d,2,none⟩) (Nat.le_refl _) _
end
section
open Go.RowKit Go.Maps
theorem ao1_ {d:Nat} {s:ByteArray} {f:Int} {k:Nat} {q:List (List Nd)} (h:bC_ s=(f,k,q)) (hf:f≠0) (w:World) (hs:s.size<=maxLen) (hm:cQ_ w) :
  Calls Tryz.prog 14 #[.pointer (some ⟨d,0,none⟩),.string s] w (Ret w (.tuple #[.int .i64 0,.int .i64 (k:Nat),.iface 24 (.int .i64 f)])):=by
 have HP:=hd_ (ad6_ h hf rfl w hs hm);clear h hf hs hm;go_enter Tryz.func14,Tryz.ntmps14;go_wp2_with (go_at_call 21;refine HP.out.mono ?_;rintro e w1 ⟨A1,c1,rfl,-,hB⟩);go_ret3;exact ⟨rfl,hB⟩
end
section
open Go.RowKit Go.Maps
theorem gW_.get {W:Int} {K:List ByteArray} {mv:Value} {w:World} (h:gW_ W K mv w) {u:List Nd} (hu:aM_ u=0) (nu:True) (hs:(aB_ u).size<=maxLen) (hK:aB_ u ∈ K) :
  cB_ u W=0/\(Instr.lookup 63 mv (.string (aB_ u)) false).run Tryz.prog w=.ok (.string (eJ_ u W)) w:=by
 rcases h with ⟨rfl,rfl⟩|⟨b,f,rfl,⟨es,c,hb,h1,h2,-⟩,h3⟩
 ·cases hK
 obtain ⟨l,hl⟩:=sO_ hs;obtain ⟨b1,b2⟩:=(h3.at hu nu).1 hK;refine ⟨b2,?_⟩
 rcases p7_.find w hl es.toList (fun e he=>(h1 e he).1) with ⟨_,hn⟩|⟨j,e0,hf,hj,hk0⟩
 ·obtain ⟨e,he,hek⟩:=h2 _ _ b1;exact absurd hek (hn e he)
 have hm:=(h1 e0 (List.mem_of_getElem? hj)).2;rw [hk0,b1] at hm;injection hm with hm;rw [hm];simp [Instr.lookup,run_underlying pP_,MapKept.run_getObj_map hb,p7_.check w _ hl,hf,Result.andThen]
theorem acK_ {W:Int} {p:List (List Nd)} (h:∀ u ∈ p,cB_ u W=0):∀ k,k<=p.length->(cK_ W (p.take k)).size<=1500000*k:=by
 intro k
 induction k with
 | zero=>intro _;simp [cK_]
 | succ k ih =>
  intro hk;have hlt:k<p.length:=by omega
  have hu:p[k]?=some p[k]:=List.getElem?_eq_getElem hlt;rw [jY_ W hu,ByteArray.size_append];have h1:=ih om_;have hq:=h p[k] (List.getElem_mem hlt);have ht:=(fL_ hq).2.1;have h2:=(pT_ hq (fun h9=>iR_ ht h9 (by have:=(fL_ hq).2.2 h9;omega))).small;omega
theorem aeX_ {d:Nat} {W:Int} {p:List (List Nd)} {K:List ByteArray} {w:World} (h:hD_ d W p K w) (hpw:dM_ w) :
  Calls Tryz.prog 15 #[.pointer (some ⟨d,0,none⟩)] w (Ret w (.string (cK_ W p))):=by
 obtain ⟨P,c,mv,h1,h2,h3,h4,h5,h6⟩:=h;have hdl:=a5_ h1;have hb1:Below w.heap.size w (w.alloc (.cells #[.pointer none,.slice none 0 0] 88)):=aE_;have r1:=a1_ (j:=1) (a6_ h1 hb1);simp at r1;have HBD:Hid (Bld w.heap.size w.heap.size .empty (w.alloc (.cells #[.pointer none,.slice none 0 0] 88))):=hd_ (Bld.new w);have HB0:=hd_ hb1;have HH:Hid (∀ w',Below w.heap.size w w'->w'.cell? ⟨d,2,none⟩=some mv):=hd_ (fun w' hB=>by rw [a1_ (j:=2) (a6_ h1 hB)];rfl);have HKM:=hd_ (fun w' (hB:Below w.heap.size w w')=>h3.past hB);have HPR:=hd_ h2.prg;have HT:=hd_ h6.stm;have HK4:=hd_ h4;have HPW:=hd_ hpw;have h20:=h6.few;have hq0:∀ u ∈ p,cB_ u W=0:=fun u hu=>(h3.get (h6.stm u hu).1 (h6.stm u hu).2 (by have:=(kO_ (h6.stm u hu).1).1;simp only [maxLen];omega) (h4 u hu)).1
 have HSZ:=hd_ (acK_ hq0);have HALL:Hid (∀ k,p.length<=k->cK_ W (p.take k)=cK_ W p):=hd_ (fun k hk=>by rw [List.take_of_length_le hk]);clear h1 h2 h3 h4 h5 h6 hpw hq0 hb1;go_enter Tryz.func15,Tryz.ntmps15;go_wp2;go_loopw [5,12] (fun _ i wr=>∃ k:Nat,k<=p.length/\i=.int .i64 k/\Hid (Bld w.heap.size w.heap.size (cK_ W (p.take k)) wr)/\Hid (Below w.heap.size w wr)) (fun _ i _=>p.length-(intOf i).toNat)
 case atStart=>exact ⟨0,by omega,rfl,HBD,HB0⟩
 case round =>
  clear HBD HB0;obtain ⟨k,hk,rfl,HBD,HB⟩:=hrel
  by_cases hlt:k<p.length
  ·obtain ⟨b,off,Ak,ck,u,rfl,hb,hu,hc,hN,hSh⟩:=HPR.out.one HB.out hlt;have hmem:u ∈ p:=List.mem_of_getElem? hu;obtain ⟨hut,hnt⟩:=HT.out u hmem;obtain ⟨hsz,hline⟩:=kO_ hut;have HLN:=hd_ (fun (w':World) (hB:Below wr.heap.size wr w')=>hline Ak ck w' (hN.past hB) (HPW.out.past (HB.out.trans (hB.mono HB.out.size))));have hsm:(aB_ u).size<=maxLen:=by simp only [maxLen];omega
   have HL1:=hd_ (fun w3 (hB3:Below wr.heap.size wr w3)=>((HKM.out _ (HB.out.trans (hB3.mono HB.out.size))).get hut hnt hsm (HK4.out u hmem)).2);have hq:=((HKM.out _ HB.out).get hut hnt hsm (HK4.out u hmem)).1;have hxs:=(pT_ hq (fun h9=>iR_ hut h9 (by have:=(fL_ hq).2.2 h9;omega))).small;have HST:=hd_ (jY_ W hu);have hks:=HSZ.out k hk;have HC2:Hid (∀ w3,Below wr.heap.size wr w3->w3.cell? ⟨d,2,none⟩=some mv):=hd_ (fun w3 hB3=>HH.out _ (HB.out.trans (hB3.mono HB.out.size)));have e0:=HH.out _ HB.out;generalize aB_ u=LU at *;generalize cK_ W (p.take k)=Q at *;generalize eJ_ u W=X at *;have hz0:=HB.out.size;clear hN hSh hu hmem hut hnt hsz hline hsm hq;go_upto_region 5 with fail;go_region_held3 (fun w'=>w'.cell? ⟨d,2,none⟩=some mv) (first|exact e0|exact e2|exact e3)
    (first
    | (go_at_call 36;refine (HLN.out _ aF_).mono ?_;rintro e w3 ⟨rfl,hB3⟩;have hB3:Below wr.heap.size wr w3:=(by first|exact hB3|exact bR_ hB3|exact eM_ hB3);have e1:=HL1.out w3 hB3;have e2:=HC2.out w3 hB3;have HB3:=hd_ (HBD.out.past hB3);have HB4:=hd_ (HB.out.trans (hB3.mono hz0));clear hB3)
    | (go_at_call 35;refine (tY_ _ _ Q _ _ HB3.out om_).mono ?_;rintro e w4 ⟨rfl,hb5,hB5⟩;have HB5:=hd_ hb5;have HB6:=hd_ (HB4.out.trans hB5);have e3:=HH.out _ HB6.out;clear hb5 hB5))
   go_wp2;go_roundw
   case measure=>exact me_
   case rel=>exact ⟨k+1,by omega,by go_num,hd_ (by rw [HST.out];exact HB5.out),HB6⟩
  ·have HBZ:Hid (Bld w.heap.size w.heap.size (cK_ W p) wr):=hd_ (by rw [← HALL.out k om_];exact HBD.out);generalize cK_ W p=TT at *;clear HBD;go_wp2_with (go_at_call 37;refine (rL_ _ _ _ _ HBZ.out).mono ?_;rintro e w5 ⟨rfl,hB5⟩;have HB7:=hd_ (HB.out.trans hB5);clear hB5);go_ret;exact ⟨rfl,HB7.out⟩
end
section
open Go.RowKit Go.Maps
theorem nY_ (w:World) (o:Obj):(w.alloc o).drew.heap[w.heap.size]?=some o:=aG_ (w:=w) rfl
theorem anB_ (h:P:=by
 have HC:Hid (∀ w',Below w.heap.size w w'->w'.cell? ⟨d,0,none⟩=some (.int .i64 W)/\w'.cell? ⟨d,2,none⟩=some mv):=hd_ (fun w' hB=>by rw [a1_ (j:=0) (a6_ H1.out hB),a1_ (j:=2) (a6_ H1.out hB)];exact ⟨rfl,rfl⟩);go_enter Tryz.func14,Tryz.ntmps14;go_upto_region 4 with (go_at_call 21;refine HP.out.mono ?_;rintro e w1 ⟨P1,c1,rfl,hF,hB⟩;have HF1:=hd_ hF;clear hF);have hz1:=hB.size
 first
 |
  go_region_held3 (fun w'=>w'.cell? ⟨d,0,none⟩=some (.int .i64 W)/\w'.cell? ⟨d,2,none⟩=some mv) (first|exact HC.out _ aF_|exact HC.out _ hB2)
   (first
   | (go_at_call 26;refine (HL.out P1 c1 _ aF_ (HF1.out.past aF_).prg).mono ?_;rintro e w2 ⟨-,hz⟩;obtain ⟨rfl,hB'⟩:=hz HQ.out;have hB2:Below w.heap.size w w2:=Below.trans aF_ (hB'.mono (Below.size aF_));have hz2:=hB2.size;(try (have hx:w2.heap[w1.heap.size]?=some (.cells #[.int .i64 0,.slice none 0 0,.map none] 65 (0,0)):=a6_ (nY_ _ _) hB';have f0:=aS_ (j:=0) hx;have f1:=aS_ (j:=1) hx;have f2:=aS_ (j:=2) hx;have x0:=a1_ (j:=0) hx;have x1:=a1_ (j:=1) hx;have x2:=a1_ (j:=2) hx;simp at x0 x1 x2))))
  all_goals
   go_wp2;go_ret3;exact ⟨rfl,aF_⟩
  done
 |
  go_region_held3 (fun w'=>w'.cell? ⟨d,0,none⟩=some (.int .i64 W)/\w'.cell? ⟨d,2,none⟩=some mv) (first|exact HC.out _ aF_|exact HC.out _ hB2)
   (first
   | (go_at_call 26;refine (HL.out P1 c1 _ aF_ (HF1.out.past aF_).prg).mono ?_;rintro e w2 ⟨hz,-⟩;obtain ⟨b,f,rfl,hM,hF,hb,hB'⟩:=hz HQ.out;have HMF:=hd_ hM;have HKF:=hd_ hF;have hbw:w1.heap.size<=b:=(by simp at hb;omega);clear hz hM hF;have hB2:Below w.heap.size w w2:=Below.trans aF_ (hB'.mono (Below.size aF_));have hz2:=hB2.size;have hB12:Below w1.heap.size w1 w2:=Below.trans aF_ (hB'.mono (by first|exact Nat.le_refl _|(simp;done)|(simp;omega)));have hz12:=hB12.size;(try (have hbw2:w1.heap.size<b:=(by simp at hb;omega)));(try (have hx:w2.heap[w1.heap.size]?=some (.cells #[.int .i64 0,.slice none 0 0,.map none] 65 (0,0)):=a6_ (nY_ _ _) hB';have f0:=aS_ (j:=0) hx;have f1:=aS_ (j:=1) hx;have f2:=aS_ (j:=2) hx;have x0:=a1_ (j:=0) hx;have x1:=a1_ (j:=1) hx;have x2:=a1_ (j:=2) hx;simp at x0 x1 x2))))
  all_goals
   go_upto_region 7 with fail
  ·clear hB' hb;refine pE_ (fun wx=>wx.heap[w2.heap.size]?=some (.cells #[.int .i64 W,.slice P1 q.length c1,.map (some b)] 65 (0,0))/\Below w.heap.size w wx/\Below w1.heap.size w1 wx/\dL_ Tryz.prog 9 f b wx) ⟨aG_ rfl,aF_,aF_,HMF.out.below (aE_)⟩ ?_;rintro wx ⟨hx10,hBx,hB1x,hMx⟩;have hb10:d<w2.heap.size:=by omega
   exact anA_
  ·clear hB' hb f0 f1 f2 x0 x1 x2;refine pE_ (fun wx=>wx.heap[w1.heap.size]?=some (.cells #[.int .i64 W,.slice P1 q.length c1,.map (some b)] 65 (0,0))/\Below w.heap.size w wx/\Below w1.heap.size w1 wx/\dL_ Tryz.prog 9 f b wx) ⟨eW_ hx,aF_,aF_,HMF.out.kept (nT_ _ _ _) (fun e=>by injection e with e;omega)⟩ ?_;rintro wx ⟨hx10,hBx,hB1x,hMx⟩;have hb10:d<w1.heap.size:=by omega
   exact anA_):P:=h
theorem aeW_ {d:Nat} {W:Int} {p:List (List Nd)} {K:List ByteArray} {w:World} (h:hD_ d W p K w) {s:ByteArray} {k:Nat} {q:List (List Nd)} (hp:bC_ s=(0,k,q)) (hs:s.size<=maxLen) (hm:cQ_ w) (hpw:dM_ w) (hq:bH_ W q≠0) :
  Calls Tryz.prog 14 #[.pointer (some ⟨d,0,none⟩),.string s] w (Ret w (.tuple #[.int .i64 0,.int .i64 0,.iface 24 (.int .i64 (bH_ W q))])):=by
 obtain ⟨P,c,mv,h1,h2,h3,h4,h5,h6⟩:=h;have hw:=oP_ (s:=s) (by rw [hp]);rw [hp] at hw;have hpf:=m2_ hw;have HP:=hd_ (v3_ hp rfl w hs hm);have HL:=hd_ (fun (P1:Option Addr) (c1:Nat) (w1:World) (hB:Below w.heap.size w w1) (hF:Prg w1 w1.heap.size P1 q)=>l1_ W q q.length rfl P1 c1 K mv w1 hF (fun u hu=>⟨hpf.2.1 u hu,trivial⟩) hpf.1 (h3.past hB) (hm.past hB) (hpw.past hB));have HQ:=hd_ hq;have H1:=hd_ h1;generalize bH_ W q=f at *;clear h2 h3 h4 h5 h6 hm hpw hs hp hq h1 hw hpf;exact anB_
theorem anA_ (h:P:=by
 have y0:=a1_ (j:=0) hx10;have y1:=a1_ (j:=1) hx10;have y2:=a1_ (j:=2) hx10;have hdx:=a6_ H1.out hBx;have r0:=a1_ (j:=0) hdx;have r1:=a1_ (j:=1) hdx;have r2:=a1_ (j:=2) hdx;have f0:=aS_ (j:=0) hdx;have f1:=aS_ (j:=1) hdx;have f2:=aS_ (j:=2) hdx;simp at y0 y1 y2 r0 r1 r2;have HDX:=hd_ hdx;have HBX:=hd_ hBx;have HB1X:=hd_ hB1x;have HMX:=hd_ hMx;have HX:=hd_ hx10;clear hdx hBx hB1x hMx hx10;go_wp2;go_ret3;have hg:=nT_ (w:=wx) (d:=d) (.int .i64 W) (.slice P1 q.length c1) (.map (some b));refine ⟨rfl,⟨P1,c1,.map (some b),eW_ HDX.out,((HF1.out.past HB1X.out).less om_).grow hg (fun k e=>by injection e with e;omega),.inr ⟨b,f,rfl,HMX.out.kept hg (fun e=>by injection e with e;omega),HKF.out⟩,fun u hu=>lL_.2 u hu,fun b' e=>by cases e;omega,HO.out⟩, ?_,(xB_ HBX.out (some d)).trans hg⟩;have hbd:Below d w wx:=HBX.out.mono om_;exact ((hbd.setCell (p:=⟨d,0,none⟩) (Nat.le_refl _) _).setCell (p:=⟨d,1,none⟩) (Nat.le_refl _) _).setCell (p:=⟨d,2,none⟩) (Nat.le_refl _) _):P:=h
theorem ao2_ {d lo:Nat} {W:Int} {p:List (List Nd)} {K:List ByteArray} {w:World} (h:fT_ d lo W p K w) (hdl0:d<lo) (hlo:lo<=w.heap.size) {s:ByteArray} {k:Nat} {q:List (List Nd)} (hp:bC_ s=(0,k,q)) (hs:s.size<=maxLen) (hm:cQ_ w) (hpw:dM_ w) (hq:bH_ W q=0) :
  Calls Tryz.prog 14 #[.pointer (some ⟨d,0,none⟩),.string s] w (fun e w'=>e=.returned (.tuple #[.int .i64 (iY_ K [] q:Nat),.int .i64 0,.nilIface])/\fT_ d lo W q (eE_ [] q) w'/\Below d w w'/\w.grownBy w' (some d)):=by
 obtain ⟨P,c,mv,h1,h2,h3,h4,h5,h6⟩:=h;have hdl:=a5_ h1;have ho:=gX_.of_parse hp h6.wide hq;have HO:=hd_ ho;have HP:=hd_ (v3_ hp rfl w hs hm);have HL:=hd_ (fun (P1:Option Addr) (c1:Nat) (w1:World) (hB:Below w.heap.size w w1) (hF:Prg w1 w1.heap.size P1 q)=>l1_ W q q.length rfl P1 c1 K mv w1 hF ho.stm ho.few (h3.past hB) (hm.past hB) (hpw.past hB));have HQ:=hd_ hq;have H1:=hd_ h1;clear h2 h3 h4 h5 h6 hm hpw hs hp hq ho h1;exact anB_
end
section
open Go.RowKit Go.Maps
def DkS (w0:World) (d:Nat) (W:Int) (p:List (List Nd)) (K:List ByteArray) (w:World):Prop:=hD_ d W p K w/\w0.heap.size<=d/\Below w0.heap.size w0 w
theorem DkS.past {w0 w w':World} {d:Nat} {W:Int} {p:List (List Nd)} {K:List ByteArray} (h:DkS w0 d W p K w) (hb:Below w.heap.size w w'):DkS w0 d W p K w':=⟨h.1.past hb,h.2.1,h.2.2.trans (hb.mono h.2.2.size)⟩
end
section
open Classical in
noncomputable def f3_ (old:List (List Nd)):List (List Nd)->List (List Nd)->Nat
 | _,[]=>0
 | S,u::r=>(if aB_ u ∈ S.map aB_∨aB_ u ∈ old.map aB_ then 0 else 1)+f3_ old (S++[u]) r
theorem r1_:∀ (p:List (List Nd)) (S:List ByteArray) (x:ByteArray),x ∈ eE_ S p↔(x ∈ S∨x ∈ p.map aB_)
 | [],S,x=>by simp [eE_]
 | u::r,S,x=>by
  rw [eE_]
  split
  ·rename_i h;rw [r1_ r S x,List.map_cons,List.mem_cons]
   constructor
   ·rintro (g|g)
    ·exact .inl g
    ·exact .inr (.inr g)
   ·rintro (g|g|g)
    ·exact .inl g
    ·subst g;exact .inl h
    ·exact .inr g
  ·rw [r1_ r (aB_ u::S) x,List.map_cons,List.mem_cons,List.mem_cons]
   constructor
   ·rintro ((g|g)|g)
    ·exact .inr (.inl g)
    ·exact .inl g
    ·exact .inr (.inr g)
   ·rintro (g|g|g)
    ·exact .inl (.inr g)
    ·exact .inl (.inl g)
    ·exact .inr g
open Classical in
theorem tD_ {K:List ByteArray} {old:List (List Nd)} (hK:∀ x,x ∈ K↔x ∈ old.map aB_):∀ (r:List (List Nd)) (S':List ByteArray) (S:List (List Nd)),(∀ x,x ∈ S'↔x ∈ S.map aB_)->iY_ K S' r=f3_ old S r
 | [],S',S,h=>by rw [iY_,f3_]
 | u::r,S',S,h=>by
  rw [iY_,f3_]
  by_cases h1:aB_ u ∈ S'
  ·have h2:aB_ u ∈ S.map aB_:=(h _).1 h1;rw [if_pos h1,if_pos (.inl h2),Nat.zero_add];refine tD_ hK r S' (S++[u]) (fun x=>?_);rw [h x,List.map_append,List.mem_append]
   constructor
   ·exact .inl
   ·rintro (g|g)
    ·exact g
    ·simp at g;subst g;exact h2
  ·have h2:aB_ u ∉ S.map aB_:=fun g=>h1 ((h _).2 g)
   rw [if_neg h1];have e:(if aB_ u ∈ K then 0 else 1)=(if aB_ u ∈ S.map aB_∨aB_ u ∈ old.map aB_ then 0 else 1):=by
    by_cases h3:aB_ u ∈ K
    ·rw [if_pos h3,if_pos (.inr ((hK _).1 h3))]
    ·rw [if_neg h3,if_neg (fun g=>g.elim h2 (fun g=>h3 ((hK _).2 g)))]
   rw [e]
   congr 1
   refine tD_ hK r (aB_ u::S') (S++[u]) (fun x=>?_);rw [List.mem_cons,h x,List.map_append,List.mem_append]
   constructor
   ·rintro (g|g)
    ·exact .inr (by simp [g])
    ·exact .inl g
   ·rintro (g|g)
    ·exact .inr g
    ·simp at g;exact .inl g
theorem ad0_ (old q:List (List Nd)):iY_ (eE_ [] old) [] q=f3_ old [] q :=
 tD_ (fun x=>by rw [r1_];simp) q [] [] (fun x=>by simp)
end
section
open Go.RowKit
theorem aeK_ {t u:ByteArray} (h:¬ t=u):(t.toList==u.toList)=false:=by
 rw [ByteArray.toList_eq,ByteArray.toList_eq];obtain ⟨⟨x⟩⟩:=t;obtain ⟨⟨y⟩⟩:=u;have:¬ x=y:=fun e=>h (by rw [e])
 simpa using this
theorem u3_ (a b:ByteArray):(a.toList==b.toList)=decide (a=b):=by
 by_cases h:a=b
 ·subst h;simp
 ·rw [aeK_ h,decide_eq_false h]
theorem nZ_ {l:List (List Nd)} {k:Nat} {u:List Nd} (h:l[k]?=some u) (x:ByteArray):x ∈ (l.take (k+1)).map aB_↔x ∈ (l.take k).map aB_∨aB_ u=x:=by
 obtain ⟨hk,rfl⟩:=List.getElem?_eq_some_iff.1 h;rw [List.take_succ_eq_append_getElem hk,List.map_append,List.mem_append,List.map_cons,List.map_nil,List.mem_singleton];exact or_congr Iff.rfl eq_comm
theorem zF_ {p old:List (List Nd)} {k:Nat} {u:List Nd} (h:p[k]?=some u) {q:Bool} (hq:q=true↔aB_ u ∈ (p.take k).map aB_∨aB_ u ∈ old.map aB_) :
  f3_ old (p.take k) (p.drop k)=(if q=true then 0 else 1)+f3_ old (p.take (k+1)) (p.drop (k+1)):=by
 obtain ⟨hk,rfl⟩:=List.getElem?_eq_some_iff.1 h;rw [List.drop_eq_getElem_cons hk,f3_,List.take_succ_eq_append_getElem hk]
 by_cases hb:q=true
 ·rw [if_pos (hq.1 hb),if_pos hb]
 ·rw [if_neg (fun hh=>hb (hq.2 hh)),if_neg hb]
theorem w9_ (h:P:=by
 go_wp2;go_roundw
 case measure=>exact iX_
 first
 |
  case rel=>exact ⟨a+1,true,by omega,by first|go_num|rfl,rfl,hd_ ⟨fun _=>(HST.out.2 (.inl (HQ.out.1 rfl))),fun _=>rfl⟩,HB1⟩
  done
 |
  case rel=>exact ⟨a+1,true,by omega,by first|go_num|rfl,rfl,hd_ ⟨fun _=>((HQ.out.1 rfl).elim .inl (fun g=>.inr (HST.out.2 (.inl g)))),fun _=>rfl⟩,HB1⟩
  done
 |
  case rel=>exact ⟨k+1,x,by omega,by omega,by first|go_num|rfl,rfl,hd_ (by have h:=HF.out;rw [HF2.out] at h;simpa using h),HB1⟩
  done
 |
  case rel=>exact ⟨k+1,x+1,by omega,by omega,by first|go_num|rfl,by first|go_num|rfl,hd_ (by have h:=HF.out;rw [HF2.out] at h;simp at h;omega),HB1⟩):P:=h
theorem af4_ (p old:List (List Nd)) (n m:Nat) (hn:p.length=n) (hm:old.length=m) (A B:Option Addr) (c d:Nat) (w:World) (hp:Prg w w.heap.size A p) (ho:Prg w w.heap.size B old) (hT:∀ u ∈ p,aM_ u=0) (hO:∀ u ∈ old,aM_ u=0) :
  Calls Tryz.prog 13 #[.slice A n c,.slice B m d] w (Ret w (.int .i64 (f3_ old [] p:Nat))):=by
 have hnm:=hp.le;have hmm:=ho.le;rw [hn] at hnm;rw [hm] at hmm;unfold maxLen at hnm hmm;have HP:=hd_ hp;have HO:=hd_ ho;have HT:=hd_ hT;have HTO:=hd_ hO;have HN:=hd_ hn;have HM:=hd_ hm;have HALL:Hid (old.take m=old):=hd_ (by rw [← hm,List.take_length]);have HEND:Hid (f3_ old (p.take n) (p.drop n)=0):=hd_ (by rw [← hn,List.drop_length];rfl);obtain ⟨F,hF⟩:∃ F,f3_ old [] p=F:=⟨_,rfl⟩;rw [hF];have HST:Hid (f3_ old (p.take 0) (p.drop 0)=F):=hd_ hF;clear hp ho hT hO hn hm hF;go_enter Tryz.func13,Tryz.ntmps13;go_wp2;go_loopw [5,6] (fun v i wr=>∃ k x:Nat,k<=n/\x<=k/\i=.int .i64 (k:Nat)/\v=.int .i64 (x:Nat)/\Hid (x+f3_ old (p.take k) (p.drop k)=F)/\Hid (Below w.heap.size w wr)) (fun _ i _=>n-(intOf i).toNat)
 case atStart=>exact ⟨0,0,by omega,by omega,rfl,rfl,hd_ (by rw [Nat.zero_add];exact HST.out),hd_ (Below.refl _ _)⟩
 case round =>
  clear HST;obtain ⟨k,x,hk,hxk,rfl,rfl,HF,HB⟩:=hrel
  by_cases hlt:k<n
  ·have e1:decide ((k:Int)<(n:Int))=true:=decide_eq_true om_;obtain ⟨b,off,Ak,ck,u,rfl,hb,hu,hc,hN,hSh⟩:=HP.out.one HB.out (k:=k) (by rw [HN.out];exact hlt);have HT1:=hd_ (kU_ (HT.out u (List.mem_of_getElem? hu)) Ak ck wr hN);have HU:=hd_ hu;clear hu hN hSh;go_wp2_with (go_at_call 34;refine HT1.out.mono ?_;rintro e w1 ⟨rfl,hB1⟩;have HB1:=hd_ (HB.out.trans (hB1.mono HB.out.size));clear hB1);go_loopw [8,9] (fun kn j wr=>∃ (a:Nat) (q:Bool),a<=k/\j=.int .i64 (a:Nat)/\kn=.bool q/\Hid (q=true↔aB_ u ∈ (p.take a).map aB_)/\Hid (Below w.heap.size w wr)) (fun _ j _=>k-(intOf j).toNat)
   case atStart=>exact ⟨0,false,by omega,rfl,rfl,hd_ si_,HB1⟩
   case round =>
    clear HB1;obtain ⟨a,q,ha,rfl,rfl,HQ,HB1⟩:=hrel
    by_cases hak:a<k
    ·have e2:decide ((a:Int)<(k:Int))=true:=decide_eq_true om_;obtain ⟨b2,off2,Aa,ca,v,hbb,hb2,hv,hc2,hN2,-⟩:=HP.out.one HB1.out (k:=a) (by rw [HN.out];omega);obtain ⟨rfl,rfl⟩:b=b2/\off=off2:=by injection hbb with hbb;injection hbb with h1 h2;exact ⟨h1,h2⟩
     clear hbb;have HV:=hd_ (kU_ (HT.out v (List.mem_of_getElem? hv)) Aa ca _ hN2);have HST:=hd_ (nZ_ hv (aB_ u));obtain ⟨r,hr⟩:∃ r,((aB_ v).toList==(aB_ u).toList)=r:=⟨_,rfl⟩;have HR:Hid (r=true↔aB_ v=aB_ u):=hd_ (by rw [← hr,u3_];simp);clear hv hN2
     cases q with
     | true =>
      clear HV hr;exact w9_
     | false =>
      go_wp2_with (go_at_call 34;refine HV.out.mono ?_;rintro e w3 ⟨rfl,hB3⟩;have HB3:=hd_ (HB1.out.trans (hB3.mono HB1.out.size));clear hB3);go_roundw
      case measure=>exact iX_
      case rel=>exact ⟨a+1,r,by omega,by first|go_num|rfl,by first|rfl|rw [hr]|simp [hr],hd_ (by rw [HR.out,HST.out];exact ⟨.inr,fun h=>h.resolve_left (fun g=>by have:=HQ.out.2 g;cases this)⟩),HB3⟩
    ·obtain rfl:k=a:=by omega
     have e2:decide ((k:Int)<(k:Int))=false:=decide_eq_false om_;have HK:=HQ;clear HQ;go_wp2;go_loopw [8,10] (fun kn j wr=>∃ (a:Nat) (q:Bool),a<=m/\j=.int .i64 (a:Nat)/\kn=.bool q/\Hid (q=true↔aB_ u ∈ (p.take k).map aB_∨aB_ u ∈ (old.take a).map aB_)/\Hid (Below w.heap.size w wr)) (fun _ j _=>m-(intOf j).toNat)
     case atStart=>exact ⟨0,_,by omega,rfl,rfl,hd_ (by rw [HK.out];simp),HB1⟩
     case round =>
      clear HB1;obtain ⟨a,q,ha,rfl,rfl,HQ,HB1⟩:=hrel
      by_cases hak:a<m
      ·have e2:decide ((a:Int)<(m:Int))=true:=decide_eq_true om_;obtain ⟨b2,off2,Aa,ca,v,hbb,hb2,hv,hc2,hN2,-⟩:=HO.out.one HB1.out (k:=a) (by rw [HM.out];omega);subst hbb;have HV:=hd_ (kU_ (HTO.out v (List.mem_of_getElem? hv)) Aa ca _ hN2);have HST:=hd_ (nZ_ hv (aB_ u));obtain ⟨r,hr⟩:∃ r,((aB_ v).toList==(aB_ u).toList)=r:=⟨_,rfl⟩;have HR:Hid (r=true↔aB_ v=aB_ u):=hd_ (by rw [← hr,u3_];simp);clear hv hN2
       cases q with
       | true =>
        clear HV hr;exact w9_
       | false =>
        go_wp2_with (go_at_call 34;refine HV.out.mono ?_;rintro e w3 ⟨rfl,hB3⟩;have HB3:=hd_ (HB1.out.trans (hB3.mono HB1.out.size));clear hB3);go_roundw
        case measure=>exact iX_
        case rel=>exact ⟨a+1,r,by omega,by first|go_num|rfl,by first|rfl|rw [hr]|simp [hr],hd_ (by rw [HR.out,HST.out];exact ⟨fun h=>.inr (.inr h),fun h=>h.elim (fun g=>by have:=HQ.out.2 (.inl g);cases this) (fun g=>g.resolve_left (fun g=>by have:=HQ.out.2 (.inr g);cases this))⟩),HB3⟩
      ·obtain rfl:a=m:=by omega
       have e2:decide ((a:Int)<(a:Int))=false:=decide_eq_false om_;have HF2:=hd_ (zF_ HU.out (old:=old) (q:=q) (by rw [HQ.out,HALL.out]))
       cases q with
       | true =>
        exact w9_
       | false =>
        exact w9_
  ·obtain rfl:k=n:=by omega
   have e1:decide ((k:Int)<(k:Int))=false:=decide_eq_false om_;have HX:Hid (x=F):=hd_ (by have:=HF.out;rw [HEND.out] at this;omega);go_wp2;go_ret;have hx:=HX.out;subst hx;exact ⟨rfl,HB.out⟩
end
section
open Go.RowKit Go.Maps
structure DIS (w0:World) (d m:Nat) (W:Int) (p:List (List Nd)) (V:Int) (a:Value) (S:Option (Nat × Obj)) (w:World):Prop where
 dk:fT_ d (m+1) W p (eE_ [] p) w
 lt:d<m
 far:w0.heap.size<=d
 bel:Below w0.heap.size w0 w
 at_:w.heap[m]?=some (.cells #[.int .i64 V,a] 33 (0,0))
 sb:∀ k o,S=some (k,o)->m<k/\w.heap[k]?=some o
def DI (w0:World) (d m:Nat) (W:Int) (p:List (List Nd)) (P:Option Addr) (V:Int) (a:Value) (S:Option (Nat × Obj)) (w:World):Prop:=DIS w0 d m W p V a S w/\d1_ (m+1) w P p
def DJ (w0:World) (d m:Nat) (W:Int) (p:List (List Nd)) (P:Option Addr) (q:List (List Nd)) (Q:Option Addr) (V:Int) (a:Value) (S:Option (Nat × Obj)) (w:World):Prop:=DI w0 d m W p P V a S w/\d1_ (m+1) w Q q
def DN (w0:World) (d:Nat) (W:Int) (w:World):Prop:=(∀ lo,fT_ d lo W [] (eE_ [] []) w)/\w0.heap.size<=d/\Below w0.heap.size w0 w
theorem DN.past {w0 w w':World} {d:Nat} {W:Int} (h:DN w0 d W w) (hb:Below w.heap.size w w'):DN w0 d W w':=⟨fun lo=>(h.1 lo).past hb,h.2.1,h.2.2.trans (hb.mono h.2.2.size)⟩
theorem aq3_ {W:Int} (hW:bQ_ W=true) {w0 w:World} (hB:Below w0.heap.size w0 w):Calls Tryz.prog 8 #[.int .i64 W] w fun e w'=>∃ d,e=.returned (.tuple #[.pointer (some ⟨d,0,none⟩),.nilIface])/\DN w0 d W w' :=
 (anY_ hW w).mono fun e w' ⟨h1,h2⟩=>by
  subst h2;refine ⟨w.heap.size,h1,fun lo=>⟨none,0,.map none,aG_ rfl,d1_.nil_ _ _,.inl ⟨rfl,by rw [eE_]⟩,by simp,fun b h=>(by cases h),gX_.nil_ hW⟩,hB.size,hB.alloc hB.size _⟩
section
variable {w0 w w':World} {d m:Nat} {W V:Int} {p q:List (List Nd)} {P Q:Option Addr} {a:Value} {S:Option (Nat × Obj)}
theorem DN.on (h:DN w0 d W w):d<w.heap.size:=((h.1 (d+1)).deskK (Nat.lt_succ_self d)).onDesk.2.2
theorem DN.start (h:DN w0 d W w):DI w0 d w.heap.size W [] none W (.slice none 0 0) none (w.alloc (.cells #[.int .i64 W,.slice none 0 0] 33)) :=
 ⟨⟨(h.1 _).past (aE_),h.on,h.2.1,h.2.2.alloc h.2.2.size _,aG_ rfl,fun _ _ e=>by cases e⟩,d1_.nil_ _ _⟩
theorem aq5_ (h:DN w0 d W w) (hg:gT_ w0) (hgs:0+1<=w0.heap.size) :
  Calls Tryz.prog 9 #[.nilIface,.int .i64 0] w fun e w'=>e=.returned (.bool true)/\DN w0 d W w' :=
 (uD_ w (hg.past hgs h.2.2) (Nat.le_trans hgs h.2.2.size)).mono fun _ _ ⟨h1,h2⟩=>⟨h1,h.past h2⟩
theorem DIS.past (h:DIS w0 d m W p V a S w) (hb:Below w.heap.size w w'):DIS w0 d m W p V a S w':=⟨h.dk.past hb,h.lt,h.far,h.bel.trans (hb.mono h.bel.size),a6_ h.at_ hb,fun k o e=>⟨(h.sb k o e).1,a6_ (h.sb k o e).2 hb⟩⟩
theorem DI.past (h:DI w0 d m W p P V a S w) (hb:Below w.heap.size w w'):DI w0 d m W p P V a S w':=⟨h.1.past hb,h.2.past hb⟩
theorem DJ.past (h:DJ w0 d m W p P q Q V a S w) (hb:Below w.heap.size w w'):DJ w0 d m W p P q Q V a S w':=⟨h.1.past hb,h.2.past hb⟩
theorem DIS.dK (h:DIS w0 d m W p V a S w):hD_ d W p (eE_ [] p) w:=h.dk.deskK (by have:=h.lt;omega)
theorem DIS.on (h:DIS w0 d m W p V a S w):gX_ W p:=h.dK.onDesk.1
theorem DIS.ml (h:DIS w0 d m W p V a S w):m<w.heap.size:=a5_ h.at_
theorem DIS.dl (h:DIS w0 d m W p V a S w):d<m+1:=by have:=h.lt;omega
theorem DIS.c0 (h:DIS w0 d m W p V a S w):w.cell? ⟨m,0,none⟩=some (.int .i64 V):=by rw [a1_ (j:=0) h.at_];rfl
theorem DIS.c1 (h:DIS w0 d m W p V a S w):w.cell? ⟨m,1,none⟩=some a:=by rw [a1_ (j:=1) h.at_];rfl
theorem DIS.f0 (h:DIS w0 d m W p V a S w):w.frozen? ⟨m,0,none⟩=false:=aS_ (j:=0) h.at_
theorem DIS.f1 (h:DIS w0 d m W p V a S w):w.frozen? ⟨m,1,none⟩=false:=aS_ (j:=1) h.at_
theorem h9_ (w:World) (m j:Nat) (v:Value):w.grownBy (w.setCell ⟨m,j,none⟩ v) (some m) :=
 ⟨rfl,rfl,rfl,by simp [World.setCell],fun k _ hk=>Below.heap_setCell _ _ _ _ (fun e=>hk (by simp [e]))⟩
theorem DIS.sbs (h:DIS w0 d m W p V a S w) {r:Nat} (hg:w.grownBy w' (some r)) (hr:∀ k,m<k->k≠r):∀ k o,S=some (k,o)->m<k/\w'.heap[k]?=some o :=
 fun k o e=>⟨(h.sb k o e).1,(hg.block k (a5_ (h.sb k o e).2) (fun g=>hr k (h.sb k o e).1 (by injection g))).trans (h.sb k o e).2⟩
theorem DI.step (h:DI w0 d m W p P V a none w) (o:Obj):DI w0 d m W p P V a (some (w.heap.size,o)) (w.alloc o) :=
 have g:=h.past ((Below.refl _ _).alloc (Nat.le_refl _) o)
 ⟨⟨g.1.dk,g.1.lt,g.1.far,g.1.bel,g.1.at_,fun k o' e=>by cases e;exact ⟨h.1.ml,aG_ rfl⟩⟩,g.2⟩
theorem DI.drop (h:DI w0 d m W p P V a S w):DI w0 d m W p P V a none w:=⟨⟨h.1.dk,h.1.lt,h.1.far,h.1.bel,h.1.at_,fun _ _ e=>by cases e⟩,h.2⟩
theorem DIS.cs {k:Nat} {x y z:Value} {t:TypeId} (h:DIS w0 d m W p V a (some (k,.cells #[x,y,z] t (0,0))) w):w.cell? ⟨m,0,none⟩=some (.int .i64 V)/\w.cell? ⟨m,1,none⟩=some a/\w.frozen? ⟨m,0,none⟩=false/\w.frozen? ⟨m,1,none⟩=false/\w.cell? ⟨k,0,none⟩=some x/\w.cell? ⟨k,1,none⟩=some y/\w.cell? ⟨k,2,none⟩=some z:=by
 have g:=(h.sb _ _ rfl).2;exact ⟨h.c0,h.c1,h.f0,h.f1,by rw [a1_ (j:=0) g];rfl,by rw [a1_ (j:=1) g];rfl,by rw [a1_ (j:=2) g];rfl⟩
theorem DI.set0 (h:DI w0 d m W p P V a S w) (U:Int):DI w0 d m W p P U a S (w.setCell ⟨m,0,none⟩ (.int .i64 U)) :=
 ⟨⟨h.1.dk.beside (h9_ _ _ _ _) (by have:=h.1.lt;omega) (Nat.lt_succ_self m),h.1.lt,h.1.far,h.1.bel.setCell (p:=⟨m,0,none⟩) (Nat.le_trans h.1.far (Nat.le_of_lt h.1.lt)) _,by simp [World.setCell,Array.getElem?_modify,h.1.at_],h.1.sbs (h9_ _ _ _ _) (fun k e=>by omega)⟩,h.2.grow (h9_ _ _ _ _) (fun k e=>by cases e;omega)⟩
theorem DJ.set1 (h:DJ w0 d m W p P q Q V a S w) (b:Value):DJ w0 d m W p P q Q V b S (w.setCell ⟨m,1,none⟩ b) :=
 ⟨⟨⟨h.1.1.dk.beside (h9_ _ _ _ _) (by have:=h.1.1.lt;omega) (Nat.lt_succ_self m),h.1.1.lt,h.1.1.far,h.1.1.bel.setCell (p:=⟨m,1,none⟩) (Nat.le_trans h.1.1.far (Nat.le_of_lt h.1.1.lt)) _,by simp [World.setCell,Array.getElem?_modify,h.1.1.at_],h.1.1.sbs (h9_ _ _ _ _) (fun k e=>by omega)⟩,h.1.2.grow (h9_ _ _ _ _) (fun k e=>by cases e;omega)⟩,h.2.grow (h9_ _ _ _ _) (fun k e=>by cases e;omega)⟩
theorem DIS.desk (h:DIS w0 d m W p V a S w) {U:Int} (hk:fT_ d (m+1) U q (eE_ [] q) w') (hg:w.grownBy w' (some d)) (hb:Below d w w'):DIS w0 d m U q V a S w' :=
 ⟨hk,h.lt,h.far,h.bel.trans (hb.mono h.far),(hg.block m h.ml (fun e=>by have:=h.lt;injection e with e;omega)).trans h.at_,h.sbs hg (fun k e=>by have:=h.lt;omega)⟩
theorem t1_ (h:DI w0 d m W p P V a S w) (hpw:dM_ w0) :
  Calls Tryz.prog 15 #[.pointer (some ⟨d,0,none⟩)] w fun e w'=>e=.returned (.string (cK_ W p))/\DI w0 d m W p P V a S w' :=
 (aeX_ h.1.dK (hpw.past h.1.bel)).mono fun _ _ ⟨h1,h2⟩=>⟨h1,h.past h2⟩
theorem qO_ (h:DI w0 d m W p P V a S w) :
  Calls Tryz.prog 16 #[.pointer (some ⟨d,0,none⟩)] w fun e w'=>e=.returned (.int .i64 W)/\DI w0 d m W p P V a S w':=by
 obtain ⟨R,c,mv,h1,-⟩:=h.1.dk;exact (acM_ w h1).mono fun e w' ⟨h1,h2⟩=>⟨h1,by rw [h2];exact h⟩
theorem abG_ (h:DI w0 d m W p P V a S w) (hm:cQ_ w0) (hpw:dM_ w0) {U:Int} (hU:bQ_ U=true) (hq:bH_ U p=0) :
  Calls Tryz.prog 11 #[.pointer (some ⟨d,0,none⟩),.int .i64 U] w fun e w'=>e=.returned .nilIface/\DI w0 d m U p P V a S w' :=
 (aj1_ h.1.dk h.1.dl h.1.ml hU (hm.past h.1.bel) (hpw.past h.1.bel) hq).mono fun _ _ ⟨h1,h2,h3,h4⟩=>⟨h1,h.1.desk h2 h4 h3,h.2.grow h4 (fun k e=>by cases e;exact h.1.dl)⟩
theorem abF_ (h:DI w0 d m W p P V a S w) {U:Int} (hU:bQ_ U=false) :
  Calls Tryz.prog 11 #[.pointer (some ⟨d,0,none⟩),.int .i64 U] w fun e w'=>e=.returned (.iface 24 (.int .i64 1))/\DI w0 d m W p P V a S w' :=
 (aj0_ hU).mono fun _ _ ⟨h1,h2⟩=>⟨h1,h.past h2⟩
theorem wY_ (h:DI w0 d m W p P V a S w) (hm:cQ_ w0) (hpw:dM_ w0) {U:Int} (hU:bQ_ U=true) {f:Int} (hf:bH_ U p=f) (hq:f≠0) :
  Calls Tryz.prog 11 #[.pointer (some ⟨d,0,none⟩),.int .i64 U] w fun e w'=>e=.returned (.iface 24 (.int .i64 f))/\DI w0 d m W p P V a S w':=by
 subst hf;exact (acL_ h.1.dK hU (hm.past h.1.bel) (hpw.past h.1.bel) hq).mono fun _ _ ⟨h1,h2⟩=>⟨h1,h.past h2⟩
theorem aeU_ (h:DJ w0 d m W p P q Q V a S w) (hm:cQ_ w0) (hpw:dM_ w0) {s:ByteArray} (hs:s.size<=maxLen) (hp:bC_ s=(0,0,q)) (hq:bH_ W q=0) {x:Nat} (hx:f3_ p [] q=x) :
  Calls Tryz.prog 14 #[.pointer (some ⟨d,0,none⟩),.string s] w fun e w'=>e=.returned (.tuple #[.int .i64 (x:Nat),.int .i64 0,.nilIface])/\DI w0 d m W q Q V a S w':=by
 subst hx;rw [← ad0_];exact (ao2_ h.1.1.dk h.1.1.dl h.1.1.ml hp hs (hm.past h.1.1.bel) (hpw.past h.1.1.bel) hq).mono fun _ _ ⟨h1,h2,h3,h4⟩=>⟨h1,h.1.1.desk h2 h4 h3,h.2.grow h4 (fun k e=>by cases e;exact h.1.1.dl)⟩
theorem aeT_ (h:DJ w0 d m W p P q Q V a S w) (hm:cQ_ w0) {s:ByteArray} (hs:s.size<=maxLen) {f:Int} {k:Nat} {r:List (List Nd)} (hp:bC_ s=(f,k,r)) (hf:f≠0) :
  Calls Tryz.prog 14 #[.pointer (some ⟨d,0,none⟩),.string s] w fun e w'=>e=.returned (.tuple #[.int .i64 0,.int .i64 (k:Nat),.iface 24 (.int .i64 f)])/\DI w0 d m W p P V a S w' :=
 (ao1_ hp hf w hs (hm.past h.1.1.bel)).mono fun _ _ ⟨h1,h2⟩=>⟨h1,h.1.past h2⟩
theorem zA_ (h:DJ w0 d m W p P q Q V a S w) (hm:cQ_ w0) (hpw:dM_ w0) {s:ByteArray} (hs:s.size<=maxLen) (hp:bC_ s=(0,0,q)) {f:Int} (hf:bH_ W q=f) (hq:f≠0) :
  Calls Tryz.prog 14 #[.pointer (some ⟨d,0,none⟩),.string s] w fun e w'=>e=.returned (.tuple #[.int .i64 0,.int .i64 0,.iface 24 (.int .i64 f)])/\DI w0 d m W p P V a S w':=by
 subst hf;exact (aeW_ h.1.1.dK hp hs (hm.past h.1.1.bel) (hpw.past h.1.1.bel) hq).mono fun _ _ ⟨h1,h2⟩=>⟨h1,h.1.past h2⟩
theorem oY_ {r:List (List Nd)} {n c:Nat} (hn:r.length=n) {R:Option Addr} {w:World} (hp:Prg w w.heap.size R r) (hT:∀ u ∈ r,aM_ u=0) (h20:r.length<=20) {V:Int} (hV:bQ_ V=true) {b:Bool} (hb:g0_ V r=b) :
  Calls Tryz.prog 10 #[.slice R n c,.int .i64 V] w fun e w'=>(∃ x k,e=.returned (.tuple #[.string x,.int .i64 k,.bool b])/\(b=true->x=(if bH_ V r=0 then cK_ V r else .empty)/\k=bH_ V r))/\Below w.heap.size w w':=by
 subst hb;refine (xM_ r V n hn R c w hp hT om_ hV).mono ?_;rintro e w' ⟨h1,⟨h2,rfl⟩|⟨h2,k,rfl⟩⟩
 ·exact ⟨⟨_,_,by rw [h2],fun _=>⟨rfl,rfl⟩⟩,h1⟩
 ·exact ⟨⟨_,_,by rw [h2],fun h=>by rw [h2] at h;cases h⟩,h1⟩
theorem qN_ (h:DI w0 d m W p P V a S w) {n c:Nat} (hn:p.length=n) (hF:g0_ W p=true) :
  Calls Tryz.prog 10 #[.slice P n c,.int .i64 W] w fun e w'=>e=.returned (.tuple #[.string (cK_ W p),.int .i64 0,.bool true])/\DI w0 d m W p P V a S w' :=
 (oY_ hn h.2.prg (fun u hu=>(h.1.on.stm u hu).1) h.1.on.few h.1.on.wide hF).mono fun _ _ ⟨⟨x,k,h1,h2⟩,h3⟩=>by
  obtain ⟨rfl,rfl⟩:=h2 rfl;rw [if_pos h.1.on.fits,h.1.on.fits] at h1;exact ⟨h1,h.past h3⟩
theorem z9_ (h:DI w0 d m W p P V a S w) {n c:Nat} (hn:p.length=n) {U:Int} (hU:bQ_ U=true) {b:Bool} (hF:g0_ U p=b) :
  Calls Tryz.prog 10 #[.slice P n c,.int .i64 U] w fun e w'=>(∃ x k,e=.returned (.tuple #[.string x,.int .i64 k,.bool b])/\(b=true->k=bH_ U p))/\DI w0 d m W p P V a S w' :=
 (oY_ hn h.2.prg (fun u hu=>(h.1.on.stm u hu).1) h.1.on.few hU hF).mono fun _ _ ⟨⟨x,k,h1,h2⟩,h3⟩=>⟨⟨x,k,h1,fun hb=>(h2 hb).2⟩,h.past h3⟩
theorem ai4_ (h:DJ w0 d m W p P q Q V a S w) {n c:Nat} (hn:q.length=n) (hT:∀ u ∈ q,aM_ u=0) (h20:q.length<=20) {b:Bool} (hF:g0_ W q=b) :
  Calls Tryz.prog 10 #[.slice Q n c,.int .i64 W] w fun e w'=>(∃ x k,e=.returned (.tuple #[.string x,.int .i64 k,.bool b])/\(b=true->k=bH_ W q))/\DJ w0 d m W p P q Q V a S w' :=
 (oY_ hn h.2.prg hT h20 h.1.1.on.wide hF).mono fun _ _ ⟨⟨x,k,h1,h2⟩,h3⟩=>⟨⟨x,k,h1,fun hb=>(h2 hb).2⟩,h.past h3⟩
theorem ai3_ (h:DJ w0 d m W p P q Q V a S w) {n k c c':Nat} (hn:q.length=n) (hm:p.length=k) (hT:∀ u ∈ q,aM_ u=0) {x:Nat} (hx:f3_ p [] q=x) :
  Calls Tryz.prog 13 #[.slice Q n c,.slice P k c'] w fun e w'=>e=.returned (.int .i64 (x:Nat))/\DJ w0 d m W p P q Q V a S w':=by
 subst hx;exact (af4_ q p n k hn hm Q P c c' w h.2.prg h.1.2.prg hT (fun u hu=>(h.1.1.on.stm u hu).1)).mono fun _ _ ⟨h1,h2⟩=>⟨h1,h.past h2⟩
theorem ai1_ (h:DI w0 d m W p P V a S w) {s:ByteArray} (hs:s.size<=maxLen) {f:Int} {k n:Nat} (hp:bC_ s=(f,k,q)) (hn:q.length=n) :
  Calls Tryz.prog 12 #[.string s] w fun e w'=>∃ Q c,e=.returned (.tuple #[.slice Q n c,.int .i64 (k:Nat),.int .i64 f])/\DJ w0 d m W p P q Q V a S w' :=
 (ag8_ hp hn w hs).mono fun _ _ ⟨Q,c,h1,h2,h3⟩=>⟨Q,c,h1,h.past h3,h2.less h.1.ml⟩
theorem rN_ (h:DI w0 d m W p P V a S w) (hg:gT_ w0) (hgs:0+1<=w0.heap.size) {f:Int} (hf:f≠0) :
  Calls Tryz.prog 9 #[.iface 24 (.int .i64 f),.int .i64 f] w fun e w'=>e=.returned (.bool true)/\DI w0 d m W p P V a S w' :=
 (rV_ f hf w (hg.past hgs h.1.bel) (Nat.le_trans hgs h.1.bel.size)).mono fun _ _ ⟨h1,h2⟩=>⟨h1,h.past h2⟩
theorem aeS_ (h:DI w0 d m W p P V a S w) (hg:gT_ w0) (hgs:0+1<=w0.heap.size) :
  Calls Tryz.prog 9 #[.nilIface,.int .i64 0] w fun e w'=>e=.returned (.bool true)/\DI w0 d m W p P V a S w' :=
 (uD_ w (hg.past hgs h.1.bel) (Nat.le_trans hgs h.1.bel.size)).mono fun _ _ ⟨h1,h2⟩=>⟨h1,h.past h2⟩
end
end
end Go.Proofs.YtddfdmopaeghnadGreatDoor
