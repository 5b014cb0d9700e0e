/- Walks of kidText, TextOf. Conditions: as each theorem states them. -/
import Derived.Test.YtddfdmopaeghnadGreatDoorDqPg
set_option maxRecDepth 100000
set_option maxHeartbeats 16000000
namespace Go.Proofs.YtddfdmopaeghnadGreatDoor
variable {P Q:Prop}
open Go.RowKit
def hI_ (A:Option Addr) (c:Nat) (l:List Nd) (f:Nat):Prop :=
 ∀ (i:Nat) (v:Int) (w:World),v=i->Nds w w.heap.size A l->i<l.length->l.length<=i+f->a9_ l i≠9->Calls Tryz.prog 34 #[.slice A l.length c,.int .i64 v] w (Ret w (.string (aA_ l f i)))
theorem an6_ (h:P:=by
 clear hE hw g1 g3 p3 HK;generalize aA_ l f aa=X at *;generalize a0_ l aa=Q at *;go_wp2_with (first
  | (go_at_call 34;refine (HI.out _ (HN.out.past HW.out)).mono ?_;rintro e w2 ⟨rfl,hB2⟩;have HW:=hd_ (HW.out.trans (hB2.mono hwz));have HB:=hd_ (HB.out.trans (hB2.mono HB.out.size));clear hB2)
  | (go_at_call 59;refine (HE.out _ (HN.out.past HW.out)).mono ?_;rintro e w3 ⟨rfl,hB3⟩;have HB:=hd_ (HB.out.trans (hB3.mono HB.out.size));clear hB3))
 go_roundw
 first
 |
  case rel=>exact ⟨0+1,Q,acc++X,by omega,by go_num,rfl,hE2,by omega,rfl,HK2,HB⟩
  case measure=>exact me_
  done
 |
  case rel=>exact ⟨kk+1,Q,acc++⟨#[44,32]⟩++X,by omega,by go_num,rfl,hE2,by omega,rfl,HK2,HB⟩
  case measure=>exact me_):P:=h
theorem ac4_ (h:P:=by
 have e1:=HC.out _ HB.out
 first
 |
  have hB:=HB.out;go_region_held3 (fun w'=>w'.cell? ⟨b,off+p*3,none⟩=some (.int .i64 po)/\w'.cell? ⟨b,off+p*3+1,none⟩=some (.string pt)/\w'.cell? ⟨b,off+p*3+2,none⟩=some (.int .i64 pn)/\w'.cell? ⟨b,off+k*3,none⟩=some (.int .i64 ko)/\w'.cell? ⟨b,off+k*3+1,none⟩=some (.string kt)/\w'.cell? ⟨b,off+k*3+2,none⟩=some (.int .i64 kn))
   (first|exact e1|exact e2)
   (first|(go_at_call 109;refine (HBD.out _).mono ?_;rintro e w2 ⟨rfl,hB2⟩;have hB3:Below w.heap.size w w2:=Below.trans aF_ (hB2.mono (Below.size aF_));have e2:=HC.out _ hB3))
  go_wp2;go_ret;exact ⟨rfl,hB3⟩
  done
 |
  have hacc:acc.size<=1000:=by
   have:=congrArg ByteArray.size HK.out.2;rw [ByteArray.size_append] at this;omega
  by_cases hlt:kk<m
  ·obtain ⟨q,hq⟩:∃ q,m-kk=q+1:=⟨m-kk-1,by omega⟩;have hP:=HK.out.1;have hE:=HK.out.2;rw [hq] at hP hE;obtain ⟨p1,p2,p3⟩:=hP;have g1:=(dV_ HTr.out (f:=f) om_ p1 (eA_ HTr.out p1 om_)).2;have g3:=(dI_ p1).2;have hw:Below w.heap.size w wr:=HA.out.trans (HB.out.mono HA.out.size);have hwz:=hw.size;have HI:=hd_ (fun (w':World) (hN':Nds w' w'.heap.size (some ⟨b,off,none⟩) l)=>HIH.out aa (aa:Nat) w' rfl hN' p1 om_ (eA_ HTr.out p1 om_));have HE:=hd_ (fun (w':World) (hN':Nds w' w'.heap.size (some ⟨b,off,none⟩) l)=>kS_ HTr.out (some ⟨b,off,none⟩) c p1 (v:=(aa:Nat)) rfl w' hN');have HW:=hd_ hw;have s1:(aA_ l f aa).size<=1000:=by omega
   have hq2:m-(kk+1)=q:=by omega
   by_cases h0:kk=0
   ·subst h0;rw [ah5_,← ByteArray.append_assoc] at hE;have HK2:Hid (bN_ l (a0_ l aa) (m-(0+1)) (a0_ l i)/\(acc++aA_ l f aa)++eF_ (aA_ l f) (a0_ l) (0+1) (a0_ l aa) (m-(0+1))=Z):=hd_ (by rw [hq2];exact ⟨p3,hE⟩);have hE2:a0_ l aa<=41:=by omega
    exact an6_
   ·rw [adK_ _ _ om_,← ByteArray.append_assoc,← ByteArray.append_assoc] at hE;have HK2:Hid (bN_ l (a0_ l aa) (m-(kk+1)) (a0_ l i)/\(acc++⟨#[44,32]⟩++aA_ l f aa)++eF_ (aA_ l f) (a0_ l) (kk+1) (a0_ l aa) (m-(kk+1))=Z):=hd_ (by rw [hq2];exact ⟨p3,hE⟩);have hE2:a0_ l aa<=41:=by omega
    have z1:decide (0<(kk:Int))=true:=by simp;omega
    have z2:(acc++(⟨#[44,32]⟩:ByteArray)).size<=1002:=by rw [ByteArray.size_append];show acc.size+2<=_;omega
    exact an6_
  ·have hE:=HK.out.2;rw [show m-kk=0 by omega,ah4_,ByteArray.append_empty] at hE;subst hE;have HW:=hd_ (HA.out.trans (HB.out.mono HA.out.size));clear HK;go_wp2;go_ret;exact ⟨rfl,HW.out⟩):P:=h
theorem an9_ (h:P:=by
 clear hbd;go_enter Tryz.func58,Tryz.ntmps58;go_upto_region 2 with (go_at_call 34;refine (HI.out _ HN.out).mono ?_;rintro e w1 ⟨rfl,hB⟩;have HB:=hd_ hB;clear hB);exact ac4_):P:=h
theorem vA_ {A:Option Addr} {c f:Nat} {l:List Nd} (hT:Tr l) (ih:hI_ A c l f) (p k:Nat) (vp vk:Int) (sec:Bool) (w:World) (hvp:vp=p) (hvk:vk=k) (hN:Nds w w.heap.size A l) (hp:p<l.length) (hk:k<l.length) (h0:0<k) (hf:l.length<=k+f) :
  Calls Tryz.prog 58 #[.slice A l.length c,.int .i64 vp,.int .i64 vk,.bool sec] w (Ret w (.string (cG_ (a9_ l p) (a9_ l k) sec (aA_ l f k)))):=by
 subst hvp hvk;have h9:=eA_ hT hk h0;have hdl:=(dV_ hT hf hk h9).2;have htl:=(dI_ hk).2;have HI:=hd_ (fun w' hw'=>ih k k w' rfl hw' hk hf h9);obtain ⟨b,off,po,pt,pn,rfl,hb,hnd,hts,d1,d2,d3⟩:=hN.node (Below.refl _ _) hp;obtain ⟨b',off',ko,kt,kn,hq,hb',hnk,hts',g1,g2,g3⟩:=hN.node (Below.refl _ _) hk
 cases hq
 have hpe:a9_ l p=po:=by rw [a9_,aD_ hp,hnd]
 have hke:a9_ l k=ko:=by rw [a9_,aD_ hk,hnk]
 rw [hpe,hke];have hm:=hT.len;generalize aA_ l f k=d at *;have hds:d.size<=1000:=by omega
 have HN:=hd_ hN;have HBD:=hd_ (fun w'=>sF_ po pn ko kn pt kt sec w');have HC:Hid (∀ w',Below w.heap.size w w'->w'.cell? ⟨b,off+p*3,none⟩=some (.int .i64 po)/\w'.cell? ⟨b,off+p*3+1,none⟩=some (.string pt)/\w'.cell? ⟨b,off+p*3+2,none⟩=some (.int .i64 pn)/\w'.cell? ⟨b,off+k*3,none⟩=some (.int .i64 ko)/\w'.cell? ⟨b,off+k*3+1,none⟩=some (.string kt)/\w'.cell? ⟨b,off+k*3+2,none⟩=some (.int .i64 kn)):=hd_ (fun w' hB=>⟨(hB.cell (p:=⟨b,off+p*3,none⟩) hb).trans d1,(hB.cell (p:=⟨b,off+p*3+1,none⟩) hb).trans d2,(hB.cell (p:=⟨b,off+p*3+2,none⟩) hb).trans d3,(hB.cell (p:=⟨b,off+k*3,none⟩) hb).trans g1,(hB.cell (p:=⟨b,off+k*3+1,none⟩) hb).trans g2,(hB.cell (p:=⟨b,off+k*3+2,none⟩) hb).trans g3⟩);clear hN hnd hnk hpe hke ih hT h9 hf hb' d1 d2 d3 g1 g2 g3 hdl htl
 cases hbd:bV_ po ko sec with
 | true =>
  rw [hbd] at HBD;rw [show cG_ po ko sec d=⟨#[40]⟩++d++⟨#[41]⟩ by simp [cG_,hbd]];exact an9_
 | false =>
  rw [hbd] at HBD;rw [show cG_ po ko sec d=d by simp [cG_,hbd]];exact an9_
theorem o8_ {w:World} {g j:Nat} {cs:Array Value} {T:TypeId} {fr:Nat × Nat} (h:w.heap[g]?=some (.cells cs T fr)):w.cell? ⟨g,j,none⟩=cs[j]?:=cell_of_row w g j cs T fr h
theorem mQ_ {w w':World} {g:Nat} {o:Obj} (h:w.heap[g]?=some o) (hb:Below w.heap.size w w'):w'.heap[g]?=some o:=(hb.block g (Array.getElem?_eq_some_iff.1 h).1).trans h
def eF_ (g:Nat->ByteArray) (e:Nat->Nat) (k a m:Nat):ByteArray:=if m=0 then .empty else if k=0 then dG_ g e a m else ⟨#[44,32]⟩++dG_ g e a m
theorem ah4_ (g:Nat->ByteArray) (e:Nat->Nat) (k a:Nat):eF_ g e k a 0=.empty:=by rw [eF_,if_pos rfl]
theorem ah5_ (g:Nat->ByteArray) (e:Nat->Nat) (a m:Nat):eF_ g e 0 a (m+1)=g a++eF_ g e 1 (e a) m:=by
 rw [eF_,if_neg om_,if_pos rfl,dG_,eF_]
 split
 ·simp
 ·rw [if_neg om_,ByteArray.append_assoc]
theorem adK_ (g:Nat->ByteArray) (e:Nat->Nat) {k a m:Nat} (hk:0<k):eF_ g e k a (m+1)=⟨#[44,32]⟩++g a++eF_ g e (k+1) (e a) m:=by
 rw [eF_,if_neg om_,if_neg om_,dG_,eF_]
 split
 ·simp
 ·rw [if_neg om_,ByteArray.append_assoc,ByteArray.append_assoc]
theorem l8_ (po ko:Int) (s:Bool) (x:ByteArray):(cG_ po ko s x).size<=x.size+2:=by
 unfold cG_
 split
 ·rw [ByteArray.size_append,ByteArray.size_append]
  show 1+x.size+1<=_
  omega
 ·omega
theorem qB_ {l:List Nd}:∀ {m a z:Nat},bN_ l a m z->m<=l.length:=by
 intro m
 induction m with
 | zero=>intro a z _;omega
 | succ m ih =>
  intro a z h;have key:∀ {m a z:Nat},bN_ l a m z->0<m->m+a<=l.length:=by
   intro m
   induction m with
   | zero=>intro a z _ h;omega
   | succ m im =>
    intro a z h _;obtain ⟨h1,h2,h3⟩:=h
    rcases Nat.eq_zero_or_pos m with h4|h4
    ·omega
    ·have:=im h3 h4;omega
  have:=key h om_;omega
theorem mX_ (h:P:=by
 go_enter Tryz.func34,Tryz.ntmps34
 first
 |
  go_wp2_with (go_at_call 57;refine (HD.out _).mono ?_;rintro e w1 ⟨rfl,rfl⟩);go_ret;exact ⟨rfl,HA.out⟩
  done
 |
  go_wp2;go_ret;exact ⟨rfl,HA.out⟩
  done
 |
  go_wp2_with (first
    | (go_at_call 58;(fail_if_success have z:=T0);refine (HK1.out _ (HN.out.past HA.out)).mono ?_;rintro e t0 ⟨rfl,hB⟩;have HB:=hd_ (HA.out.trans (hB.mono HA.out.size));clear hB;have T0:=hd_ True.intro)
    | (go_at_call 59;(have z:=T0;clear z);(fail_if_success have z:=T1);refine (HE.out _ (HN.out.past HB.out)).mono ?_;rintro e t1 ⟨rfl,hB⟩;have HB:=hd_ (HB.out.trans (hB.mono HB.out.size));clear hB;have T1:=hd_ True.intro)
    | (go_at_call 58;(have z:=T1;clear z);(fail_if_success have z:=T2);refine (HK2.out _ (HN.out.past HB.out)).mono ?_;rintro e t2 ⟨rfl,hB⟩;have HB:=hd_ (HB.out.trans (hB.mono HB.out.size));clear hB;have T2:=hd_ True.intro))
  go_ret;exact ⟨rfl,HB.out⟩
  done
 |
  go_wp2_with (first
    | (go_at_call 34;(fail_if_success have z:=T0);refine (HI.out _ (HN.out.past HA.out)).mono ?_;rintro e t0 ⟨rfl,hB⟩;have HB:=hd_ (HA.out.trans (hB.mono HA.out.size));clear hB;have T0:=hd_ True.intro))
  go_ret;exact ⟨rfl,HB.out⟩
  done
 |
  go_upto_region 12 with fail;have s3:(⟨#[108,101,116,32]⟩++t:ByteArray).size<=12:=by rw [ByteArray.size_append];show 4+t.size<=_;omega
  have s4:(⟨#[108,101,116,32]⟩++t++⟨#[32,61,32]⟩:ByteArray).size<=15:=by rw [ByteArray.size_append];show _+3<=_;omega
  have s5:(⟨#[108,101,116,32]⟩++t++⟨#[32,61,32]⟩++X:ByteArray).size<=1015:=by rw [ByteArray.size_append];omega
  have r1:∀ w':World,(Op.stringOp .add ⟨#[108,101,116,32]⟩ t).run Tryz.prog w'=.ok (.string (⟨#[108,101,116,32]⟩++t)) w':=fun w'=>run_string_add_sum w' _ _ (by show 4+t.size<=_;omega)
  have r2:∀ w':World,(Op.stringOp .add (⟨#[108,101,116,32]⟩++t) ⟨#[32,61,32]⟩).run Tryz.prog w'=.ok (.string (⟨#[108,101,116,32]⟩++t++⟨#[32,61,32]⟩)) w':=fun w'=>run_string_add_sum w' _ _ (by show _+3<=_;omega)
  have r3:∀ w':World,(Op.stringOp .add (⟨#[108,101,116,32]⟩++t++⟨#[32,61,32]⟩) X).run Tryz.prog w'=.ok (.string (⟨#[108,101,116,32]⟩++t++⟨#[32,61,32]⟩++X)) w':=fun w'=>run_string_add_sum w' _ _ om_
  have r4:∀ w':World,(Op.stringOp .add (⟨#[108,101,116,32]⟩++t++⟨#[32,61,32]⟩++X) ⟨#[59]⟩).run Tryz.prog w'=.ok (.string (⟨#[108,101,116,32]⟩++t++⟨#[32,61,32]⟩++X++⟨#[59]⟩)) w':=fun w'=>run_string_add_sum w' _ _ (by show _+1<=_;omega)
  have k1:IntKind.i64.wrap ((i:Int)+1)=(i:Int)+1:=IntWalk.i64_in _ om_;refine f0_ (fun wx=>Below w.heap.size w wx/\w.heap.size<wx.heap.size/\wx.cell? ⟨w.heap.size,1,none⟩=some (.string t)) ⟨HA.out,by simp,HC.out _ (Below.refl _ _)⟩ ?_;rintro wx ⟨hA,hxl,e1⟩;go_region_held3 (fun w'=>w'.cell? ⟨w.heap.size,1,none⟩=some (.string t)) (first|exact e1|exact e2)
   (first|(go_at_call 34;have hN2:=HN.out.past (Below.drew hA);refine (HI.out _ hN2).mono ?_;rintro e w2 ⟨rfl,hB2⟩;have hB4:Below wx.heap.size wx w2:=(by first|exact hB2|exact bR_ hB2|exact eM_ hB2);have hB3:Below w.heap.size w w2:=hA.trans (hB4.mono hA.size);have e2:=(hB4.cell (p:=⟨w.heap.size,1,none⟩) hxl).trans e1))
  go_wp2;go_ret;exact ⟨rfl,hB3⟩):P:=h
theorem pM_ (h:P:=by
 obtain ⟨b,off,op',t',n',rfl,hb,hnd',hts,d1,d2,d3⟩:=hN.node (Below.refl _ _) hi;rw [hnd] at hnd'
 cases hnd'
 rw [hX]
 first
 |
  clear hk hmk hone h1 hX hnd ih hT hN;exact mX_
  done
 |
  generalize cG_ 5 (a9_ l (i+1)) false (aA_ l f (i+1))=X at *;generalize cG_ 5 (a9_ l (a0_ l (i+1))) true (aA_ l f (a0_ l (i+1)))=Y at *;generalize a0_ l (i+1)=q at *;clear hk hmk hone h1 hX hnd ih hT hN g1 g2 g3 k1 k2 a2 b2 b3;exact mX_
  done
  done
 |
  generalize aA_ l f (i+1)=X at *;unfold iU_;have HC:Hid (∀ w',Below (w.alloc (.cells #[.int .i64 7,.string t,.int .i64 n] 61)).heap.size (w.alloc (.cells #[.int .i64 7,.string t,.int .i64 n] 61)) w'->w'.cell? ⟨w.heap.size,1,none⟩=some (.string t)):=hd_ (fun w' hB=>by rw [o8_ (j:=1) (mQ_ (aG_ rfl) hB)];rfl);clear hk hmk hone h1 hX hnd ih hT hN g1 g3;exact mX_
  done
 |
  generalize aA_ l f (i+1)=X at *;clear hk hmk hone h1 hX hnd ih hT hN g1 g3;exact mX_
  done
 |
  have HC:Hid (∀ w',Below (w.alloc (.cells #[.int .i64 3,.string t,.int .i64 (m:Nat)] 61)).heap.size (w.alloc (.cells #[.int .i64 3,.string t,.int .i64 (m:Nat)] 61)) w'->w'.cell? ⟨w.heap.size,2,none⟩=some (.int .i64 (m:Nat))):=hd_ (fun w' hB=>by rw [o8_ (j:=2) (mQ_ (aG_ rfl) hB)];rfl);have HA2:Hid (Below (w.alloc (.cells #[.int .i64 3,.string t,.int .i64 (m:Nat)] 61)).heap.size (w.alloc (.cells #[.int .i64 3,.string t,.int .i64 (m:Nat)] 61)) (w.alloc (.cells #[.int .i64 3,.string t,.int .i64 (m:Nat)] 61))):=hd_ (Below.refl _ _);have hTL:t++⟨#[40]⟩++dG_ (aA_ l f) (a0_ l) (i+1) m=t++⟨#[40]⟩++eF_ (aA_ l f) (a0_ l) 0 (i+1) m:=by
   rw [eF_]
   split
   ·rename_i e;subst e;rfl
   ·rfl
  rw [hTL] at htot ⊢;obtain ⟨Z,hZ⟩:∃ Z,t++⟨#[40]⟩++eF_ (aA_ l f) (a0_ l) 0 (i+1) m=Z:=⟨_,rfl⟩;rw [hZ] at htot ⊢;have hz:Z.size<=1000:=by
   rw [ByteArray.size_append] at htot;omega
  have HK:Hid (bN_ l (i+1) m (a0_ l i)/\t++⟨#[40]⟩++eF_ (aA_ l f) (a0_ l) 0 (i+1) m=Z):=hd_ ⟨hk,hZ⟩;have hm6:m<=40:=by
   have hr:=qB_ hk;omega
  clear hk hmk hone h1 hX hnd ih hT hN hTL hZ htot;go_enter Tryz.func34,Tryz.ntmps34;go_wp2;go_loopw [6,8,9] (fun s a k wr=>∃ (kk aa:Nat) (acc:ByteArray),kk<=m/\k=.int .i64 kk/\a=.int .i64 aa/\aa<=41/\i<aa/\s=.string acc/\Hid (bN_ l aa (m-kk) (a0_ l i)/\acc++eF_ (aA_ l f) (a0_ l) kk aa (m-kk)=Z)/\Hid (Below (w.alloc (.cells #[.int .i64 3,.string t,.int .i64 (m:Nat)] 61)).heap.size (w.alloc (.cells #[.int .i64 3,.string t,.int .i64 (m:Nat)] 61)) wr)) (fun _ _ k _=>m-(intOf k).toNat)
  case atStart=>exact ⟨0,i+1,t++⟨#[40]⟩,by omega,rfl,by go_num,by omega,by omega,rfl,by rw [Nat.sub_zero];exact HK,HA2⟩
  case round =>
   clear HK HA2;obtain ⟨kk,aa,acc,hkm,rfl,rfl,ha41,hia,rfl,HK,HB⟩:=hrel;exact ac4_):P:=h
theorem akX_ {A:Option Addr} {c f:Nat} {l:List Nd} (hT:Tr l) (ih:hI_ A c l f) (i:Nat) (w:World) (hN:Nds w w.heap.size A l) (hi:i<l.length) (hf:l.length<=i+(f+1)) {t:ByteArray} {n:Int} (hnd:l[i]=⟨1,t,n⟩) :
  Calls Tryz.prog 34 #[.slice A l.length c,.int .i64 (i:Nat)] w (Ret w (.string (aA_ l (f+1) i))):=by
 have h1:a9_ l i=1:=by rw [a9_,aD_ hi,hnd]
 have hm:=hT.len;have HA:Hid (Below w.heap.size w (w.alloc (.cells #[.int .i64 1,.string t,.int .i64 n] 61))):=hd_ (aE_);have hone:=hT.one _ (List.getElem_mem hi);rw [hnd] at hone;simp only at hone;have _:=hf;have hk:=hT.kidsP hi;have hmk:(b3_ l).getD i 0=(aL_ l[i].op l[i].n).toNat:=cT_ hi rfl;rw [hmk,hnd] at hk;simp only at hk;have hX:aA_ l (f+1) i=⟨(Lib.itoa n).toArray⟩:=by
  rw [aA_,aD_ hi,hnd];simp only [if_true]
 obtain ⟨n0,n1⟩:=fH_ hone;obtain ⟨u,rfl⟩:∃ u:Nat,n=u:=⟨n.toNat,by omega⟩;have HD:=hd_ (fun w'=>y5_ u om_ w');exact pM_
theorem akY_ {A:Option Addr} {c f:Nat} {l:List Nd} (hT:Tr l) (ih:hI_ A c l f) (i:Nat) (w:World) (hN:Nds w w.heap.size A l) (hi:i<l.length) (hf:l.length<=i+(f+1)) {t:ByteArray} {n:Int} (hnd:l[i]=⟨2,t,n⟩) :
  Calls Tryz.prog 34 #[.slice A l.length c,.int .i64 (i:Nat)] w (Ret w (.string (aA_ l (f+1) i))):=by
 have h1:a9_ l i=2:=by rw [a9_,aD_ hi,hnd]
 have hm:=hT.len;have HA:Hid (Below w.heap.size w (w.alloc (.cells #[.int .i64 2,.string t,.int .i64 n] 61))):=hd_ (aE_);have hone:=hT.one _ (List.getElem_mem hi);rw [hnd] at hone;simp only at hone;have _:=hf;have hk:=hT.kidsP hi;have hmk:(b3_ l).getD i 0=(aL_ l[i].op l[i].n).toNat:=cT_ hi rfl;rw [hmk,hnd] at hk;simp only at hk;have hX:aA_ l (f+1) i=t:=by
  rw [aA_,aD_ hi,hnd];simp only [show ¬ (2:Int)=1 by decide,if_false,if_true]
 exact pM_
theorem an5_ (h:P:=by
 obtain ⟨a1,a2,b1,b2,b3⟩:i+1<l.length/\i+1<a0_ l (i+1)/\a0_ l (i+1)<l.length/\a0_ l (i+1)<a0_ l (a0_ l (i+1))/\a0_ l (a0_ l (i+1))=a0_ l i:=⟨hk.1,hk.2.1,hk.2.2.1,hk.2.2.2.1,hk.2.2.2.2⟩;have g1:=(dV_ hT (f:=f) om_ a1 (eA_ hT a1 om_)).2;have g2:=(dV_ hT (f:=f) om_ b1 (eA_ hT b1 om_)).2;have g3:=(dI_ b1).2;have HK1:=hd_ (fun (w':World) (hN':Nds w' w'.heap.size A l)=>vA_ hT ih i (i+1) (i:Nat) ((i:Int)+1) false w' rfl (by push_cast;rfl) hN' hi a1 om_ om_ (c:=c));have HE:=hd_ (fun (w':World) (hN':Nds w' w'.heap.size A l)=>kS_ hT A c a1 (v:=(i:Int)+1) (by push_cast;rfl) w' hN');have HK2:=hd_ (fun (w':World) (hN':Nds w' w'.heap.size A l)=>vA_ hT ih i (a0_ l (i+1)) (i:Nat) (a0_ l (i+1):Nat) true w' rfl rfl hN' hi b1 om_ om_ (c:=c));rw [h1] at HK1 HK2
 first
 |
  have k1:=l8_ 5 (a9_ l (i+1)) false (aA_ l f (i+1));have k2:=l8_ 5 (a9_ l (a0_ l (i+1))) true (aA_ l f (a0_ l (i+1)));have HN:=hd_ hN;have hlen:l.length<=40:=hm;have s1:(cG_ 5 (a9_ l (i+1)) false (aA_ l f (i+1))).size<=1000:=by omega
  have s2:(cG_ 5 (a9_ l (a0_ l (i+1))) true (aA_ l f (a0_ l (i+1)))).size<=1000:=by omega
  have hil:i<=40:=by omega
  exact pM_
 |
  have k1:=l8_ 6 (a9_ l (i+1)) false (aA_ l f (i+1));have k2:=l8_ 6 (a9_ l (a0_ l (i+1))) true (aA_ l f (a0_ l (i+1)));have HN:=hd_ hN;have hlen:l.length<=40:=hm;have s1:(cG_ 6 (a9_ l (i+1)) false (aA_ l f (i+1))).size<=1000:=by omega
  have s2:(cG_ 6 (a9_ l (a0_ l (i+1))) true (aA_ l f (a0_ l (i+1)))).size<=1000:=by omega
  have hil:i<=40:=by omega
  obtain ⟨b,off,op',t',n',rfl,hb,hnd',hts,d1,d2,d3⟩:=hN.node (Below.refl _ _) hi;rw [hnd] at hnd'
  cases hnd'
  rw [hX];generalize cG_ 6 (a9_ l (i+1)) false (aA_ l f (i+1))=X at *;generalize cG_ 6 (a9_ l (a0_ l (i+1))) true (aA_ l f (a0_ l (i+1)))=Y at *;generalize a0_ l (i+1)=q at *;clear hk hmk hone h1 hX hnd ih hT hN g1 g2 g3 k1 k2 a2 b2 b3;exact mX_):P:=h
theorem al1_ {A:Option Addr} {c f:Nat} {l:List Nd} (hT:Tr l) (ih:hI_ A c l f) (i:Nat) (w:World) (hN:Nds w w.heap.size A l) (hi:i<l.length) (hf:l.length<=i+(f+1)) {t:ByteArray} {n:Int} (hnd:l[i]=⟨5,t,n⟩) :
  Calls Tryz.prog 34 #[.slice A l.length c,.int .i64 (i:Nat)] w (Ret w (.string (aA_ l (f+1) i))):=by
 have h1:a9_ l i=5:=by rw [a9_,aD_ hi,hnd]
 have hm:=hT.len;have HA:Hid (Below w.heap.size w (w.alloc (.cells #[.int .i64 5,.string t,.int .i64 n] 61))):=hd_ (aE_);have hone:=hT.one _ (List.getElem_mem hi);rw [hnd] at hone;simp only at hone;have _:=hf;have hk:=hT.kidsP hi;have hmk:(b3_ l).getD i 0=(aL_ l[i].op l[i].n).toNat:=cT_ hi rfl;rw [hmk,hnd] at hk;simp only at hk;have hX:aA_ l (f+1) i=cG_ 5 (a9_ l (i+1)) false (aA_ l f (i+1))++⟨#[32,43,32]⟩++cG_ 5 (a9_ l (a0_ l (i+1))) true (aA_ l f (a0_ l (i+1))):=by
  rw [aA_,aD_ hi,hnd];simp only [show ¬ (5:Int)=1 by decide,show ¬ (5:Int)=2 by decide,show ¬ (5:Int)=3 by decide,show ¬ (5:Int)=4 by decide,if_false,if_true]
 rw [show (aL_ 5 n).toNat=2 from rfl] at hk;exact an5_
theorem al2_ {A:Option Addr} {c f:Nat} {l:List Nd} (hT:Tr l) (ih:hI_ A c l f) (i:Nat) (w:World) (hN:Nds w w.heap.size A l) (hi:i<l.length) (hf:l.length<=i+(f+1)) {t:ByteArray} {n:Int} (hnd:l[i]=⟨6,t,n⟩) :
  Calls Tryz.prog 34 #[.slice A l.length c,.int .i64 (i:Nat)] w (Ret w (.string (aA_ l (f+1) i))):=by
 have h1:a9_ l i=6:=by rw [a9_,aD_ hi,hnd]
 have hm:=hT.len;have HA:Hid (Below w.heap.size w (w.alloc (.cells #[.int .i64 6,.string t,.int .i64 n] 61))):=hd_ (aE_);have hone:=hT.one _ (List.getElem_mem hi);rw [hnd] at hone;simp only at hone;have _:=hf;have hk:=hT.kidsP hi;have hmk:(b3_ l).getD i 0=(aL_ l[i].op l[i].n).toNat:=cT_ hi rfl;rw [hmk,hnd] at hk;simp only at hk;have hX:aA_ l (f+1) i=cG_ 6 (a9_ l (i+1)) false (aA_ l f (i+1))++⟨#[32,42,32]⟩++cG_ 6 (a9_ l (a0_ l (i+1))) true (aA_ l f (a0_ l (i+1))):=by
  rw [aA_,aD_ hi,hnd];simp only [show ¬ (6:Int)=1 by decide,show ¬ (6:Int)=2 by decide,show ¬ (6:Int)=3 by decide,show ¬ (6:Int)=4 by decide,show ¬ (6:Int)=5 by decide,if_false,if_true]
 rw [show (aL_ 6 n).toNat=2 from rfl] at hk;exact an5_
theorem an7_ (h:P:=by
 have a1:i+1<l.length:=hk.1;have g1:=(dV_ hT (f:=f) om_ a1 (eA_ hT a1 om_)).2;have g3:=(dI_ a1).2;have HI:=hd_ (fun (w':World) (hN':Nds w' w'.heap.size A l)=>ih (i+1) ((i:Int)+1) w' (by push_cast;rfl) hN' a1 om_ (eA_ hT a1 om_));have HN:=hd_ hN;have hlen:l.length<=40:=hm;have s1:(aA_ l f (i+1)).size<=1000:=by omega
 have hil:i<=40:=by omega
 first
 |
  have ht8:t.size<=8:=(cY_ (c4_ hone rfl de_)).2.1;exact pM_
  done
 |
  exact pM_):P:=h
theorem al3_ {A:Option Addr} {c f:Nat} {l:List Nd} (hT:Tr l) (ih:hI_ A c l f) (i:Nat) (w:World) (hN:Nds w w.heap.size A l) (hi:i<l.length) (hf:l.length<=i+(f+1)) {t:ByteArray} {n:Int} (hnd:l[i]=⟨7,t,n⟩) :
  Calls Tryz.prog 34 #[.slice A l.length c,.int .i64 (i:Nat)] w (Ret w (.string (aA_ l (f+1) i))):=by
 have h1:a9_ l i=7:=by rw [a9_,aD_ hi,hnd]
 have hm:=hT.len;have HA:Hid (Below w.heap.size w (w.alloc (.cells #[.int .i64 7,.string t,.int .i64 n] 61))):=hd_ (aE_);have hone:=hT.one _ (List.getElem_mem hi);rw [hnd] at hone;simp only at hone;have _:=hf;have hk:=hT.kidsP hi;have hmk:(b3_ l).getD i 0=(aL_ l[i].op l[i].n).toNat:=cT_ hi rfl;rw [hmk,hnd] at hk;simp only at hk;have hX:aA_ l (f+1) i=iU_++t++⟨#[32,61,32]⟩++aA_ l f (i+1)++⟨#[59]⟩:=by
  rw [aA_,aD_ hi,hnd];simp only [show ¬ (7:Int)=1 by decide,show ¬ (7:Int)=2 by decide,show ¬ (7:Int)=3 by decide,show ¬ (7:Int)=4 by decide,show ¬ (7:Int)=5 by decide,show ¬ (7:Int)=6 by decide,if_false,if_true]
 rw [show (aL_ 7 n).toNat=1 from rfl] at hk;exact an7_
theorem al4_ {A:Option Addr} {c f:Nat} {l:List Nd} (hT:Tr l) (ih:hI_ A c l f) (i:Nat) (w:World) (hN:Nds w w.heap.size A l) (hi:i<l.length) (hf:l.length<=i+(f+1)) {t:ByteArray} {n:Int} (hnd:l[i]=⟨8,t,n⟩) :
  Calls Tryz.prog 34 #[.slice A l.length c,.int .i64 (i:Nat)] w (Ret w (.string (aA_ l (f+1) i))):=by
 have h1:a9_ l i=8:=by rw [a9_,aD_ hi,hnd]
 have hm:=hT.len;have HA:Hid (Below w.heap.size w (w.alloc (.cells #[.int .i64 8,.string t,.int .i64 n] 61))):=hd_ (aE_);have hone:=hT.one _ (List.getElem_mem hi);rw [hnd] at hone;simp only at hone;have _:=hf;have hk:=hT.kidsP hi;have hmk:(b3_ l).getD i 0=(aL_ l[i].op l[i].n).toNat:=cT_ hi rfl;rw [hmk,hnd] at hk;simp only at hk;have hX:aA_ l (f+1) i=aA_ l f (i+1)++⟨#[59]⟩:=by
  rw [aA_,aD_ hi,hnd];simp only [show ¬ (8:Int)=1 by decide,show ¬ (8:Int)=2 by decide,show ¬ (8:Int)=3 by decide,show ¬ (8:Int)=4 by decide,show ¬ (8:Int)=5 by decide,show ¬ (8:Int)=6 by decide,show ¬ (8:Int)=7 by decide,if_false]
 rw [show (aL_ 8 n).toNat=1 from rfl] at hk;exact an7_
theorem an8_ (h:P:=by
 have HN:=hd_ hN;have HTr:=hd_ hT;have HIH:=hd_ ih;have hlen:l.length<=40:=hm;have hil:i<=40:=by omega
 have htot:(aA_ l (f+1) i).size<=1000:=by
  have g1:=(dV_ hT (f:=f+1) hf hi (by rw [h1];decide)).2;have g3:=(dI_ hi).2;omega
 rw [hX] at htot
 first
 |
  exact pM_
  done
 |
  obtain ⟨b,off,op',t',n',rfl,hb,hnd',hts,d1,d2,d3⟩:=hN.node (Below.refl _ _) hi;rw [hnd] at hnd'
  cases hnd'
  rw [hX];have HC:Hid (∀ w',Below (w.alloc (.cells #[.int .i64 4,.string t,.int .i64 (m:Nat)] 61)).heap.size (w.alloc (.cells #[.int .i64 4,.string t,.int .i64 (m:Nat)] 61)) w'->w'.cell? ⟨w.heap.size,2,none⟩=some (.int .i64 (m:Nat))):=hd_ (fun w' hB=>by rw [o8_ (j:=2) (mQ_ (aG_ rfl) hB)];rfl);have HA2:Hid (Below (w.alloc (.cells #[.int .i64 4,.string t,.int .i64 (m:Nat)] 61)).heap.size (w.alloc (.cells #[.int .i64 4,.string t,.int .i64 (m:Nat)] 61)) (w.alloc (.cells #[.int .i64 4,.string t,.int .i64 (m:Nat)] 61))):=hd_ (Below.refl _ _);have hTL:⟨#[91]⟩++dG_ (aA_ l f) (a0_ l) (i+1) m=⟨#[91]⟩++eF_ (aA_ l f) (a0_ l) 0 (i+1) m:=by
   rw [eF_]
   split
   ·rename_i e;subst e;rfl
   ·rfl
  rw [hTL] at htot ⊢;obtain ⟨Z,hZ⟩:∃ Z,⟨#[91]⟩++eF_ (aA_ l f) (a0_ l) 0 (i+1) m=Z:=⟨_,rfl⟩;rw [hZ] at htot ⊢;have hz:Z.size<=1000:=by
   rw [ByteArray.size_append] at htot;omega
  have HK:Hid (bN_ l (i+1) m (a0_ l i)/\⟨#[91]⟩++eF_ (aA_ l f) (a0_ l) 0 (i+1) m=Z):=hd_ ⟨hk,hZ⟩;have hm6:m<=40:=by
   have hr:=qB_ hk;omega
  clear hk hmk hone h1 hX hnd ih hT hN hTL hZ htot;go_enter Tryz.func34,Tryz.ntmps34;go_wp2;go_loopw [6,8,9] (fun s a k wr=>∃ (kk aa:Nat) (acc:ByteArray),kk<=m/\k=.int .i64 kk/\a=.int .i64 aa/\aa<=41/\i<aa/\s=.string acc/\Hid (bN_ l aa (m-kk) (a0_ l i)/\acc++eF_ (aA_ l f) (a0_ l) kk aa (m-kk)=Z)/\Hid (Below (w.alloc (.cells #[.int .i64 4,.string t,.int .i64 (m:Nat)] 61)).heap.size (w.alloc (.cells #[.int .i64 4,.string t,.int .i64 (m:Nat)] 61)) wr)) (fun _ _ k _=>m-(intOf k).toNat)
  case atStart=>exact ⟨0,i+1,⟨#[91]⟩,by omega,rfl,by go_num,by omega,by omega,rfl,by rw [Nat.sub_zero];exact HK,HA2⟩
  case round =>
   clear HK HA2;obtain ⟨kk,aa,acc,hkm,rfl,rfl,ha41,hia,rfl,HK,HB⟩:=hrel;exact ac4_):P:=h
theorem akZ_ {A:Option Addr} {c f:Nat} {l:List Nd} (hT:Tr l) (ih:hI_ A c l f) (i:Nat) (w:World) (hN:Nds w w.heap.size A l) (hi:i<l.length) (hf:l.length<=i+(f+1)) {t:ByteArray} {n:Int} (hnd:l[i]=⟨3,t,n⟩) :
  Calls Tryz.prog 34 #[.slice A l.length c,.int .i64 (i:Nat)] w (Ret w (.string (aA_ l (f+1) i))):=by
 have h1:a9_ l i=3:=by rw [a9_,aD_ hi,hnd]
 have hm:=hT.len;have HA:Hid (Below w.heap.size w (w.alloc (.cells #[.int .i64 3,.string t,.int .i64 n] 61))):=hd_ (aE_);have hone:=hT.one _ (List.getElem_mem hi);rw [hnd] at hone;simp only at hone;have _:=hf;have hk:=hT.kidsP hi;have hmk:(b3_ l).getD i 0=(aL_ l[i].op l[i].n).toNat:=cT_ hi rfl;rw [hmk,hnd] at hk;simp only at hk;have hX:aA_ l (f+1) i=t++⟨#[40]⟩++dG_ (aA_ l f) (a0_ l) (i+1) n.toNat++⟨#[41]⟩:=by
  rw [aA_,aD_ hi,hnd];simp only [show ¬ (3:Int)=1 by decide,show ¬ (3:Int)=2 by decide,if_false,if_true]
 have hmn:(aL_ 3 n).toNat=n.toNat:=rfl;rw [hmn] at hk;obtain ⟨m,rfl⟩:∃ m:Nat,n=m:=⟨n.toNat,by have:=(fG_ hone).1;have h:aL_ 3 n=n:=rfl;omega⟩;rw [Int.toNat_natCast] at hk;simp only [Int.toNat_natCast] at hX;have ht8:t.size<=8:=(cY_ (c4_ hone rfl de_)).2.1;exact an8_
theorem al0_ {A:Option Addr} {c f:Nat} {l:List Nd} (hT:Tr l) (ih:hI_ A c l f) (i:Nat) (w:World) (hN:Nds w w.heap.size A l) (hi:i<l.length) (hf:l.length<=i+(f+1)) {t:ByteArray} {n:Int} (hnd:l[i]=⟨4,t,n⟩) :
  Calls Tryz.prog 34 #[.slice A l.length c,.int .i64 (i:Nat)] w (Ret w (.string (aA_ l (f+1) i))):=by
 have h1:a9_ l i=4:=by rw [a9_,aD_ hi,hnd]
 have hm:=hT.len;have HA:Hid (Below w.heap.size w (w.alloc (.cells #[.int .i64 4,.string t,.int .i64 n] 61))):=hd_ (aE_);have hone:=hT.one _ (List.getElem_mem hi);rw [hnd] at hone;simp only at hone;have _:=hf;have hk:=hT.kidsP hi;have hmk:(b3_ l).getD i 0=(aL_ l[i].op l[i].n).toNat:=cT_ hi rfl;rw [hmk,hnd] at hk;simp only at hk;have hX:aA_ l (f+1) i=⟨#[91]⟩++dG_ (aA_ l f) (a0_ l) (i+1) n.toNat++⟨#[93]⟩:=by
  rw [aA_,aD_ hi,hnd];simp only [show ¬ (4:Int)=1 by decide,show ¬ (4:Int)=2 by decide,show ¬ (4:Int)=3 by decide,if_false,if_true]
 have hmn:(aL_ 4 n).toNat=n.toNat:=rfl;rw [hmn] at hk;obtain ⟨m,rfl⟩:∃ m:Nat,n=m:=⟨n.toNat,by have:=(fG_ hone).1;have h:aL_ 4 n=n:=rfl;omega⟩;rw [Int.toNat_natCast] at hk;simp only [Int.toNat_natCast] at hX;exact an8_
theorem adP_ {A:Option Addr} {c:Nat} {l:List Nd} (hT:Tr l):∀ f,hI_ A c l f:=by
 intro f
 induction f with
 | zero=>intro i v w hv hN hi hf _;omega
 | succ f ih =>
  intro i v w hv hN hi hf h9;subst hv;have hone:=hT.one _ (List.getElem_mem hi);have hop:1<=l[i].op/\l[i].op<=9:=by
   by_cases hc:l[i].op<1∨9<l[i].op
   ·rw [a8_,if_pos (by rcases hc with h|h;exact .inl h;exact .inr (.inl h))] at hone;cases hone
   ·omega
  rw [a9_,aD_ hi] at h9;obtain ⟨op,t,n,hnd⟩:∃ op t n,l[i]=⟨op,t,n⟩:=⟨_,_,_,rfl⟩;rw [hnd] at hop h9;simp only at hop h9;have hcs:op=1∨op=2∨op=3∨op=4∨op=5∨op=6∨op=7∨op=8:=by omega
  rcases hcs with rfl|rfl|rfl|rfl|rfl|rfl|rfl|rfl
  ·exact akX_ hT ih i w hN hi hf hnd
  ·exact akY_ hT ih i w hN hi hf hnd
  ·exact akZ_ hT ih i w hN hi hf hnd
  ·exact al0_ hT ih i w hN hi hf hnd
  ·exact al1_ hT ih i w hN hi hf hnd
  ·exact al2_ hT ih i w hN hi hf hnd
  ·exact al3_ hT ih i w hN hi hf hnd
  ·exact al4_ hT ih i w hN hi hf hnd
theorem kU_ {u:List Nd} (h:aM_ u=0) (A:Option Addr) (c:Nat) (w:World) (hN:Nds w w.heap.size A u) :
  Calls Tryz.prog 34 #[.slice A u.length c,.int .i64 0] w (Ret w (.string (aB_ u))):=by
 have hT:=Tr.of_check h;have h0:=hT.pos0
 by_cases h9:a9_ u 0=9
 ·obtain ⟨x,rfl,hx⟩:=i8_ h h9;have hz:=uY_ hx;obtain ⟨b,off,op,t,n,rfl,hb,hnd,hts,d1,d2,d3⟩:=hN.node (Below.refl _ _) h0
  cases hnd
  have hL:aB_ [⟨9,x,0⟩]=if x.data.toList=[] then ⟨#[35]⟩ else ⟨#[35,32]⟩++x:=by rw [aB_,if_pos h9];rfl
  rw [hL];have HA:Hid (Below w.heap.size w (w.alloc (.cells #[.int .i64 9,.string x,.int .i64 0] 61))):=hd_ (aE_);simp only [Nat.zero_mul,Nat.add_zero] at d1 d2 d3;change Calls _ _ #[.slice (some ⟨b,off,none⟩) 1 c,.int .i64 0] _ _
  by_cases he:x.data.toList=[]
  ·rw [if_pos he];have hx0:x=.empty:=ByteArray.ext (Array.toList_inj.1 (by rw [he];rfl));subst hx0;clear hN hL h9 h hT h0 hx he;exact mX_
  ·rw [if_neg he];have hs0:x.size≠0:=fun e=>he (List.eq_nil_of_length_eq_zero (by simpa using e))
   have k1:((x.size:Int)==0)=false:=by simpa using hs0
   have k2:¬ (x.size:Int)=0:=by omega
   clear hN hL h9 h hT h0 hx he;exact mX_
 ·rw [aB_,if_neg h9];exact adP_ hT u.length 0 0 w rfl hN h0 om_ h9
end Go.Proofs.YtddfdmopaeghnadGreatDoor
