/- Walk of DeskIs. Conditions: as the theorem states them. -/
import Derived.Test.YtddfdmopaeghnadGreatDoorDqDe
set_option maxRecDepth 100000
set_option maxHeartbeats 16000000
namespace Go.Proofs.YtddfdmopaeghnadGreatDoor
variable {P Q:Prop}
theorem ds66 (k:Q) (h:Nx_ Q->P:=by intro k_;go_at_call 12;(fail_if_success have z:=T0);refine (HPA.out _ _ _ _ HD.out).mono ?_;rintro e v0 ⟨Q,cq,rfl,hD⟩;have HD:=hd_ hD;clear hD;obtain ⟨m0,m1,n0,n1,s0,s1,s2⟩:=HD.out.1.1.cs;have T0:=hd_ True.intro;revert v0 Q cq HD m0 m1 n0 n1 s0 s1 s2 T0;exact k_.o):P:=h ⟨k⟩
theorem ds67 (k:Q) (h:Nx_ Q->P:=by intro k_;go_at_call 10;(have z:=T3;clear z);(fail_if_success have z:=T4);refine (HLO.out _ _ _ _ HD.out).mono ?_;rintro e v4 ⟨rfl,hD⟩;have HD:=hd_ hD;clear hD;obtain ⟨m0,m1,n0,n1,s0,s1,s2⟩:=HD.out.1.cs;have T4:=hd_ True.intro;revert v4 HD m0 m1 n0 n1 s0 s1 s2 T4;exact k_.o):P:=h ⟨k⟩
theorem ds68 (k:Q) (h:Nx_ Q->P:=by intro k_;go_at_call 9;(have z:=T2;clear z);(fail_if_success have z:=T3);refine (HER.out _ _ _ _ HD.out).mono ?_;rintro e v3 ⟨rfl,hD⟩;have HD:=hd_ hD;clear hD;obtain ⟨m0,m1,n0,n1,s0,s1,s2⟩:=HD.out.1.cs;have T3:=hd_ True.intro;revert v3 HD m0 m1 n0 n1 s0 s1 s2 T3;exact k_.o):P:=h ⟨k⟩
theorem ds69 (k:Q) (h:Nx_ Q->P:=by intro k_;go_at_call 15;refine (HTX.out _ _ _ _ (‹_/\Hid (DI w dd w3.heap.size _ _ _ _ _ _ _)›.2.out)).mono ?_;rintro e x9 ⟨rfl,hD⟩;have HD:=hd_ hD;clear hD;revert x9 HD;exact k_.o):P:=h ⟨k⟩
theorem ds70 (k:Q) (h:Nx_ Q->P:=by intro k_;go_at_call 16;refine (HWD.out _ _ _ _ (‹_/\Hid (DI w dd w3.heap.size _ _ _ _ _ _ _)›.2.out)).mono ?_;rintro e x9 ⟨rfl,hD⟩;have HD:=hd_ hD;clear hD;revert x9 HD;exact k_.o):P:=h ⟨k⟩
open Go.RowKit Go.Maps
theorem rU_ (h:P:=by
 go_wp2
 first
 |
  go_roundw
  case measure=>exact iX_
  case rel=>exact ⟨k+1,W,p,P,_,by omega,by omega,by first|go_num|rfl,by first|rfl|trivial,hd_ HFW.out,hd_ HD.out.drop⟩
  done
 |
  go_roundw
  case measure=>exact iX_
  case rel=>exact ⟨k+1,V,p,P,_,by omega,by omega,by first|go_num|rfl,by first|rfl|trivial,hd_ HFW2.out,hd_ HD.out.drop⟩
  done
 |
  go_ret;exact ⟨by first|rfl|(simp;done),HD.out.1.bel⟩):P:=h
theorem anD_ (h:P:=by
 go_region_held3 (fun w'=>w'.cell? ⟨w3.heap.size,0,none⟩=some (.int .i64 W)/\Hid (DI w dd w3.heap.size W p P W (.slice P p.length cp) (some (wr.heap.size,.cells #[.int .i64 0,.string t,.int .i64 V] 35 (0,0))) w')) (first|exact ⟨HD.out.1.c0,HD⟩|exact ⟨(HD.out.past (Below.refl _ _).drew).1.c0,hd_ (HD.out.past (Below.refl _ _).drew)⟩)
  (first|(refine ds69 ?_;intro x9 HD)|(refine ds70 ?_;intro x9 HD))
 all_goals
  exact rU_
 done):P:=h
theorem wA_ (h:P:=by
 have HLO:=hd_ (fun V' a' S' w' (h:DI w dd w3.heap.size W p P V' a' S' w')=>qN_ h (c:=cp) rfl HFW.out);have HTX:=hd_ (fun V' a' S' w' (h:DI w dd w3.heap.size W p P V' a' S' w')=>t1_ h HP.out);have HWD:=hd_ (fun V' a' S' w' (h:DI w dd w3.heap.size W p P V' a' S' w')=>qO_ h);generalize cK_ W p=TX at *;have hb1:(TX.toList != TX.toList)=false:=by simp
 first
 |
  clear hfb hv hE hq;go_upto_region 42 with (first
   | (go_at_call 7;(fail_if_success have z:=T0);refine (HWV.out _).mono ?_;rintro e v0 ⟨rfl,rfl⟩;have T0:=hd_ True.intro)
   | (go_at_call 10;(have z:=T0;clear z);(fail_if_success have z:=T1);refine (HL1.out _ _ _ _ HD.out).mono ?_;rintro e v1 ⟨⟨x1,k1,rfl,hk1⟩,hD⟩;obtain rfl:=hk1 (by first|rfl|trivial);have HD:=hd_ hD;clear hD;obtain ⟨m0,m1,n0,n1,s0,s1,s2⟩:=HD.out.1.cs;have T1:=hd_ True.intro)
   | (go_at_call 11;(have z:=T1;clear z);(fail_if_success have z:=T2);refine (HDW.out _ _ _ _ HD.out).mono ?_;rintro e v2 ⟨rfl,hD⟩;have HD:=hd_ hD;clear hD;obtain ⟨m0,m1,n0,n1,s0,s1,s2⟩:=HD.out.1.cs;have T2:=hd_ True.intro)
   | (refine ds68 ?_;intro v3 HD m0 m1 n0 n1 s0 s1 s2 T3)
   | (refine ds67 ?_;intro v4 HD m0 m1 n0 n1 s0 s1 s2 T4))
  exact anD_
 |
  clear hv hv0;go_upto_region 42 with (first
   | (go_at_call 7;(fail_if_success have z:=T0);refine (HWV.out _).mono ?_;rintro e v0 ⟨rfl,rfl⟩;have T0:=hd_ True.intro)
   | (go_at_call 11;(have z:=T0;clear z);(fail_if_success have z:=T1);refine (HDW.out _ _ _ _ HD.out).mono ?_;rintro e v1 ⟨rfl,hD⟩;have HD:=hd_ hD;clear hD;obtain ⟨m0,m1,n0,n1,s0,s1,s2⟩:=HD.out.1.cs;have T1:=hd_ True.intro)
   | (go_at_call 9;(have z:=T1;clear z);(fail_if_success have z:=T2);refine (HER.out _ _ _ _ HD.out).mono ?_;rintro e v2 ⟨rfl,hD⟩;have HD:=hd_ hD;clear hD;obtain ⟨m0,m1,n0,n1,s0,s1,s2⟩:=HD.out.1.cs;have T2:=hd_ True.intro)
   | (go_at_call 10;(have z:=T2;clear z);(fail_if_success have z:=T3);refine (HLO.out _ _ _ _ HD.out).mono ?_;rintro e v3 ⟨rfl,hD⟩;have HD:=hd_ hD;clear hD;obtain ⟨m0,m1,n0,n1,s0,s1,s2⟩:=HD.out.1.cs;have T3:=hd_ True.intro))
  exact anD_
 |
  clear hfb hs hnq hq6 hq hE;go_upto_region 42 with (first
   | (refine ds66 ?_;intro v0 Q cq HD m0 m1 n0 n1 s0 s1 s2 T0)
   | (go_at_call 10;(have z:=T0;clear z);(fail_if_success have z:=T1);refine (HL2.out _ _ _ _ _ _ HD.out).mono ?_;rintro e v1 ⟨⟨x1,k1,rfl,hk1⟩,hD⟩;obtain rfl:=hk1 (by first|rfl|trivial);have HD:=hd_ hD;clear hD;obtain ⟨m0,m1,n0,n1,s0,s1,s2⟩:=HD.out.1.1.cs;have T1:=hd_ True.intro)
   | (go_at_call 14;(have z:=T1;clear z);(fail_if_success have z:=T2);refine (HDS.out _ _ _ _ _ HD.out).mono ?_;rintro e v2 ⟨rfl,hD⟩;have HD:=hd_ hD;clear hD;obtain ⟨m0,m1,n0,n1,s0,s1,s2⟩:=HD.out.1.cs;have T2:=hd_ True.intro)
   | (refine ds68 ?_;intro v3 HD m0 m1 n0 n1 s0 s1 s2 T3)
   | (refine ds67 ?_;intro v4 HD m0 m1 n0 n1 s0 s1 s2 T4))
  go_region_held3 (fun w'=>w'.cell? ⟨w3.heap.size,0,none⟩=some (.int .i64 W)/\Hid (DI w dd w3.heap.size W p P W (.slice P p.length cp) (some (wr.heap.size,.cells #[.int .i64 op,.string t,.int .i64 V] 35 (0,0))) w')) (first|exact ⟨HD.out.1.c0,HD⟩|exact ⟨(HD.out.past (Below.refl _ _).drew).1.c0,hd_ (HD.out.past (Below.refl _ _).drew)⟩)
   (first|(refine ds69 ?_;intro x9 HD)|(refine ds70 ?_;intro x9 HD))
  all_goals
   exact rU_
  done
 |
  clear hs hnq hf;go_upto_region 42 with (first
   | (refine ds66 ?_;intro v0 Q cq HD m0 m1 n0 n1 s0 s1 s2 T0)
   | (go_at_call 14;(have z:=T0;clear z);(fail_if_success have z:=T1);refine (HDS.out _ _ _ _ _ HD.out).mono ?_;rintro e v1 ⟨rfl,hD⟩;have HD:=hd_ hD;clear hD;obtain ⟨m0,m1,n0,n1,s0,s1,s2⟩:=HD.out.1.cs;have T1:=hd_ True.intro)
   | (go_at_call 9;(have z:=T1;clear z);(fail_if_success have z:=T2);refine (HER.out _ _ _ _ HD.out).mono ?_;rintro e v2 ⟨rfl,hD⟩;have HD:=hd_ hD;clear hD;obtain ⟨m0,m1,n0,n1,s0,s1,s2⟩:=HD.out.1.cs;have T2:=hd_ True.intro)
   | (go_at_call 10;(have z:=T2;clear z);(fail_if_success have z:=T3);refine (HLO.out _ _ _ _ HD.out).mono ?_;rintro e v3 ⟨rfl,hD⟩;have HD:=hd_ hD;clear hD;obtain ⟨m0,m1,n0,n1,s0,s1,s2⟩:=HD.out.1.cs;have T3:=hd_ True.intro))
  go_region_held3 (fun w'=>w'.cell? ⟨w3.heap.size,0,none⟩=some (.int .i64 W)/\Hid (DI w dd w3.heap.size W p P W (.slice P p.length cp) (some (wr.heap.size,.cells #[.int .i64 op,.string t,.int .i64 V] 35 (0,0))) w')) (first|exact ⟨HD.out.1.c0,HD⟩|exact ⟨(HD.out.past (Below.refl _ _).drew).1.c0,hd_ (HD.out.past (Below.refl _ _).drew)⟩)
   (first|(refine ds69 ?_;intro x9 HD)|(refine ds70 ?_;intro x9 HD))
  all_goals
   go_wp2;go_roundw
   case measure=>exact iX_
   case rel=>exact ⟨k+1,W,p,P,_,by omega,by omega,by first|go_num|rfl,by first|rfl|trivial,hd_ HFW.out,hd_ HD.out.drop⟩):P:=h
theorem anE_ (h:P:=by
 have hb1:(TX.toList != TX.toList)=false:=by simp
 first
 |
  clear hfb hv hq;go_upto_region 42 with (first
   | (go_at_call 7;(fail_if_success have z:=T0);refine (HWV.out _).mono ?_;rintro e v0 ⟨rfl,rfl⟩;have T0:=hd_ True.intro)
   | (go_at_call 10;(have z:=T0;clear z);(fail_if_success have z:=T1);refine (HL1.out _ _ _ _ HD.out).mono ?_;rintro e v1 ⟨⟨x1,k1,rfl,hk1⟩,hD⟩;obtain rfl:=hk1 (by first|rfl|trivial);have HD:=hd_ hD;clear hD;obtain ⟨m0,m1,n0,n1,s0,s1,s2⟩:=HD.out.1.cs;have T1:=hd_ True.intro)
   | (go_at_call 11;(have z:=T1;clear z);(fail_if_success have z:=T2);refine (HDW.out _ _ _ _ (HD.out.set0 _)).mono ?_;rintro e v2 ⟨rfl,hD⟩;have HD:=hd_ hD;clear hD;obtain ⟨m0,m1,n0,n1,s0,s1,s2⟩:=HD.out.1.cs;have T2:=hd_ True.intro)
   | (refine ds68 ?_;intro v3 HD m0 m1 n0 n1 s0 s1 s2 T3)
   | (refine ds67 ?_;intro v4 HD m0 m1 n0 n1 s0 s1 s2 T4))
  go_region_held3 (fun w'=>w'.cell? ⟨w3.heap.size,0,none⟩=some (.int .i64 V)/\Hid (DI w dd w3.heap.size V p P V (.slice P p.length cp) (some (wr.heap.size,.cells #[.int .i64 0,.string t,.int .i64 V] 35 (0,0))) w')) (first|exact ⟨HD.out.1.c0,HD⟩|exact ⟨(HD.out.past (Below.refl _ _).drew).1.c0,hd_ (HD.out.past (Below.refl _ _).drew)⟩)
   (first|(refine ds69 ?_;intro x9 HD)|(refine ds70 ?_;intro x9 HD))
  all_goals
   exact rU_
  done
 |
  clear hfb hs hnq hq6 hq hx;go_upto_region 42 with (first
   | (refine ds66 ?_;intro v0 Q cq HD m0 m1 n0 n1 s0 s1 s2 T0)
   | (go_at_call 10;(have z:=T0;clear z);(fail_if_success have z:=T1);refine (HL2.out _ _ _ _ _ _ HD.out).mono ?_;rintro e v1 ⟨⟨x1,k1,rfl,hk1⟩,hD⟩;obtain rfl:=hk1 (by first|rfl|trivial);have HD:=hd_ hD;clear hD;obtain ⟨m0,m1,n0,n1,s0,s1,s2⟩:=HD.out.1.1.cs;have T1:=hd_ True.intro)
   | (go_at_call 13;(have z:=T1;clear z);(fail_if_success have z:=T2);refine (HFR.out _ _ _ _ _ _ HD.out).mono ?_;rintro e v2 ⟨rfl,hD⟩;have HD:=hd_ hD;clear hD;obtain ⟨m0,m1,n0,n1,s0,s1,s2⟩:=HD.out.1.1.cs;obtain ⟨p0,p1,q0,q1,t0,t1,t2⟩:=(HD.out.set1 (.slice Q nq cq)).1.1.cs;have T2:=hd_ True.intro)
   | (go_at_call 14;(have z:=T2;clear z);(fail_if_success have z:=T3);refine (HDS.out _ _ _ _ _ (HD.out.set1 _)).mono ?_;rintro e v3 ⟨rfl,hD⟩;have HD:=hd_ hD;clear hD;obtain ⟨m0,m1,n0,n1,s0,s1,s2⟩:=HD.out.1.cs;have T3:=hd_ True.intro)
   | (go_at_call 9;(have z:=T3;clear z);(fail_if_success have z:=T4);refine (HERq.out _ _ _ _ _ HD.out).mono ?_;rintro e v4 ⟨rfl,hD⟩;have HD:=hd_ hD;clear hD;obtain ⟨m0,m1,n0,n1,s0,s1,s2⟩:=HD.out.1.cs;have T4:=hd_ True.intro)
   | (go_at_call 10;(have z:=T4;clear z);(fail_if_success have z:=T5);refine (HLOq.out _ _ _ _ _ _ HD.out).mono ?_;rintro e v5 ⟨rfl,hD⟩;have HD:=hd_ hD;clear hD;obtain ⟨m0,m1,n0,n1,s0,s1,s2⟩:=HD.out.1.cs;have T5:=hd_ True.intro))
  go_region_held3 (fun w'=>w'.cell? ⟨w3.heap.size,0,none⟩=some (.int .i64 W)/\Hid (DI w dd w3.heap.size W q Q W (.slice Q nq cq) (some (wr.heap.size,.cells #[.int .i64 op,.string t,.int .i64 V] 35 (0,0))) w')) (first|exact ⟨HD.out.1.c0,HD⟩|exact ⟨(HD.out.past (Below.refl _ _).drew).1.c0,hd_ (HD.out.past (Below.refl _ _).drew)⟩)
   (first|(go_at_call 15;refine (HTXq.out _ _ _ _ _ (‹_/\Hid (DI w dd w3.heap.size _ _ _ _ _ _ _)›.2.out)).mono ?_;rintro e x9 ⟨rfl,hD⟩;have HD:=hd_ hD;clear hD)|(go_at_call 16;refine (HWDq.out _ _ _ _ _ (‹_/\Hid (DI w dd w3.heap.size _ _ _ _ _ _ _)›.2.out)).mono ?_;rintro e x9 ⟨rfl,hD⟩;have HD:=hd_ hD;clear hD))
  all_goals
   go_wp2;go_roundw
   case measure=>exact iX_
   case rel=>exact ⟨k+1,W,q,Q,_,by omega,by omega,by first|go_num|rfl,by first|rfl|trivial,hd_ HFW2.out,by rw [HNQ.out];exact hd_ HD.out.drop⟩):P:=h
theorem anF_ (h:P:=by
 have d6:(E==0)=false:=beq_eq_false_iff_ne.2 hq;have d7:decide (E=0)=false:=decide_eq_false hq
 first
 |
  have HDW:=hd_ (fun V' a' S' w' (h:DI w dd w3.heap.size W p P V' a' S' w')=>wY_ h HM.out HP.out hv hE hq);have HER:=hd_ (fun V' a' S' w' (h:DI w dd w3.heap.size W p P V' a' S' w')=>rN_ h HG.out hgs hq);exact wA_
  done
 |
  have HDS:=hd_ (fun Q V' a' S' w' (h:DJ w dd w3.heap.size W p P q Q V' a' S' w')=>zA_ h HM.out HP.out HT.out hs hE hq);have HER:=hd_ (fun V' a' S' w' (h:DI w dd w3.heap.size W p P V' a' S' w')=>rN_ h HG.out hgs hq);exact wA_):P:=h
theorem abE_ (W0:Int) (l:List Nd) (n:Nat) (hn:l.length=n) (A:Option Addr) (c:Nat) (w:World) (hm:cQ_ w) (hp:dM_ w) (hg:gT_ w) (hgs:0+1<=w.heap.size) (hl:Nds w w.heap.size A l) :
  Calls Tryz.prog 3 #[.int .i64 W0,.slice A n c] w (Ret w (.bool true)):=by
 have HWI:=hd_ (fun w'=>vE_ W0 w')
 by_cases hw:bQ_ W0=true
 case neg =>
  have hw0:bQ_ W0=false:=by simpa using hw
  rw [hw0] at HWI;have HN:=hd_ (fun w'=>ai5_ hw0 w');have HE:=hd_ (fun (w':World) (hB:Below w.heap.size w w')=>rV_ 1 de_ w' (hg.past hgs hB) (Nat.le_trans hgs hB.size));clear hm hp hg hl hw hw0;go_enter Tryz.func3,Tryz.ntmps3;go_wp2_with (first
   | (go_at_call 7;refine (HWI.out _).mono ?_;rintro e w1 ⟨rfl,rfl⟩)
   | (go_at_call 8;refine (HN.out _).mono ?_;rintro e w2 ⟨rfl,hB⟩;have HB:=hd_ hB;clear hB)
   | (go_at_call 9;refine (HE.out _ HB.out).mono ?_;rintro e w3 ⟨rfl,hB⟩;have HB:=hd_ (HB.out.trans (hB.mono HB.out.size));clear hB))
  go_ret;exact ⟨by first|rfl|(simp;done),HB.out⟩
 case pos =>
 rw [hw] at HWI;have HN:=hd_ (fun w' (hB:Below w.heap.size w w')=>aq3_ hw hB);have HG:=hd_ hg;have HM:=hd_ hm;have HP:=hd_ hp;have HL:=hd_ hl;have HB:=hd_ (Below.refl w.heap.size w);have HE:=hd_ (fun w' d (h:DN w d W0 w')=>aq5_ h HG.out hgs);have hnm:n<=maxLen:=by rw [← hn];exact hl.2.1
 unfold maxLen at hnm;have HNN:=hd_ hn;clear hm hp hg hl hw hn;go_enter Tryz.func3,Tryz.ntmps3;go_wp2_with (first
  | (go_at_call 7;refine (HWI.out _).mono ?_;rintro e w1 ⟨rfl,rfl⟩)
  | (go_at_call 8;refine (HN.out _ HB.out).mono ?_;rintro e w2 ⟨dd,rfl,hD⟩;have HD:=hd_ hD;clear hD)
  | (go_at_call 9;refine (HE.out _ _ HD.out).mono ?_;rintro e w3 ⟨rfl,hD⟩;have HD:=hd_ hD;clear hD))
 clear HWI HN HE HB;go_loopw [9,11] (fun told i wr=>∃ (k:Nat) (W:Int) (p:List (List Nd)) (P:Option Addr) (cp:Nat),k<=n/\k<=12/\i=.int .i64 (k:Nat)/\told=.bool true/\Hid (g0_ W p=true)/\Hid (DI w dd w3.heap.size W p P W (.slice P p.length cp) none wr)) (fun _ i _=>12-(intOf i).toNat)
 case atStart=>exact ⟨0,W0,[],none,0,by omega,by omega,rfl,rfl,hd_ rfl,hd_ HD.out.start⟩
 case round =>
  clear HD;obtain ⟨k,W,p,P,cp,hk,hk12,rfl,rfl,HFW,HD⟩:=hrel
  by_cases hkn:k<n
  ·by_cases hk2:k<12
   ·have e1:decide ((k:Int)<(n:Int))=true:=decide_eq_true om_;have e2:decide ((k:Int)<12)=true:=decide_eq_true om_;obtain ⟨b,off,op,t,V,rfl,hb,hx,hts,c1,c2,c3⟩:=HL.out.node HD.out.1.bel (k:=k) (by rw [HNN.out];exact hkn);have HT:=hd_ hts;clear hx hts;have HD:=hd_ (HD.out.step (.cells #[.int .i64 op,.string t,.int .i64 V] 35));obtain ⟨m0,m1,n0,n1,s0,s1,s2⟩:=HD.out.1.cs
    by_cases hop:op=0
    ·subst hop;have HWV:=hd_ (fun w'=>vE_ V w')
     by_cases hv:bQ_ V=true
     ·rw [hv] at HWV;obtain ⟨fb,hfb⟩:∃ b,g0_ V p=b:=⟨_,rfl⟩;have HL1:=hd_ (fun V' a' S' w' (h:DI w dd w3.heap.size W p P V' a' S' w')=>z9_ h (c:=cp) rfl hv hfb)
      cases fb with
      | false =>
       clear hfb hv;go_wp2_with (first
        | (go_at_call 7;(fail_if_success have z:=T0);refine (HWV.out _).mono ?_;rintro e v0 ⟨rfl,rfl⟩;have T0:=hd_ True.intro)
        | (go_at_call 10;(have z:=T0;clear z);(fail_if_success have z:=T1);refine (HL1.out _ _ _ _ HD.out).mono ?_;rintro e v1 ⟨⟨x1,k1,rfl,-⟩,hD⟩;have HD:=hd_ hD;clear hD;obtain ⟨m0,m1,n0,n1,s0,s1,s2⟩:=HD.out.1.cs;have T1:=hd_ True.intro))
       go_ret;exact ⟨by first|rfl|(simp;done),HD.out.1.bel⟩
      | true =>
       by_cases hq:bH_ V p=0
       ·have HDW:=hd_ (fun V' a' S' w' (h:DI w dd w3.heap.size W p P V' a' S' w')=>abG_ h HM.out HP.out hv hq);rw [hq] at HL1;have HER:=hd_ (fun V' a' S' w' (h:DI w dd w3.heap.size V p P V' a' S' w')=>aeS_ h HG.out hgs);have HLO:=hd_ (fun V' a' S' w' (h:DI w dd w3.heap.size V p P V' a' S' w')=>qN_ h (c:=cp) rfl hfb);have HTX:=hd_ (fun V' a' S' w' (h:DI w dd w3.heap.size V p P V' a' S' w')=>t1_ h HP.out);have HWD:=hd_ (fun V' a' S' w' (h:DI w dd w3.heap.size V p P V' a' S' w')=>qO_ h);have HFW2:=hd_ hfb;generalize cK_ V p=TX at *;exact anE_
       ·obtain ⟨E,hE⟩:∃ E,bH_ V p=E:=⟨_,rfl⟩;rw [hE] at hq HL1;exact anF_
     ·have hv0:bQ_ V=false:=by simpa using hv
      rw [hv0] at HWV;have HDW:=hd_ (fun V' a' S' w' (h:DI w dd w3.heap.size W p P V' a' S' w')=>abF_ h hv0);have HER:=hd_ (fun V' a' S' w' (h:DI w dd w3.heap.size W p P V' a' S' w')=>rN_ (f:=1) h HG.out hgs de_);exact wA_
    ·have d3:decide (op=0)=false:=decide_eq_false hop;have d4:(op==0)=false:=beq_eq_false_iff_ne.2 hop;clear hop;obtain ⟨f,j,q,hs⟩:∃ f k x,bC_ t=(f,k,x):=⟨_,_,_,rfl⟩;obtain ⟨nq,hnq⟩:∃ n,q.length=n:=⟨_,rfl⟩;have HPA:=hd_ (fun V' a' S' w' (h:DI w dd w3.heap.size W p P V' a' S' w')=>ai1_ h HT.out hs hnq)
     by_cases hf:f=0
     ·subst hf;obtain rfl:j=0:=zP_ hs;have hq6:=m2_ (by have:=oP_ (s:=t) (by rw [hs]);rwa [hs] at this:(cC_ q).2=0);obtain ⟨fb,hfb⟩:∃ b,g0_ W q=b:=⟨_,rfl⟩;have HL2:=hd_ (fun cq Q V' a' S' w' (h:DJ w dd w3.heap.size W p P q Q V' a' S' w')=>ai4_ h (c:=cq) hnq hq6.2.1 hq6.1 hfb)
      cases fb with
      | false =>
       clear hfb hs hnq hq6;go_wp2_with (first
        | (refine ds66 ?_;intro v0 Q cq HD m0 m1 n0 n1 s0 s1 s2 T0)
        | (go_at_call 10;(have z:=T0;clear z);(fail_if_success have z:=T1);refine (HL2.out _ _ _ _ _ _ HD.out).mono ?_;rintro e v1 ⟨⟨x1,k1,rfl,-⟩,hD⟩;have HD:=hd_ hD;clear hD;obtain ⟨m0,m1,n0,n1,s0,s1,s2⟩:=HD.out.1.1.cs;have T1:=hd_ True.intro))
       go_ret;exact ⟨by first|rfl|(simp;done),HD.out.1.1.bel⟩
      | true =>
       by_cases hq:bH_ W q=0
       ·obtain ⟨x,hx⟩:∃ x,f3_ p [] q=x:=⟨_,rfl⟩;rw [hq] at HL2;have HFR:=hd_ (fun cq Q V' a' S' w' (h:DJ w dd w3.heap.size W p P q Q V' a' S' w')=>ai3_ h (c:=cq) (c':=cp) hnq rfl hq6.2.1 hx);have HDS:=hd_ (fun Q V' a' S' w' (h:DJ w dd w3.heap.size W p P q Q V' a' S' w')=>aeU_ h HM.out HP.out HT.out hs hq hx);have HERq:=hd_ (fun Q V' a' S' w' (h:DI w dd w3.heap.size W q Q V' a' S' w')=>aeS_ h HG.out hgs);have HLOq:=hd_ (fun cq Q V' a' S' w' (h:DI w dd w3.heap.size W q Q V' a' S' w')=>qN_ h (c:=cq) hnq hfb);have HTXq:=hd_ (fun Q V' a' S' w' (h:DI w dd w3.heap.size W q Q V' a' S' w')=>t1_ h HP.out);have HWDq:=hd_ (fun Q V' a' S' w' (h:DI w dd w3.heap.size W q Q V' a' S' w')=>qO_ h);have HFW2:=hd_ hfb;have HNQ:=hd_ hnq;generalize cK_ W q=TX at *;exact anE_
       ·obtain ⟨E,hE⟩:∃ E,bH_ W q=E:=⟨_,rfl⟩;rw [hE] at hq HL2;exact anF_
     ·have d6:(f==0)=false:=beq_eq_false_iff_ne.2 hf;have d7:decide (f=0)=false:=decide_eq_false hf;have HDS:=hd_ (fun Q V' a' S' w' (h:DJ w dd w3.heap.size W p P q Q V' a' S' w')=>aeT_ h HM.out HT.out hs hf);have HER:=hd_ (fun V' a' S' w' (h:DI w dd w3.heap.size W p P V' a' S' w')=>rN_ h HG.out hgs hf);exact wA_
   ·have e1:decide ((k:Int)<(n:Int))=true:=decide_eq_true om_;have e2:decide ((k:Int)<12)=false:=decide_eq_false om_;exact rU_
  ·have e1:decide ((k:Int)<(n:Int))=false:=decide_eq_false om_;exact rU_
end Go.Proofs.YtddfdmopaeghnadGreatDoor
