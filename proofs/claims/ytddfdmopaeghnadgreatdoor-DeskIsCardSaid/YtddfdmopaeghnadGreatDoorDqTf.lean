/- Walk of the reference's TreeFault (printed by wip/gentf. With what it rests on. Conditions: as each theorem states them. -/
import Derived.Test.YtddfdmopaeghnadGreatDoorDqLo
set_option maxRecDepth 100000
set_option maxHeartbeats 16000000
namespace Go.Proofs.YtddfdmopaeghnadGreatDoor
variable {P Q:Prop}
theorem x3_ (k:Q) (h:Nx_ Q->P:=by intro k_;have k1:decide ((0:Int)<(t.size:Int))=false:=decide_eq_false (by have:=i7_ he;omega);revert k1;exact k_.o):P:=h ⟨k⟩
open Go.RowKit
theorem r6_ {w w':World} {l:List Nd} {op n v:Int} {t:ByteArray} (hs:a8_ op t n≠0->aM_ l=a8_ op t n) (hv:a8_ op t n=v) (h0:v≠0) (hb:Below w.heap.size w w') :
  Ret w (.int .i64 (aM_ l)) (.returned (.int .i64 v)) w':=by
 rw [hs (by rw [hv];exact h0),hv];exact ⟨rfl,hb⟩
theorem yD_ {t:ByteArray} (h:t.toList≠[]):0<t.size:=by
 rcases Nat.lt_or_ge 0 t.size with h1|h1
 ·exact h1
 ·exact absurd (by simpa using lM_.2 (show t.size<1 by omega)) h
theorem i7_ {t:ByteArray} (h:t.toList=[]):t.size=0:=by
 have:=lM_.1 (show t.toList.isEmpty=true by simp [h]);omega
theorem ahF_ {l:List Nd} (h:∀ d ∈ l.take l.length,a8_ d.op d.text d.n=0):∀ d ∈ l,a8_ d.op d.text d.n=0:=by rwa [List.take_length] at h
theorem eT_ (h:P:=by
 go_wp2
 go_ret
 first
 |
  exact ⟨rfl,Below.refl _ _⟩
  done
 |
  exact r6_ HF.out HV.out de_ aF_
  done
 |
  exact ⟨by rw [HV.out];rfl,aF_⟩
  done
 |
  exact ⟨by rw [HV2.out];rfl,aF_⟩):P:=h
theorem jE_ (h:P:=by
 go_roundw
 case measure=>exact me_
 first
 |
  case rel=>exact ⟨k+1,by omega,by go_num,HT.out HV.out,(hB.alloc hsz _).trans (hB1.mono so_)⟩
  done
 |
  case rel=>exact ⟨k+1,by omega,by go_num,HT.out HV.out,aF_⟩
  done
 |
  case rel=>exact ⟨k+1,by omega,by go_num,HST2.out,aF_⟩
  done
 |
  case rel=>exact ⟨0+1,_,by omega,by go_num,HNX.out,hB.trans (hB1.mono hsz)⟩
  done
 |
  case rel=>exact ⟨j+1+1,_,by omega,by go_num,HNX.out,hB.trans (hB1.mono hsz)⟩):P:=h
theorem rT_ (h:P:=by
 have k1:decide ((0:Int)<(t.size:Int))=true:=decide_eq_true (by have:=yD_ he;omega)
 have k2:decide (0<t.size)=true:=decide_eq_true (yD_ he)
 clear he
 exact eT_):P:=h
theorem abY_ (h:P:=by
 go_wp2_with (go_at_call 56;refine HCK.out.mono ?_;rintro e w1 ⟨rfl,hB1⟩;have e0:=(hB1.cell (p:=⟨b,off+(j+1),none⟩) hb).trans hc;have e1:=(hB1.cell (p:=⟨b2,off2,none⟩) hb2).trans d1;have e2:=(hB1.cell (p:=⟨b,off+j,none⟩) hb).trans hc';have e3:=(hB1.cell (p:=⟨b3,off3,none⟩) hb3).trans d1')
 first
 |
  go_ret2
  exact gO_.of HR.out (hB.trans (hB1.mono hsz))
  done
 |
  exact jE_):P:=h
theorem pL_ (h:P:=by
 clear hna
 first
 |
  go_wp2_with (first
  | (go_at_call 30;refine (HNM.out _).mono ?_;rintro e w' ⟨rfl,rfl⟩))
  go_ret
  exact r6_ HF.out HV.out de_ aF_
  done
 |
  go_wp2_with (first
   | (go_at_call 30;refine (HNM.out _).mono ?_;rintro e w' ⟨rfl,rfl⟩))
  exact jE_):P:=h
theorem amR_ (h:P:=by
 have HNM:=hd_ (fun w'=>n3_ t w' HTS.out)
 rw [hna] at HNM
 first
 |
  have HV:Hid (a8_ 2 t 0=5):=hd_ (by rw [HT3.out,if_neg de_,if_pos ⟨by decide,hna⟩])
  exact pL_
  done
 |
  have HV:Hid (a8_ 2 t 0=0):=hd_ (by rw [HT3.out,if_neg de_,if_neg (by rintro ⟨_,h⟩;rw [hna] at h;cases h)])
  exact pL_
  done
 |
  have HV:Hid (a8_ 3 t n=5):=hd_ (by rw [HT3.out,if_neg de_,if_pos ⟨by decide,hna⟩])
  exact pL_
  done
 |
  have HV:Hid (a8_ 3 t n=0):=hd_ (by rw [HT3.out,if_neg de_,if_neg (by rintro ⟨_,h⟩;rw [hna] at h;cases h)])
  exact pL_
  done
 |
  have HV:Hid (a8_ 7 t 0=5):=hd_ (by rw [HT3.out,if_neg de_,if_pos ⟨by decide,hna⟩])
  exact pL_
  done
 |
  have HV:Hid (a8_ 7 t 0=0):=hd_ (by rw [HT3.out,if_neg de_,if_neg (by rintro ⟨_,h⟩;rw [hna] at h;cases h)])
  exact pL_):P:=h
theorem abZ_ (h:P:=by
 cases hna:aY_ t with
 | false =>
  exact amR_
 | true =>
  exact amR_):P:=h
theorem amQ_ (h:P:=by
 have hsz:=hB.size
 first
 |
  by_cases hlt:k<p.length
  ·obtain ⟨b,off,Ak,ck,u,rfl,hb,hu,hc,hN,hS⟩:=HP.out.one hB hlt
   have HU:=hd_ hu;clear hu
   have hck:=w2_ u Ak ck wr hN hS
   by_cases h0:aM_ u=0
   ·rw [h0] at hck
    have HCK:=hd_ hck;clear hck
    obtain ⟨b2,off2,op,rfl,hb2,hin,d1⟩:=hN.first h0
    have hu0:=jN_ h0
    have H0:=hd_ h0;have HIN:=hd_ hin
    clear h0 hin hN hS
    cases k with
    | zero =>
     rw [Nat.add_zero] at hc
     have HNX:=hd_ (HA.out.next HU.out H0.out (by rw [HA.out.2.1 rfl];rfl))
     go_wp2_with (go_at_call 56;refine HCK.out.mono ?_;rintro e w1 ⟨rfl,hB1⟩;have e0:=(hB1.cell (p:=⟨b,off,none⟩) hb).trans hc;have e1:=(hB1.cell (p:=⟨b2,off2,none⟩) hb2).trans d1)
     exact jE_
    | succ j =>
     obtain ⟨b',off',Aj,cj,u',hq,hb',hu',hc',hN',hS'⟩:=HP.out.one hB (k:=j) om_
     cases hq
     obtain ⟨h0',hin'⟩:=HA.out.2.2 j u' rfl hu'
     obtain ⟨b3,off3,op',rfl,hb3,hin3,d1'⟩:=hN'.first h0'
     have hu0':=jN_ h0'
     have HPN:Hid (pn=decide (op'=9)):=hd_ (by rw [← hin',hin3])
     clear hin' hin3 h0' hu' hN' hS' hb'
     have k7:(j:Int)+1-1=(j:Int):=by omega
     have k8:IntKind.i64.wrap (j:Int)=(j:Int):=IntWalk.i64_in _ om_
     by_cases h9:op=9
     ·subst h9
      by_cases h9':op'=9
      ·subst h9'
       have HR:=hd_ (HA.out.two HU.out H0.out (by rw [HPN.out,HIN.out];rfl))
       exact abY_
      ·have h9b:(op'==9)=false:=by simpa using h9'
       have HNX:=hd_ (HA.out.next HU.out H0.out (by rw [HPN.out,decide_eq_false h9'];rfl))
       exact abY_
     ·have h9b:(op==9)=false:=by simpa using h9
      have HNX:=hd_ (HA.out.next HU.out H0.out (by rw [HIN.out,decide_eq_false h9,Bool.and_false]))
      exact abY_
   ·have HR:=hd_ (HA.out.bad HU.out h0)
    generalize hq:aM_ u=q at *
    have HCK:=hd_ hck;clear hck
    have hq0:(q==0)=false:=by simpa using h0
    have hq1:(q != 0)=true:=by simpa using h0
    clear h0 hN hS hq
    go_wp2_with (go_at_call 56;refine HCK.out.mono ?_;rintro e w1 ⟨rfl,hB1⟩)
    go_ret2
    exact gO_.of HR.out (hB.trans (hB1.mono hsz))
  ·have HR:Hid (cC_ p=(0,0)):=hd_ (by rw [HA.out.1,v6_ om_])
   go_wp2
   go_ret2
   exact gO_.of HR.out hB
  done
 |
  have htz:t.size<4294967281:=by have:=HSH.out _ (List.getElem_mem hlt);rw [hd] at this;exact this
  have HTS:=hd_ hts
  unfold maxLen at hts
  have HF:=hd_ (aa4_ h40 hlt hd HG.out)
  have HT:=hd_ (adQ_ HG.out hlt hd);clear HG hd
  by_cases ha:op<1
  ·have HV:Hid (a8_ op t n=1):=hd_ (gN_ (.inl ha))
   exact eT_
  by_cases hb9:9<op
  ·have HV:Hid (a8_ op t n=1):=hd_ (gN_ (.inr (.inl hb9)))
   exact eT_
  by_cases ho1:op=1
  ·subst ho1
   by_cases hn0:n<0
   ·have HV:Hid (a8_ 1 t n=1):=hd_ (gN_ (.inr (.inr ⟨by decide,.inl hn0⟩)))
    exact eT_
   by_cases hnm:999999<n
   ·have HV:Hid (a8_ 1 t n=1):=hd_ (gN_ (.inr (.inr ⟨by decide,.inr (by rw [show b5_ 1=999999 from rfl];exact hnm)⟩)))
    exact eT_
   have hN1:¬ ((1:Int)<1∨(9:Int)<1∨(0<=b5_ 1/\(n<0∨b5_ 1<n))):=by rw [show b5_ 1=999999 from rfl];omega
   have HN1:=hd_ hN1;clear hN1
   by_cases he:¬ t.toList=[]
   ·have HV:Hid (a8_ 1 t n=2):=hd_ (g4_ HN1.out (.inr ⟨by decide,he⟩))
    exact rT_
   have he:t.toList=[]:=Decidable.not_not.1 he
   refine x3_ ?_;intro k1
   have k2:decide (0<t.size)=false:=decide_eq_false (by have:=i7_ he;omega)
   have HV:Hid (a8_ 1 t n=0):=hd_ (by
    rw [g5_ HN1.out (by rintro (⟨h1,h2⟩|⟨h1,h2⟩);exact absurd h1 de_;exact h2 he),if_neg de_,if_neg (by rintro ⟨h,_⟩;exact absurd h de_)])
   clear he
   go_wp2
   exact jE_
  by_cases ho2:op=2
  ·subst ho2
   by_cases hn0:¬ n=0
   ·have hn1:(n != 0)=true:=by simpa using hn0
    have HV:Hid (a8_ 2 t n=2):=hd_ (g4_ (by rw [show b5_ 2=-1 from rfl];omega) (.inl ⟨by decide,hn0⟩))
    clear hn0
    exact eT_
   obtain rfl:n=0:=Decidable.not_not.1 hn0
   clear hn0
   have hN1:¬ ((2:Int)<1∨(9:Int)<2∨(0<=b5_ 2/\((0:Int)<0∨b5_ 2<0))):=by rw [show b5_ 2=-1 from rfl];omega
   have HN1:=hd_ hN1;clear hN1
   have HT3:Hid (a8_ 2 t 0=if (2:Int)=9 then cE_ (aJ_ t) else if dJ_ 2=true/\aY_ t=false then 5 else 0):=hd_ (g5_ HN1.out (by rintro (⟨h1,h2⟩|⟨h1,h2⟩);exact h2 rfl;exact absurd h1 de_))
   exact abZ_
  by_cases ho3:op=3
  ·subst ho3
   by_cases hn0:n<0
   ·have HV:Hid (a8_ 3 t n=1):=hd_ (gN_ (.inr (.inr ⟨by decide,.inl hn0⟩)))
    exact eT_
   by_cases hnm:6<n
   ·have HV:Hid (a8_ 3 t n=1):=hd_ (gN_ (.inr (.inr ⟨by decide,.inr (by rw [show b5_ 3=6 from rfl];exact hnm)⟩)))
    exact eT_
   have hN1:¬ ((3:Int)<1∨(9:Int)<3∨(0<=b5_ 3/\(n<0∨b5_ 3<n))):=by rw [show b5_ 3=6 from rfl];omega
   have HN1:=hd_ hN1;clear hN1
   have HT3:Hid (a8_ 3 t n=if (3:Int)=9 then cE_ (aJ_ t) else if dJ_ 3=true/\aY_ t=false then 5 else 0):=hd_ (g5_ HN1.out (by rintro (⟨h1,h2⟩|⟨h1,h2⟩);exact absurd h1 de_;exact absurd h1 de_))
   exact abZ_
  by_cases ho4:op=4
  ·subst ho4
   by_cases hn0:n<0
   ·have HV:Hid (a8_ 4 t n=1):=hd_ (gN_ (.inr (.inr ⟨by decide,.inl hn0⟩)))
    exact eT_
   by_cases hnm:6<n
   ·have HV:Hid (a8_ 4 t n=1):=hd_ (gN_ (.inr (.inr ⟨by decide,.inr (by rw [show b5_ 4=6 from rfl];exact hnm)⟩)))
    exact eT_
   have hN1:¬ ((4:Int)<1∨(9:Int)<4∨(0<=b5_ 4/\(n<0∨b5_ 4<n))):=by rw [show b5_ 4=6 from rfl];omega
   have HN1:=hd_ hN1;clear hN1
   by_cases he:¬ t.toList=[]
   ·have HV:Hid (a8_ 4 t n=2):=hd_ (g4_ HN1.out (.inr ⟨by decide,he⟩))
    exact rT_
   have he:t.toList=[]:=Decidable.not_not.1 he
   refine x3_ ?_;intro k1
   have k2:decide (0<t.size)=false:=decide_eq_false (by have:=i7_ he;omega)
   have HV:Hid (a8_ 4 t n=0):=hd_ (by
    rw [g5_ HN1.out (by rintro (⟨h1,h2⟩|⟨h1,h2⟩);exact absurd h1 de_;exact h2 he),if_neg de_,if_neg (by rintro ⟨h,_⟩;exact absurd h de_)])
   clear he
   go_wp2
   exact jE_
  by_cases ho5:op=5
  ·subst ho5
   by_cases hn0:¬ n=0
   ·have hn1:(n != 0)=true:=by simpa using hn0
    have HV:Hid (a8_ 5 t n=2):=hd_ (g4_ (by rw [show b5_ 5=-1 from rfl];omega) (.inl ⟨by decide,hn0⟩))
    clear hn0
    exact eT_
   obtain rfl:n=0:=Decidable.not_not.1 hn0
   clear hn0
   have hN1:¬ ((5:Int)<1∨(9:Int)<5∨(0<=b5_ 5/\((0:Int)<0∨b5_ 5<0))):=by rw [show b5_ 5=-1 from rfl];omega
   have HN1:=hd_ hN1;clear hN1
   by_cases he:¬ t.toList=[]
   ·have HV:Hid (a8_ 5 t 0=2):=hd_ (g4_ HN1.out (.inr ⟨by decide,he⟩))
    exact rT_
   have he:t.toList=[]:=Decidable.not_not.1 he
   refine x3_ ?_;intro k1
   have k2:decide (0<t.size)=false:=decide_eq_false (by have:=i7_ he;omega)
   have HV:Hid (a8_ 5 t 0=0):=hd_ (by
    rw [g5_ HN1.out (by rintro (⟨h1,h2⟩|⟨h1,h2⟩);exact h2 rfl;exact h2 he),if_neg de_,if_neg (by rintro ⟨h,_⟩;exact absurd h de_)])
   clear he
   go_wp2
   exact jE_
  by_cases ho6:op=6
  ·subst ho6
   by_cases hn0:¬ n=0
   ·have hn1:(n != 0)=true:=by simpa using hn0
    have HV:Hid (a8_ 6 t n=2):=hd_ (g4_ (by rw [show b5_ 6=-1 from rfl];omega) (.inl ⟨by decide,hn0⟩))
    clear hn0
    exact eT_
   obtain rfl:n=0:=Decidable.not_not.1 hn0
   clear hn0
   have hN1:¬ ((6:Int)<1∨(9:Int)<6∨(0<=b5_ 6/\((0:Int)<0∨b5_ 6<0))):=by rw [show b5_ 6=-1 from rfl];omega
   have HN1:=hd_ hN1;clear hN1
   by_cases he:¬ t.toList=[]
   ·have HV:Hid (a8_ 6 t 0=2):=hd_ (g4_ HN1.out (.inr ⟨by decide,he⟩))
    exact rT_
   have he:t.toList=[]:=Decidable.not_not.1 he
   refine x3_ ?_;intro k1
   have k2:decide (0<t.size)=false:=decide_eq_false (by have:=i7_ he;omega)
   have HV:Hid (a8_ 6 t 0=0):=hd_ (by
    rw [g5_ HN1.out (by rintro (⟨h1,h2⟩|⟨h1,h2⟩);exact h2 rfl;exact h2 he),if_neg de_,if_neg (by rintro ⟨h,_⟩;exact absurd h de_)])
   clear he
   go_wp2
   exact jE_
  by_cases ho7:op=7
  ·subst ho7
   by_cases hn0:¬ n=0
   ·have hn1:(n != 0)=true:=by simpa using hn0
    have HV:Hid (a8_ 7 t n=2):=hd_ (g4_ (by rw [show b5_ 7=-1 from rfl];omega) (.inl ⟨by decide,hn0⟩))
    clear hn0
    exact eT_
   obtain rfl:n=0:=Decidable.not_not.1 hn0
   clear hn0
   have hN1:¬ ((7:Int)<1∨(9:Int)<7∨(0<=b5_ 7/\((0:Int)<0∨b5_ 7<0))):=by rw [show b5_ 7=-1 from rfl];omega
   have HN1:=hd_ hN1;clear hN1
   have HT3:Hid (a8_ 7 t 0=if (7:Int)=9 then cE_ (aJ_ t) else if dJ_ 7=true/\aY_ t=false then 5 else 0):=hd_ (g5_ HN1.out (by rintro (⟨h1,h2⟩|⟨h1,h2⟩);exact h2 rfl;exact absurd h1 de_))
   exact abZ_
  by_cases ho8:op=8
  ·subst ho8
   by_cases hn0:¬ n=0
   ·have hn1:(n != 0)=true:=by simpa using hn0
    have HV:Hid (a8_ 8 t n=2):=hd_ (g4_ (by rw [show b5_ 8=-1 from rfl];omega) (.inl ⟨by decide,hn0⟩))
    clear hn0
    exact eT_
   obtain rfl:n=0:=Decidable.not_not.1 hn0
   clear hn0
   have hN1:¬ ((8:Int)<1∨(9:Int)<8∨(0<=b5_ 8/\((0:Int)<0∨b5_ 8<0))):=by rw [show b5_ 8=-1 from rfl];omega
   have HN1:=hd_ hN1;clear hN1
   by_cases he:¬ t.toList=[]
   ·have HV:Hid (a8_ 8 t 0=2):=hd_ (g4_ HN1.out (.inr ⟨by decide,he⟩))
    exact rT_
   have he:t.toList=[]:=Decidable.not_not.1 he
   refine x3_ ?_;intro k1
   have k2:decide (0<t.size)=false:=decide_eq_false (by have:=i7_ he;omega)
   have HV:Hid (a8_ 8 t 0=0):=hd_ (by
    rw [g5_ HN1.out (by rintro (⟨h1,h2⟩|⟨h1,h2⟩);exact h2 rfl;exact h2 he),if_neg de_,if_neg (by rintro ⟨h,_⟩;exact absurd h de_)])
   clear he
   go_wp2
   exact jE_
  obtain rfl:op=9:=by omega
  clear ho1 ho2 ho3 ho4 ho5 ho6 ho7 ho8
  by_cases hn0:¬ n=0
  ·have hn1:(n != 0)=true:=by simpa using hn0
   have HV:Hid (a8_ 9 t n=2):=hd_ (g4_ (by rw [show b5_ 9=-1 from rfl];omega) (.inl ⟨by decide,hn0⟩))
   clear hn0
   exact eT_
  obtain rfl:n=0:=Decidable.not_not.1 hn0
  clear hn0
  have hN1:¬ ((9:Int)<1∨(9:Int)<9∨(0<=b5_ 9/\((0:Int)<0∨b5_ 9<0))):=by rw [show b5_ 9=-1 from rfl];omega
  have HN1:=hd_ hN1;clear hN1
  have HT3:Hid (a8_ 9 t 0=if (9:Int)=9 then cE_ (aJ_ t) else if dJ_ 9=true/\aY_ t=false then 5 else 0):=hd_ (g5_ HN1.out (by rintro (⟨h1,h2⟩|⟨h1,h2⟩);exact h2 rfl;exact absurd h1 de_))
  obtain ⟨q,hq⟩:∃ q,cE_ (aJ_ t)=q:=⟨_,rfl⟩
  have HQ:=hd_ hq
  have HV:Hid (a8_ 9 t 0=q):=hd_ (by rw [HT3.out,if_pos rfl,hq])
  clear hq
  by_cases hq0:q=0
  ·subst hq0
   go_wp2_with (first
   | (go_at_call 28;refine (jS_ t _ htz).mono ?_;rintro e w1 ⟨A1,c1,rfl,htx,hB1⟩;have HTX:=hd_ htx;clear htx)
   | (go_at_call 108;refine (mH_ _ A1 _ c1 rfl _ HTX.out).mono ?_;rw [HQ.out];rintro e w2 ⟨rfl,rfl⟩))
   exact jE_
  ·have hq1:(q != 0)=true:=by simpa using hq0
   have HQ0:=hd_ hq0;clear hq0
   go_wp2_with (first
   | (go_at_call 28;refine (jS_ t _ htz).mono ?_;rintro e w1 ⟨A1,c1,rfl,htx,hB1⟩;have HTX:=hd_ htx;clear htx)
   | (go_at_call 108;refine (mH_ _ A1 _ c1 rfl _ HTX.out).mono ?_;rw [HQ.out];rintro e w2 ⟨rfl,rfl⟩))
   go_ret
   exact r6_ HF.out HV.out HQ0.out ((hB.alloc hsz _).trans (hB1.mono so_))):P:=h
theorem dq12 (h:P:=by
 have HST2:Hid (f5_ (l.drop (k+1)) (decide (k+1=0))=f5_ l true):=hd_ (by rw [HST.out];rfl)
 go_wp2
 exact jE_):P:=h
theorem amS_ (h:P:=by
 clear HGD HE
 go_wp2_with (go_at_call 59;refine (HCL.out _ HW.out).mono ?_;rintro e w1 ⟨rfl,hB1⟩)
 first
 |
  have HB1:=hd_ (hB.trans (hB1.mono hB.size));clear hB1
  go_loopw [8] (fun i wr=>∃ k:Nat,k<=l.length/\i=.int .i64 k/\f5_ (l.drop k) (decide (k=0))=f5_ l true/\Below w.heap.size w wr) (fun i _=>l.length-(intOf i).toNat)
  case atStart=>exact ⟨0,by omega,rfl,rfl,HB1.out⟩
  case round =>
   obtain ⟨k,hk,rfl,ht,hB2⟩:=hrel
   have HTP:=hd_ ht;clear ht
   by_cases hlt:k<l.length
   ·obtain ⟨b,off,op,t,n,rfl,hb,hd,hts,d1,d2,d3⟩:=HN.out.node hB2 hlt
    have hst:=pC_ hlt hd
    obtain ⟨b7,h7⟩:∃ b,decide (7<=op)=b:=⟨_,rfl⟩
    obtain ⟨b0,h0⟩:∃ b,((k:Int)==0)=b:=⟨_,rfl⟩
    have h0':decide (k=0)=b0:=by rw [← h0,Bool.eq_iff_iff,decide_eq_true_eq,beq_iff_eq];omega
    rw [HTP.out,h7,h0'] at hst
    have HST:=hd_ hst
    clear hst hd h0'
    cases b7 <;> cases b0
    ·exact dq12
    ·have HV2:Hid (aM_ l=2):=hd_ (by rw [HV.out,HST.out];rfl)
     exact eT_
    ·have HV2:Hid (aM_ l=2):=hd_ (by rw [HV.out,HST.out];rfl)
     exact eT_
    ·exact dq12
   ·have HV2:Hid (aM_ l=0):=hd_ (by rw [HV.out,← HTP.out,al8_ om_,if_pos rfl])
    exact eT_
  done
 |
  go_ret
  exact ⟨by rw [HV.out];rfl,hB.trans (hB1.mono hB.size)⟩):P:=h
theorem w2_ (l:List Nd) (A:Option Addr) (c:Nat) (w:World) (hl:Nds w w.heap.size A l) (hsh:dP_ l) :
  Calls Tryz.prog 56 #[.slice A l.length c] w (Ret w (.int .i64 (aM_ l))):=by
 have hm:=hl.2.1
 unfold maxLen at hm
 by_cases h40:40<l.length
 ·have h3:aM_ l=3:=by rw [aM_,if_pos h40]
  rw [h3]
  go_enter Tryz.func56,Tryz.ntmps56
  exact eT_
 ·have HN:=hd_ hl;clear hl
  have HSH:=hd_ hsh;clear hsh
  go_enter Tryz.func56,Tryz.ntmps56
  go_wp2
  go_loopw [3] (fun i wr=>∃ k:Nat,k<=l.length/\i=.int .i64 k/\(∀ d ∈ l.take k,a8_ d.op d.text d.n=0)/\Below w.heap.size w wr) (fun i _=>l.length-(intOf i).toNat)
  case atStart=>exact ⟨0,by omega,rfl,by simp,Below.refl _ _⟩
  case round =>
   obtain ⟨k,hk,rfl,hg,hB⟩:=hrel
   have HG:=hd_ hg;clear hg
   by_cases hlt:k<l.length
   ·obtain ⟨b,off,op,t,n,rfl,hb,hd,hts,d1,d2,d3⟩:=HN.out.node hB hlt
    exact amQ_
   ·have hk':k=l.length:=by omega
    subst hk'
    have hga:=ahF_ HG.out
    have hgd:=sQ_ h40 hga
    have hcall:∀ w':World,Nds w' w'.heap.size A l->Calls Tryz.prog 59 #[.slice A l.length c,.int .i64 0] w' (Ret w' (.int .i64 (opT (eoT l l.length 0)))):=fun w' hw=>x4_ l A c hga l.length 0 w' hw om_ om_
    have hev:=ao5_ l
    generalize opT (eoT l l.length 0)=ev at hcall hev
    have HW:=hd_ (HN.out.past hB)
    have HCL:=hd_ hcall;have HE:=hd_ hev;have HGD:=hd_ hgd
    clear hcall hev hgd hga HG
    by_cases hl0:l.length=0
    ·have HV:Hid (aM_ l=2):=hd_ (by rw [HGD.out,if_neg];rintro ⟨h,_⟩;rw [List.length_eq_zero_iff.1 hl0] at h;cases h)
     have hz:((l.length:Int)==0)=true:=by rw [beq_iff_eq];omega
     exact eT_
    have hz:((l.length:Int)==0)=false:=by rw [beq_eq_false_iff_ne];omega
    by_cases hel:ev=l.length
    ·have HS:=hd_ (HE.out.1 hel)
     subst hel
     have HV:Hid (aM_ l=if f5_ l true=true then 0 else 2):=hd_ (by rw [HGD.out];simp only [HS.out,true_and])
     exact amS_
    ·have HV:Hid (aM_ l=2):=hd_ (by rw [HGD.out,if_neg];rintro ⟨h,_⟩;exact hel (HE.out.2 h))
     have hne:(ev != (l.length:Int))=true:=by simpa using hel
     exact amS_
def gO_ (p:List (List Nd)) (w:World) (e:Ending) (w':World):Prop:=e=.returned (.tuple #[.int .i64 (cC_ p).1,.int .i64 (cC_ p).2])/\Below w.heap.size w w'
theorem gO_.of {p:List (List Nd)} {w w':World} {i:Nat} {k:Int} (h:cC_ p=(i,k)) (hb:Below w.heap.size w w'):gO_ p w (.returned (.tuple #[.int .i64 i,.int .i64 k])) w':=by
 unfold gO_;rw [h];exact ⟨rfl,hb⟩
theorem w0_ (p:List (List Nd)) (A:Option Addr) (c:Nat) (w:World) (hp:Prg w w.heap.size A p) :
  Calls Tryz.prog 33 #[.slice A p.length c] w (gO_ p w):=by
 have hml:=hp.le
 unfold maxLen at hml
 by_cases h20:20<p.length
 ·have hF:cC_ p=(0,3):=by rw [cC_,if_pos h20]
  have HF:=hd_ hF;clear hF
  go_enter Tryz.func33,Tryz.ntmps33
  go_wp2
  go_ret2
  exact gO_.of HF.out (Below.refl _ _)
 ·have hF:i9_ p 0 false:=⟨by rw [cC_,if_neg h20];rfl,fun _=>rfl,fun j u h=>by cases h⟩
  have HF:=hd_ hF;clear hF
  have HP:=hd_ hp;clear hp
  go_enter Tryz.func33,Tryz.ntmps33
  go_wp2
  go_loopw [4] (fun i wr=>∃ (k:Nat) (pn:Bool),k<=p.length/\i=.int .i64 k/\i9_ p k pn/\Below w.heap.size w wr) (fun i _=>p.length-(intOf i).toNat)
  case atStart=>exact ⟨0,false,by omega,rfl,HF.out,Below.refl _ _⟩
  case round =>
   obtain ⟨k,pn,hk,rfl,ha,hB⟩:=hrel
   have HA:=hd_ ha;clear ha
   exact amQ_
end Go.Proofs.YtddfdmopaeghnadGreatDoor
