/- Walk of the reference's TreeFault (printed by wip/gentf. With what it rests on. Conditions: as each theorem states them. -/
import Derived.Test.YtddfdmopaeghnacGreatDoorLqLo
import Derived.Test.YtddfdmopaeghnacGreatDoorLqTr
set_option maxRecDepth 100000
set_option maxHeartbeats 16000000
namespace Go.Proofs.YtddfdmopaeghnacGreatDoor
open Go.RowKit
theorem d2_ {w w':World} {l:List Nd} {op n v:Int} {t:ByteArray} (hs:a8_ op t n≠0->aY_ l=a8_ op t n) (hv:a8_ op t n=v) (h0:v≠0) (hb:Below w.heap.size w w') :
  Ret w (.int .i64 (aY_ l)) (.returned (.int .i64 v)) w':=by
 rw [hs (by rw [hv];exact h0),hv];exact ⟨rfl,hb⟩
theorem vH_ {t:ByteArray} (h:t.toList≠[]):0<t.size:=by
 rcases Nat.lt_or_ge 0 t.size with h1|h1
 ·exact h1
 ·exact absurd (by simpa using kG_.2 (show t.size<1 by omega)) h
theorem eT_ {t:ByteArray} (h:t.toList=[]):t.size=0:=by
 have:=kG_.1 (show t.toList.isEmpty=true by simp [h]);omega
theorem acN_ {l:List Nd} (h:∀ d ∈ l.take l.length,a8_ d.op d.text d.n=0):∀ d ∈ l,a8_ d.op d.text d.n=0:=by rwa [List.take_length] at h
theorem uV_ {P:Prop} (h:P:=by
 have k1:decide ((0:Int)<(t.size:Int))=true:=decide_eq_true (by have:=vH_ he;omega)
 have k2:decide (0<t.size)=true:=decide_eq_true (vH_ he)
 clear he
 go_wp2
 go_ret
 exact d2_ HF.out HV.out (by decide) aA_):P:=h
theorem qZ_ {P:Prop} (h:P:=by
 go_roundw
 case measure=>simp [intOf];omega
 case rel=>exact ⟨k+1,by omega,by go_num,HT.out HV.out,aA_⟩):P:=h
theorem lq95 {P:Prop} (h:P:=by
 clear hna
 go_wp2_with (first
 | (go_at_call 60;refine (HNM.out _).mono ?_;rintro e w' ⟨rfl,rfl⟩))
 go_ret
 exact d2_ HF.out HV.out (by decide) aA_):P:=h
theorem lq96 {P:Prop} (h:P:=by
 clear hna
 go_wp2_with (first
  | (go_at_call 60;refine (HNM.out _).mono ?_;rintro e w' ⟨rfl,rfl⟩))
 exact qZ_):P:=h
theorem lq97 {P:Prop} (h:P:=by
 have HST2:Hid (eO_ (l.drop (k+1)) (decide (k+1=0))=eO_ l true):=hd_ (by rw [HST.out];rfl)
 go_wp2
 go_roundw
 case measure=>simp [intOf];omega
 case rel=>exact ⟨k+1,by omega,by go_num,HST2.out,aA_⟩):P:=h
theorem lq98 {P:Prop} (h:P:=by
 have HV2:Hid (aY_ l=2):=hd_ (by rw [HV.out,HST.out];rfl)
 go_wp2
 go_ret
 exact ⟨by rw [HV2.out];rfl,aA_⟩):P:=h
theorem tH_ (l:List Nd) (A:Option Addr) (c:Nat) (w:World) (hl:Nds w w.heap.size A l) (hsh:d6_ l) :
  Calls Tryz.prog 20 #[.slice A l.length c] w (Ret w (.int .i64 (aY_ l))):=by
 have hm:=hl.2.1
 unfold maxLen at hm
 by_cases h40:40<l.length
 ·have h3:aY_ l=3:=by rw [aY_,if_pos h40]
  rw [h3]
  go_enter Tryz.func20,Tryz.ntmps20
  go_wp2
  go_ret
  exact ⟨rfl,Below.refl _ _⟩
 ·have HN:=hd_ hl;clear hl
  have HSH:=hd_ hsh;clear hsh
  go_enter Tryz.func20,Tryz.ntmps20
  go_wp2
  go_loopw [3] (fun i wr=>∃ k:Nat,k<=l.length/\i=.int .i64 k/\(∀ d ∈ l.take k,a8_ d.op d.text d.n=0)/\Below w.heap.size w wr) (fun i _=>l.length-(intOf i).toNat)
  case atStart=>exact ⟨0,by omega,rfl,by simp,Below.refl _ _⟩
  case round =>
   obtain ⟨k,hk,rfl,hg,hB⟩:=hrel
   have HG:=hd_ hg;clear hg
   by_cases hlt:k<l.length
   ·obtain ⟨b,off,op,t,n,rfl,hb,hd,hts,d1,d2,d3⟩:=HN.out.node hB hlt
    have hsz:=hB.size
    have htz:t.size<4294967281:=by have:=HSH.out _ (List.getElem_mem hlt);rw [hd] at this;exact this
    have HTS:=hd_ hts
    unfold maxLen at hts
    have HF:=hd_ (x5_ h40 hlt hd HG.out)
    have HT:=hd_ (zM_ HG.out hlt hd);clear HG hd
    by_cases ha:op<1
    ·have HV:Hid (a8_ op t n=1):=hd_ (gB_ (.inl ha))
     go_wp2
     go_ret
     exact d2_ HF.out HV.out (by decide) aA_
    by_cases hb9:9<op
    ·have HV:Hid (a8_ op t n=1):=hd_ (gB_ (.inr (.inl hb9)))
     go_wp2
     go_ret
     exact d2_ HF.out HV.out (by decide) aA_
    by_cases ho1:op=1
    ·subst ho1
     by_cases hn0:n<0
     ·have HV:Hid (a8_ 1 t n=1):=hd_ (gB_ (.inr (.inr ⟨by decide,.inl hn0⟩)))
      go_wp2
      go_ret
      exact d2_ HF.out HV.out (by decide) aA_
     by_cases hnm:999999<n
     ·have HV:Hid (a8_ 1 t n=1):=hd_ (gB_ (.inr (.inr ⟨by decide,.inr (by rw [show b4_ 1=999999 from rfl];exact hnm)⟩)))
      go_wp2
      go_ret
      exact d2_ HF.out HV.out (by decide) aA_
     have hN1:¬ ((1:Int)<1∨(9:Int)<1∨(0<=b4_ 1/\(n<0∨b4_ 1<n))):=by rw [show b4_ 1=999999 from rfl];omega
     have HN1:=hd_ hN1;clear hN1
     by_cases he:¬ t.toList=[]
     ·have HV:Hid (a8_ 1 t n=2):=hd_ (fR_ HN1.out (.inr ⟨by decide,he⟩))
      exact uV_
     have he:t.toList=[]:=Decidable.not_not.1 he
     have k1:decide ((0:Int)<(t.size:Int))=false:=decide_eq_false (by have:=eT_ he;omega)
     have k2:decide (0<t.size)=false:=decide_eq_false (by have:=eT_ he;omega)
     have HV:Hid (a8_ 1 t n=0):=hd_ (by
      rw [fS_ HN1.out (by rintro (⟨h1,h2⟩|⟨h1,h2⟩);exact absurd h1 (by decide);exact h2 he),if_neg (by decide),if_neg (by rintro ⟨h,_⟩;exact absurd h (by decide))])
     clear he
     go_wp2
     exact qZ_
    by_cases ho2:op=2
    ·subst ho2
     by_cases hn0:¬ n=0
     ·have hn1:(n != 0)=true:=by simpa using hn0
      have HV:Hid (a8_ 2 t n=2):=hd_ (fR_ (by rw [show b4_ 2=-1 from rfl];omega) (.inl ⟨by decide,hn0⟩))
      clear hn0
      go_wp2
      go_ret
      exact d2_ HF.out HV.out (by decide) aA_
     obtain rfl:n=0:=Decidable.not_not.1 hn0
     clear hn0
     have hN1:¬ ((2:Int)<1∨(9:Int)<2∨(0<=b4_ 2/\((0:Int)<0∨b4_ 2<0))):=by rw [show b4_ 2=-1 from rfl];omega
     have HN1:=hd_ hN1;clear hN1
     have HT3:Hid (a8_ 2 t 0=if (2:Int)=9 then cL_ (aS_ t) else if dP_ 2=true/\b1_ t=false then 5 else 0):=hd_ (fS_ HN1.out (by rintro (⟨h1,h2⟩|⟨h1,h2⟩);exact h2 rfl;exact absurd h1 (by decide)))
     cases hna:b1_ t with
     | false =>
      have HNM:=hd_ (fun w'=>f1_ t w' HTS.out)
      rw [hna] at HNM
      have HV:Hid (a8_ 2 t 0=5):=hd_ (by rw [HT3.out,if_neg (by decide),if_pos ⟨by decide,hna⟩])
      exact lq95
     | true =>
      have HNM:=hd_ (fun w'=>f1_ t w' HTS.out)
      rw [hna] at HNM
      have HV:Hid (a8_ 2 t 0=0):=hd_ (by rw [HT3.out,if_neg (by decide),if_neg (by rintro ⟨_,h⟩;rw [hna] at h;cases h)])
      exact lq96
    by_cases ho3:op=3
    ·subst ho3
     by_cases hn0:n<0
     ·have HV:Hid (a8_ 3 t n=1):=hd_ (gB_ (.inr (.inr ⟨by decide,.inl hn0⟩)))
      go_wp2
      go_ret
      exact d2_ HF.out HV.out (by decide) aA_
     by_cases hnm:6<n
     ·have HV:Hid (a8_ 3 t n=1):=hd_ (gB_ (.inr (.inr ⟨by decide,.inr (by rw [show b4_ 3=6 from rfl];exact hnm)⟩)))
      go_wp2
      go_ret
      exact d2_ HF.out HV.out (by decide) aA_
     have hN1:¬ ((3:Int)<1∨(9:Int)<3∨(0<=b4_ 3/\(n<0∨b4_ 3<n))):=by rw [show b4_ 3=6 from rfl];omega
     have HN1:=hd_ hN1;clear hN1
     have HT3:Hid (a8_ 3 t n=if (3:Int)=9 then cL_ (aS_ t) else if dP_ 3=true/\b1_ t=false then 5 else 0):=hd_ (fS_ HN1.out (by rintro (⟨h1,h2⟩|⟨h1,h2⟩);exact absurd h1 (by decide);exact absurd h1 (by decide)))
     cases hna:b1_ t with
     | false =>
      have HNM:=hd_ (fun w'=>f1_ t w' HTS.out)
      rw [hna] at HNM
      have HV:Hid (a8_ 3 t n=5):=hd_ (by rw [HT3.out,if_neg (by decide),if_pos ⟨by decide,hna⟩])
      exact lq95
     | true =>
      have HNM:=hd_ (fun w'=>f1_ t w' HTS.out)
      rw [hna] at HNM
      have HV:Hid (a8_ 3 t n=0):=hd_ (by rw [HT3.out,if_neg (by decide),if_neg (by rintro ⟨_,h⟩;rw [hna] at h;cases h)])
      exact lq96
    by_cases ho4:op=4
    ·subst ho4
     by_cases hn0:n<0
     ·have HV:Hid (a8_ 4 t n=1):=hd_ (gB_ (.inr (.inr ⟨by decide,.inl hn0⟩)))
      go_wp2
      go_ret
      exact d2_ HF.out HV.out (by decide) aA_
     by_cases hnm:6<n
     ·have HV:Hid (a8_ 4 t n=1):=hd_ (gB_ (.inr (.inr ⟨by decide,.inr (by rw [show b4_ 4=6 from rfl];exact hnm)⟩)))
      go_wp2
      go_ret
      exact d2_ HF.out HV.out (by decide) aA_
     have hN1:¬ ((4:Int)<1∨(9:Int)<4∨(0<=b4_ 4/\(n<0∨b4_ 4<n))):=by rw [show b4_ 4=6 from rfl];omega
     have HN1:=hd_ hN1;clear hN1
     by_cases he:¬ t.toList=[]
     ·have HV:Hid (a8_ 4 t n=2):=hd_ (fR_ HN1.out (.inr ⟨by decide,he⟩))
      exact uV_
     have he:t.toList=[]:=Decidable.not_not.1 he
     have k1:decide ((0:Int)<(t.size:Int))=false:=decide_eq_false (by have:=eT_ he;omega)
     have k2:decide (0<t.size)=false:=decide_eq_false (by have:=eT_ he;omega)
     have HV:Hid (a8_ 4 t n=0):=hd_ (by
      rw [fS_ HN1.out (by rintro (⟨h1,h2⟩|⟨h1,h2⟩);exact absurd h1 (by decide);exact h2 he),if_neg (by decide),if_neg (by rintro ⟨h,_⟩;exact absurd h (by decide))])
     clear he
     go_wp2
     exact qZ_
    by_cases ho5:op=5
    ·subst ho5
     by_cases hn0:¬ n=0
     ·have hn1:(n != 0)=true:=by simpa using hn0
      have HV:Hid (a8_ 5 t n=2):=hd_ (fR_ (by rw [show b4_ 5=-1 from rfl];omega) (.inl ⟨by decide,hn0⟩))
      clear hn0
      go_wp2
      go_ret
      exact d2_ HF.out HV.out (by decide) aA_
     obtain rfl:n=0:=Decidable.not_not.1 hn0
     clear hn0
     have hN1:¬ ((5:Int)<1∨(9:Int)<5∨(0<=b4_ 5/\((0:Int)<0∨b4_ 5<0))):=by rw [show b4_ 5=-1 from rfl];omega
     have HN1:=hd_ hN1;clear hN1
     by_cases he:¬ t.toList=[]
     ·have HV:Hid (a8_ 5 t 0=2):=hd_ (fR_ HN1.out (.inr ⟨by decide,he⟩))
      exact uV_
     have he:t.toList=[]:=Decidable.not_not.1 he
     have k1:decide ((0:Int)<(t.size:Int))=false:=decide_eq_false (by have:=eT_ he;omega)
     have k2:decide (0<t.size)=false:=decide_eq_false (by have:=eT_ he;omega)
     have HV:Hid (a8_ 5 t 0=0):=hd_ (by
      rw [fS_ HN1.out (by rintro (⟨h1,h2⟩|⟨h1,h2⟩);exact h2 rfl;exact h2 he),if_neg (by decide),if_neg (by rintro ⟨h,_⟩;exact absurd h (by decide))])
     clear he
     go_wp2
     exact qZ_
    by_cases ho6:op=6
    ·subst ho6
     by_cases hn0:¬ n=0
     ·have hn1:(n != 0)=true:=by simpa using hn0
      have HV:Hid (a8_ 6 t n=2):=hd_ (fR_ (by rw [show b4_ 6=-1 from rfl];omega) (.inl ⟨by decide,hn0⟩))
      clear hn0
      go_wp2
      go_ret
      exact d2_ HF.out HV.out (by decide) aA_
     obtain rfl:n=0:=Decidable.not_not.1 hn0
     clear hn0
     have hN1:¬ ((6:Int)<1∨(9:Int)<6∨(0<=b4_ 6/\((0:Int)<0∨b4_ 6<0))):=by rw [show b4_ 6=-1 from rfl];omega
     have HN1:=hd_ hN1;clear hN1
     by_cases he:¬ t.toList=[]
     ·have HV:Hid (a8_ 6 t 0=2):=hd_ (fR_ HN1.out (.inr ⟨by decide,he⟩))
      exact uV_
     have he:t.toList=[]:=Decidable.not_not.1 he
     have k1:decide ((0:Int)<(t.size:Int))=false:=decide_eq_false (by have:=eT_ he;omega)
     have k2:decide (0<t.size)=false:=decide_eq_false (by have:=eT_ he;omega)
     have HV:Hid (a8_ 6 t 0=0):=hd_ (by
      rw [fS_ HN1.out (by rintro (⟨h1,h2⟩|⟨h1,h2⟩);exact h2 rfl;exact h2 he),if_neg (by decide),if_neg (by rintro ⟨h,_⟩;exact absurd h (by decide))])
     clear he
     go_wp2
     exact qZ_
    by_cases ho7:op=7
    ·subst ho7
     by_cases hn0:¬ n=0
     ·have hn1:(n != 0)=true:=by simpa using hn0
      have HV:Hid (a8_ 7 t n=2):=hd_ (fR_ (by rw [show b4_ 7=-1 from rfl];omega) (.inl ⟨by decide,hn0⟩))
      clear hn0
      go_wp2
      go_ret
      exact d2_ HF.out HV.out (by decide) aA_
     obtain rfl:n=0:=Decidable.not_not.1 hn0
     clear hn0
     have hN1:¬ ((7:Int)<1∨(9:Int)<7∨(0<=b4_ 7/\((0:Int)<0∨b4_ 7<0))):=by rw [show b4_ 7=-1 from rfl];omega
     have HN1:=hd_ hN1;clear hN1
     have HT3:Hid (a8_ 7 t 0=if (7:Int)=9 then cL_ (aS_ t) else if dP_ 7=true/\b1_ t=false then 5 else 0):=hd_ (fS_ HN1.out (by rintro (⟨h1,h2⟩|⟨h1,h2⟩);exact h2 rfl;exact absurd h1 (by decide)))
     cases hna:b1_ t with
     | false =>
      have HNM:=hd_ (fun w'=>f1_ t w' HTS.out)
      rw [hna] at HNM
      have HV:Hid (a8_ 7 t 0=5):=hd_ (by rw [HT3.out,if_neg (by decide),if_pos ⟨by decide,hna⟩])
      exact lq95
     | true =>
      have HNM:=hd_ (fun w'=>f1_ t w' HTS.out)
      rw [hna] at HNM
      have HV:Hid (a8_ 7 t 0=0):=hd_ (by rw [HT3.out,if_neg (by decide),if_neg (by rintro ⟨_,h⟩;rw [hna] at h;cases h)])
      exact lq96
    by_cases ho8:op=8
    ·subst ho8
     by_cases hn0:¬ n=0
     ·have hn1:(n != 0)=true:=by simpa using hn0
      have HV:Hid (a8_ 8 t n=2):=hd_ (fR_ (by rw [show b4_ 8=-1 from rfl];omega) (.inl ⟨by decide,hn0⟩))
      clear hn0
      go_wp2
      go_ret
      exact d2_ HF.out HV.out (by decide) aA_
     obtain rfl:n=0:=Decidable.not_not.1 hn0
     clear hn0
     have hN1:¬ ((8:Int)<1∨(9:Int)<8∨(0<=b4_ 8/\((0:Int)<0∨b4_ 8<0))):=by rw [show b4_ 8=-1 from rfl];omega
     have HN1:=hd_ hN1;clear hN1
     by_cases he:¬ t.toList=[]
     ·have HV:Hid (a8_ 8 t 0=2):=hd_ (fR_ HN1.out (.inr ⟨by decide,he⟩))
      exact uV_
     have he:t.toList=[]:=Decidable.not_not.1 he
     have k1:decide ((0:Int)<(t.size:Int))=false:=decide_eq_false (by have:=eT_ he;omega)
     have k2:decide (0<t.size)=false:=decide_eq_false (by have:=eT_ he;omega)
     have HV:Hid (a8_ 8 t 0=0):=hd_ (by
      rw [fS_ HN1.out (by rintro (⟨h1,h2⟩|⟨h1,h2⟩);exact h2 rfl;exact h2 he),if_neg (by decide),if_neg (by rintro ⟨h,_⟩;exact absurd h (by decide))])
     clear he
     go_wp2
     exact qZ_
    obtain rfl:op=9:=by omega
    clear ho1 ho2 ho3 ho4 ho5 ho6 ho7 ho8
    by_cases hn0:¬ n=0
    ·have hn1:(n != 0)=true:=by simpa using hn0
     have HV:Hid (a8_ 9 t n=2):=hd_ (fR_ (by rw [show b4_ 9=-1 from rfl];omega) (.inl ⟨by decide,hn0⟩))
     clear hn0
     go_wp2
     go_ret
     exact d2_ HF.out HV.out (by decide) aA_
    obtain rfl:n=0:=Decidable.not_not.1 hn0
    clear hn0
    have hN1:¬ ((9:Int)<1∨(9:Int)<9∨(0<=b4_ 9/\((0:Int)<0∨b4_ 9<0))):=by rw [show b4_ 9=-1 from rfl];omega
    have HN1:=hd_ hN1;clear hN1
    have HT3:Hid (a8_ 9 t 0=if (9:Int)=9 then cL_ (aS_ t) else if dP_ 9=true/\b1_ t=false then 5 else 0):=hd_ (fS_ HN1.out (by rintro (⟨h1,h2⟩|⟨h1,h2⟩);exact h2 rfl;exact absurd h1 (by decide)))
    obtain ⟨q,hq⟩:∃ q,cL_ (aS_ t)=q:=⟨_,rfl⟩
    have HQ:=hd_ hq
    have HV:Hid (a8_ 9 t 0=q):=hd_ (by rw [HT3.out,if_pos rfl,hq])
    clear hq
    by_cases hq0:q=0
    ·subst hq0
     go_wp2_with (first
     | (go_at_call 59;refine (j6_ t _ htz).mono ?_;rintro e w1 ⟨A1,c1,rfl,htx,hB1⟩;have HTX:=hd_ htx;clear htx)
     | (go_at_call 58;refine (lD_ _ A1 _ c1 rfl _ HTX.out).mono ?_;rw [HQ.out];rintro e w2 ⟨rfl,rfl⟩))
     go_roundw
     case measure=>simp [intOf];omega
     case rel=>exact ⟨k+1,by omega,by go_num,HT.out HV.out,(hB.alloc hsz _).trans (hB1.mono (by simp;omega))⟩
    ·have hq1:(q != 0)=true:=by simpa using hq0
     have HQ0:=hd_ hq0;clear hq0
     go_wp2_with (first
     | (go_at_call 59;refine (j6_ t _ htz).mono ?_;rintro e w1 ⟨A1,c1,rfl,htx,hB1⟩;have HTX:=hd_ htx;clear htx)
     | (go_at_call 58;refine (lD_ _ A1 _ c1 rfl _ HTX.out).mono ?_;rw [HQ.out];rintro e w2 ⟨rfl,rfl⟩))
     go_ret
     exact d2_ HF.out HV.out HQ0.out ((hB.alloc hsz _).trans (hB1.mono (by simp;omega)))
   ·have hk':k=l.length:=by omega
    subst hk'
    have hga:=acN_ HG.out
    have hgd:=qK_ h40 hga
    have hcall:∀ w':World,Nds w' w'.heap.size A l->Calls Tryz.prog 61 #[.slice A l.length c,.int .i64 0] w' (Ret w' (.int .i64 (opT (eoT l l.length 0)))):=fun w' hw=>uB_ l A c hga l.length 0 w' hw (by omega) (by omega)
    have hev:=ag9_ l
    generalize opT (eoT l l.length 0)=ev at hcall hev
    have HW:=hd_ (HN.out.past hB)
    have HCL:=hd_ hcall;have HE:=hd_ hev;have HGD:=hd_ hgd
    clear hcall hev hgd hga HG
    by_cases hl0:l.length=0
    ·have HV:Hid (aY_ l=2):=hd_ (by rw [HGD.out,if_neg];rintro ⟨h,_⟩;rw [List.length_eq_zero_iff.1 hl0] at h;cases h)
     have hz:((l.length:Int)==0)=true:=by rw [beq_iff_eq];omega
     go_wp2
     go_ret
     exact ⟨by rw [HV.out];rfl,aA_⟩
    have hz:((l.length:Int)==0)=false:=by rw [beq_eq_false_iff_ne];omega
    by_cases hel:ev=l.length
    ·have HS:=hd_ (HE.out.1 hel)
     subst hel
     have HV:Hid (aY_ l=if eO_ l true=true then 0 else 2):=hd_ (by rw [HGD.out];simp only [HS.out,true_and])
     clear HGD HE
     go_wp2_with (go_at_call 61;refine (HCL.out _ HW.out).mono ?_;rintro e w1 ⟨rfl,hB1⟩)
     have HB1:=hd_ (hB.trans (hB1.mono hB.size));clear hB1
     go_loopw [8] (fun i wr=>∃ k:Nat,k<=l.length/\i=.int .i64 k/\eO_ (l.drop k) (decide (k=0))=eO_ l true/\Below w.heap.size w wr) (fun i _=>l.length-(intOf i).toNat)
     case atStart=>exact ⟨0,by omega,rfl,rfl,HB1.out⟩
     case round =>
      obtain ⟨k,hk,rfl,ht,hB2⟩:=hrel
      have HTP:=hd_ ht;clear ht
      by_cases hlt:k<l.length
      ·obtain ⟨b,off,op,t,n,rfl,hb,hd,hts,d1,d2,d3⟩:=HN.out.node hB2 hlt
       have hst:=nV_ hlt hd
       obtain ⟨b7,h7⟩:∃ b,decide (7<=op)=b:=⟨_,rfl⟩
       obtain ⟨b0,h0⟩:∃ b,((k:Int)==0)=b:=⟨_,rfl⟩
       have h0':decide (k=0)=b0:=by rw [← h0,Bool.eq_iff_iff,decide_eq_true_eq,beq_iff_eq];omega
       rw [HTP.out,h7,h0'] at hst
       have HST:=hd_ hst
       clear hst hd h0'
       cases b7 <;> cases b0
       ·exact lq97
       ·exact lq98
       ·exact lq98
       ·exact lq97
      ·have HV2:Hid (aY_ l=0):=hd_ (by rw [HV.out,← HTP.out,af5_ (by omega),if_pos rfl])
       go_wp2
       go_ret
       exact ⟨by rw [HV2.out];rfl,aA_⟩
    ·have HV:Hid (aY_ l=2):=hd_ (by rw [HGD.out,if_neg];rintro ⟨h,_⟩;exact hel (HE.out.2 h))
     have hne:(ev != (l.length:Int))=true:=by simpa using hel
     clear HGD HE
     go_wp2_with (go_at_call 61;refine (HCL.out _ HW.out).mono ?_;rintro e w1 ⟨rfl,hB1⟩)
     go_ret
     exact ⟨by rw [HV.out];rfl,hB.trans (hB1.mono hB.size)⟩
def gC_ (p:List (List Nd)) (w:World) (e:Ending) (w':World):Prop:=e=.returned (.tuple #[.int .i64 (c1_ p).1,.int .i64 (c1_ p).2])/\Below w.heap.size w w'
theorem gC_.of {p:List (List Nd)} {w w':World} {i:Nat} {k:Int} (h:c1_ p=(i,k)) (hb:Below w.heap.size w w'):gC_ p w (.returned (.tuple #[.int .i64 i,.int .i64 k])) w':=by
 unfold gC_;rw [h];exact ⟨rfl,hb⟩
theorem lq94 {P:Prop} (h:P:=by
 go_wp2_with (go_at_call 20;refine HCK.out.mono ?_;rintro e w1 ⟨rfl,hB1⟩;have e0:=(hB1.cell (p:=⟨b,off+(j+1),none⟩) hb).trans hc;have e1:=(hB1.cell (p:=⟨b2,off2,none⟩) hb2).trans d1;have e2:=(hB1.cell (p:=⟨b,off+j,none⟩) hb).trans hc';have e3:=(hB1.cell (p:=⟨b3,off3,none⟩) hb3).trans d1')
 go_roundw
 case measure=>simp [intOf];omega
 case rel=>exact ⟨j+1+1,_,by omega,by go_num,HNX.out,hB.trans (hB1.mono hsz)⟩):P:=h
theorem tF_ (p:List (List Nd)) (A:Option Addr) (c:Nat) (w:World) (hp:Prg w w.heap.size A p) :
  Calls Tryz.prog 23 #[.slice A p.length c] w (gC_ p w):=by
 have hml:=hp.le
 unfold maxLen at hml
 by_cases h20:20<p.length
 ·have hF:c1_ p=(0,3):=by rw [c1_,if_pos h20]
  have HF:=hd_ hF;clear hF
  go_enter Tryz.func23,Tryz.ntmps23
  go_wp2
  go_ret2
  exact gC_.of HF.out (Below.refl _ _)
 ·have hF:hV_ p 0 false:=⟨by rw [c1_,if_neg h20];rfl,fun _=>rfl,fun j u h=>by cases h⟩
  have HF:=hd_ hF;clear hF
  have HP:=hd_ hp;clear hp
  go_enter Tryz.func23,Tryz.ntmps23
  go_wp2
  go_loopw [4] (fun i wr=>∃ (k:Nat) (pn:Bool),k<=p.length/\i=.int .i64 k/\hV_ p k pn/\Below w.heap.size w wr) (fun i _=>p.length-(intOf i).toNat)
  case atStart=>exact ⟨0,false,by omega,rfl,HF.out,Below.refl _ _⟩
  case round =>
   obtain ⟨k,pn,hk,rfl,ha,hB⟩:=hrel
   have HA:=hd_ ha;clear ha
   have hsz:=hB.size
   by_cases hlt:k<p.length
   ·obtain ⟨b,off,Ak,ck,u,rfl,hb,hu,hc,hN,hS⟩:=HP.out.one hB hlt
    have HU:=hd_ hu;clear hu
    have hck:=tH_ u Ak ck wr hN hS
    by_cases h0:aY_ u=0
    ·rw [h0] at hck
     have HCK:=hd_ hck;clear hck
     obtain ⟨b2,off2,op,rfl,hb2,hin,d1⟩:=hN.first h0
     have hu0:=j1_ h0
     have H0:=hd_ h0;have HIN:=hd_ hin
     clear h0 hin hN hS
     cases k with
     | zero =>
      rw [Nat.add_zero] at hc
      have HNX:=hd_ (HA.out.next HU.out H0.out (by rw [HA.out.2.1 rfl];rfl))
      go_wp2_with (go_at_call 20;refine HCK.out.mono ?_;rintro e w1 ⟨rfl,hB1⟩;have e0:=(hB1.cell (p:=⟨b,off,none⟩) hb).trans hc;have e1:=(hB1.cell (p:=⟨b2,off2,none⟩) hb2).trans d1)
      go_roundw
      case measure=>simp [intOf];omega
      case rel=>exact ⟨0+1,_,by omega,by go_num,HNX.out,hB.trans (hB1.mono hsz)⟩
     | succ j =>
      obtain ⟨b',off',Aj,cj,u',hq,hb',hu',hc',hN',hS'⟩:=HP.out.one hB (k:=j) (by omega)
      cases hq
      obtain ⟨h0',hin'⟩:=HA.out.2.2 j u' rfl hu'
      obtain ⟨b3,off3,op',rfl,hb3,hin3,d1'⟩:=hN'.first h0'
      have hu0':=j1_ h0'
      have HPN:Hid (pn=decide (op'=9)):=hd_ (by rw [← hin',hin3])
      clear hin' hin3 h0' hu' hN' hS' hb'
      have k7:(j:Int)+1-1=(j:Int):=by omega
      have k8:IntKind.i64.wrap (j:Int)=(j:Int):=IntWalk.i64_in _ (by omega)
      by_cases h9:op=9
      ·subst h9
       by_cases h9':op'=9
       ·subst h9'
        have HR:=hd_ (HA.out.two HU.out H0.out (by rw [HPN.out,HIN.out];rfl))
        go_wp2_with (go_at_call 20;refine HCK.out.mono ?_;rintro e w1 ⟨rfl,hB1⟩;have e0:=(hB1.cell (p:=⟨b,off+(j+1),none⟩) hb).trans hc;have e1:=(hB1.cell (p:=⟨b2,off2,none⟩) hb2).trans d1;have e2:=(hB1.cell (p:=⟨b,off+j,none⟩) hb).trans hc';have e3:=(hB1.cell (p:=⟨b3,off3,none⟩) hb3).trans d1')
        go_ret2
        exact gC_.of HR.out (hB.trans (hB1.mono hsz))
       ·have h9b:(op'==9)=false:=by simpa using h9'
        have HNX:=hd_ (HA.out.next HU.out H0.out (by rw [HPN.out,decide_eq_false h9'];rfl))
        exact lq94
      ·have h9b:(op==9)=false:=by simpa using h9
       have HNX:=hd_ (HA.out.next HU.out H0.out (by rw [HIN.out,decide_eq_false h9,Bool.and_false]))
       exact lq94
    ·have HR:=hd_ (HA.out.bad HU.out h0)
     generalize hq:aY_ u=q at *
     have HCK:=hd_ hck;clear hck
     have hq0:(q==0)=false:=by simpa using h0
     have hq1:(q != 0)=true:=by simpa using h0
     clear h0 hN hS hq
     go_wp2_with (go_at_call 20;refine HCK.out.mono ?_;rintro e w1 ⟨rfl,hB1⟩)
     go_ret2
     exact gC_.of HR.out (hB.trans (hB1.mono hsz))
   ·have HR:Hid (c1_ p=(0,0)):=hd_ (by rw [HA.out.1,sH_ (by omega)])
    go_wp2
    go_ret2
    exact gC_.of HR.out hB
end Go.Proofs.YtddfdmopaeghnacGreatDoor
