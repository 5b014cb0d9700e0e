/- Walks: the reference's lower, IsName, Kids, EndOf, NoteWords, WordsFault. With what it rests on. Conditions: as each theorem states them. -/
import Derived.Test.YtddfdmopaeghnacGreatDoorLqTr
import Derived.Test.YtddfdmopaeghnacGreatDoorLqMk
import Derived.Test.YtddfdmopaeghnacGreatDoorLqLx
import Derived.BigQuiet
import Derived.Deep.QuietTactic
import Derived.Test.YtddfdmopaeghnacGreatDoorLqFi
set_option maxRecDepth 100000
set_option maxHeartbeats 16000000
namespace Go.Proofs.YtddfdmopaeghnacGreatDoor
open Go.RowKit
theorem q8_ {w:World} {base:Nat} {e:TypeId} {size n:Nat} {v:Value} {xs:List Value} (h:w.ownsRow base e size v n xs):∃ A c,v=.slice A n c:=by
 rcases h.2 with ⟨rfl,rfl⟩|⟨g,cap,cur,rfl,_⟩
 ·exact ⟨none,0,rfl⟩
 ·exact ⟨_,cap,rfl⟩
theorem sZ_:(Tryz.prog.info? 9).map (fun i=>(i.zero,i.size,i.bytes))=some (some (.string .empty),1,16):=by kernel_rfl
theorem lq77 {P:Prop} (h:P:=by
 subst hb;clear h
 go_enter Tryz.func99,Tryz.ntmps99
 go_wp2
 go_ret
 exact ⟨by first|rfl|(simp;done)|(simp;omega),rfl⟩):P:=h
theorem lq71 {P:Prop} (h:P:=by
 clear hn
 have hcs:n<97∨122<n∨(97<=n/\n<=122):=by omega
 rcases hcs with h1|h1|⟨h1,h2⟩
 ·have hb:b=false:=by rw [← h];simp;omega
  exact lq77
 ·have hb:b=false:=by rw [← h];simp;omega
  have h3:97<=n:=by omega
  exact lq77
 ·have hb:b=true:=by rw [← h];simp;omega
  subst hb;clear h
  go_enter Tryz.func99,Tryz.ntmps99
  go_wp2
  go_ret
  exact ⟨by first|rfl|(simp;done)|(simp;omega),rfl⟩):P:=h
theorem s4_ {c:UInt8} {b:Bool} (h:hL_ c=b) (w:World):Calls Tryz.prog 99 #[.int .u8 (c.toNat:Int)] w fun e w'=>e=.returned (.bool b)/\w=w':=by
 have hc:=c.toNat_lt
 unfold hL_ at h
 generalize hn:c.toNat=n at *
 exact lq71
theorem lq73 {P:Prop} (h:P:=by
 rw [ByteArray.toList_eq]
 have h:t.data.toList.length=t.size:=by simp
 cases hl:t.data.toList with
 | nil=>rw [hl] at h;exact ⟨fun _=>by simp only [List.length_nil] at h;omega,fun _=>rfl⟩
 | cons a r=>rw [hl] at h;exact ⟨fun h'=>by (cases h'),fun h'=>by simp only [List.length_cons] at h;omega⟩):P:=h
theorem kG_ {t:ByteArray}:(t.toList.isEmpty=true)↔t.size<1:=by
 exact lq73
theorem f1_ (s:ByteArray) (w:World) (hs:s.size<=maxLen) :
  Calls Tryz.prog 60 #[.string s] w fun e w'=>e=.returned (.bool (b1_ s))/\w=w':=by
 unfold maxLen at hs
 by_cases he:s.size<1
 ·have hw:b1_ s=false:=by simp [b1_,kG_.2 he]
  rw [hw]
  go_enter Tryz.func60,Tryz.ntmps60
  go_wp2
  go_ret
  exact ⟨rfl,rfl⟩
 ·have he2:s.toList.isEmpty=false:=by
   cases h:s.toList.isEmpty with
   | false=>rfl
   | true=>exact absurd (kG_.1 h) he
  by_cases h20:8<s.size
  ·have hw:b1_ s=false:=by
    have hd:decide (s.size<=8)=false:=by simp;omega
    rw [b1_,hd];simp
   rw [hw]
   go_enter Tryz.func60,Tryz.ntmps60
   go_wp2
   go_ret
   exact ⟨rfl,rfl⟩
  ·cases hl:(s.toList==[108,101,116]) with
   | true =>
    have hw:b1_ s=false:=by simp [b1_,hl]
    rw [hw]
    go_enter Tryz.func60,Tryz.ntmps60
    go_wp2
    go_ret
    exact ⟨rfl,rfl⟩
   | false =>
    have hw:b1_ s=s.data.toList.all hL_:=by
     have hd:decide (s.size<=8)=true:=by simp;omega
     rw [b1_,hd,he2,hl];simp
    have HW:=hd_ hw;clear hw he2
    go_enter Tryz.func60,Tryz.ntmps60
    go_wp2
    go_loop [3,4] (fun i _=>∃ k:Nat,k<=s.size/\i=.int .i64 k/\(s.data.toList.take k).all hL_=true) (fun i _=>s.size-(intOf i).toNat)
    case atStart=>exact ⟨0,Nat.zero_le _,rfl,rfl⟩
    case round =>
     obtain ⟨k,hk,rfl,ha⟩:=hrel
     have HA:=hd_ ha;clear ha
     by_cases hlt:k<s.size
     ·cases hb:hL_ s[k] with
      | true =>
       have HC:=hd_ (fun w'=>s4_ hb w')
       have HG:=hd_ (gM_ HA.out hlt hb);clear hb
       go_wp2_with (go_at_call 99;refine (HC.out _).mono ?_;rintro e w' ⟨rfl,rfl⟩)
       go_round
       case rel=>exact ⟨k+1,by omega,by go_num,HG.out⟩
       case measure=>simp [intOf];omega
      | false =>
       have HC:=hd_ (fun w'=>s4_ hb w')
       have HG:=hd_ (pI_ hlt hb);clear hb
       go_wp2_with (go_at_call 99;refine (HC.out _).mono ?_;rintro e w' ⟨rfl,rfl⟩)
       go_ret
       exact ⟨by rw [HW.out,HG.out];rfl,rfl⟩
     ·go_wp2
      go_ret
      exact ⟨by rw [HW.out,kX_ HA.out (by omega)];rfl,rfl⟩
theorem aaY_ (op n:Int) (t:ByteArray) (w:World):Calls Tryz.prog 100 #[.agg #[.int .i64 op,.string t,.int .i64 n]] w (Ret w (.int .i64 (bK_ op n))):=by
 go_enter Tryz.func100,Tryz.ntmps100
 go_wp2
 all_goals go_ret
 all_goals refine ⟨?_,aA_⟩
 all_goals simp_all [bK_]
 all_goals omega
theorem uB_ (l:List Nd) (A:Option Addr) (c:Nat) (hg:∀ d ∈ l,a8_ d.op d.text d.n=0):∀ (f i:Nat) (w:World),Nds w w.heap.size A l->l.length<=i+f->i<=l.length ->
  Calls Tryz.prog 61 #[.slice A l.length c,.int .i64 i] w (Ret w (.int .i64 (opT (eoT l f i)))):=by
 have out:∀ (f i:Nat) (w:World),l.length<=maxLen->l.length<=i->i<=l.length->Calls Tryz.prog 61 #[.slice A l.length c,.int .i64 i] w (Ret w (.int .i64 (opT (eoT l f i)))):=by
  intro f i w hm h1 h2
  unfold maxLen at hm
  have he:opT (eoT l f i)=-1:=by
   cases f with
   | zero=>rfl
   | succ f=>simp [eoT,h1,opT]
  rw [he]
  go_enter Tryz.func61,Tryz.ntmps61
  go_wp2
  go_ret
  exact ⟨rfl,Below.refl _ _⟩
 intro f
 induction f with
 | zero=>intro i w hl h1 h2;exact out 0 i w hl.2.1 (by omega) h2
 | succ f ih =>
  intro i w hl h1 h2
  by_cases hi:l.length<=i
  ·exact out _ i w hl.2.1 hi h2
  ·clear out
   have hm:=hl.2.1
   unfold maxLen at hm
   have hi':i<l.length:=by omega
   have HN:=hd_ hl;clear hl
   obtain ⟨b,off,op,t,n,rfl,hb,hd,hts,d1,d2,d3⟩:=HN.out.node (Below.refl _ _) hi'
   have hone:a8_ op t n=0:=by have h:=hg _ (List.getElem_mem hi');rw [hd] at h;exact h
   have hbd:=hM_ hone
   obtain ⟨p,hp⟩:∃ p:Nat,bK_ op n=p:=⟨(bK_ op n).toNat,by omega⟩
   have hma:(bC_ l).getD i 0=p:=by rw [gX_ hi' hd,hp];rfl
   have HR:Hid (eoT l (f+1) i=nP_ (eoT l f) p (some (i+1))):=hd_ (by rw [eoT,if_neg hi,hma])
   rw [HR.out]
   have HI:=hd_ ih;have HBD:=hd_ (fun (j k:Nat) h1 h2 h=>ai6_ (l:=l) (f:=f) (i:=j) (c:=k) h1 h2 h)
   have HK:=hd_ (aaY_ op n t)
   rw [hp] at HK
   have hp6:p<=6:=by omega
   clear ih hd hone hbd hma hg hp
   go_enter Tryz.func61,Tryz.ntmps61
   go_wp2_with (go_at_call 100;refine (HK.out _).mono ?_;rintro e w1 ⟨rfl,hB1⟩)
   go_loopw [1,5] (fun v m wr=>∃ (q:Nat) (o:Option Nat),v=.int .i64 (opT o)/\m=.int .i64 q/\q<=6/\(∀ k,o=some k->i<k/\k<=l.length)/\nP_ (eoT l f) p (some (i+1))=nP_ (eoT l f) q o/\Below w.heap.size w wr) (fun _ m _=>(intOf m).toNat)
   case atStart=>exact ⟨p,some (i+1),by simp [opT],rfl,hp6,fun k hk=>by cases hk;omega,rfl,hB1⟩
   case round =>
    obtain ⟨q,o,rfl,rfl,hq6,hk,hr,hB⟩:=hrel
    have HQ:=hd_ hr;clear hr
    match q,o,HQ with
    | 0,o,HQ =>
     go_wp2
     go_ret
     exact ⟨by rw [HQ.out];rfl,hB⟩
    | q+1,none,HQ =>
     simp only [opT]
     go_wp2
     go_ret
     exact ⟨by rw [HQ.out];rfl,hB⟩
    | q+1,some k,HQ =>
     have hkb:=hk k rfl
     simp only [opT]
     have HC:=hd_ (HI.out k _ (HN.out.past hB) (by omega) hkb.2)
     go_wp2_with (go_at_call 61;refine HC.out.mono ?_;rintro e w1 ⟨rfl,hB2⟩)
     go_roundw
     case rel=>exact ⟨q,eoT l f k,rfl,by go_num,by omega,fun j hj=>by have:=HBD.out k j (by omega) hkb.2 hj;omega,by rw [HQ.out];rfl,hB.trans (hB2.mono hB.size)⟩
     case measure=>simp [intOf]
theorem t4_ {t:ByteArray}:(t.toList.isEmpty=true)↔t.size<1:=by
 exact lq73
theorem oU_ {t:ByteArray} (h:t.size<1∨20<t.size):cO_ t=false:=by
 unfold cO_
 rcases h with h|h
 ·have h2:=t4_.2 h
  rw [h2];rfl
 ·have h2:decide (t.size<=20)=false:=by simp;omega
  rw [h2];simp
theorem acS_ {t:ByteArray} {k:Nat} (hk:k<t.size) (h:t[k].toNat<33∨126<t[k].toNat):cO_ t=false:=by
 have h1:i5_ t[k]=false:=by unfold i5_;simp;omega
 unfold cO_
 rw [pI_ hk h1];simp
theorem zT_ {t:ByteArray} (h1:1<=t.size) (h2:t.size<=20) (h3:t.data.toList.all i5_=true):cO_ t=true:=by
 have e1:t.toList.isEmpty=false:=by
  cases h:t.toList.isEmpty with
  | false=>rfl
  | true=>have:=t4_.1 h;omega
 unfold cO_
 rw [e1,h3]
 simp;omega
theorem lD_ (l:List ByteArray) (A:Option Addr) (n c:Nat) (hn:l.length=n) (w:World) (hl:Txs w w.heap.size A l) :
  Calls Tryz.prog 58 #[.slice A n c] w fun e w'=>e=.returned (.int .i64 (cL_ l))/\w=w':=by
 have hm:=hl.2.1
 unfold maxLen at hm
 subst hn
 by_cases h60:60<l.length
 ·have k1:decide (60<l.length)=true:=by simpa using h60
  have hw:cL_ l=3:=by rw [cL_,if_pos h60]
  have HW:=hd_ hw;clear hw
  go_enter Tryz.func58,Tryz.ntmps58
  go_wp2
  go_ret
  exact ⟨by rw [HW.out];rfl,rfl⟩
 ·have k1:decide (60<l.length)=false:=by simpa using h60
  have HN:=hd_ hl;clear hl
  go_enter Tryz.func58,Tryz.ntmps58
  go_wp2
  go_loop [3,4] (fun i _=>∃ k:Nat,k<=l.length/\i=.int .i64 k/\(l.take k).all cO_=true) (fun i _=>l.length-(intOf i).toNat)
  case atStart=>exact ⟨0,by omega,rfl,rfl⟩
  case round =>
   obtain ⟨k,hk,rfl,ha⟩:=hrel
   have HA:=hd_ ha;clear ha
   by_cases hlt:k<l.length
   ·obtain ⟨b,off,t,rfl,hb,ht,hts,hc⟩:=HN.out.one (Below.refl _ _) hlt
    unfold maxLen at hts
    have HNO:Hid (cO_ t=false->cL_ l=5):=hd_ (fun h=>w0_ h60 hlt (by rw [ht];exact h))
    have HMO:Hid (cO_ t=true->(l.take (k+1)).all cO_=true):=hd_ (fun h=>qO_ hlt HA.out (by rw [ht];exact h))
    clear ht
    by_cases h1:t.size<1
    ·have k2:decide (t.size<1)=true:=decide_eq_true h1
     have k3:decide ((t.size:Int)<1)=true:=decide_eq_true (by omega)
     have HB:=hd_ (HNO.out (oU_ (.inl h1)))
     go_wp2
     go_ret
     exact ⟨by rw [HB.out];rfl,rfl⟩
    ·have k2:decide (t.size<1)=false:=decide_eq_false h1
     have k3:decide ((t.size:Int)<1)=false:=decide_eq_false (by omega)
     by_cases h2:20<t.size
     ·have k4:decide (20<t.size)=true:=decide_eq_true h2
      have k5:decide ((20:Int)<(t.size:Int))=true:=decide_eq_true (by omega)
      have HB:=hd_ (HNO.out (oU_ (.inr h2)))
      go_wp2
      go_ret
      exact ⟨by rw [HB.out];rfl,rfl⟩
     ·have k4:decide (20<t.size)=false:=decide_eq_false h2
      have k5:decide ((20:Int)<(t.size:Int))=false:=decide_eq_false (by omega)
      go_wp2
      go_loop [4] (fun j=>∃ m:Nat,m<=t.size/\j=.int .i64 m/\(t.data.toList.take m).all i5_=true) (fun j=>t.size-(intOf j).toNat)
      case atStart=>exact ⟨0,by omega,rfl,rfl⟩
      case round =>
       obtain ⟨m,hm2,rfl,hv⟩:=hrel
       have HV:=hd_ hv;clear hv
       by_cases hlt2:m<t.size
       ·have HO:=hd_ (acS_ hlt2)
        have HM:Hid (33<=t[m].toNat/\t[m].toNat<=126->(t.data.toList.take (m+1)).all i5_=true):=hd_ (fun h=>gM_ HV.out hlt2 (by unfold i5_;simp;omega))
        by_cases hc1:t[m].toNat<33
        ·have HB:=hd_ (HNO.out (HO.out (.inl hc1)))
         have q1:decide (t[m].toNat<33)=true:=decide_eq_true hc1
         have q2:decide ((t[m].toNat:Int)<33)=true:=decide_eq_true (by omega)
         go_wp2
         go_ret
         exact ⟨by rw [HB.out];rfl,rfl⟩
        ·have q1:decide (t[m].toNat<33)=false:=decide_eq_false hc1
         have q2:decide ((t[m].toNat:Int)<33)=false:=decide_eq_false (by omega)
         by_cases hc2:126<t[m].toNat
         ·have HB:=hd_ (HNO.out (HO.out (.inr hc2)))
          have q3:decide (126<t[m].toNat)=true:=decide_eq_true hc2
          have q4:decide ((126:Int)<(t[m].toNat:Int))=true:=decide_eq_true (by omega)
          go_wp2
          go_ret
          exact ⟨by rw [HB.out];rfl,rfl⟩
         ·have q3:decide (126<t[m].toNat)=false:=decide_eq_false hc2
          have q4:decide ((126:Int)<(t[m].toNat:Int))=false:=decide_eq_false (by omega)
          have HB:=hd_ (HM.out ⟨by omega,by omega⟩)
          go_wp2
          go_round
          case rel=>exact ⟨m+1,by omega,by go_num,HB.out⟩
          case measure=>simp [intOf];omega
       ·have HG:=hd_ (HMO.out (zT_ (by omega) (by omega) (kX_ HV.out (by omega))))
        go_wp2
        go_round
        case rel=>exact ⟨k+1,by omega,by go_num,HG.out⟩
        case measure=>simp [intOf];omega
   ·have hz:=t6_ h60 (show l.length<=k by omega) HA.out
    have HZ:=hd_ hz;clear hz
    go_wp2
    go_ret
    exact ⟨by rw [HZ.out];rfl,rfl⟩
theorem oM_ {s:ByteArray} {done:List ByteArray} {m:Nat} (h:done++i3_ s m=aS_ s) (hm:s.size<4294967281):(∀ x ∈ done,x.size<=maxLen)/\(∀ x ∈ aS_ s,x.size<=maxLen):=by
 have hz:∀ x ∈ aS_ s,x.size<=s.size:=by
  unfold aS_
  split
  ·intro x hx;cases hx
  ·exact h7_ spB 0 _ s
 exact ⟨fun x hx=>by have:=hz x (by rw [← h];simp [hx]);simp only [maxLen];omega,fun x hx=>by have:=hz x hx;simp only [maxLen];omega⟩
theorem lq69 {P:Prop} (h:P:=by
 have hb1:=s[k].toNat_lt
 by_cases hc:s[k]=32
 ·have h8:((s[k].toNat:Int)==32)=true:=by rw [hc];rfl
  have HD2:Hid ((done++[s.extract m k])++i3_ s (k+1)=aS_ s):=hd_ (by rw [List.append_assoc,← HD.out,vS_ hmk hlt HSP.out hc];rfl)
  have HNS:=hd_ (hN_.nil s (k+1))
  have q1:(0:Int)<=(m:Int):=by omega
  have q2:(m:Int)<=(k:Int):=by omega
  have q3:(k:Int)<=(s.size:Int):=by omega
  clear hc
  go_wp2_with (at_builtin;refine aB_ _ rfl (.tmp 19) (.tmp 24) _ rfl w.heap.size 9 iS (.string .empty) 1 16 Tryz.underlying60 hiS hzS hzS1 hzS2 rfl (by decide) _ done.length _ rfl (HO.out.alloc _) _ _ 1 1 [.string (s.extract m k)] rfl (Sl.lit (sz:=1) _ #[.string (s.extract m k)] 9 1 rfl) (by simp [Value.oneCell']) (by simp only [maxLen];omega) (by omega) (by simp;omega) ?_;intro v3 w3 hown3 hgr3 _;have hB3:Below w.heap.size w w3:=aC_ (hB.alloc hsz _) (HO.out.alloc _) hgr3 (hB.alloc hsz _).size (Nat.le_refl _);have HO3:=hd_ hown3;clear hown3 hgr3)
  go_roundw
  case measure=>simp [intOf];omega
  case rel=>exact ⟨k+1,k+1,done++[s.extract m k],v3,by go_num,by go_num,rfl,by omega,by omega,by simp;omega,HNS.out,HD2.out,by rw [List.length_append,List.map_append];exact HO3.out,hB3⟩
 ·have h8:((s[k].toNat:Int)==32)=false:=by
   have:s[k].toNat≠32:=fun e=>hc (by apply UInt8.toNat_inj.1;rw [e];rfl)
   simp;omega
  have HNS:=hd_ (HSP.out.more hlt hc)
  clear hc
  go_wp2
  go_roundw
  case measure=>simp [intOf];omega
  case rel=>exact ⟨m,k+1,done,_,by go_num,rfl,rfl,by omega,by omega,by omega,HNS.out,HD.out,HO.out,hB⟩):P:=h
theorem j6_ (s:ByteArray) (w:World) (hs:s.size<4294967281) :
  Calls Tryz.prog 59 #[.string s] w (tS_ s w):=by
 by_cases he:s.size<1
 ·have hn:aS_ s=[]:=by rw [aS_,if_pos (by simpa using kG_.2 he)]
  have HN:=hd_ hn;clear hn
  go_enter Tryz.func59,Tryz.ntmps59
  go_wp2
  go_ret
  exact ⟨none,0,by rw [HN.out];rfl,by rw [HN.out];exact ⟨Sl.nil_,by simp [maxLen],by simp⟩,Below.refl _ _⟩
 ·obtain ⟨iS,hiS,hzS,hzS1,hzS2⟩:=info_parts sZ_
  have hne:s.toList≠[]:=fun h=>he (kG_.1 (by simp [h]))
  have HTL:=hd_ (m6_ hne);clear hne
  have hz0:((s.size:Int)==0)=false:=by rw [beq_eq_false_iff_ne];omega
  go_enter Tryz.func59,Tryz.ntmps59
  go_wp2
  go_loopw [3,4,5] (fun out from' i wr=>∃ (m k:Nat) (done:List ByteArray) (v:Value),i=.int .i64 k/\from'=.int .i64 m/\out=v/\m<=k/\k<=s.size/\done.length<=m/\hN_ s m k/\done++i3_ s m=aS_ s/\wr.ownsRow w.heap.size 9 1 v done.length (done.map .string)/\Below w.heap.size w wr) (fun _ _ i _=>s.size-(intOf i).toNat)
  case atStart=>exact ⟨0,0,[],_,rfl,rfl,rfl,by omega,by omega,by simp,hN_.nil s 0,by rw [HTL.out];rfl,World.ownsRow_nil _ _ _ _,Below.refl _ _⟩
  case round =>
   obtain ⟨m,k,done,v,rfl,rfl,rfl,hmk,hk,hdm,hsp,hdn,hown,hB⟩:=hrel
   have HO:=hd_ hown;have HSP:=hd_ hsp;have HD:=hd_ hdn;clear hown hsp hdn
   have hsz:=hB.size
   by_cases hlt:k<s.size
   ·exact lq69
   ·obtain rfl:k=s.size:=by omega
    have HD2:Hid (done++[s.extract m s.size]=aS_ s):=hd_ (by rw [← HD.out,kI_ HSP.out])
    have HSM:=hd_ (oM_ HD.out hs)
    have q1:(0:Int)<=(m:Int):=by omega
    have q2:(m:Int)<=(s.size:Int):=by omega
    go_wp2_with (at_builtin;refine aB_ _ rfl (.tmp 28) (.tmp 32) _ rfl w.heap.size 9 iS (.string .empty) 1 16 Tryz.underlying60 hiS hzS hzS1 hzS2 rfl (by decide) _ done.length _ rfl (HO.out.alloc _) _ _ 1 1 [.string (s.extract m s.size)] rfl (Sl.lit (sz:=1) _ #[.string (s.extract m s.size)] 9 1 rfl) (by simp [Value.oneCell']) (by simp only [maxLen];omega) (by omega) (by simp;omega) ?_;intro v3 w3 hown3 hgr3 _;have hB3:Below w.heap.size w w3:=aC_ (hB.alloc hsz _) (HO.out.alloc _) hgr3 (hB.alloc hsz _).size (Nat.le_refl _);have HO3:=hd_ hown3;clear hown3 hgr3)
    obtain ⟨A3,c3,rfl⟩:=q8_ HO3.out
    have HL:Hid ((aS_ s).length=done.length+1):=hd_ (by rw [← HD2.out];simp)
    go_ret
    have HS:=Sl.of_own HO3.out
    refine ⟨A3,c3,by rw [HL.out];rfl,⟨?_,by rw [HL.out];simp only [maxLen];omega,HSM.out.2⟩,hB3⟩
    rw [HL.out,← HD2.out,List.map_append]
    exact HS
theorem m1_ {c:UInt8} {b:Bool} (h:lowB c=b) (w:World):Calls Tryz.prog 99 #[.int .u8 (c.toNat:Int)] w fun e w'=>e=.returned (.bool b)/\w=w':=by
 have hc:=c.toNat_lt
 generalize hn:c.toNat=n at *
 unfold lowB at h
 rw [hn] at h
 exact lq71
theorem lq74 {P:Prop} (h:P:=by
 subst hb;clear h
 go_enter Tryz.func109,Tryz.ntmps109
 go_wp2
 go_ret
 exact ⟨by first|rfl|(simp;done)|(simp;omega),rfl⟩):P:=h
theorem hS_ {c:UInt8} {b:Bool} (h:c0_ c=b) (w:World):Calls Tryz.prog 109 #[.int .u8 (c.toNat:Int)] w fun e w'=>e=.returned (.bool b)/\w=w':=by
 have hc:=c.toNat_lt
 generalize hn:c.toNat=n at *
 unfold c0_ at h
 rw [hn] at h
 clear hn
 have hcs:n<48∨57<n∨(48<=n/\n<=57):=by omega
 rcases hcs with h1|h1|⟨h1,h2⟩
 ·have hb:b=false:=by rw [← h];simp;omega
  exact lq74
 ·have hb:b=false:=by rw [← h];simp;omega
  have h3:48<=n:=by omega
  exact lq74
 ·have hb:b=true:=by rw [← h];simp;omega
  exact lq74
def fA_ (p:UInt8->Bool) (s:ByteArray) (m j:Nat):Prop:=((s.data.toList.drop m).take (j-m)).all p=true
theorem eJ_ {s:ByteArray} {m j:Nat} (hm:m<=j) (hj:j<s.size):(s.data.toList.drop m).take (j+1-m)=(s.data.toList.drop m).take (j-m)++[s[j]]:=by
 have hjl:j<s.data.toList.length:=by simpa using hj
 have h1:j-m<(s.data.toList.drop m).length:=by rw [List.length_drop];omega
 rw [show j+1-m=(j-m)+1 by omega,List.take_succ_eq_append_getElem h1,List.getElem_drop]
 congr 2
 have:m+(j-m)=j:=by omega
 simp only [this]
 rfl
theorem fA_.start {p:UInt8->Bool} {s:ByteArray} {m:Nat} (hm:m<s.size) (hp:p s[m]=true):fA_ p s m (m+1):=by
 unfold fA_
 rw [eJ_ (Nat.le_refl m) hm]
 simp [hp]
theorem fA_.more {p:UInt8->Bool} {s:ByteArray} {m j:Nat} (h:fA_ p s m j) (hm:m<=j) (hj:j<s.size) (hp:p s[j]=true):fA_ p s m (j+1):=by
 unfold fA_ at h ⊢
 rw [eJ_ hm hj,List.all_append,h]
 simp [hp]
theorem fA_.less {p:UInt8->Bool} {s:ByteArray} {m j:Nat} (hm:m<=j) (hj:j<s.size) (hp:p s[j]=false):((s.data.toList.drop m).take (j+1-m)).all p=false:=by
 rw [eJ_ hm hj,List.all_append]
 simp [hp]
theorem fA_.stop {p:UInt8->Bool} {s:ByteArray} {m j:Nat} (h:fA_ p s m j) (hm:m<=j) (hj:j<s.size) (hp:p s[j]=false):aU_ p (s.data.toList.drop m)=j-m:=by
 have hjl:j<s.data.toList.length:=by simpa using hj
 refine xT_ h (by rw [List.length_drop];omega) ?_
 rw [List.getElem_drop]
 have:m+(j-m)=j:=by omega
 simp only [this]
 exact hp
theorem fA_.end_ {p:UInt8->Bool} {s:ByteArray} {m j:Nat} (h:fA_ p s m j) (hj:s.size<=j) (hj2:j<=s.size):aU_ p (s.data.toList.drop m)=j-m:=by
 have hl:s.data.toList.length=s.size:=by simp
 have e:(s.data.toList.drop m).take (j-m)=s.data.toList.drop m:=List.take_of_length_le (by rw [List.length_drop];omega)
 unfold fA_ at h
 rw [e] at h
 rw [iO_ (fun c hc=>List.all_eq_true.1 h c hc),List.length_drop]
 omega
theorem abX_ {p:UInt8->Bool}:∀ (l:List UInt8) (n:Nat),n<=l.length->((l.take n).all p=decide (n<=aU_ p l))
 | _,0,_=>by simp
 | [],n+1,h=>by simp at h
 | c::r,n+1,h=>by
  simp only [List.length_cons] at h
  simp only [List.take_succ_cons,List.all_cons,aU_,abX_ r n (by omega)]
  by_cases hp:p c=true
  ·simp [hp]
  ·simp [hp]
theorem zP_ (l:List UInt8):bP_ (l++[32])=bP_ l:=by
 unfold bP_
 simp [blank]
theorem mM_ {l:List UInt8} {c:UInt8} (h:blank c=false):bP_ (l++[c])=l++[c]:=by
 unfold bP_
 simp [h]
theorem zN_ {c:UInt8} {r:List UInt8} (h:blank c=false):(bP_ (c::r)).head?=some c:=by
 obtain ⟨k,hk⟩:=kM_ (c::r)
 cases ht:bP_ (c::r) with
 | nil =>
  rw [ht,List.nil_append] at hk
  cases k with
  | zero=>simp at hk
  | succ k =>
   rw [List.replicate_succ] at hk
   have:c=32:=by injection hk
   subst this
   simp [blank] at h
 | cons d q =>
  rw [ht] at hk
  have:c=d:=by injection hk
  rw [this];rfl
theorem s6_ (a b:List ByteArray):cZ_ (a++b)=cZ_ a+cZ_ b:=by
 induction a with
 | nil=>simp [cZ_]
 | cons t r ih=>simp only [List.cons_append,cZ_,ih];omega
theorem uJ_ {s:ByteArray} {k J:Nat} (hlt:k<s.size) (hJ:k+1<=J) (hb:blank s[k]=false):(bP_ ((s.data.toList.drop k).take (J-k))).head?=some s[k]:=by
 rw [gQ_ hlt,show J-k=(J-k-1)+1 by omega,List.take_succ_cons]
 exact zN_ hb
theorem n9_ {done:List (Nat × List UInt8)} {q k:Nat} {T:List UInt8} (h:cZ_ (b8_ done)=q):cZ_ (b8_ (done++[(k,T)]))=q+(if T.head?=some 35 then 0 else 1):=by
 have e:b8_ (done++[(k,T)])=b8_ done++[⟨T.toArray⟩]:=by simp [b8_]
 rw [e,s6_,h]
 simp [cZ_]
def ahS_ (s:ByteArray) (w:World) (e:Ending) (w':World):Prop :=
 ((cP_ s).1≠0/\e=.returned (.tuple #[.slice none 0 0,.slice none 0 0,.int .i64 ((cP_ s).2:Nat),.int .i64 (cP_ s).1])/\Below w.heap.size w w') ∨
 ((cP_ s).1=0/\∃ A c A2 c2,e=.returned (.tuple #[.slice A (b0_ s).length c,.slice A2 (b0_ s).length c2,.int .i64 0,.int .i64 0]) /\
  Txs w' w'.heap.size A (b8_ (b0_ s))/\Sl w' w'.heap.size 1 A2 (b0_ s).length (dA_ (b0_ s))/\Below w.heap.size w w')
theorem lq70 {P:Prop} (h:P:=by
 have h8:((s[e'].toNat:Int)==32)=true:=by rw [← hb32];exact eb
 have hne:k+1<=e':=by
  rcases Nat.lt_or_ge k e' with h|h
  ·omega
  ·have:e'=k:=by omega
   subst this
   rw [h32] at hb32
   cases hb32
 have HTE2:Hid (T=bP_ ((s.data.toList.drop k).take (e'-k))):=hd_ (by
  have h32':s[e']=32:=by simpa using hb32
  rw [HTE.out,HDS.out,h32',zP_])
 clear eb hb32 HTE HDS
 go_wp2
 go_round
 case rel=>exact ⟨e',hne,by omega,by first|rfl|go_num,HTE2.out⟩
 case measure=>simp [intOf]):P:=h
theorem qY_ {P:Prop} (h:P:=by
 obtain ⟨n0,hn1,hnext⟩:=HAT.out.word hlt hnb HFW.out
 have hkj:k+(j-k)=j:=by omega
 rw [hkj] at hn1 hnext
 have HTH:=hd_ (uJ_ (J:=j) hlt (by omega) HBL.out)
 obtain ⟨T,hT⟩:∃ T,bP_ ((s.data.toList.drop k).take (j-k))=T:=⟨_,rfl⟩
 rw [hT] at hnext HTH
 have HNX:=hd_ hnext;have HT0:=hd_ hT
 clear hnext hT hkj
 go_wp2_with fail
 go_loop [16] (fun ev=>∃ e:Nat,k+1<=e/\e<=j/\ev=.int .i64 e/\T=bP_ ((s.data.toList.drop k).take (e-k))) (fun ev=>(intOf ev).toNat)
 case atStart=>exact ⟨j,by omega,Nat.le_refl _,by first|rfl|go_num,HT0.out.symm⟩
 case round =>
  obtain ⟨e,he1,he2,rfl,hTe⟩:=hrel
  obtain ⟨e',rfl⟩:∃ e',e=e'+1:=⟨e-1,by omega⟩
  have HTE:=hd_ hTe;clear hTe
  have hes:e'<s.size:=by omega
  have hds:=eJ_ (s:=s) (m:=k) (j:=e') (by omega) hes
  have HDS:=hd_ hds;clear hds
  have k6:decide ((k:Int)<(e':Int)+1)=true:=decide_eq_true (by omega)
  have k6n:decide (k<e'+1)=true:=decide_eq_true (by omega)
  have k7:(e':Int)+1-1=(e':Int):=by omega
  have k8:IntKind.i64.wrap (e':Int)=(e':Int):=IntWalk.i64_in _ (by omega)
  have eb:=eW_ s[e'] 32
  cases hb32:(s[e']==32) with
  | true =>
   exact lq70
  | false =>
   have h8:((s[e'].toNat:Int)==32)=false:=by rw [← hb32];exact eb
   have HTF:Hid (T=(s.data.toList.drop k).take (e'+1-k)):=hd_ (by rw [HTE.out,HDS.out,mM_ (by simpa [blank] using hb32)])
   have HEX:Hid (s.extract k (e'+1)=⟨T.toArray⟩):=hd_ (by
    apply ByteArray.ext
    apply Array.toList_inj.1
    rw [Lib.extract_data,HTF.out])
   have HWB:Hid (b8_ (done++[(k,T)])=b8_ done++[⟨T.toArray⟩]):=hd_ (by simp [b8_])
   have HPV:Hid (dA_ (done++[(k,T)])=dA_ done++[.int .i64 (k:Nat)]):=hd_ (by simp [dA_])
   have HMM:=hd_ (n9_ (k:=k) (T:=T) HMQ.out)
   have q1:(0:Int)<=(k:Int):=by omega
   have q2:(k:Int)<=(e':Int)+1:=by omega
   have q3:(e':Int)+1<=(s.size:Int):=by omega
   have q4:IntKind.i64.wrap ((q:Int)+1)=(q:Int)+1:=IntWalk.i64_in _ (by have:=HQL.out;omega)
   have q5:((e':Int)+1).toNat=e'+1:=by omega
   have hsz:=hB.size
   have NE:Hid ((3:TypeId)≠9):=hd_ (by decide)
   clear eb hb32 HTE HDS
   go_wp2_with (first
    | (at_builtin;(fail_if_success have hz:=HO3);refine aB_ _ rfl (.tmp 136) (.tmp 141) _ rfl w.heap.size 9 iS (.string .empty) 1 16 Tryz.underlying60 hiS hzS hzS1 hzS2 rfl (by decide) _ done.length _ rfl (HW.out.alloc _) _ _ 1 1 [.string (s.extract k (e'+1))] rfl (Sl.lit (sz:=1) _ #[.string (s.extract k (e'+1))] 9 1 rfl) (by simp [Value.oneCell']) (by simp only [maxLen];omega) (by omega) (by simp;omega) ?_;intro v3 w3 hown3 hgr3 _;have hB3:Below w.heap.size w w3:=aC_ (hB.alloc hsz _) (HW.out.alloc _) hgr3 (hB.alloc hsz _).size (Nat.le_refl _);have HP3:=hd_ ((HP.out.alloc _).kept hgr3 (e9_ HP.out HW.out NE.out));have HO3:=hd_ hown3;have hsz3:=hB3.size;clear hown3 hgr3)
    | (at_builtin;refine aB_ _ rfl (.tmp 143) (.tmp 145) _ rfl w.heap.size 3 i0 (.int .i64 0) 1 8 Tryz.underlying23 hi0 hz0 hz1 hz2 rfl (by decide) _ done.length _ rfl (HP3.out.alloc _) _ _ 1 1 [.int .i64 (k:Nat)] rfl (Sl.lit (sz:=1) _ #[.int .i64 (k:Nat)] 3 1 rfl) (by simp [Value.oneCell']) (by simp only [maxLen];omega) (by omega) (by simp;omega) ?_;intro v4 w4 hown4 hgr4 _;have hB4:Below w.heap.size w w4:=aC_ (hB3.alloc hsz3 _) (HP3.out.alloc _) hgr4 (hB3.alloc hsz3 _).size (Nat.le_refl _);have HO4:=hd_ ((HO3.out.alloc _).kept hgr4 (e9_ HO3.out HP3.out NE.out.symm));have HP4:=hd_ hown4;clear hown4 hgr4))
   go_roundw
   case measure=>simp [intOf];omega
   case rel =>
    have hl:(done++[(k,T)]).length=done.length+1:=by simp
    refine ⟨j,q+1,done++[(k,T)],by omega,by first|rfl|go_num,by first|rfl|go_num, ?_,HNX.out, ?_, ?_,hB4⟩
    ·rw [HMM.out,HTH.out,if_neg (by intro e;injection e with e;exact H35.out e)]
    ·rw [hl,HWB.out,List.map_append,← HEX.out];exact HO4.out
    ·rw [hl,HPV.out];exact HP4.out):P:=h
theorem n8_ {P:Prop} (h:P:=by
 have HX:=hd_ (xF_ h6 (HAT.out.fault hlt hnb (by rw [HFW.out])))
 go_wp2
 refine bodyPost_ret (v:=.tuple #[.slice none 0 0,.slice none 0 0,.int .i64 (k:Nat),.int .i64 5]) (by simp [results,Tryz.results65,go_sem]) rfl ?_
 exact .inl ⟨by rw [HX.out];show (5:Int)≠0;decide,by rw [HX.out],hB⟩):P:=h
theorem lq67 {P:Prop} (h:P:=by
 have HFW:Hid (aR_ (s.data.toList.drop k)=(j-k,bb)):=hd_ (by
  have hsl:s.data.toList.length=s.size:=by simp
  have g:=abX_ (p:=prB) (s.data.toList.drop k) (j-k) (by rw [List.length_drop];omega)
  rw [HF0.out,hrun,← g,HPA.out])
 clear hrun
 go_upto_region 34 with fail
 cases bb with
 | false =>
  exact n8_
 | true =>
  obtain ⟨n0,hn1,hnext⟩:=HAT.out.word hlt hnb HFW.out
  have hkj:k+(j-k)=j:=by omega
  rw [hkj] at hn1 hnext
  have HTH:=hd_ (uJ_ (J:=j) hlt (by omega) HBL.out)
  obtain ⟨T,hT⟩:∃ T,bP_ ((s.data.toList.drop k).take (j-k))=T:=⟨_,rfl⟩
  rw [hT] at hnext HTH
  have HNX:=hd_ hnext;have HT0:=hd_ hT
  clear hnext hT hkj
  go_wp2_with fail
  go_loop [16] (fun ev=>∃ e:Nat,k+1<=e/\e<=j/\ev=.int .i64 e/\T=bP_ ((s.data.toList.drop k).take (e-k))) (fun ev=>(intOf ev).toNat)
  case atStart=>exact ⟨j,by omega,Nat.le_refl _,by first|rfl|go_num,HT0.out.symm⟩
  case round =>
   obtain ⟨e,he1,he2,rfl,hTe⟩:=hrel
   obtain ⟨e',rfl⟩:∃ e',e=e'+1:=⟨e-1,by omega⟩
   have HTE:=hd_ hTe;clear hTe
   have hes:e'<s.size:=by omega
   have hds:=eJ_ (s:=s) (m:=k) (j:=e') (by omega) hes
   have HDS:=hd_ hds;clear hds
   have k6:decide ((k:Int)<(e':Int)+1)=true:=decide_eq_true (by omega)
   have k6n:decide (k<e'+1)=true:=decide_eq_true (by omega)
   have k7:(e':Int)+1-1=(e':Int):=by omega
   have k8:IntKind.i64.wrap (e':Int)=(e':Int):=IntWalk.i64_in _ (by omega)
   have eb:=eW_ s[e'] 32
   cases hb32:(s[e']==32) with
   | true =>
    exact lq70
   | false =>
    have h8:((s[e'].toNat:Int)==32)=false:=by rw [← hb32];exact eb
    have HTF:Hid (T=(s.data.toList.drop k).take (e'+1-k)):=hd_ (by rw [HTE.out,HDS.out,mM_ (by simpa [blank] using hb32)])
    have HEX:Hid (s.extract k (e'+1)=⟨T.toArray⟩):=hd_ (by
     apply ByteArray.ext
     apply Array.toList_inj.1
     rw [Lib.extract_data,HTF.out])
    have HWB:Hid (b8_ (done++[(k,T)])=b8_ done++[⟨T.toArray⟩]):=hd_ (by simp [b8_])
    have HPV:Hid (dA_ (done++[(k,T)])=dA_ done++[.int .i64 (k:Nat)]):=hd_ (by simp [dA_])
    have HMM:=hd_ (n9_ (k:=k) (T:=T) HMQ.out)
    have q1:(0:Int)<=(k:Int):=by omega
    have q2:(k:Int)<=(e':Int)+1:=by omega
    have q3:(e':Int)+1<=(s.size:Int):=by omega
    have q4:IntKind.i64.wrap ((q:Int)+1)=(q:Int)+1:=IntWalk.i64_in _ (by have:=HQL.out;omega)
    have q5:((e':Int)+1).toNat=e'+1:=by omega
    have hsz:=hB.size
    have NE:Hid ((3:TypeId)≠9):=hd_ (by decide)
    clear eb hb32 HTE HDS
    go_wp2_with (first
     | (at_builtin;(fail_if_success have hz:=HO3);refine aB_ _ rfl (.tmp 136) (.tmp 141) _ rfl w.heap.size 9 iS (.string .empty) 1 16 Tryz.underlying60 hiS hzS hzS1 hzS2 rfl (by decide) _ done.length _ rfl (HW.out.alloc _) _ _ 1 1 [.string (s.extract k (e'+1))] rfl (Sl.lit (sz:=1) _ #[.string (s.extract k (e'+1))] 9 1 rfl) (by simp [Value.oneCell']) (by simp only [maxLen];omega) (by omega) (by simp;omega) ?_;intro v3 w3 hown3 hgr3 _;have hB3:Below w.heap.size w w3:=aC_ (hB.alloc hsz _) (HW.out.alloc _) hgr3 (hB.alloc hsz _).size (Nat.le_refl _);have HP3:=hd_ ((HP.out.alloc _).kept hgr3 (e9_ HP.out HW.out NE.out));have HO3:=hd_ hown3;have hsz3:=hB3.size;clear hown3 hgr3)
     | (at_builtin;refine aB_ _ rfl (.tmp 143) (.tmp 145) _ rfl w.heap.size 3 i0 (.int .i64 0) 1 8 Tryz.underlying23 hi0 hz0 hz1 hz2 rfl (by decide) _ done.length _ rfl (HP3.out.alloc _) _ _ 1 1 [.int .i64 (k:Nat)] rfl (Sl.lit (sz:=1) _ #[.int .i64 (k:Nat)] 3 1 rfl) (by simp [Value.oneCell']) (by simp only [maxLen];omega) (by omega) (by simp;omega) ?_;intro v4 w4 hown4 hgr4 _;have hB4:Below w.heap.size w w4:=aC_ (hB3.alloc hsz3 _) (HP3.out.alloc _) hgr4 (hB3.alloc hsz3 _).size (Nat.le_refl _);have HO4:=hd_ ((HO3.out.alloc _).kept hgr4 (e9_ HO3.out HP3.out NE.out.symm));have HP4:=hd_ hown4;clear hown4 hgr4))
    go_roundw
    case measure=>simp [intOf];omega
    case rel =>
     have hl:(done++[(k,T)]).length=done.length+1:=by simp
     refine ⟨j,q+0,done++[(k,T)],by omega,by first|rfl|go_num,by first|rfl|go_num, ?_,HNX.out, ?_, ?_,hB4⟩
     ·rw [HMM.out,HTH.out,if_pos (by rw [H35.out])]
     ·rw [hl,HWB.out,List.map_append,← HEX.out];exact HO4.out
     ·rw [hl,HPV.out];exact HP4.out):P:=h
theorem lq72 {P:Prop} (h:P:=by
 have HNP:=hd_ (fA_.less (p:=prB) (m:=k) (by omega) hltj g2)
 clear g2
 go_wp2
 go_round
 case rel=>exact ⟨j+1,false,by omega,by omega,by go_num,rfl,HG.out,HNP.out⟩
 case measure=>simp [intOf];omega):P:=h
theorem lq75 {P:Prop} (h:P:=by
 go_wp2
 go_roundw
 case rel=>exact ⟨k+1,q,done,by omega,by go_num,rfl,HMQ.out,HN.out,HW.out,HP.out,hB⟩
 case measure=>simp [intOf];omega):P:=h
theorem lq76 {P:Prop} (h:P:=by
 go_round
 case rel=>exact ⟨j+1,by omega,by omega,by go_num,HG.out⟩
 case measure=>simp [intOf];omega):P:=h
theorem ab2_ (s:ByteArray) (w:World) (hs:s.size<=maxLen):Calls Tryz.prog 65 #[.string s] w (ahS_ s w):=by
 unfold maxLen at hs
 by_cases h6:60000<s.size
 ·have HE:=hd_ (uN_ h6)
  have k1:decide (60000<(s.size:Int))=true:=decide_eq_true (by omega)
  go_enter Tryz.func65,Tryz.ntmps65
  go_wp2
  refine bodyPost_ret (v:=.tuple #[.slice none 0 0,.slice none 0 0,.int .i64 0,.int .i64 3]) (by simp [results,Tryz.results65,go_sem]) rfl ?_
  exact .inl ⟨by rw [HE.out];decide,by rw [HE.out];rfl,Below.refl _ _⟩
 ·obtain ⟨i0,hi0,hz0,hz1,hz2⟩:=info_parts iF_
  obtain ⟨iS,hiS,hzS,hzS1,hzS2⟩:=info_parts jZ_
  have k1:decide (60000<(s.size:Int))=false:=decide_eq_false (by omega)
  go_enter Tryz.func65,Tryz.ntmps65
  go_wp2_with fail
  go_loopw [6,7,8,9] (fun ws at' mn i wr=>∃ (k q:Nat) (done:List (Nat × List UInt8)),k<=s.size/\i=.int .i64 k/\mn=.int .i64 q/\cZ_ (b8_ done)=q/\fF_ s k done/\wr.ownsRow w.heap.size 9 1 ws done.length ((b8_ done).map .string)/\wr.ownsRow w.heap.size 3 1 at' done.length (dA_ done)/\Below w.heap.size w wr) (fun _ _ _ i _=>s.size-(intOf i).toNat)
  case atStart=>exact ⟨0,0,[],by omega,rfl,rfl,rfl,fF_.start s,World.ownsRow_nil _ _ _ _,World.ownsRow_nil _ _ _ _,Below.refl _ _⟩
  case round =>
   obtain ⟨k,q,done,hk,rfl,rfl,hmq,hat,hws,hpl,hB⟩:=hrel
   have hdl:=hat.2.1
   have HAT:=hd_ hat;have HW:=hd_ hws;have HP:=hd_ hpl;have HMQ:=hd_ hmq;clear hat hws hpl hmq
   have HQL:Hid (q<=60000):=hd_ (by have:=ae7_ (b8_ done);rw [HMQ.out] at this;simp [b8_] at this;omega)
   by_cases hlt:k<s.size
   ·have e32:=eW_ s[k] 32
    have e10:=eW_ s[k] 10
    cases h32:(s[k]==32) with
    | true =>
     have h5:((s[k].toNat:Int)==32)=true:=by rw [← h32];exact e32
     have HN:=hd_ (HAT.out.skip hlt (by rw [h32];rfl))
     clear e32 e10 h32
     exact lq75
    | false =>
     have h5:((s[k].toNat:Int)==32)=false:=by rw [← h32];exact e32
     cases h10:(s[k]==10) with
     | true =>
      have h7:((s[k].toNat:Int)==10)=true:=by rw [← h10];exact e10
      have HN:=hd_ (HAT.out.skip hlt (by rw [h32,h10];rfl))
      clear e32 e10 h32 h10
      exact lq75
     | false =>
      have h7:((s[k].toNat:Int)==10)=false:=by rw [← h10];exact e10
      have hnb:(s[k]==32||s[k]==10)=false:=by rw [h32,h10];rfl
      have HBL:Hid (blank s[k]=false):=hd_ h32
      have e35:=eW_ s[k] 35
      have e48:=eW_ s[k] 48
      have kk1:IntKind.i64.wrap ((k:Int)+1)=(k:Int)+1:=IntWalk.i64_in _ (by omega)
      have HD:=hd_ (gQ_ hlt)
      cases hlo:lowB s[k] with
      | true =>
       have HLO:=hd_ (fun w'=>m1_ hlo w')
       have HFI:=hd_ (fun w'=>hS_ (c:=s[k]) rfl w')
       have HST:=hd_ (fA_.start (p:=lowB) hlt hlo)
       have HF0:Hid (aR_ (s.data.toList.drop k)=(aU_ lowB (s.data.toList.drop k),decide (aU_ lowB (s.data.toList.drop k)<=8))):=hd_ (by rw [HD.out,cM_,if_pos hlo])
       have H35:Hid (s[k]≠35):=hd_ (by intro e;rw [e] at hlo;exact absurd hlo (by decide))
       have h9:((s[k].toNat:Int)==35)=false:=by
        have:(s[k]==35)=false:=by simpa using H35.out
        rw [← this];exact e35
       have h9b:((s[k].toNat:Int) != 35)=true:=by simpa [bne] using h9
       generalize c0_ s[k]=fb at *
       clear e32 e10 e35 e48 h10 hlo
       go_wp2_with (first
        | (go_at_call 99;refine (HLO.out _).mono ?_;rintro e w' ⟨rfl,rfl⟩)
        | (go_at_call 109;refine (HFI.out _).mono ?_;rintro e w' ⟨rfl,rfl⟩))
       go_loop [11] (fun kk=>∃ j:Nat,k+1<=j/\j<=s.size/\kk=.int .i64 j/\fA_ lowB s k j) (fun kk=>s.size-(intOf kk).toNat)
       case atStart=>exact ⟨k+1,by omega,by omega,by go_num,HST.out⟩
       case round =>
        obtain ⟨j,hj1,hj2,rfl,ha⟩:=hrel
        have HA:=hd_ ha;clear ha
        have kk2:IntKind.i64.wrap ((j:Int)-(k:Int))=(j:Int)-(k:Int):=IntWalk.i64_in _ (by omega)
        by_cases hltj:j<s.size
        ·cases hb:lowB s[j] with
         | true =>
          have HC:=hd_ (fun w'=>m1_ hb w')
          have HG:=hd_ (HA.out.more (by omega) hltj hb);clear hb
          go_wp2_with (go_at_call 99;refine (HC.out _).mono ?_;rintro e w' ⟨rfl,rfl⟩)
          exact lq76
         | false =>
          have HC:=hd_ (fun w'=>m1_ hb w')
          have hrun:=HA.out.stop (by omega) hltj hb
          clear hb
          obtain ⟨bb,hb8⟩:∃ bb,decide (((j:Int)-(k:Int))<=8)=bb:=⟨_,rfl⟩
          have HFW:Hid (aR_ (s.data.toList.drop k)=(j-k,bb)):=hd_ (by rw [HF0.out,hrun,← hb8];congr 1;rw [decide_eq_decide];omega)
          clear hrun
          go_upto_region 34 with (go_at_call 99;refine (HC.out _).mono ?_;rintro e w' ⟨rfl,rfl⟩)
          cases bb with
          | false =>
           exact n8_
          | true =>
           exact qY_
        ·have hrun:=HA.out.end_ (by omega) hj2
         obtain ⟨bb,hb8⟩:∃ bb,decide (((j:Int)-(k:Int))<=8)=bb:=⟨_,rfl⟩
         have HFW:Hid (aR_ (s.data.toList.drop k)=(j-k,bb)):=hd_ (by rw [HF0.out,hrun,← hb8];congr 1;rw [decide_eq_decide];omega)
         clear hrun
         go_upto_region 34 with fail
         cases bb with
         | false =>
          exact n8_
         | true =>
          exact qY_
      | false =>
       have HLO:=hd_ (fun w'=>m1_ hlo w')
       cases hdi:c0_ s[k] with
       | true =>
        have HFI:=hd_ (fun w'=>hS_ hdi w')
        have HST:=hd_ (fA_.start (p:=c0_) hlt hdi)
        have HF0:Hid (aR_ (s.data.toList.drop k)=(aU_ c0_ (s.data.toList.drop k),(decide (aU_ c0_ (s.data.toList.drop k)<=6)&&(decide (aU_ c0_ (s.data.toList.drop k)=1)||!(s[k]==48))))):=hd_ (by rw [HD.out,cM_,if_neg (by rw [hlo];decide),if_pos hdi])
        have H35:Hid (s[k]≠35):=hd_ (by intro e;rw [e] at hdi;exact absurd hdi (by decide))
        have h9:((s[k].toNat:Int)==35)=false:=by
         have:(s[k]==35)=false:=by simpa using H35.out
         rw [← this];exact e35
        have h9b:((s[k].toNat:Int) != 35)=true:=by simpa [bne] using h9
        have E48:=hd_ e48
        clear e32 e10 e35 e48 h10 hlo hdi
        go_wp2_with (first
         | (go_at_call 99;refine (HLO.out _).mono ?_;rintro e w' ⟨rfl,rfl⟩)
         | (go_at_call 109;refine (HFI.out _).mono ?_;rintro e w' ⟨rfl,rfl⟩))
        go_loop [11] (fun kk=>∃ j:Nat,k+1<=j/\j<=s.size/\kk=.int .i64 j/\fA_ c0_ s k j) (fun kk=>s.size-(intOf kk).toNat)
        case atStart=>exact ⟨k+1,by omega,by omega,by go_num,HST.out⟩
        case round =>
         obtain ⟨j,hj1,hj2,rfl,ha⟩:=hrel
         have HA:=hd_ ha;clear ha
         have kk2:IntKind.i64.wrap ((j:Int)-(k:Int))=(j:Int)-(k:Int):=IntWalk.i64_in _ (by omega)
         by_cases hltj:j<s.size
         ·cases hb:c0_ s[j] with
          | true =>
           have HC:=hd_ (fun w'=>hS_ hb w')
           have HG:=hd_ (HA.out.more (by omega) hltj hb);clear hb
           go_wp2_with (go_at_call 109;refine (HC.out _).mono ?_;rintro e w' ⟨rfl,rfl⟩)
           exact lq76
          | false =>
           have HC:=hd_ (fun w'=>hS_ hb w')
           have hrun:=HA.out.stop (by omega) hltj hb
           clear hb
           obtain ⟨b1,hb1⟩:∃ b1,decide (((j:Int)-(k:Int))<=6)=b1:=⟨_,rfl⟩
           obtain ⟨b2,hb2⟩:∃ b2,((s[k].toNat:Int) != 48)=b2:=⟨_,rfl⟩
           obtain ⟨b3,hb3⟩:∃ b3,((j:Int)==(k:Int)+1)=b3:=⟨_,rfl⟩
           have HFW0:Hid (aR_ (s.data.toList.drop k)=(j-k,(b1&&(b2||b3)))):=hd_ (by
            have g1:decide (j-k<=6)=decide (((j:Int)-(k:Int))<=6):=by rw [decide_eq_decide];omega
            have g2:(!(s[k]==48))=((s[k].toNat:Int) != 48):=by rw [← E48.out];rfl
            have g3:decide (j-k=1)=((j:Int)==(k:Int)+1):=by
             rw [Bool.eq_iff_iff,decide_eq_true_eq,beq_iff_eq];omega
            rw [HF0.out,hrun,g1,g2,g3,hb1,hb2,hb3,Bool.or_comm])
           clear hrun
           cases b1 with
           | false =>
            have HFW:Hid (aR_ (s.data.toList.drop k)=(j-k,false)):=HFW0
            go_upto_region 34 with (go_at_call 109;refine (HC.out _).mono ?_;rintro e w' ⟨rfl,rfl⟩)
            exact n8_
           | true =>
            cases b2 with
            | true =>
             have HFW:Hid (aR_ (s.data.toList.drop k)=(j-k,true)):=HFW0
             go_upto_region 34 with (go_at_call 109;refine (HC.out _).mono ?_;rintro e w' ⟨rfl,rfl⟩)
             exact qY_
            | false =>
             have HFW:Hid (aR_ (s.data.toList.drop k)=(j-k,b3)):=HFW0
             go_upto_region 34 with (go_at_call 109;refine (HC.out _).mono ?_;rintro e w' ⟨rfl,rfl⟩)
             cases b3 with
             | false =>
              exact n8_
             | true =>
              exact qY_
         ·have hrun:=HA.out.end_ (by omega) hj2
          obtain ⟨b1,hb1⟩:∃ b1,decide (((j:Int)-(k:Int))<=6)=b1:=⟨_,rfl⟩
          obtain ⟨b2,hb2⟩:∃ b2,((s[k].toNat:Int) != 48)=b2:=⟨_,rfl⟩
          obtain ⟨b3,hb3⟩:∃ b3,((j:Int)==(k:Int)+1)=b3:=⟨_,rfl⟩
          have HFW0:Hid (aR_ (s.data.toList.drop k)=(j-k,(b1&&(b2||b3)))):=hd_ (by
           have g1:decide (j-k<=6)=decide (((j:Int)-(k:Int))<=6):=by rw [decide_eq_decide];omega
           have g2:(!(s[k]==48))=((s[k].toNat:Int) != 48):=by rw [← E48.out];rfl
           have g3:decide (j-k=1)=((j:Int)==(k:Int)+1):=by
            rw [Bool.eq_iff_iff,decide_eq_true_eq,beq_iff_eq];omega
           rw [HF0.out,hrun,g1,g2,g3,hb1,hb2,hb3,Bool.or_comm])
          clear hrun
          cases b1 with
          | false =>
           have HFW:Hid (aR_ (s.data.toList.drop k)=(j-k,false)):=HFW0
           go_upto_region 34 with fail
           exact n8_
          | true =>
           cases b2 with
           | true =>
            have HFW:Hid (aR_ (s.data.toList.drop k)=(j-k,true)):=HFW0
            go_upto_region 34 with fail
            exact qY_
           | false =>
            have HFW:Hid (aR_ (s.data.toList.drop k)=(j-k,b3)):=HFW0
            go_upto_region 34 with fail
            cases b3 with
            | false =>
             exact n8_
            | true =>
             exact qY_
       | false =>
        have HFI:=hd_ (fun w'=>hS_ hdi w')
        cases hha:(s[k]==35) with
        | true =>
         have h9:((s[k].toNat:Int)==35)=true:=by rw [← hha];exact e35
         have h9b:((s[k].toNat:Int) != 35)=false:=by simpa [bne] using h9
         have H35:Hid (s[k]=35):=hd_ (by simpa using hha)
         have HST:=hd_ (fA_.start (p:=nlB) hlt (by rw [H35.out];decide))
         have HSP:Hid (((s.data.toList.drop k).take (k+1-k)).all prB=true):=hd_ (fA_.start (p:=prB) hlt (by rw [H35.out];decide))
         have HF0:Hid (aR_ (s.data.toList.drop k)=(aU_ nlB (s.data.toList.drop k),decide (aU_ nlB (s.data.toList.drop k)<=aU_ prB (s.data.toList.drop k)))):=hd_ (by rw [HD.out,cM_,if_neg (by rw [hlo];decide),if_neg (by rw [hdi];decide),if_pos hha])
         clear e32 e10 e35 e48 h10 hlo hdi hha
         go_wp2_with (first
          | (go_at_call 99;refine (HLO.out _).mono ?_;rintro e w' ⟨rfl,rfl⟩)
          | (go_at_call 109;refine (HFI.out _).mono ?_;rintro e w' ⟨rfl,rfl⟩))
         go_loop [11,12] (fun kk ok=>∃ (j:Nat) (bb:Bool),k+1<=j/\j<=s.size/\kk=.int .i64 j/\ok=.bool bb/\fA_ nlB s k j/\((s.data.toList.drop k).take (j-k)).all prB=bb) (fun kk _=>s.size-(intOf kk).toNat)
         case atStart=>exact ⟨k+1,true,by omega,by omega,by go_num,rfl,HST.out,HSP.out⟩
         case round =>
          obtain ⟨j,bb,hj1,hj2,rfl,rfl,ha,hpa⟩:=hrel
          have HA:=hd_ ha;have HPA:=hd_ hpa;clear ha hpa
          by_cases hltj:j<s.size
          ·have ej:=eW_ s[j] 10
           cases hb:(s[j]==10) with
           | false =>
            have h11:((s[j].toNat:Int) != 10)=true:=by
             have:((s[j].toNat:Int)==10)=false:=by rw [← hb];exact ej
             simpa [bne] using this
            have HG:=hd_ (HA.out.more (by omega) hltj (by simp [nlB,hb]))
            have hcc:(decide ((s[j].toNat:Int)<32)=true/\prB s[j]=false)∨(decide ((s[j].toNat:Int)<32)=false/\decide (126<(s[j].toNat:Int))=true/\prB s[j]=false)∨(decide ((s[j].toNat:Int)<32)=false/\decide (126<(s[j].toNat:Int))=false/\prB s[j]=true):=by
             simp only [prB]
             by_cases h1:s[j].toNat<32
             ·refine .inl ⟨decide_eq_true (by omega), ?_⟩
              rw [decide_eq_false (by omega)];rfl
             ·by_cases h2:126<s[j].toNat
              ·refine .inr (.inl ⟨decide_eq_false (by omega),decide_eq_true (by omega), ?_⟩)
               rw [decide_eq_false (show ¬ s[j].toNat<=126 by omega),Bool.and_false]
              ·refine .inr (.inr ⟨decide_eq_false (by omega),decide_eq_false (by omega), ?_⟩)
               rw [decide_eq_true (show 32<=s[j].toNat by omega),decide_eq_true (show s[j].toNat<=126 by omega)];rfl
            clear ej hb
            rcases hcc with ⟨g1,g2⟩|⟨g1,g3,g2⟩|⟨g1,g3,g2⟩
            ·exact lq72
            ·exact lq72
            ·have HNP:Hid (((s.data.toList.drop k).take (j+1-k)).all prB=bb):=hd_ (by
              rw [eJ_ (by omega) hltj,List.all_append,HPA.out]
              simp [g2])
             clear g2
             go_wp2
             go_round
             case rel=>exact ⟨j+1,bb,by omega,by omega,by go_num,rfl,HG.out,HNP.out⟩
             case measure=>simp [intOf];omega
           | true =>
            have h11:((s[j].toNat:Int) != 10)=false:=by
             have:((s[j].toNat:Int)==10)=true:=by rw [← hb];exact ej
             simpa [bne] using this
            have hrun:=HA.out.stop (by omega) hltj (by simp [nlB,hb])
            clear hb ej
            exact lq67
          ·have hrun:=HA.out.end_ (by omega) hj2
           exact lq67
        | false =>
         have h9:((s[k].toNat:Int)==35)=false:=by rw [← hha];exact e35
         have h9b:((s[k].toNat:Int) != 35)=true:=by simpa [bne] using h9
         have H35:Hid (s[k]≠35):=hd_ (by simpa using hha)
         have HF0:Hid (aR_ (s.data.toList.drop k)=(1,c7_.contains s[k])):=hd_ (by rw [HD.out,cM_,if_neg (by rw [hlo];decide),if_neg (by rw [hdi];decide),if_neg (by rw [hha];decide)])
         clear e32 e10 e35 e48 h10 hlo hdi hha
         go_wp2_with (first
          | (go_at_call 99;refine (HLO.out _).mono ?_;rintro e w' ⟨rfl,rfl⟩)
          | (go_at_call 109;refine (HFI.out _).mono ?_;rintro e w' ⟨rfl,rfl⟩))
         go_loop [12,15] (fun ok jj=>∃ (j:Nat) (bb:Bool),j<=9/\jj=.int .i64 j/\ok=.bool bb/\(bb=true↔s[k] ∈ c7_.take j)) (fun _ jj=>9-(intOf jj).toNat)
         case atStart=>exact ⟨0,false,by omega,rfl,rfl,by simp⟩
         case round =>
          obtain ⟨j,bb,hj,rfl,rfl,hok⟩:=hrel
          have hjj:j=0∨j=1∨j=2∨j=3∨j=4∨j=5∨j=6∨j=7∨j=8∨j=9:=by omega
          rcases hjj with rfl|rfl|rfl|rfl|rfl|rfl|rfl|rfl|rfl|rfl
          ·cases hcb:(s[k]==40) with
           | true =>
            have hc1:((40:Int)==(s[k].toNat:Int))=true:=by
             have:s[k]=40:=by simpa using hcb
             rw [this];rfl
            have hc2:((((⟨#[40,41,91,93,44,43,42,61,59]⟩:ByteArray)[0]'(by decide)).toNat:Int)==(s[k].toNat:Int))=true:=hc1
            clear hc1
            have HOK:Hid (true=true↔s[k] ∈ c7_.take (0+1)):=hd_ (by
             have:s[k]=40:=by simpa using hcb
             rw [this];decide)
            clear hcb hok
            go_wp2
            go_round
            case rel=>exact ⟨0+1,true,by omega,by first|rfl|go_num,rfl,HOK.out⟩
            case measure=>simp [intOf]
           | false =>
            have hne:s[k]≠40:=by simpa using hcb
            have hc1:((40:Int)==(s[k].toNat:Int))=false:=by
             rw [beq_eq_false_iff_ne]
             intro e
             exact hne (UInt8.toNat_inj.1 (by show s[k].toNat=40;omega))
            have hc2:((((⟨#[40,41,91,93,44,43,42,61,59]⟩:ByteArray)[0]'(by decide)).toNat:Int)==(s[k].toNat:Int))=false:=hc1
            clear hc1
            have HOK:Hid (bb=true↔s[k] ∈ c7_.take (0+1)):=hd_ (by
             rw [hok,List.take_succ_eq_append_getElem (show 0<c7_.length by decide),List.mem_append,List.mem_singleton]
             constructor
             ·exact .inl
             ·rintro (h|h)
              ·exact h
              ·exact absurd h hne)
            clear hcb hok hne
            go_wp2
            go_round
            case rel=>exact ⟨0+1,bb,by omega,by first|rfl|go_num,rfl,HOK.out⟩
            case measure=>simp [intOf]
          ·cases hcb:(s[k]==41) with
           | true =>
            have hc1:((41:Int)==(s[k].toNat:Int))=true:=by
             have:s[k]=41:=by simpa using hcb
             rw [this];rfl
            have hc2:((((⟨#[40,41,91,93,44,43,42,61,59]⟩:ByteArray)[1]'(by decide)).toNat:Int)==(s[k].toNat:Int))=true:=hc1
            clear hc1
            have HOK:Hid (true=true↔s[k] ∈ c7_.take (1+1)):=hd_ (by
             have:s[k]=41:=by simpa using hcb
             rw [this];decide)
            clear hcb hok
            go_wp2
            go_round
            case rel=>exact ⟨1+1,true,by omega,by first|rfl|go_num,rfl,HOK.out⟩
            case measure=>simp [intOf]
           | false =>
            have hne:s[k]≠41:=by simpa using hcb
            have hc1:((41:Int)==(s[k].toNat:Int))=false:=by
             rw [beq_eq_false_iff_ne]
             intro e
             exact hne (UInt8.toNat_inj.1 (by show s[k].toNat=41;omega))
            have hc2:((((⟨#[40,41,91,93,44,43,42,61,59]⟩:ByteArray)[1]'(by decide)).toNat:Int)==(s[k].toNat:Int))=false:=hc1
            clear hc1
            have HOK:Hid (bb=true↔s[k] ∈ c7_.take (1+1)):=hd_ (by
             rw [hok,List.take_succ_eq_append_getElem (show 1<c7_.length by decide),List.mem_append,List.mem_singleton]
             constructor
             ·exact .inl
             ·rintro (h|h)
              ·exact h
              ·exact absurd h hne)
            clear hcb hok hne
            go_wp2
            go_round
            case rel=>exact ⟨1+1,bb,by omega,by first|rfl|go_num,rfl,HOK.out⟩
            case measure=>simp [intOf]
          ·cases hcb:(s[k]==91) with
           | true =>
            have hc1:((91:Int)==(s[k].toNat:Int))=true:=by
             have:s[k]=91:=by simpa using hcb
             rw [this];rfl
            have hc2:((((⟨#[40,41,91,93,44,43,42,61,59]⟩:ByteArray)[2]'(by decide)).toNat:Int)==(s[k].toNat:Int))=true:=hc1
            clear hc1
            have HOK:Hid (true=true↔s[k] ∈ c7_.take (2+1)):=hd_ (by
             have:s[k]=91:=by simpa using hcb
             rw [this];decide)
            clear hcb hok
            go_wp2
            go_round
            case rel=>exact ⟨2+1,true,by omega,by first|rfl|go_num,rfl,HOK.out⟩
            case measure=>simp [intOf]
           | false =>
            have hne:s[k]≠91:=by simpa using hcb
            have hc1:((91:Int)==(s[k].toNat:Int))=false:=by
             rw [beq_eq_false_iff_ne]
             intro e
             exact hne (UInt8.toNat_inj.1 (by show s[k].toNat=91;omega))
            have hc2:((((⟨#[40,41,91,93,44,43,42,61,59]⟩:ByteArray)[2]'(by decide)).toNat:Int)==(s[k].toNat:Int))=false:=hc1
            clear hc1
            have HOK:Hid (bb=true↔s[k] ∈ c7_.take (2+1)):=hd_ (by
             rw [hok,List.take_succ_eq_append_getElem (show 2<c7_.length by decide),List.mem_append,List.mem_singleton]
             constructor
             ·exact .inl
             ·rintro (h|h)
              ·exact h
              ·exact absurd h hne)
            clear hcb hok hne
            go_wp2
            go_round
            case rel=>exact ⟨2+1,bb,by omega,by first|rfl|go_num,rfl,HOK.out⟩
            case measure=>simp [intOf]
          ·cases hcb:(s[k]==93) with
           | true =>
            have hc1:((93:Int)==(s[k].toNat:Int))=true:=by
             have:s[k]=93:=by simpa using hcb
             rw [this];rfl
            have hc2:((((⟨#[40,41,91,93,44,43,42,61,59]⟩:ByteArray)[3]'(by decide)).toNat:Int)==(s[k].toNat:Int))=true:=hc1
            clear hc1
            have HOK:Hid (true=true↔s[k] ∈ c7_.take (3+1)):=hd_ (by
             have:s[k]=93:=by simpa using hcb
             rw [this];decide)
            clear hcb hok
            go_wp2
            go_round
            case rel=>exact ⟨3+1,true,by omega,by first|rfl|go_num,rfl,HOK.out⟩
            case measure=>simp [intOf]
           | false =>
            have hne:s[k]≠93:=by simpa using hcb
            have hc1:((93:Int)==(s[k].toNat:Int))=false:=by
             rw [beq_eq_false_iff_ne]
             intro e
             exact hne (UInt8.toNat_inj.1 (by show s[k].toNat=93;omega))
            have hc2:((((⟨#[40,41,91,93,44,43,42,61,59]⟩:ByteArray)[3]'(by decide)).toNat:Int)==(s[k].toNat:Int))=false:=hc1
            clear hc1
            have HOK:Hid (bb=true↔s[k] ∈ c7_.take (3+1)):=hd_ (by
             rw [hok,List.take_succ_eq_append_getElem (show 3<c7_.length by decide),List.mem_append,List.mem_singleton]
             constructor
             ·exact .inl
             ·rintro (h|h)
              ·exact h
              ·exact absurd h hne)
            clear hcb hok hne
            go_wp2
            go_round
            case rel=>exact ⟨3+1,bb,by omega,by first|rfl|go_num,rfl,HOK.out⟩
            case measure=>simp [intOf]
          ·cases hcb:(s[k]==44) with
           | true =>
            have hc1:((44:Int)==(s[k].toNat:Int))=true:=by
             have:s[k]=44:=by simpa using hcb
             rw [this];rfl
            have hc2:((((⟨#[40,41,91,93,44,43,42,61,59]⟩:ByteArray)[4]'(by decide)).toNat:Int)==(s[k].toNat:Int))=true:=hc1
            clear hc1
            have HOK:Hid (true=true↔s[k] ∈ c7_.take (4+1)):=hd_ (by
             have:s[k]=44:=by simpa using hcb
             rw [this];decide)
            clear hcb hok
            go_wp2
            go_round
            case rel=>exact ⟨4+1,true,by omega,by first|rfl|go_num,rfl,HOK.out⟩
            case measure=>simp [intOf]
           | false =>
            have hne:s[k]≠44:=by simpa using hcb
            have hc1:((44:Int)==(s[k].toNat:Int))=false:=by
             rw [beq_eq_false_iff_ne]
             intro e
             exact hne (UInt8.toNat_inj.1 (by show s[k].toNat=44;omega))
            have hc2:((((⟨#[40,41,91,93,44,43,42,61,59]⟩:ByteArray)[4]'(by decide)).toNat:Int)==(s[k].toNat:Int))=false:=hc1
            clear hc1
            have HOK:Hid (bb=true↔s[k] ∈ c7_.take (4+1)):=hd_ (by
             rw [hok,List.take_succ_eq_append_getElem (show 4<c7_.length by decide),List.mem_append,List.mem_singleton]
             constructor
             ·exact .inl
             ·rintro (h|h)
              ·exact h
              ·exact absurd h hne)
            clear hcb hok hne
            go_wp2
            go_round
            case rel=>exact ⟨4+1,bb,by omega,by first|rfl|go_num,rfl,HOK.out⟩
            case measure=>simp [intOf]
          ·cases hcb:(s[k]==43) with
           | true =>
            have hc1:((43:Int)==(s[k].toNat:Int))=true:=by
             have:s[k]=43:=by simpa using hcb
             rw [this];rfl
            have hc2:((((⟨#[40,41,91,93,44,43,42,61,59]⟩:ByteArray)[5]'(by decide)).toNat:Int)==(s[k].toNat:Int))=true:=hc1
            clear hc1
            have HOK:Hid (true=true↔s[k] ∈ c7_.take (5+1)):=hd_ (by
             have:s[k]=43:=by simpa using hcb
             rw [this];decide)
            clear hcb hok
            go_wp2
            go_round
            case rel=>exact ⟨5+1,true,by omega,by first|rfl|go_num,rfl,HOK.out⟩
            case measure=>simp [intOf]
           | false =>
            have hne:s[k]≠43:=by simpa using hcb
            have hc1:((43:Int)==(s[k].toNat:Int))=false:=by
             rw [beq_eq_false_iff_ne]
             intro e
             exact hne (UInt8.toNat_inj.1 (by show s[k].toNat=43;omega))
            have hc2:((((⟨#[40,41,91,93,44,43,42,61,59]⟩:ByteArray)[5]'(by decide)).toNat:Int)==(s[k].toNat:Int))=false:=hc1
            clear hc1
            have HOK:Hid (bb=true↔s[k] ∈ c7_.take (5+1)):=hd_ (by
             rw [hok,List.take_succ_eq_append_getElem (show 5<c7_.length by decide),List.mem_append,List.mem_singleton]
             constructor
             ·exact .inl
             ·rintro (h|h)
              ·exact h
              ·exact absurd h hne)
            clear hcb hok hne
            go_wp2
            go_round
            case rel=>exact ⟨5+1,bb,by omega,by first|rfl|go_num,rfl,HOK.out⟩
            case measure=>simp [intOf]
          ·cases hcb:(s[k]==42) with
           | true =>
            have hc1:((42:Int)==(s[k].toNat:Int))=true:=by
             have:s[k]=42:=by simpa using hcb
             rw [this];rfl
            have hc2:((((⟨#[40,41,91,93,44,43,42,61,59]⟩:ByteArray)[6]'(by decide)).toNat:Int)==(s[k].toNat:Int))=true:=hc1
            clear hc1
            have HOK:Hid (true=true↔s[k] ∈ c7_.take (6+1)):=hd_ (by
             have:s[k]=42:=by simpa using hcb
             rw [this];decide)
            clear hcb hok
            go_wp2
            go_round
            case rel=>exact ⟨6+1,true,by omega,by first|rfl|go_num,rfl,HOK.out⟩
            case measure=>simp [intOf]
           | false =>
            have hne:s[k]≠42:=by simpa using hcb
            have hc1:((42:Int)==(s[k].toNat:Int))=false:=by
             rw [beq_eq_false_iff_ne]
             intro e
             exact hne (UInt8.toNat_inj.1 (by show s[k].toNat=42;omega))
            have hc2:((((⟨#[40,41,91,93,44,43,42,61,59]⟩:ByteArray)[6]'(by decide)).toNat:Int)==(s[k].toNat:Int))=false:=hc1
            clear hc1
            have HOK:Hid (bb=true↔s[k] ∈ c7_.take (6+1)):=hd_ (by
             rw [hok,List.take_succ_eq_append_getElem (show 6<c7_.length by decide),List.mem_append,List.mem_singleton]
             constructor
             ·exact .inl
             ·rintro (h|h)
              ·exact h
              ·exact absurd h hne)
            clear hcb hok hne
            go_wp2
            go_round
            case rel=>exact ⟨6+1,bb,by omega,by first|rfl|go_num,rfl,HOK.out⟩
            case measure=>simp [intOf]
          ·cases hcb:(s[k]==61) with
           | true =>
            have hc1:((61:Int)==(s[k].toNat:Int))=true:=by
             have:s[k]=61:=by simpa using hcb
             rw [this];rfl
            have hc2:((((⟨#[40,41,91,93,44,43,42,61,59]⟩:ByteArray)[7]'(by decide)).toNat:Int)==(s[k].toNat:Int))=true:=hc1
            clear hc1
            have HOK:Hid (true=true↔s[k] ∈ c7_.take (7+1)):=hd_ (by
             have:s[k]=61:=by simpa using hcb
             rw [this];decide)
            clear hcb hok
            go_wp2
            go_round
            case rel=>exact ⟨7+1,true,by omega,by first|rfl|go_num,rfl,HOK.out⟩
            case measure=>simp [intOf]
           | false =>
            have hne:s[k]≠61:=by simpa using hcb
            have hc1:((61:Int)==(s[k].toNat:Int))=false:=by
             rw [beq_eq_false_iff_ne]
             intro e
             exact hne (UInt8.toNat_inj.1 (by show s[k].toNat=61;omega))
            have hc2:((((⟨#[40,41,91,93,44,43,42,61,59]⟩:ByteArray)[7]'(by decide)).toNat:Int)==(s[k].toNat:Int))=false:=hc1
            clear hc1
            have HOK:Hid (bb=true↔s[k] ∈ c7_.take (7+1)):=hd_ (by
             rw [hok,List.take_succ_eq_append_getElem (show 7<c7_.length by decide),List.mem_append,List.mem_singleton]
             constructor
             ·exact .inl
             ·rintro (h|h)
              ·exact h
              ·exact absurd h hne)
            clear hcb hok hne
            go_wp2
            go_round
            case rel=>exact ⟨7+1,bb,by omega,by first|rfl|go_num,rfl,HOK.out⟩
            case measure=>simp [intOf]
          ·cases hcb:(s[k]==59) with
           | true =>
            have hc1:((59:Int)==(s[k].toNat:Int))=true:=by
             have:s[k]=59:=by simpa using hcb
             rw [this];rfl
            have hc2:((((⟨#[40,41,91,93,44,43,42,61,59]⟩:ByteArray)[8]'(by decide)).toNat:Int)==(s[k].toNat:Int))=true:=hc1
            clear hc1
            have HOK:Hid (true=true↔s[k] ∈ c7_.take (8+1)):=hd_ (by
             have:s[k]=59:=by simpa using hcb
             rw [this];decide)
            clear hcb hok
            go_wp2
            go_round
            case rel=>exact ⟨8+1,true,by omega,by first|rfl|go_num,rfl,HOK.out⟩
            case measure=>simp [intOf]
           | false =>
            have hne:s[k]≠59:=by simpa using hcb
            have hc1:((59:Int)==(s[k].toNat:Int))=false:=by
             rw [beq_eq_false_iff_ne]
             intro e
             exact hne (UInt8.toNat_inj.1 (by show s[k].toNat=59;omega))
            have hc2:((((⟨#[40,41,91,93,44,43,42,61,59]⟩:ByteArray)[8]'(by decide)).toNat:Int)==(s[k].toNat:Int))=false:=hc1
            clear hc1
            have HOK:Hid (bb=true↔s[k] ∈ c7_.take (8+1)):=hd_ (by
             rw [hok,List.take_succ_eq_append_getElem (show 8<c7_.length by decide),List.mem_append,List.mem_singleton]
             constructor
             ·exact .inl
             ·rintro (h|h)
              ·exact h
              ·exact absurd h hne)
            clear hcb hok hne
            go_wp2
            go_round
            case rel=>exact ⟨8+1,bb,by omega,by first|rfl|go_num,rfl,HOK.out⟩
            case measure=>simp [intOf]
          ·have HFW:Hid (aR_ (s.data.toList.drop k)=(k+1-k,bb)):=hd_ (by
            have:c7_.contains s[k]=bb:=by
             rw [Bool.eq_iff_iff,hok]
             rw [show c7_.take 9=c7_ from rfl]
             simp
            rw [HF0.out,this,show k+1-k=1 by omega])
           clear hok
           go_upto_region 34 with fail
           cases bb with
           | false =>
            exact n8_
           | true =>
            obtain ⟨n0,hn1,hnext⟩:=HAT.out.word hlt hnb HFW.out
            have hkj:k+((k+1)-k)=(k+1):=by omega
            rw [hkj] at hn1 hnext
            have HTH:=hd_ (uJ_ (J:=(k+1)) hlt (by omega) HBL.out)
            obtain ⟨T,hT⟩:∃ T,bP_ ((s.data.toList.drop k).take ((k+1)-k))=T:=⟨_,rfl⟩
            rw [hT] at hnext HTH
            have HNX:=hd_ hnext;have HT0:=hd_ hT
            clear hnext hT hkj
            go_wp2_with fail
            go_loop [16] (fun ev=>∃ e:Nat,k+1<=e/\e<=(k+1)/\ev=.int .i64 e/\T=bP_ ((s.data.toList.drop k).take (e-k))) (fun ev=>(intOf ev).toNat)
            case atStart=>exact ⟨(k+1),by omega,Nat.le_refl _,by first|rfl|go_num,HT0.out.symm⟩
            case round =>
             obtain ⟨e,he1,he2,rfl,hTe⟩:=hrel
             obtain ⟨e',rfl⟩:∃ e',e=e'+1:=⟨e-1,by omega⟩
             have HTE:=hd_ hTe;clear hTe
             have hes:e'<s.size:=by omega
             have hds:=eJ_ (s:=s) (m:=k) (j:=e') (by omega) hes
             have HDS:=hd_ hds;clear hds
             have k6:decide ((k:Int)<(e':Int)+1)=true:=decide_eq_true (by omega)
             have k6n:decide (k<e'+1)=true:=decide_eq_true (by omega)
             have k7:(e':Int)+1-1=(e':Int):=by omega
             have k8:IntKind.i64.wrap (e':Int)=(e':Int):=IntWalk.i64_in _ (by omega)
             have eb:=eW_ s[e'] 32
             cases hb32:(s[e']==32) with
             | true =>
              exact lq70
             | false =>
              have h8:((s[e'].toNat:Int)==32)=false:=by rw [← hb32];exact eb
              have HTF:Hid (T=(s.data.toList.drop k).take (e'+1-k)):=hd_ (by rw [HTE.out,HDS.out,mM_ (by simpa [blank] using hb32)])
              have HEX:Hid (s.extract k (e'+1)=⟨T.toArray⟩):=hd_ (by
               apply ByteArray.ext
               apply Array.toList_inj.1
               rw [Lib.extract_data,HTF.out])
              have HWB:Hid (b8_ (done++[(k,T)])=b8_ done++[⟨T.toArray⟩]):=hd_ (by simp [b8_])
              have HPV:Hid (dA_ (done++[(k,T)])=dA_ done++[.int .i64 (k:Nat)]):=hd_ (by simp [dA_])
              have HMM:=hd_ (n9_ (k:=k) (T:=T) HMQ.out)
              have q1:(0:Int)<=(k:Int):=by omega
              have q2:(k:Int)<=(e':Int)+1:=by omega
              have q3:(e':Int)+1<=(s.size:Int):=by omega
              have q4:IntKind.i64.wrap ((q:Int)+1)=(q:Int)+1:=IntWalk.i64_in _ (by have:=HQL.out;omega)
              have q5:((e':Int)+1).toNat=e'+1:=by omega
              have hsz:=hB.size
              have NE:Hid ((3:TypeId)≠9):=hd_ (by decide)
              clear eb hb32 HTE HDS
              go_wp2_with (first
               | (at_builtin;(fail_if_success have hz:=HO3);refine aB_ _ rfl (.tmp 136) (.tmp 141) _ rfl w.heap.size 9 iS (.string .empty) 1 16 Tryz.underlying60 hiS hzS hzS1 hzS2 rfl (by decide) _ done.length _ rfl (HW.out.alloc _) _ _ 1 1 [.string (s.extract k (e'+1))] rfl (Sl.lit (sz:=1) _ #[.string (s.extract k (e'+1))] 9 1 rfl) (by simp [Value.oneCell']) (by simp only [maxLen];omega) (by omega) (by simp;omega) ?_;intro v3 w3 hown3 hgr3 _;have hB3:Below w.heap.size w w3:=aC_ (hB.alloc hsz _) (HW.out.alloc _) hgr3 (hB.alloc hsz _).size (Nat.le_refl _);have HP3:=hd_ ((HP.out.alloc _).kept hgr3 (e9_ HP.out HW.out NE.out));have HO3:=hd_ hown3;have hsz3:=hB3.size;clear hown3 hgr3)
               | (at_builtin;refine aB_ _ rfl (.tmp 143) (.tmp 145) _ rfl w.heap.size 3 i0 (.int .i64 0) 1 8 Tryz.underlying23 hi0 hz0 hz1 hz2 rfl (by decide) _ done.length _ rfl (HP3.out.alloc _) _ _ 1 1 [.int .i64 (k:Nat)] rfl (Sl.lit (sz:=1) _ #[.int .i64 (k:Nat)] 3 1 rfl) (by simp [Value.oneCell']) (by simp only [maxLen];omega) (by omega) (by simp;omega) ?_;intro v4 w4 hown4 hgr4 _;have hB4:Below w.heap.size w w4:=aC_ (hB3.alloc hsz3 _) (HP3.out.alloc _) hgr4 (hB3.alloc hsz3 _).size (Nat.le_refl _);have HO4:=hd_ ((HO3.out.alloc _).kept hgr4 (e9_ HO3.out HP3.out NE.out.symm));have HP4:=hd_ hown4;clear hown4 hgr4))
              go_roundw
              case measure=>simp [intOf];omega
              case rel =>
               have hl:(done++[(k,T)]).length=done.length+1:=by simp
               refine ⟨(k+1),q+1,done++[(k,T)],by omega,by first|rfl|go_num,by first|rfl|go_num, ?_,HNX.out, ?_, ?_,hB4⟩
               ·rw [HMM.out,HTH.out,if_neg (by intro e;injection e with e;exact H35.out e)]
               ·rw [hl,HWB.out,List.map_append,← HEX.out];exact HO4.out
               ·rw [hl,HPV.out];exact HP4.out
   ·obtain ⟨hd1,hd2⟩:=HAT.out.done_ (by omega)
    have hle:=uO_ h6 hd2
    have hz:∀ p ∈ done,p.2.length<=60000:=fun p hp=>by have:=HAT.out.2.2 p hp;omega
    obtain ⟨A3,c3,rfl⟩:=aD_ HW.out
    obtain ⟨A4,c4,rfl⟩:=aD_ HP.out
    have htx:=vY_ HW.out rfl (by omega) hz
    have HTX:=hd_ htx;have HD1:=hd_ hd1
    rw [hd1,HMQ.out] at hle
    clear htx hd1 hd2 hz
    by_cases h300:300<q
    ·rw [if_pos h300] at hle
     have HE:=hd_ hle;clear hle
     have kq:decide (300<(q:Int))=true:=decide_eq_true (by omega)
     have kqn:decide (300<q)=true:=decide_eq_true h300
     go_wp2
     refine bodyPost_ret (v:=.tuple #[.slice none 0 0,.slice none 0 0,.int .i64 0,.int .i64 3]) (by simp [results,Tryz.results65,go_sem]) rfl ?_
     exact .inl ⟨by rw [HE.out];show (3:Int)≠0;decide,by rw [HE.out];rfl,hB⟩
    ·rw [if_neg h300] at hle
     have HE:=hd_ hle;clear hle
     have kq:decide (300<(q:Int))=false:=decide_eq_false (by omega)
     have kqn:decide (300<q)=false:=decide_eq_false h300
     go_wp2
     refine bodyPost_ret (v:=.tuple #[.slice A3 done.length c3,.slice A4 done.length c4,.int .i64 0,.int .i64 0]) (by simp [results,Tryz.results65,go_sem]) rfl ?_
     refine .inr ⟨by rw [HE.out],A3,c3,A4,c4,by rw [HD1.out], ?_, ?_,hB⟩
     ·rw [HD1.out];exact HTX.out
     ·rw [HD1.out];exact Sl.of_own HP.out
theorem aeJ_ {w:World} {base:Nat} {e:TypeId} {size n c:Nat} {A:Option Addr} {xs:List Value} (h:w.ownsRow base e size (.slice A n c) n xs):n<=c:=by
 rcases h.2 with ⟨h1,h2⟩|⟨g,cap,cur,h1,h2,h3,h4,_⟩
 ·cases h1;omega
 ·cases h1;exact h4
theorem tD_ (s:ByteArray) (w:World) (hs:s.size<4294967281) :
  Calls Tryz.prog 59 #[.string s] w (qR_ s w):=by
 by_cases he:s.size<1
 ·have hn:aS_ s=[]:=by rw [aS_,if_pos (by simpa using kG_.2 he)]
  have HN:=hd_ hn;clear hn
  go_enter Tryz.func59,Tryz.ntmps59
  go_wp2
  go_ret
  exact ⟨none,0,by rw [HN.out];rfl,by rw [HN.out];exact ⟨Sl.nil_,by simp [maxLen],by simp⟩,Below.refl _ _,by rw [HN.out];exact Nat.le_refl _⟩
 ·obtain ⟨iS,hiS,hzS,hzS1,hzS2⟩:=info_parts sZ_
  have hne:s.toList≠[]:=fun h=>he (kG_.1 (by simp [h]))
  have HTL:=hd_ (m6_ hne);clear hne
  have hz0:((s.size:Int)==0)=false:=by rw [beq_eq_false_iff_ne];omega
  go_enter Tryz.func59,Tryz.ntmps59
  go_wp2
  go_loopw [3,4,5] (fun out from' i wr=>∃ (m k:Nat) (done:List ByteArray) (v:Value),i=.int .i64 k/\from'=.int .i64 m/\out=v/\m<=k/\k<=s.size/\done.length<=m/\hN_ s m k/\done++i3_ s m=aS_ s/\wr.ownsRow w.heap.size 9 1 v done.length (done.map .string)/\Below w.heap.size w wr) (fun _ _ i _=>s.size-(intOf i).toNat)
  case atStart=>exact ⟨0,0,[],_,rfl,rfl,rfl,by omega,by omega,by simp,hN_.nil s 0,by rw [HTL.out];rfl,World.ownsRow_nil _ _ _ _,Below.refl _ _⟩
  case round =>
   obtain ⟨m,k,done,v,rfl,rfl,rfl,hmk,hk,hdm,hsp,hdn,hown,hB⟩:=hrel
   have HO:=hd_ hown;have HSP:=hd_ hsp;have HD:=hd_ hdn;clear hown hsp hdn
   have hsz:=hB.size
   by_cases hlt:k<s.size
   ·exact lq69
   ·obtain rfl:k=s.size:=by omega
    have HD2:Hid (done++[s.extract m s.size]=aS_ s):=hd_ (by rw [← HD.out,kI_ HSP.out])
    have HSM:=hd_ (oM_ HD.out hs)
    have q1:(0:Int)<=(m:Int):=by omega
    have q2:(m:Int)<=(s.size:Int):=by omega
    go_wp2_with (at_builtin;refine aB_ _ rfl (.tmp 28) (.tmp 32) _ rfl w.heap.size 9 iS (.string .empty) 1 16 Tryz.underlying60 hiS hzS hzS1 hzS2 rfl (by decide) _ done.length _ rfl (HO.out.alloc _) _ _ 1 1 [.string (s.extract m s.size)] rfl (Sl.lit (sz:=1) _ #[.string (s.extract m s.size)] 9 1 rfl) (by simp [Value.oneCell']) (by simp only [maxLen];omega) (by omega) (by simp;omega) ?_;intro v3 w3 hown3 hgr3 _;have hB3:Below w.heap.size w w3:=aC_ (hB.alloc hsz _) (HO.out.alloc _) hgr3 (hB.alloc hsz _).size (Nat.le_refl _);have HO3:=hd_ hown3;clear hown3 hgr3)
    obtain ⟨A3,c3,rfl⟩:=q8_ HO3.out
    have HL:Hid ((aS_ s).length=done.length+1):=hd_ (by rw [← HD2.out];simp)
    go_ret
    have HS:=Sl.of_own HO3.out
    refine ⟨A3,c3,by rw [HL.out];rfl,⟨?_,by rw [HL.out];simp only [maxLen];omega,HSM.out.2⟩,hB3,by rw [HL.out];exact aeJ_ HO3.out⟩
    rw [HL.out,← HD2.out,List.map_append]
    exact HS
end Go.Proofs.YtddfdmopaeghnacGreatDoor
