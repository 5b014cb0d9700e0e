/- Walks: the reference's lower, IsName, Kids, EndOf, NoteWords, WordsFault. With what it rests on. Conditions: as each theorem states them. -/
import Derived.Test.YtddfdmopaeghnadGreatDoorDqLx
import Derived.Test.YtddfdmopaeghnadGreatDoorDqFi
set_option maxRecDepth 100000
set_option maxHeartbeats 16000000
namespace Go.Proofs.YtddfdmopaeghnadGreatDoor
variable {P Q:Prop}
theorem ds30 (k:Q) (h:Nx_ Q->P:=by intro k_;at_builtin;(fail_if_success have hz:=HO3);refine b4_ _ rfl (.tmp 136) (.tmp 141) _ rfl w.heap.size 9 iS (.string .empty) 1 16 Tryz.underlying72 hiS hzS hzS1 hzS2 rfl de_ _ done.length _ rfl (HW.out.alloc _) _ _ 1 1 [.string (s.extract k (e'+1))] rfl (Sl.lit (sz:=1) _ #[.string (s.extract k (e'+1))] 9 1 rfl) (by simp [Value.oneCell']) (by simp only [maxLen];omega) om_ so_ ?_;intro v3 w3 hown3 hgr3 u_;clear u_;have hB3:Below w.heap.size w w3:=bA_ (hB.alloc hsz _) (HW.out.alloc _) hgr3 (hB.alloc hsz _).size (Nat.le_refl _);have HP3:=hd_ ((HP.out.alloc _).kept hgr3 (hK_ HP.out HW.out NE.out));have HO3:=hd_ hown3;have hsz3:=hB3.size;clear hown3 hgr3;revert v3 w3 hB3 HP3 HO3 hsz3;exact k_.o):P:=h ⟨k⟩
theorem ds31 (k:Q) (h:Nx_ Q->P:=by intro k_;at_builtin;refine b4_ _ rfl (.tmp 143) (.tmp 145) _ rfl w.heap.size 3 i0 (.int .i64 0) 1 8 Tryz.underlying73 hi0 hz0 hz1 hz2 rfl de_ _ done.length _ rfl (HP3.out.alloc _) _ _ 1 1 [.int .i64 (k:Nat)] rfl (Sl.lit (sz:=1) _ #[.int .i64 (k:Nat)] 3 1 rfl) (by simp [Value.oneCell']) (by simp only [maxLen];omega) om_ so_ ?_;intro v4 w4 hown4 hgr4 u_;clear u_;have hB4:Below w.heap.size w w4:=bA_ (hB3.alloc hsz3 _) (HP3.out.alloc _) hgr4 (hB3.alloc hsz3 _).size (Nat.le_refl _);have HO4:=hd_ ((HO3.out.alloc _).kept hgr4 (hK_ HO3.out HP3.out NE.out.symm));have HP4:=hd_ hown4;clear hown4 hgr4;revert v4 w4 hB4 HO4 HP4;exact k_.o):P:=h ⟨k⟩
theorem ds32 (k:Q) (h:Nx_ Q->P:=by intro k_;at_builtin;refine b4_ _ rfl (.tmp 28) (.tmp 32) _ rfl w.heap.size 9 iS (.string .empty) 1 16 Tryz.underlying72 hiS hzS hzS1 hzS2 rfl de_ _ done.length _ rfl (HO.out.alloc _) _ _ 1 1 [.string (s.extract m s.size)] rfl (Sl.lit (sz:=1) _ #[.string (s.extract m s.size)] 9 1 rfl) (by simp [Value.oneCell']) (by simp only [maxLen];omega) om_ so_ ?_;intro v3 w3 hown3 hgr3 u_;clear u_;have hB3:Below w.heap.size w w3:=bA_ (hB.alloc hsz _) (HO.out.alloc _) hgr3 (hB.alloc hsz _).size (Nat.le_refl _);have HO3:=hd_ hown3;clear hown3 hgr3;revert v3 w3 hB3 HO3;exact k_.o):P:=h ⟨k⟩
theorem ds33 (k:Q) (h:Nx_ Q->P:=by intro k_;have HTF:Hid (T=(s.data.toList.drop k).take (e'+1-k)):=hd_ (by rw [HTE.out,HDS.out,adU_ (by simpa [blank] using hb32)]);revert HTF;exact k_.o):P:=h ⟨k⟩
open Go.RowKit
theorem sB_ {w:World} {base:Nat} {e:TypeId} {size n:Nat} {v:Value} {xs:List Value} (h:w.ownsRow base e size v n xs):∃ A c,v=.slice A n c:=by
 rcases h.2 with ⟨rfl,rfl⟩|⟨g,cap,cur,rfl,_⟩
 ·exact ⟨none,0,rfl⟩
 ·exact ⟨_,cap,rfl⟩
theorem vL_:(Tryz.prog.info? 9).map (fun i=>(i.zero,i.size,i.bytes))=some (some (.string .empty),1,16):=by kernel_rfl
theorem fV_ (h:P:=by
 go_wp2
 go_ret
 first
 |
  exact ⟨by rw [HB.out];rfl,rfl⟩
  done
 |
  exact ⟨rfl,rfl⟩
  done
 |
  exact ⟨rfl,Below.refl _ _⟩
  done
 |
  exact ⟨by rw [HQ.out];rfl,hB⟩
  done
 |
  exact ⟨by rw [HW.out];rfl,rfl⟩
  done
 |
  exact ⟨by first|rfl|(simp;done)|(simp;omega),rfl⟩):P:=h
theorem am2_ (h:P:=by
 clear hn
 have hcs:n<97∨122<n∨(97<=n/\n<=122):=by omega
 rcases hcs with h1|h1|⟨h1,h2⟩
 ·have hb:b=false:=by rw [← h];simp;omega
  subst hb;clear h
  go_enter Tryz.func53,Tryz.ntmps53
  exact fV_
 ·have hb:b=false:=by rw [← h];simp;omega
  have h3:97<=n:=by omega
  subst hb;clear h
  go_enter Tryz.func53,Tryz.ntmps53
  exact fV_
 ·have hb:b=true:=by rw [← h];simp;omega
  subst hb;clear h
  go_enter Tryz.func53,Tryz.ntmps53
  go_wp2
  go_ret
  exact ⟨by first|rfl|(simp;done)|(simp;omega),rfl⟩):P:=h
theorem uT_ {c:UInt8} {b:Bool} (h:gR_ c=b) (w:World):Calls Tryz.prog 53 #[.int .u8 (c.toNat:Int)] w fun e w'=>e=.returned (.bool b)/\w=w':=by
 have hc:=c.toNat_lt
 unfold gR_ at h
 generalize hn:c.toNat=n at *
 exact am2_
theorem am3_ (h:P:=by
 rw [ByteArray.toList_eq]
 have h:t.data.toList.length=t.size:=by simp
 cases hl:t.data.toList with
 | nil=>rw [hl] at h;exact ⟨fun _=>by simp only [List.length_nil] at h;omega,fun _=>rfl⟩
 | cons a r=>rw [hl] at h;exact ⟨fun h'=>by (cases h'),fun h'=>by simp only [List.length_cons] at h;omega⟩):P:=h
theorem lM_ {t:ByteArray}:(t.toList.isEmpty=true)↔t.size<1:=by
 exact am3_
theorem am4_ (h:P:=by
 obtain ⟨bb,hb8⟩:∃ bb,decide (((j:Int)-(k:Int))<=8)=bb:=⟨_,rfl⟩
 have HFW:Hid (aZ_ (s.data.toList.drop k)=(j-k,bb)):=hd_ (by rw [HF0.out,hrun,← hb8];congr 1;rw [decide_eq_decide];omega)
 clear hrun
 first
 |
  go_upto_region 34 with (go_at_call 53;refine (HC.out _).mono ?_;rintro e w' ⟨rfl,rfl⟩)
  cases bb with
  | false =>
   exact l3_
  | true =>
   exact pJ_
  done
 |
  go_upto_region 34 with fail
  cases bb with
  | false =>
   exact l3_
  | true =>
   exact pJ_):P:=h
theorem abO_ (h:P:=by
 go_upto_region 34 with (go_at_call 54;refine (HC.out _).mono ?_;rintro e w' ⟨rfl,rfl⟩)
 first
 |
  exact l3_
  done
 |
  exact pJ_
  done
 |
  cases b3 with
  | false =>
   exact l3_
  | true =>
   exact pJ_):P:=h
theorem w6_ (h:P:=by
 have HA:=hd_ ha;clear ha
 first
 |
  by_cases hlt:k<s.size
  ·cases hb:gR_ s[k] with
   | true =>
    have HC:=hd_ (fun w'=>uT_ hb w')
    have HG:=hd_ (h0_ HA.out hlt hb);clear hb
    go_wp2_with (go_at_call 53;refine (HC.out _).mono ?_;rintro e w' ⟨rfl,rfl⟩)
    go_round
    case rel=>exact ⟨k+1,by omega,by go_num,HG.out⟩
    case measure=>exact me_
   | false =>
    have HC:=hd_ (fun w'=>uT_ hb w')
    have HG:=hd_ (rH_ hlt hb);clear hb
    go_wp2_with (go_at_call 53;refine (HC.out _).mono ?_;rintro e w' ⟨rfl,rfl⟩)
    go_ret
    exact ⟨by rw [HW.out,HG.out];rfl,rfl⟩
  ·go_wp2
   go_ret
   exact ⟨by rw [HW.out,m6_ HA.out om_];rfl,rfl⟩
  done
 |
  have kk2:IntKind.i64.wrap ((j:Int)-(k:Int))=(j:Int)-(k:Int):=IntWalk.i64_in _ om_
  by_cases hltj:j<s.size
  ·cases hb:lowB s[j] with
   | true =>
    have HC:=hd_ (fun w'=>nA_ hb w')
    have HG:=hd_ (HA.out.more om_ hltj hb);clear hb
    go_wp2_with (go_at_call 53;refine (HC.out _).mono ?_;rintro e w' ⟨rfl,rfl⟩)
    go_round
    case rel=>exact ⟨j+1,by omega,by omega,by go_num,HG.out⟩
    case measure=>exact me_
   | false =>
    have HC:=hd_ (fun w'=>nA_ hb w')
    have hrun:=HA.out.stop om_ hltj hb
    clear hb
    exact am4_
  ·have hrun:=HA.out.end_ om_ hj2
   exact am4_
  done
 |
  have kk2:IntKind.i64.wrap ((j:Int)-(k:Int))=(j:Int)-(k:Int):=IntWalk.i64_in _ om_
  by_cases hltj:j<s.size
  ·cases hb:c6_ s[j] with
   | true =>
    have HC:=hd_ (fun w'=>i3_ hb w')
    have HG:=hd_ (HA.out.more om_ hltj hb);clear hb
    go_wp2_with (go_at_call 54;refine (HC.out _).mono ?_;rintro e w' ⟨rfl,rfl⟩)
    go_round
    case rel=>exact ⟨j+1,by omega,by omega,by go_num,HG.out⟩
    case measure=>exact me_
   | false =>
    have HC:=hd_ (fun w'=>i3_ hb w')
    have hrun:=HA.out.stop om_ hltj hb
    clear hb
    obtain ⟨b1,hb1⟩:∃ b1,decide (((j:Int)-(k:Int))<=6)=b1:=⟨_,rfl⟩
    obtain ⟨b2,hb2⟩:∃ b2,((s[k].toNat:Int) != 48)=b2:=⟨_,rfl⟩
    obtain ⟨b3,hb3⟩:∃ b3,((j:Int)==(k:Int)+1)=b3:=⟨_,rfl⟩
    have HFW0:Hid (aZ_ (s.data.toList.drop k)=(j-k,(b1&&(b2||b3)))):=hd_ (by
     have g1:decide (j-k<=6)=decide (((j:Int)-(k:Int))<=6):=by rw [decide_eq_decide];omega
     have g2:(!(s[k]==48))=((s[k].toNat:Int) != 48):=by rw [← E48.out];rfl
     have g3:decide (j-k=1)=((j:Int)==(k:Int)+1):=by
      rw [Bool.eq_iff_iff,decide_eq_true_eq,beq_iff_eq];omega
     rw [HF0.out,hrun,g1,g2,g3,hb1,hb2,hb3,Bool.or_comm])
    clear hrun
    cases b1 with
    | false =>
     have HFW:Hid (aZ_ (s.data.toList.drop k)=(j-k,false)):=HFW0
     exact abO_
    | true =>
     cases b2 with
     | true =>
      have HFW:Hid (aZ_ (s.data.toList.drop k)=(j-k,true)):=HFW0
      go_upto_region 34 with (go_at_call 54;refine (HC.out _).mono ?_;rintro e w' ⟨rfl,rfl⟩)
      exact pJ_
     | false =>
      have HFW:Hid (aZ_ (s.data.toList.drop k)=(j-k,b3)):=HFW0
      go_upto_region 34 with (go_at_call 54;refine (HC.out _).mono ?_;rintro e w' ⟨rfl,rfl⟩)
      cases b3 with
      | false=>exact l3_
      | true=>exact pJ_
  ·have hrun:=HA.out.end_ om_ hj2
   obtain ⟨b1,hb1⟩:∃ b1,decide (((j:Int)-(k:Int))<=6)=b1:=⟨_,rfl⟩
   obtain ⟨b2,hb2⟩:∃ b2,((s[k].toNat:Int) != 48)=b2:=⟨_,rfl⟩
   obtain ⟨b3,hb3⟩:∃ b3,((j:Int)==(k:Int)+1)=b3:=⟨_,rfl⟩
   have HFW0:Hid (aZ_ (s.data.toList.drop k)=(j-k,(b1&&(b2||b3)))):=hd_ (by
    have g1:decide (j-k<=6)=decide (((j:Int)-(k:Int))<=6):=by rw [decide_eq_decide];omega
    have g2:(!(s[k]==48))=((s[k].toNat:Int) != 48):=by rw [← E48.out];rfl
    have g3:decide (j-k=1)=((j:Int)==(k:Int)+1):=by
     rw [Bool.eq_iff_iff,decide_eq_true_eq,beq_iff_eq];omega
    rw [HF0.out,hrun,g1,g2,g3,hb1,hb2,hb3,Bool.or_comm])
   clear hrun
   cases b1 with
   | false =>
    have HFW:Hid (aZ_ (s.data.toList.drop k)=(j-k,false)):=HFW0
    go_upto_region 34 with fail
    exact l3_
   | true =>
    cases b2 with
    | true =>
     have HFW:Hid (aZ_ (s.data.toList.drop k)=(j-k,true)):=HFW0
     go_upto_region 34 with fail
     exact pJ_
    | false =>
     have HFW:Hid (aZ_ (s.data.toList.drop k)=(j-k,b3)):=HFW0
     go_upto_region 34 with fail
     cases b3 with
     | false =>
      exact l3_
     | true =>
      exact pJ_
  done
 |
  by_cases hlt:k<l.length
  ·obtain ⟨b,off,t,rfl,hb,ht,hts,hc⟩:=HN.out.one (Below.refl _ _) hlt
   unfold maxLen at hts
   have HNO:Hid (cF_ t=false->cE_ l=5):=hd_ (fun h=>yW_ h60 hlt (by rw [ht];exact h))
   have HMO:Hid (cF_ t=true->(l.take (k+1)).all cF_=true):=hd_ (fun h=>sU_ hlt HA.out (by rw [ht];exact h))
   clear ht
   by_cases h1:t.size<1
   ·have k2:decide (t.size<1)=true:=decide_eq_true h1
    have k3:decide ((t.size:Int)<1)=true:=decide_eq_true om_
    have HB:=hd_ (HNO.out (qE_ (.inl h1)))
    exact fV_
   ·have k2:decide (t.size<1)=false:=decide_eq_false h1
    have k3:decide ((t.size:Int)<1)=false:=decide_eq_false om_
    by_cases h2:20<t.size
    ·have k4:decide (20<t.size)=true:=decide_eq_true h2
     have k5:decide ((20:Int)<(t.size:Int))=true:=decide_eq_true om_
     have HB:=hd_ (HNO.out (qE_ (.inr h2)))
     exact fV_
    ·have k4:decide (20<t.size)=false:=decide_eq_false h2
     have k5:decide ((20:Int)<(t.size:Int))=false:=decide_eq_false om_
     go_wp2
     go_loop [4] (fun j=>∃ m:Nat,m<=t.size/\j=.int .i64 m/\(t.data.toList.take m).all iL_=true) (fun j=>t.size-(intOf j).toNat)
     case atStart=>exact ⟨0,by omega,rfl,rfl⟩
     case round =>
      obtain ⟨m,hm2,rfl,hv⟩:=hrel
      have HV:=hd_ hv;clear hv
      by_cases hlt2:m<t.size
      ·have HO:=hd_ (ahK_ hlt2)
       have HM:Hid (33<=t[m].toNat/\t[m].toNat<=126->(t.data.toList.take (m+1)).all iL_=true):=hd_ (fun h=>h0_ HV.out hlt2 (by unfold iL_;simp;omega))
       by_cases hc1:t[m].toNat<33
       ·have HB:=hd_ (HNO.out (HO.out (.inl hc1)))
        have q1:decide (t[m].toNat<33)=true:=decide_eq_true hc1
        have q2:decide ((t[m].toNat:Int)<33)=true:=decide_eq_true om_
        exact fV_
       ·have q1:decide (t[m].toNat<33)=false:=decide_eq_false hc1
        have q2:decide ((t[m].toNat:Int)<33)=false:=decide_eq_false om_
        by_cases hc2:126<t[m].toNat
        ·have HB:=hd_ (HNO.out (HO.out (.inr hc2)))
         have q3:decide (126<t[m].toNat)=true:=decide_eq_true hc2
         have q4:decide ((126:Int)<(t[m].toNat:Int))=true:=decide_eq_true om_
         exact fV_
        ·have q3:decide (126<t[m].toNat)=false:=decide_eq_false hc2
         have q4:decide ((126:Int)<(t[m].toNat:Int))=false:=decide_eq_false om_
         have HB:=hd_ (HM.out ⟨by omega,by omega⟩)
         go_wp2
         go_round
         case rel=>exact ⟨m+1,by omega,by go_num,HB.out⟩
         case measure=>exact me_
      ·have HG:=hd_ (HMO.out (ae0_ om_ om_ (m6_ HV.out om_)))
       go_wp2
       go_round
       case rel=>exact ⟨k+1,by omega,by go_num,HG.out⟩
       case measure=>exact me_
  ·have hz:=vS_ h60 (show l.length<=k by omega) HA.out
   have HZ:=hd_ hz;clear hz
   go_wp2
   go_ret
   exact ⟨by rw [HZ.out];rfl,rfl⟩):P:=h
theorem n3_ (s:ByteArray) (w:World) (hs:s.size<=maxLen) :
  Calls Tryz.prog 30 #[.string s] w fun e w'=>e=.returned (.bool (aY_ s))/\w=w':=by
 unfold maxLen at hs
 by_cases he:s.size<1
 ·have hw:aY_ s=false:=by simp [aY_,lM_.2 he]
  rw [hw]
  go_enter Tryz.func30,Tryz.ntmps30
  exact fV_
 ·have he2:s.toList.isEmpty=false:=by
   cases h:s.toList.isEmpty with
   | false=>rfl
   | true=>exact absurd (lM_.1 h) he
  by_cases h20:8<s.size
  ·have hw:aY_ s=false:=by
    have hd:decide (s.size<=8)=false:=by simp;omega
    rw [aY_,hd];simp
   rw [hw]
   go_enter Tryz.func30,Tryz.ntmps30
   exact fV_
  ·cases hl:(s.toList==[108,101,116]) with
   | true =>
    have hw:aY_ s=false:=by simp [aY_,hl]
    rw [hw]
    go_enter Tryz.func30,Tryz.ntmps30
    exact fV_
   | false =>
    have hw:aY_ s=s.data.toList.all gR_:=by
     have hd:decide (s.size<=8)=true:=by simp;omega
     rw [aY_,hd,he2,hl];simp
    have HW:=hd_ hw;clear hw he2
    go_enter Tryz.func30,Tryz.ntmps30
    go_wp2
    go_loop [3,4] (fun i _=>∃ k:Nat,k<=s.size/\i=.int .i64 k/\(s.data.toList.take k).all gR_=true) (fun i _=>s.size-(intOf i).toNat)
    case atStart=>exact ⟨0,Nat.zero_le _,rfl,rfl⟩
    case round =>
     obtain ⟨k,hk,rfl,ha⟩:=hrel
     exact w6_
theorem afI_ (op n:Int) (t:ByteArray) (w:World):Calls Tryz.prog 110 #[.agg #[.int .i64 op,.string t,.int .i64 n]] w (Ret w (.int .i64 (aL_ op n))):=by
 go_enter Tryz.func110,Tryz.ntmps110
 go_wp2
 all_goals go_ret
 all_goals refine ⟨?_,aF_⟩
 all_goals simp_all [aL_]
 all_goals omega
theorem x4_ (l:List Nd) (A:Option Addr) (c:Nat) (hg:∀ d ∈ l,a8_ d.op d.text d.n=0):∀ (f i:Nat) (w:World),Nds w w.heap.size A l->l.length<=i+f->i<=l.length ->
  Calls Tryz.prog 59 #[.slice A l.length c,.int .i64 i] w (Ret w (.int .i64 (opT (eoT l f i)))):=by
 have out:∀ (f i:Nat) (w:World),l.length<=maxLen->l.length<=i->i<=l.length->Calls Tryz.prog 59 #[.slice A l.length c,.int .i64 i] w (Ret w (.int .i64 (opT (eoT l f i)))):=by
  intro f i w hm h1 h2
  unfold maxLen at hm
  have he:opT (eoT l f i)=-1:=by
   cases f with
   | zero=>rfl
   | succ f=>simp [eoT,h1,opT]
  rw [he]
  go_enter Tryz.func59,Tryz.ntmps59
  exact fV_
 intro f
 induction f with
 | zero=>intro i w hl h1 h2;exact out 0 i w hl.2.1 om_ h2
 | succ f ih =>
  intro i w hl h1 h2
  by_cases hi:l.length<=i
  ·exact out _ i w hl.2.1 hi h2
  ·clear out
   have hm:=hl.2.1
   unfold maxLen at hm
   have hi':i<l.length:=by omega
   have HN:=hd_ hl;clear hl
   obtain ⟨b,off,op,t,n,rfl,hb,hd,hts,d1,d2,d3⟩:=HN.out.node (Below.refl _ _) hi'
   have hone:a8_ op t n=0:=by have h:=hg _ (List.getElem_mem hi');rw [hd] at h;exact h
   have hbd:=fG_ hone
   obtain ⟨p,hp⟩:∃ p:Nat,aL_ op n=p:=⟨(aL_ op n).toNat,by omega⟩
   have hma:(b3_ l).getD i 0=p:=by rw [cT_ hi' hd,hp];rfl
   have HR:Hid (eoT l (f+1) i=p2_ (eoT l f) p (some (i+1))):=hd_ (by rw [eoT,if_neg hi,hma])
   rw [HR.out]
   have HI:=hd_ ih;have HBD:=hd_ (fun (j k:Nat) h1 h2 h=>asP_ (l:=l) (f:=f) (i:=j) (c:=k) h1 h2 h)
   have HK:=hd_ (afI_ op n t)
   rw [hp] at HK
   have hp6:p<=6:=by omega
   clear ih hd hone hbd hma hg hp
   go_enter Tryz.func59,Tryz.ntmps59
   go_wp2_with (go_at_call 110;refine (HK.out _).mono ?_;rintro e w1 ⟨rfl,hB1⟩)
   go_loopw [1,5] (fun v m wr=>∃ (q:Nat) (o:Option Nat),v=.int .i64 (opT o)/\m=.int .i64 q/\q<=6/\(∀ k,o=some k->i<k/\k<=l.length)/\p2_ (eoT l f) p (some (i+1))=p2_ (eoT l f) q o/\Below w.heap.size w wr) (fun _ m _=>(intOf m).toNat)
   case atStart=>exact ⟨p,some (i+1),by simp [opT],rfl,hp6,fun k hk=>by cases hk;omega,rfl,hB1⟩
   case round =>
    obtain ⟨q,o,rfl,rfl,hq6,hk,hr,hB⟩:=hrel
    have HQ:=hd_ hr;clear hr
    match q,o,HQ with
    | 0,o,HQ =>
     exact fV_
    | q+1,none,HQ =>
     simp only [opT]
     exact fV_
    | q+1,some k,HQ =>
     have hkb:=hk k rfl
     simp only [opT]
     have HC:=hd_ (HI.out k _ (HN.out.past hB) om_ hkb.2)
     go_wp2_with (go_at_call 59;refine HC.out.mono ?_;rintro e w1 ⟨rfl,hB2⟩)
     go_roundw
     case rel=>exact ⟨q,eoT l f k,rfl,by go_num,by omega,fun j hj=>by have:=HBD.out k j om_ hkb.2 hj;omega,by rw [HQ.out];rfl,hB.trans (hB2.mono hB.size)⟩
     case measure=>simp [intOf]
theorem vQ_ {t:ByteArray}:(t.toList.isEmpty=true)↔t.size<1:=by
 exact am3_
theorem qE_ {t:ByteArray} (h:t.size<1∨20<t.size):cF_ t=false:=by
 unfold cF_
 rcases h with h|h
 ·have h2:=vQ_.2 h
  rw [h2];rfl
 ·have h2:decide (t.size<=20)=false:=by simp;omega
  rw [h2];simp
theorem ahK_ {t:ByteArray} {k:Nat} (hk:k<t.size) (h:t[k].toNat<33∨126<t[k].toNat):cF_ t=false:=by
 have h1:iL_ t[k]=false:=by unfold iL_;simp;omega
 unfold cF_
 rw [rH_ hk h1];simp
theorem ae0_ {t:ByteArray} (h1:1<=t.size) (h2:t.size<=20) (h3:t.data.toList.all iL_=true):cF_ t=true:=by
 have e1:t.toList.isEmpty=false:=by
  cases h:t.toList.isEmpty with
  | false=>rfl
  | true=>have:=vQ_.1 h;omega
 unfold cF_
 rw [e1,h3]
 simp;omega
theorem mH_ (l:List ByteArray) (A:Option Addr) (n c:Nat) (hn:l.length=n) (w:World) (hl:Txs w w.heap.size A l) :
  Calls Tryz.prog 108 #[.slice A n c] w fun e w'=>e=.returned (.int .i64 (cE_ l))/\w=w':=by
 have hm:=hl.2.1
 unfold maxLen at hm
 subst hn
 by_cases h60:60<l.length
 ·have k1:decide (60<l.length)=true:=by simpa using h60
  have hw:cE_ l=3:=by rw [cE_,if_pos h60]
  have HW:=hd_ hw;clear hw
  go_enter Tryz.func108,Tryz.ntmps108
  exact fV_
 ·have k1:decide (60<l.length)=false:=by simpa using h60
  have HN:=hd_ hl;clear hl
  go_enter Tryz.func108,Tryz.ntmps108
  go_wp2
  go_loop [3,4] (fun i _=>∃ k:Nat,k<=l.length/\i=.int .i64 k/\(l.take k).all cF_=true) (fun i _=>l.length-(intOf i).toNat)
  case atStart=>exact ⟨0,by omega,rfl,rfl⟩
  case round =>
   obtain ⟨k,hk,rfl,ha⟩:=hrel
   exact w6_
theorem q8_ {s:ByteArray} {done:List ByteArray} {m:Nat} (h:done++iJ_ s m=aJ_ s) (hm:s.size<4294967281):(∀ x ∈ done,x.size<=maxLen)/\(∀ x ∈ aJ_ s,x.size<=maxLen):=by
 have hz:∀ x ∈ aJ_ s,x.size<=s.size:=by
  unfold aJ_
  split
  ·intro x hx;cases hx
  ·exact jK_ spB 0 _ s
 exact ⟨fun x hx=>by have:=hz x (by rw [← h];simp [hx]);simp only [maxLen];omega,fun x hx=>by have:=hz x hx;simp only [maxLen];omega⟩
theorem am1_ (h:P:=by
 by_cases hc:s[k]=32
 ·have h8:((s[k].toNat:Int)==32)=true:=by rw [hc];rfl
  have HD2:Hid ((done++[s.extract m k])++iJ_ s (k+1)=aJ_ s):=hd_ (by rw [List.append_assoc,← HD.out,yO_ hmk hlt HSP.out hc];rfl)
  have HNS:=hd_ (hY_.nil s (k+1))
  have q1:(0:Int)<=(m:Int):=by omega
  have q2:(m:Int)<=(k:Int):=by omega
  have q3:(k:Int)<=(s.size:Int):=by omega
  clear hc
  go_wp2_with (at_builtin;refine b4_ _ rfl (.tmp 19) (.tmp 24) _ rfl w.heap.size 9 iS (.string .empty) 1 16 Tryz.underlying72 hiS hzS hzS1 hzS2 rfl de_ _ done.length _ rfl (HO.out.alloc _) _ _ 1 1 [.string (s.extract m k)] rfl (Sl.lit (sz:=1) _ #[.string (s.extract m k)] 9 1 rfl) (by simp [Value.oneCell']) (by simp only [maxLen];omega) om_ so_ ?_;intro v3 w3 hown3 hgr3 _;have hB3:Below w.heap.size w w3:=bA_ (hB.alloc hsz _) (HO.out.alloc _) hgr3 (hB.alloc hsz _).size (Nat.le_refl _);have HO3:=hd_ hown3;clear hown3 hgr3)
  go_roundw
  case measure=>exact me_
  case rel=>exact ⟨k+1,k+1,done++[s.extract m k],v3,by go_num,by go_num,rfl,by omega,by omega,by simp;omega,HNS.out,HD2.out,by rw [List.length_append,List.map_append];exact HO3.out,hB3⟩
 ·have h8:((s[k].toNat:Int)==32)=false:=by
   have:s[k].toNat≠32:=fun e=>hc (by apply UInt8.toNat_inj.1;rw [e];rfl)
   simp;omega
  have HNS:=hd_ (HSP.out.more hlt hc)
  clear hc
  go_wp2
  go_roundw
  case measure=>exact me_
  case rel=>exact ⟨m,k+1,done,_,by go_num,rfl,rfl,by omega,by omega,by omega,HNS.out,HD.out,HO.out,hB⟩):P:=h
theorem jS_ (s:ByteArray) (w:World) (hs:s.size<4294967281) :
  Calls Tryz.prog 28 #[.string s] w (wH_ s w):=by
 by_cases he:s.size<1
 ·have hn:aJ_ s=[]:=by rw [aJ_,if_pos (by simpa using lM_.2 he)]
  have HN:=hd_ hn;clear hn
  go_enter Tryz.func28,Tryz.ntmps28
  go_wp2
  go_ret
  exact ⟨none,0,by rw [HN.out];rfl,by rw [HN.out];exact ⟨Sl.nil_,by simp [maxLen],by simp⟩,Below.refl _ _⟩
 ·obtain ⟨iS,hiS,hzS,hzS1,hzS2⟩:=info_parts vL_
  have hne:s.toList≠[]:=fun h=>he (lM_.1 (by simp [h]))
  have HTL:=hd_ (nF_ hne);clear hne
  have hz0:((s.size:Int)==0)=false:=by rw [beq_eq_false_iff_ne];omega
  go_enter Tryz.func28,Tryz.ntmps28
  go_wp2
  go_loopw [3,4,5] (fun out from' i wr=>∃ (m k:Nat) (done:List ByteArray) (v:Value),i=.int .i64 k/\from'=.int .i64 m/\out=v/\m<=k/\k<=s.size/\done.length<=m/\hY_ s m k/\done++iJ_ s m=aJ_ s/\wr.ownsRow w.heap.size 9 1 v done.length (done.map .string)/\Below w.heap.size w wr) (fun _ _ i _=>s.size-(intOf i).toNat)
  case atStart=>exact ⟨0,0,[],_,rfl,rfl,rfl,by omega,by omega,by simp,hY_.nil s 0,by rw [HTL.out];rfl,World.ownsRow_nil _ _ _ _,Below.refl _ _⟩
  case round =>
   obtain ⟨m,k,done,v,rfl,rfl,rfl,hmk,hk,hdm,hsp,hdn,hown,hB⟩:=hrel
   have HO:=hd_ hown;have HSP:=hd_ hsp;have HD:=hd_ hdn;clear hown hsp hdn
   have hsz:=hB.size
   by_cases hlt:k<s.size
   ·have hb1:=s[k].toNat_lt
    exact am1_
   ·obtain rfl:k=s.size:=by omega
    have HD2:Hid (done++[s.extract m s.size]=aJ_ s):=hd_ (by rw [← HD.out,lP_ HSP.out])
    have HSM:=hd_ (q8_ HD.out hs)
    have q1:(0:Int)<=(m:Int):=by omega
    have q2:(m:Int)<=(s.size:Int):=by omega
    go_wp2_with (refine ds32 ?_;intro v3 w3 hB3 HO3)
    obtain ⟨A3,c3,rfl⟩:=sB_ HO3.out
    have HL:Hid ((aJ_ s).length=done.length+1):=hd_ (by rw [← HD2.out];simp)
    go_ret
    have HS:=Sl.of_own HO3.out
    refine ⟨A3,c3,by rw [HL.out];rfl,⟨?_,by rw [HL.out];simp only [maxLen];omega,HSM.out.2⟩,hB3⟩
    rw [HL.out,← HD2.out,List.map_append]
    exact HS
theorem nA_ {c:UInt8} {b:Bool} (h:lowB c=b) (w:World):Calls Tryz.prog 53 #[.int .u8 (c.toNat:Int)] w fun e w'=>e=.returned (.bool b)/\w=w':=by
 have hc:=c.toNat_lt
 generalize hn:c.toNat=n at *
 unfold lowB at h
 rw [hn] at h
 exact am2_
theorem i3_ {c:UInt8} {b:Bool} (h:c6_ c=b) (w:World):Calls Tryz.prog 54 #[.int .u8 (c.toNat:Int)] w fun e w'=>e=.returned (.bool b)/\w=w':=by
 have hc:=c.toNat_lt
 generalize hn:c.toNat=n at *
 unfold c6_ at h
 rw [hn] at h
 clear hn
 have hcs:n<48∨57<n∨(48<=n/\n<=57):=by omega
 rcases hcs with h1|h1|⟨h1,h2⟩
 ·have hb:b=false:=by rw [← h];simp;omega
  subst hb;clear h
  go_enter Tryz.func54,Tryz.ntmps54
  exact fV_
 ·have hb:b=false:=by rw [← h];simp;omega
  have h3:48<=n:=by omega
  subst hb;clear h
  go_enter Tryz.func54,Tryz.ntmps54
  exact fV_
 ·have hb:b=true:=by rw [← h];simp;omega
  subst hb;clear h
  go_enter Tryz.func54,Tryz.ntmps54
  exact fV_
def fJ_ (p:UInt8->Bool) (s:ByteArray) (m j:Nat):Prop:=((s.data.toList.drop m).take (j-m)).all p=true
theorem eX_ {s:ByteArray} {m j:Nat} (hm:m<=j) (hj:j<s.size):(s.data.toList.drop m).take (j+1-m)=(s.data.toList.drop m).take (j-m)++[s[j]]:=by
 have hjl:j<s.data.toList.length:=by simpa using hj
 have h1:j-m<(s.data.toList.drop m).length:=by rw [List.length_drop];omega
 rw [show j+1-m=(j-m)+1 by omega,List.take_succ_eq_append_getElem h1,List.getElem_drop]
 congr 2
 have:m+(j-m)=j:=by omega
 simp only [this]
 rfl
theorem fJ_.start {p:UInt8->Bool} {s:ByteArray} {m:Nat} (hm:m<s.size) (hp:p s[m]=true):fJ_ p s m (m+1):=by
 unfold fJ_
 rw [eX_ (Nat.le_refl m) hm]
 simp [hp]
theorem fJ_.more {p:UInt8->Bool} {s:ByteArray} {m j:Nat} (h:fJ_ p s m j) (hm:m<=j) (hj:j<s.size) (hp:p s[j]=true):fJ_ p s m (j+1):=by
 unfold fJ_ at h ⊢
 rw [eX_ hm hj,List.all_append,h]
 simp [hp]
theorem fJ_.less {p:UInt8->Bool} {s:ByteArray} {m j:Nat} (hm:m<=j) (hj:j<s.size) (hp:p s[j]=false):((s.data.toList.drop m).take (j+1-m)).all p=false:=by
 rw [eX_ hm hj,List.all_append]
 simp [hp]
theorem fJ_.stop {p:UInt8->Bool} {s:ByteArray} {m j:Nat} (h:fJ_ p s m j) (hm:m<=j) (hj:j<s.size) (hp:p s[j]=false):aX_ p (s.data.toList.drop m)=j-m:=by
 have hjl:j<s.data.toList.length:=by simpa using hj
 refine aaN_ h (by rw [List.length_drop];omega) ?_
 rw [List.getElem_drop]
 have:m+(j-m)=j:=by omega
 simp only [this]
 exact hp
theorem fJ_.end_ {p:UInt8->Bool} {s:ByteArray} {m j:Nat} (h:fJ_ p s m j) (hj:s.size<=j) (hj2:j<=s.size):aX_ p (s.data.toList.drop m)=j-m:=by
 have hl:s.data.toList.length=s.size:=by simp
 have e:(s.data.toList.drop m).take (j-m)=s.data.toList.drop m:=List.take_of_length_le (by rw [List.length_drop];omega)
 unfold fJ_ at h
 rw [e] at h
 rw [j4_ (fun c hc=>List.all_eq_true.1 h c hc),List.length_drop]
 omega
theorem agJ_ {p:UInt8->Bool}:∀ (l:List UInt8) (n:Nat),n<=l.length->((l.take n).all p=decide (n<=aX_ p l))
 | _,0,_=>by simp
 | [],n+1,h=>by simp at h
 | c::r,n+1,h=>by
  simp only [List.length_cons] at h
  simp only [List.take_succ_cons,List.all_cons,aX_,agJ_ r n om_]
  by_cases hp:p c=true
  ·simp [hp]
  ·simp [hp]
theorem adV_ (l:List UInt8):bJ_ (l++[32])=bJ_ l:=by
 unfold bJ_
 simp [blank]
theorem adU_ {l:List UInt8} {c:UInt8} (h:blank c=false):bJ_ (l++[c])=l++[c]:=by
 unfold bJ_
 simp [h]
theorem adS_ {c:UInt8} {r:List UInt8} (h:blank c=false):(bJ_ (c::r)).head?=some c:=by
 obtain ⟨k,hk⟩:=lS_ (c::r)
 cases ht:bJ_ (c::r) with
 | nil =>
  rw [ht,List.nil_append] at hk
  cases k with
  | zero=>simp at hk
  | succ k =>
   rw [List.replicate_succ] at hk
   have:c=32:=by injection hk
   subst this
   simp [blank] at h
 | cons d q =>
  rw [ht] at hk
  have:c=d:=by injection hk
  rw [this];rfl
theorem uVx_ (a b:List ByteArray):d6_ (a++b)=d6_ a+d6_ b:=by
 induction a with
 | nil=>simp [d6_]
 | cons t r ih=>simp only [List.cons_append,d6_,ih];omega
theorem xD_ {s:ByteArray} {k J:Nat} (hlt:k<s.size) (hJ:k+1<=J) (hb:blank s[k]=false):(bJ_ ((s.data.toList.drop k).take (J-k))).head?=some s[k]:=by
 rw [h3_ hlt,show J-k=(J-k-1)+1 by omega,List.take_succ_cons]
 exact adS_ hb
theorem oK_ {done:List (Nat × List UInt8)} {q k:Nat} {T:List UInt8} (h:d6_ (bB_ done)=q):d6_ (bB_ (done++[(k,T)]))=q+(if T.head?=some 35 then 0 else 1):=by
 have e:bB_ (done++[(k,T)])=bB_ done++[⟨T.toArray⟩]:=by simp [bB_]
 rw [e,uVx_,h]
 simp [d6_]
def apT_ (s:ByteArray) (w:World) (e:Ending) (w':World):Prop :=
 ((cX_ s).1≠0/\e=.returned (.tuple #[.slice none 0 0,.slice none 0 0,.int .i64 ((cX_ s).2:Nat),.int .i64 (cX_ s).1])/\Below w.heap.size w w') ∨
 ((cX_ s).1=0/\∃ A c A2 c2,e=.returned (.tuple #[.slice A (b1_ s).length c,.slice A2 (b1_ s).length c2,.int .i64 0,.int .i64 0]) /\
  Txs w' w'.heap.size A (bB_ (b1_ s))/\Sl w' w'.heap.size 1 A2 (b1_ s).length (dK_ (b1_ s))/\Below w.heap.size w w')
theorem abL_ (h:P:=by
 have h8:((s[e'].toNat:Int)==32)=true:=by rw [← hb32];exact eb
 have hne:k+1<=e':=by
  rcases Nat.lt_or_ge k e' with h|h
  ·omega
  ·have:e'=k:=by omega
   subst this
   rw [h32] at hb32
   cases hb32
 have HTE2:Hid (T=bJ_ ((s.data.toList.drop k).take (e'-k))):=hd_ (by
  have h32':s[e']=32:=by simpa using hb32
  rw [HTE.out,HDS.out,h32',adV_])
 clear eb hb32 HTE HDS
 go_wp2
 go_round
 case rel=>exact ⟨e',hne,by omega,by first|rfl|go_num,HTE2.out⟩
 case measure=>simp [intOf]):P:=h
theorem pJ_ (h:P:=by
 obtain ⟨n0,hn1,hnext⟩:=HAT.out.word hlt hnb HFW.out
 have hkj:k+(j-k)=j:=by omega
 rw [hkj] at hn1 hnext
 have HTH:=hd_ (xD_ (J:=j) hlt om_ HBL.out)
 obtain ⟨T,hT⟩:∃ T,bJ_ ((s.data.toList.drop k).take (j-k))=T:=⟨_,rfl⟩
 rw [hT] at hnext HTH
 have HNX:=hd_ hnext;have HT0:=hd_ hT
 clear hnext hT hkj
 go_wp2_with fail
 go_loop [16] (fun ev=>∃ e:Nat,k+1<=e/\e<=j/\ev=.int .i64 e/\T=bJ_ ((s.data.toList.drop k).take (e-k))) (fun ev=>(intOf ev).toNat)
 case atStart=>exact ⟨j,by omega,Nat.le_refl _,by first|rfl|go_num,HT0.out.symm⟩
 case round =>
  obtain ⟨e,he1,he2,rfl,hTe⟩:=hrel
  obtain ⟨e',rfl⟩:∃ e',e=e'+1:=⟨e-1,by omega⟩
  have HTE:=hd_ hTe;clear hTe
  have hes:e'<s.size:=by omega
  have hds:=eX_ (s:=s) (m:=k) (j:=e') om_ hes
  have HDS:=hd_ hds;clear hds
  have k6:decide ((k:Int)<(e':Int)+1)=true:=decide_eq_true om_
  have k6n:decide (k<e'+1)=true:=decide_eq_true om_
  have k7:(e':Int)+1-1=(e':Int):=by omega
  have k8:IntKind.i64.wrap (e':Int)=(e':Int):=IntWalk.i64_in _ om_
  have eb:=fE_ s[e'] 32
  cases hb32:(s[e']==32) with
  | true =>
   exact abL_
  | false =>
   have h8:((s[e'].toNat:Int)==32)=false:=by rw [← hb32];exact eb
   refine ds33 ?_;intro HTF
   have HEX:Hid (s.extract k (e'+1)=⟨T.toArray⟩):=hd_ (by
    apply ByteArray.ext
    apply Array.toList_inj.1
    rw [Lib.extract_data,HTF.out])
   have HWB:Hid (bB_ (done++[(k,T)])=bB_ done++[⟨T.toArray⟩]):=hd_ (by simp [bB_])
   have HPV:Hid (dK_ (done++[(k,T)])=dK_ done++[.int .i64 (k:Nat)]):=hd_ (by simp [dK_])
   have HMM:=hd_ (oK_ (k:=k) (T:=T) HMQ.out)
   have q1:(0:Int)<=(k:Int):=by omega
   have q2:(k:Int)<=(e':Int)+1:=by omega
   have q3:(e':Int)+1<=(s.size:Int):=by omega
   have q4:IntKind.i64.wrap ((q:Int)+1)=(q:Int)+1:=IntWalk.i64_in _ (by have:=HQL.out;omega)
   have q5:((e':Int)+1).toNat=e'+1:=by omega
   have hsz:=hB.size
   have NE:Hid ((3:TypeId)≠9):=hd_ de_
   clear eb hb32 HTE HDS
   go_wp2_with (first
    | (refine ds30 ?_;intro v3 w3 hB3 HP3 HO3 hsz3)
    | (refine ds31 ?_;intro v4 w4 hB4 HO4 HP4))
   go_roundw
   case measure=>exact me_
   case rel =>
    have hl:(done++[(k,T)]).length=done.length+1:=by simp
    refine ⟨j,q+1,done++[(k,T)],by omega,by first|rfl|go_num,by first|rfl|go_num, ?_,HNX.out, ?_, ?_,hB4⟩
    ·rw [HMM.out,HTH.out,if_neg (by intro e;injection e with e;exact H35.out e)]
    ·rw [hl,HWB.out,List.map_append,← HEX.out];exact HO4.out
    ·rw [hl,HPV.out];exact HP4.out):P:=h
theorem l3_ (h:P:=by
 have HX:=hd_ (aaD_ h6 (HAT.out.fault hlt hnb (by rw [HFW.out])))
 go_wp2
 refine bodyPost_ret (v:=.tuple #[.slice none 0 0,.slice none 0 0,.int .i64 (k:Nat),.int .i64 5]) (by simp [results,Tryz.results27,go_sem]) rfl ?_
 exact .inl ⟨by rw [HX.out];show (5:Int)≠0;decide,by rw [HX.out],hB⟩):P:=h
theorem alZ_ (h:P:=by
 have HFW:Hid (aZ_ (s.data.toList.drop k)=(j-k,bb)):=hd_ (by
  have hsl:s.data.toList.length=s.size:=by simp
  have g:=agJ_ (p:=prB) (s.data.toList.drop k) (j-k) (by rw [List.length_drop];omega)
  rw [HF0.out,hrun,← g,HPA.out])
 clear hrun
 go_upto_region 34 with fail
 cases bb with
 | false =>
  exact l3_
 | true =>
  obtain ⟨n0,hn1,hnext⟩:=HAT.out.word hlt hnb HFW.out
  have hkj:k+(j-k)=j:=by omega
  rw [hkj] at hn1 hnext
  have HTH:=hd_ (xD_ (J:=j) hlt om_ HBL.out)
  obtain ⟨T,hT⟩:∃ T,bJ_ ((s.data.toList.drop k).take (j-k))=T:=⟨_,rfl⟩
  rw [hT] at hnext HTH
  have HNX:=hd_ hnext;have HT0:=hd_ hT
  clear hnext hT hkj
  go_wp2_with fail
  go_loop [16] (fun ev=>∃ e:Nat,k+1<=e/\e<=j/\ev=.int .i64 e/\T=bJ_ ((s.data.toList.drop k).take (e-k))) (fun ev=>(intOf ev).toNat)
  case atStart=>exact ⟨j,by omega,Nat.le_refl _,by first|rfl|go_num,HT0.out.symm⟩
  case round =>
   obtain ⟨e,he1,he2,rfl,hTe⟩:=hrel
   obtain ⟨e',rfl⟩:∃ e',e=e'+1:=⟨e-1,by omega⟩
   have HTE:=hd_ hTe;clear hTe
   have hes:e'<s.size:=by omega
   have hds:=eX_ (s:=s) (m:=k) (j:=e') om_ hes
   have HDS:=hd_ hds;clear hds
   have k6:decide ((k:Int)<(e':Int)+1)=true:=decide_eq_true om_
   have k6n:decide (k<e'+1)=true:=decide_eq_true om_
   have k7:(e':Int)+1-1=(e':Int):=by omega
   have k8:IntKind.i64.wrap (e':Int)=(e':Int):=IntWalk.i64_in _ om_
   have eb:=fE_ s[e'] 32
   cases hb32:(s[e']==32) with
   | true =>
    exact abL_
   | false =>
    have h8:((s[e'].toNat:Int)==32)=false:=by rw [← hb32];exact eb
    refine ds33 ?_;intro HTF
    have HEX:Hid (s.extract k (e'+1)=⟨T.toArray⟩):=hd_ (by
     apply ByteArray.ext
     apply Array.toList_inj.1
     rw [Lib.extract_data,HTF.out])
    have HWB:Hid (bB_ (done++[(k,T)])=bB_ done++[⟨T.toArray⟩]):=hd_ (by simp [bB_])
    have HPV:Hid (dK_ (done++[(k,T)])=dK_ done++[.int .i64 (k:Nat)]):=hd_ (by simp [dK_])
    have HMM:=hd_ (oK_ (k:=k) (T:=T) HMQ.out)
    have q1:(0:Int)<=(k:Int):=by omega
    have q2:(k:Int)<=(e':Int)+1:=by omega
    have q3:(e':Int)+1<=(s.size:Int):=by omega
    have q4:IntKind.i64.wrap ((q:Int)+1)=(q:Int)+1:=IntWalk.i64_in _ (by have:=HQL.out;omega)
    have q5:((e':Int)+1).toNat=e'+1:=by omega
    have hsz:=hB.size
    have NE:Hid ((3:TypeId)≠9):=hd_ de_
    clear eb hb32 HTE HDS
    go_wp2_with (first
     | (refine ds30 ?_;intro v3 w3 hB3 HP3 HO3 hsz3)
     | (refine ds31 ?_;intro v4 w4 hB4 HO4 HP4))
    go_roundw
    case measure=>exact me_
    case rel =>
     have hl:(done++[(k,T)]).length=done.length+1:=by simp
     refine ⟨j,q+0,done++[(k,T)],by omega,by first|rfl|go_num,by first|rfl|go_num, ?_,HNX.out, ?_, ?_,hB4⟩
     ·rw [HMM.out,HTH.out,if_pos (by rw [H35.out])]
     ·rw [hl,HWB.out,List.map_append,← HEX.out];exact HO4.out
     ·rw [hl,HPV.out];exact HP4.out):P:=h
theorem abN_ (h:P:=by
 clear g2
 go_wp2
 go_round
 first
 |
  case rel=>exact ⟨j+1,false,by omega,by omega,by go_num,rfl,HG.out,HNP.out⟩
  case measure=>exact me_
  done
 |
  case rel=>exact ⟨j+1,bb,by omega,by omega,by go_num,rfl,HG.out,HNP.out⟩
  case measure=>exact me_):P:=h
theorem abM_ (h:P:=by
 go_wp2_with (first
  | (go_at_call 53;refine (HLO.out _).mono ?_;rintro e w' ⟨rfl,rfl⟩)
  | (go_at_call 54;refine (HFI.out _).mono ?_;rintro e w' ⟨rfl,rfl⟩))
 first
 |
  go_loop [11] (fun kk=>∃ j:Nat,k+1<=j/\j<=s.size/\kk=.int .i64 j/\fJ_ lowB s k j) (fun kk=>s.size-(intOf kk).toNat)
  case atStart=>exact ⟨k+1,by omega,by omega,by go_num,HST.out⟩
  case round =>
   obtain ⟨j,hj1,hj2,rfl,ha⟩:=hrel
   exact w6_
  done
  done
 |
  go_loop [11] (fun kk=>∃ j:Nat,k+1<=j/\j<=s.size/\kk=.int .i64 j/\fJ_ c6_ s k j) (fun kk=>s.size-(intOf kk).toNat)
  case atStart=>exact ⟨k+1,by omega,by omega,by go_num,HST.out⟩
  case round =>
   obtain ⟨j,hj1,hj2,rfl,ha⟩:=hrel
   exact w6_
  done
  done
 |
  go_loop [11,12] (fun kk ok=>∃ (j:Nat) (bb:Bool),k+1<=j/\j<=s.size/\kk=.int .i64 j/\ok=.bool bb/\fJ_ nlB s k j/\((s.data.toList.drop k).take (j-k)).all prB=bb) (fun kk _=>s.size-(intOf kk).toNat)
  case atStart=>exact ⟨k+1,true,by omega,by omega,by go_num,rfl,HST.out,HSP.out⟩
  case round =>
   obtain ⟨j,bb,hj1,hj2,rfl,rfl,ha,hpa⟩:=hrel
   have HA:=hd_ ha;have HPA:=hd_ hpa;clear ha hpa
   by_cases hltj:j<s.size
   ·have ej:=fE_ s[j] 10
    cases hb:(s[j]==10) with
    | false =>
     have h11:((s[j].toNat:Int) != 10)=true:=by
      have:((s[j].toNat:Int)==10)=false:=by rw [← hb];exact ej
      simpa [bne] using this
     have HG:=hd_ (HA.out.more om_ hltj (by simp [nlB,hb]))
     have hcc:(decide ((s[j].toNat:Int)<32)=true/\prB s[j]=false)∨(decide ((s[j].toNat:Int)<32)=false/\decide (126<(s[j].toNat:Int))=true/\prB s[j]=false)∨(decide ((s[j].toNat:Int)<32)=false/\decide (126<(s[j].toNat:Int))=false/\prB s[j]=true):=by
      simp only [prB]
      by_cases h1:s[j].toNat<32
      ·refine .inl ⟨decide_eq_true om_, ?_⟩
       rw [decide_eq_false om_];rfl
      ·by_cases h2:126<s[j].toNat
       ·refine .inr (.inl ⟨decide_eq_false om_,decide_eq_true om_, ?_⟩)
        rw [decide_eq_false (show ¬ s[j].toNat<=126 by omega),Bool.and_false]
       ·refine .inr (.inr ⟨decide_eq_false om_,decide_eq_false om_, ?_⟩)
        rw [decide_eq_true (show 32<=s[j].toNat by omega),decide_eq_true (show s[j].toNat<=126 by omega)];rfl
     clear ej hb
     rcases hcc with ⟨g1,g2⟩|⟨g1,g3,g2⟩|⟨g1,g3,g2⟩
     ·have HNP:=hd_ (fJ_.less (p:=prB) (m:=k) om_ hltj g2)
      exact abN_
     ·have HNP:=hd_ (fJ_.less (p:=prB) (m:=k) om_ hltj g2)
      exact abN_
     ·have HNP:Hid (((s.data.toList.drop k).take (j+1-k)).all prB=bb):=hd_ (by
       rw [eX_ om_ hltj,List.all_append,HPA.out]
       simp [g2])
      exact abN_
    | true =>
     have h11:((s[j].toNat:Int) != 10)=false:=by
      have:((s[j].toNat:Int)==10)=true:=by rw [← hb];exact ej
      simpa [bne] using this
     have hrun:=HA.out.stop om_ hltj (by simp [nlB,hb])
     clear hb ej
     exact alZ_
   ·have hrun:=HA.out.end_ om_ hj2
    exact alZ_):P:=h
theorem am0_ (h:P:=by
 have h9b:((s[k].toNat:Int) != 35)=true:=by simpa [bne] using h9
 first
 |
  generalize c6_ s[k]=fb at *
  clear e32 e10 e35 e48 h10 hlo
  exact abM_
 |
  have H35:Hid (s[k]≠35):=hd_ (by simpa using hha)
  have HF0:Hid (aZ_ (s.data.toList.drop k)=(1,bZ_.contains s[k])):=hd_ (by rw [HD.out,c9_,if_neg (by rw [hlo];decide),if_neg (by rw [hdi];decide),if_neg (by rw [hha];decide)])
  clear e32 e10 e35 e48 h10 hlo hdi hha
  go_wp2_with (first
   | (go_at_call 53;refine (HLO.out _).mono ?_;rintro e w' ⟨rfl,rfl⟩)
   | (go_at_call 54;refine (HFI.out _).mono ?_;rintro e w' ⟨rfl,rfl⟩))
  go_loop [12,15] (fun ok jj=>∃ (j:Nat) (bb:Bool),j<=9/\jj=.int .i64 j/\ok=.bool bb/\(bb=true↔s[k] ∈ bZ_.take j)) (fun _ jj=>9-(intOf jj).toNat)
  case atStart=>exact ⟨0,false,by omega,rfl,rfl,by simp⟩
  case round =>
   obtain ⟨j,bb,hj,rfl,rfl,hok⟩:=hrel
   have hjj:j=0∨j=1∨j=2∨j=3∨j=4∨j=5∨j=6∨j=7∨j=8∨j=9:=by omega
   rcases hjj with rfl|rfl|rfl|rfl|rfl|rfl|rfl|rfl|rfl|rfl
   ·cases hcb:(s[k]==40) with
    | true =>
     have hc1:((40:Int)==(s[k].toNat:Int))=true:=by
      have:s[k]=40:=by simpa using hcb
      rw [this];rfl
     have hc2:((((⟨#[40,41,91,93,44,43,42,61,59]⟩:ByteArray)[0]' de_).toNat:Int)==(s[k].toNat:Int))=true:=hc1
     clear hc1
     have HOK:Hid (true=true↔s[k] ∈ bZ_.take (0+1)):=hd_ (by
      have:s[k]=40:=by simpa using hcb
      rw [this];decide)
     clear hcb hok
     go_wp2
     go_round
     case rel=>exact ⟨0+1,true,by omega,by first|rfl|go_num,rfl,HOK.out⟩
     case measure=>simp [intOf]
    | false =>
     have hne:s[k]≠40:=by simpa using hcb
     have hc1:((40:Int)==(s[k].toNat:Int))=false:=by
      rw [beq_eq_false_iff_ne]
      intro e
      exact hne (UInt8.toNat_inj.1 (by show s[k].toNat=40;omega))
     have hc2:((((⟨#[40,41,91,93,44,43,42,61,59]⟩:ByteArray)[0]' de_).toNat:Int)==(s[k].toNat:Int))=false:=hc1
     clear hc1
     have HOK:Hid (bb=true↔s[k] ∈ bZ_.take (0+1)):=hd_ (by
      rw [hok,List.take_succ_eq_append_getElem (show 0<bZ_.length by decide),List.mem_append,List.mem_singleton]
      constructor
      ·exact .inl
      ·rintro (h|h)
       ·exact h
       ·exact absurd h hne)
     clear hcb hok hne
     go_wp2
     go_round
     case rel=>exact ⟨0+1,bb,by omega,by first|rfl|go_num,rfl,HOK.out⟩
     case measure=>simp [intOf]
   ·cases hcb:(s[k]==41) with
    | true =>
     have hc1:((41:Int)==(s[k].toNat:Int))=true:=by
      have:s[k]=41:=by simpa using hcb
      rw [this];rfl
     have hc2:((((⟨#[40,41,91,93,44,43,42,61,59]⟩:ByteArray)[1]' de_).toNat:Int)==(s[k].toNat:Int))=true:=hc1
     clear hc1
     have HOK:Hid (true=true↔s[k] ∈ bZ_.take (1+1)):=hd_ (by
      have:s[k]=41:=by simpa using hcb
      rw [this];decide)
     clear hcb hok
     go_wp2
     go_round
     case rel=>exact ⟨1+1,true,by omega,by first|rfl|go_num,rfl,HOK.out⟩
     case measure=>simp [intOf]
    | false =>
     have hne:s[k]≠41:=by simpa using hcb
     have hc1:((41:Int)==(s[k].toNat:Int))=false:=by
      rw [beq_eq_false_iff_ne]
      intro e
      exact hne (UInt8.toNat_inj.1 (by show s[k].toNat=41;omega))
     have hc2:((((⟨#[40,41,91,93,44,43,42,61,59]⟩:ByteArray)[1]' de_).toNat:Int)==(s[k].toNat:Int))=false:=hc1
     clear hc1
     have HOK:Hid (bb=true↔s[k] ∈ bZ_.take (1+1)):=hd_ (by
      rw [hok,List.take_succ_eq_append_getElem (show 1<bZ_.length by decide),List.mem_append,List.mem_singleton]
      constructor
      ·exact .inl
      ·rintro (h|h)
       ·exact h
       ·exact absurd h hne)
     clear hcb hok hne
     go_wp2
     go_round
     case rel=>exact ⟨1+1,bb,by omega,by first|rfl|go_num,rfl,HOK.out⟩
     case measure=>simp [intOf]
   ·cases hcb:(s[k]==91) with
    | true =>
     have hc1:((91:Int)==(s[k].toNat:Int))=true:=by
      have:s[k]=91:=by simpa using hcb
      rw [this];rfl
     have hc2:((((⟨#[40,41,91,93,44,43,42,61,59]⟩:ByteArray)[2]' de_).toNat:Int)==(s[k].toNat:Int))=true:=hc1
     clear hc1
     have HOK:Hid (true=true↔s[k] ∈ bZ_.take (2+1)):=hd_ (by
      have:s[k]=91:=by simpa using hcb
      rw [this];decide)
     clear hcb hok
     go_wp2
     go_round
     case rel=>exact ⟨2+1,true,by omega,by first|rfl|go_num,rfl,HOK.out⟩
     case measure=>simp [intOf]
    | false =>
     have hne:s[k]≠91:=by simpa using hcb
     have hc1:((91:Int)==(s[k].toNat:Int))=false:=by
      rw [beq_eq_false_iff_ne]
      intro e
      exact hne (UInt8.toNat_inj.1 (by show s[k].toNat=91;omega))
     have hc2:((((⟨#[40,41,91,93,44,43,42,61,59]⟩:ByteArray)[2]' de_).toNat:Int)==(s[k].toNat:Int))=false:=hc1
     clear hc1
     have HOK:Hid (bb=true↔s[k] ∈ bZ_.take (2+1)):=hd_ (by
      rw [hok,List.take_succ_eq_append_getElem (show 2<bZ_.length by decide),List.mem_append,List.mem_singleton]
      constructor
      ·exact .inl
      ·rintro (h|h)
       ·exact h
       ·exact absurd h hne)
     clear hcb hok hne
     go_wp2
     go_round
     case rel=>exact ⟨2+1,bb,by omega,by first|rfl|go_num,rfl,HOK.out⟩
     case measure=>simp [intOf]
   ·cases hcb:(s[k]==93) with
    | true =>
     have hc1:((93:Int)==(s[k].toNat:Int))=true:=by
      have:s[k]=93:=by simpa using hcb
      rw [this];rfl
     have hc2:((((⟨#[40,41,91,93,44,43,42,61,59]⟩:ByteArray)[3]' de_).toNat:Int)==(s[k].toNat:Int))=true:=hc1
     clear hc1
     have HOK:Hid (true=true↔s[k] ∈ bZ_.take (3+1)):=hd_ (by
      have:s[k]=93:=by simpa using hcb
      rw [this];decide)
     clear hcb hok
     go_wp2
     go_round
     case rel=>exact ⟨3+1,true,by omega,by first|rfl|go_num,rfl,HOK.out⟩
     case measure=>simp [intOf]
    | false =>
     have hne:s[k]≠93:=by simpa using hcb
     have hc1:((93:Int)==(s[k].toNat:Int))=false:=by
      rw [beq_eq_false_iff_ne]
      intro e
      exact hne (UInt8.toNat_inj.1 (by show s[k].toNat=93;omega))
     have hc2:((((⟨#[40,41,91,93,44,43,42,61,59]⟩:ByteArray)[3]' de_).toNat:Int)==(s[k].toNat:Int))=false:=hc1
     clear hc1
     have HOK:Hid (bb=true↔s[k] ∈ bZ_.take (3+1)):=hd_ (by
      rw [hok,List.take_succ_eq_append_getElem (show 3<bZ_.length by decide),List.mem_append,List.mem_singleton]
      constructor
      ·exact .inl
      ·rintro (h|h)
       ·exact h
       ·exact absurd h hne)
     clear hcb hok hne
     go_wp2
     go_round
     case rel=>exact ⟨3+1,bb,by omega,by first|rfl|go_num,rfl,HOK.out⟩
     case measure=>simp [intOf]
   ·cases hcb:(s[k]==44) with
    | true =>
     have hc1:((44:Int)==(s[k].toNat:Int))=true:=by
      have:s[k]=44:=by simpa using hcb
      rw [this];rfl
     have hc2:((((⟨#[40,41,91,93,44,43,42,61,59]⟩:ByteArray)[4]' de_).toNat:Int)==(s[k].toNat:Int))=true:=hc1
     clear hc1
     have HOK:Hid (true=true↔s[k] ∈ bZ_.take (4+1)):=hd_ (by
      have:s[k]=44:=by simpa using hcb
      rw [this];decide)
     clear hcb hok
     go_wp2
     go_round
     case rel=>exact ⟨4+1,true,by omega,by first|rfl|go_num,rfl,HOK.out⟩
     case measure=>simp [intOf]
    | false =>
     have hne:s[k]≠44:=by simpa using hcb
     have hc1:((44:Int)==(s[k].toNat:Int))=false:=by
      rw [beq_eq_false_iff_ne]
      intro e
      exact hne (UInt8.toNat_inj.1 (by show s[k].toNat=44;omega))
     have hc2:((((⟨#[40,41,91,93,44,43,42,61,59]⟩:ByteArray)[4]' de_).toNat:Int)==(s[k].toNat:Int))=false:=hc1
     clear hc1
     have HOK:Hid (bb=true↔s[k] ∈ bZ_.take (4+1)):=hd_ (by
      rw [hok,List.take_succ_eq_append_getElem (show 4<bZ_.length by decide),List.mem_append,List.mem_singleton]
      constructor
      ·exact .inl
      ·rintro (h|h)
       ·exact h
       ·exact absurd h hne)
     clear hcb hok hne
     go_wp2
     go_round
     case rel=>exact ⟨4+1,bb,by omega,by first|rfl|go_num,rfl,HOK.out⟩
     case measure=>simp [intOf]
   ·cases hcb:(s[k]==43) with
    | true =>
     have hc1:((43:Int)==(s[k].toNat:Int))=true:=by
      have:s[k]=43:=by simpa using hcb
      rw [this];rfl
     have hc2:((((⟨#[40,41,91,93,44,43,42,61,59]⟩:ByteArray)[5]' de_).toNat:Int)==(s[k].toNat:Int))=true:=hc1
     clear hc1
     have HOK:Hid (true=true↔s[k] ∈ bZ_.take (5+1)):=hd_ (by
      have:s[k]=43:=by simpa using hcb
      rw [this];decide)
     clear hcb hok
     go_wp2
     go_round
     case rel=>exact ⟨5+1,true,by omega,by first|rfl|go_num,rfl,HOK.out⟩
     case measure=>simp [intOf]
    | false =>
     have hne:s[k]≠43:=by simpa using hcb
     have hc1:((43:Int)==(s[k].toNat:Int))=false:=by
      rw [beq_eq_false_iff_ne]
      intro e
      exact hne (UInt8.toNat_inj.1 (by show s[k].toNat=43;omega))
     have hc2:((((⟨#[40,41,91,93,44,43,42,61,59]⟩:ByteArray)[5]' de_).toNat:Int)==(s[k].toNat:Int))=false:=hc1
     clear hc1
     have HOK:Hid (bb=true↔s[k] ∈ bZ_.take (5+1)):=hd_ (by
      rw [hok,List.take_succ_eq_append_getElem (show 5<bZ_.length by decide),List.mem_append,List.mem_singleton]
      constructor
      ·exact .inl
      ·rintro (h|h)
       ·exact h
       ·exact absurd h hne)
     clear hcb hok hne
     go_wp2
     go_round
     case rel=>exact ⟨5+1,bb,by omega,by first|rfl|go_num,rfl,HOK.out⟩
     case measure=>simp [intOf]
   ·cases hcb:(s[k]==42) with
    | true =>
     have hc1:((42:Int)==(s[k].toNat:Int))=true:=by
      have:s[k]=42:=by simpa using hcb
      rw [this];rfl
     have hc2:((((⟨#[40,41,91,93,44,43,42,61,59]⟩:ByteArray)[6]' de_).toNat:Int)==(s[k].toNat:Int))=true:=hc1
     clear hc1
     have HOK:Hid (true=true↔s[k] ∈ bZ_.take (6+1)):=hd_ (by
      have:s[k]=42:=by simpa using hcb
      rw [this];decide)
     clear hcb hok
     go_wp2
     go_round
     case rel=>exact ⟨6+1,true,by omega,by first|rfl|go_num,rfl,HOK.out⟩
     case measure=>simp [intOf]
    | false =>
     have hne:s[k]≠42:=by simpa using hcb
     have hc1:((42:Int)==(s[k].toNat:Int))=false:=by
      rw [beq_eq_false_iff_ne]
      intro e
      exact hne (UInt8.toNat_inj.1 (by show s[k].toNat=42;omega))
     have hc2:((((⟨#[40,41,91,93,44,43,42,61,59]⟩:ByteArray)[6]' de_).toNat:Int)==(s[k].toNat:Int))=false:=hc1
     clear hc1
     have HOK:Hid (bb=true↔s[k] ∈ bZ_.take (6+1)):=hd_ (by
      rw [hok,List.take_succ_eq_append_getElem (show 6<bZ_.length by decide),List.mem_append,List.mem_singleton]
      constructor
      ·exact .inl
      ·rintro (h|h)
       ·exact h
       ·exact absurd h hne)
     clear hcb hok hne
     go_wp2
     go_round
     case rel=>exact ⟨6+1,bb,by omega,by first|rfl|go_num,rfl,HOK.out⟩
     case measure=>simp [intOf]
   ·cases hcb:(s[k]==61) with
    | true =>
     have hc1:((61:Int)==(s[k].toNat:Int))=true:=by
      have:s[k]=61:=by simpa using hcb
      rw [this];rfl
     have hc2:((((⟨#[40,41,91,93,44,43,42,61,59]⟩:ByteArray)[7]' de_).toNat:Int)==(s[k].toNat:Int))=true:=hc1
     clear hc1
     have HOK:Hid (true=true↔s[k] ∈ bZ_.take (7+1)):=hd_ (by
      have:s[k]=61:=by simpa using hcb
      rw [this];decide)
     clear hcb hok
     go_wp2
     go_round
     case rel=>exact ⟨7+1,true,by omega,by first|rfl|go_num,rfl,HOK.out⟩
     case measure=>simp [intOf]
    | false =>
     have hne:s[k]≠61:=by simpa using hcb
     have hc1:((61:Int)==(s[k].toNat:Int))=false:=by
      rw [beq_eq_false_iff_ne]
      intro e
      exact hne (UInt8.toNat_inj.1 (by show s[k].toNat=61;omega))
     have hc2:((((⟨#[40,41,91,93,44,43,42,61,59]⟩:ByteArray)[7]' de_).toNat:Int)==(s[k].toNat:Int))=false:=hc1
     clear hc1
     have HOK:Hid (bb=true↔s[k] ∈ bZ_.take (7+1)):=hd_ (by
      rw [hok,List.take_succ_eq_append_getElem (show 7<bZ_.length by decide),List.mem_append,List.mem_singleton]
      constructor
      ·exact .inl
      ·rintro (h|h)
       ·exact h
       ·exact absurd h hne)
     clear hcb hok hne
     go_wp2
     go_round
     case rel=>exact ⟨7+1,bb,by omega,by first|rfl|go_num,rfl,HOK.out⟩
     case measure=>simp [intOf]
   ·cases hcb:(s[k]==59) with
    | true =>
     have hc1:((59:Int)==(s[k].toNat:Int))=true:=by
      have:s[k]=59:=by simpa using hcb
      rw [this];rfl
     have hc2:((((⟨#[40,41,91,93,44,43,42,61,59]⟩:ByteArray)[8]' de_).toNat:Int)==(s[k].toNat:Int))=true:=hc1
     clear hc1
     have HOK:Hid (true=true↔s[k] ∈ bZ_.take (8+1)):=hd_ (by
      have:s[k]=59:=by simpa using hcb
      rw [this];decide)
     clear hcb hok
     go_wp2
     go_round
     case rel=>exact ⟨8+1,true,by omega,by first|rfl|go_num,rfl,HOK.out⟩
     case measure=>simp [intOf]
    | false =>
     have hne:s[k]≠59:=by simpa using hcb
     have hc1:((59:Int)==(s[k].toNat:Int))=false:=by
      rw [beq_eq_false_iff_ne]
      intro e
      exact hne (UInt8.toNat_inj.1 (by show s[k].toNat=59;omega))
     have hc2:((((⟨#[40,41,91,93,44,43,42,61,59]⟩:ByteArray)[8]' de_).toNat:Int)==(s[k].toNat:Int))=false:=hc1
     clear hc1
     have HOK:Hid (bb=true↔s[k] ∈ bZ_.take (8+1)):=hd_ (by
      rw [hok,List.take_succ_eq_append_getElem (show 8<bZ_.length by decide),List.mem_append,List.mem_singleton]
      constructor
      ·exact .inl
      ·rintro (h|h)
       ·exact h
       ·exact absurd h hne)
     clear hcb hok hne
     go_wp2
     go_round
     case rel=>exact ⟨8+1,bb,by omega,by first|rfl|go_num,rfl,HOK.out⟩
     case measure=>simp [intOf]
   ·have HFW:Hid (aZ_ (s.data.toList.drop k)=(k+1-k,bb)):=hd_ (by
     have:bZ_.contains s[k]=bb:=by
      rw [Bool.eq_iff_iff,hok]
      rw [show bZ_.take 9=bZ_ from rfl]
      simp
     rw [HF0.out,this,show k+1-k=1 by omega])
    clear hok
    go_upto_region 34 with fail
    cases bb with
    | false =>
     exact l3_
    | true =>
     obtain ⟨n0,hn1,hnext⟩:=HAT.out.word hlt hnb HFW.out
     have hkj:k+((k+1)-k)=(k+1):=by omega
     rw [hkj] at hn1 hnext
     have HTH:=hd_ (xD_ (J:=(k+1)) hlt om_ HBL.out)
     obtain ⟨T,hT⟩:∃ T,bJ_ ((s.data.toList.drop k).take ((k+1)-k))=T:=⟨_,rfl⟩
     rw [hT] at hnext HTH
     have HNX:=hd_ hnext;have HT0:=hd_ hT
     clear hnext hT hkj
     go_wp2_with fail
     go_loop [16] (fun ev=>∃ e:Nat,k+1<=e/\e<=(k+1)/\ev=.int .i64 e/\T=bJ_ ((s.data.toList.drop k).take (e-k))) (fun ev=>(intOf ev).toNat)
     case atStart=>exact ⟨(k+1),by omega,Nat.le_refl _,by first|rfl|go_num,HT0.out.symm⟩
     case round =>
      obtain ⟨e,he1,he2,rfl,hTe⟩:=hrel
      obtain ⟨e',rfl⟩:∃ e',e=e'+1:=⟨e-1,by omega⟩
      have HTE:=hd_ hTe;clear hTe
      have hes:e'<s.size:=by omega
      have hds:=eX_ (s:=s) (m:=k) (j:=e') om_ hes
      have HDS:=hd_ hds;clear hds
      have k6:decide ((k:Int)<(e':Int)+1)=true:=decide_eq_true om_
      have k6n:decide (k<e'+1)=true:=decide_eq_true om_
      have k7:(e':Int)+1-1=(e':Int):=by omega
      have k8:IntKind.i64.wrap (e':Int)=(e':Int):=IntWalk.i64_in _ om_
      have eb:=fE_ s[e'] 32
      cases hb32:(s[e']==32) with
      | true =>
       exact abL_
      | false =>
       have h8:((s[e'].toNat:Int)==32)=false:=by rw [← hb32];exact eb
       refine ds33 ?_;intro HTF
       have HEX:Hid (s.extract k (e'+1)=⟨T.toArray⟩):=hd_ (by
        apply ByteArray.ext
        apply Array.toList_inj.1
        rw [Lib.extract_data,HTF.out])
       have HWB:Hid (bB_ (done++[(k,T)])=bB_ done++[⟨T.toArray⟩]):=hd_ (by simp [bB_])
       have HPV:Hid (dK_ (done++[(k,T)])=dK_ done++[.int .i64 (k:Nat)]):=hd_ (by simp [dK_])
       have HMM:=hd_ (oK_ (k:=k) (T:=T) HMQ.out)
       have q1:(0:Int)<=(k:Int):=by omega
       have q2:(k:Int)<=(e':Int)+1:=by omega
       have q3:(e':Int)+1<=(s.size:Int):=by omega
       have q4:IntKind.i64.wrap ((q:Int)+1)=(q:Int)+1:=IntWalk.i64_in _ (by have:=HQL.out;omega)
       have q5:((e':Int)+1).toNat=e'+1:=by omega
       have hsz:=hB.size
       have NE:Hid ((3:TypeId)≠9):=hd_ de_
       clear eb hb32 HTE HDS
       go_wp2_with (first
        | (refine ds30 ?_;intro v3 w3 hB3 HP3 HO3 hsz3)
        | (refine ds31 ?_;intro v4 w4 hB4 HO4 HP4))
       go_roundw
       case measure=>exact me_
       case rel =>
        have hl:(done++[(k,T)]).length=done.length+1:=by simp
        refine ⟨(k+1),q+1,done++[(k,T)],by omega,by first|rfl|go_num,by first|rfl|go_num, ?_,HNX.out, ?_, ?_,hB4⟩
        ·rw [HMM.out,HTH.out,if_neg (by intro e;injection e with e;exact H35.out e)]
        ·rw [hl,HWB.out,List.map_append,← HEX.out];exact HO4.out
        ·rw [hl,HPV.out];exact HP4.out):P:=h
theorem am5_ (h:P:=by
 have h9:((s[k].toNat:Int)==35)=false:=by
  have:(s[k]==35)=false:=by simpa using H35.out
  rw [← this];exact e35
 exact am0_):P:=h
theorem am6_ (h:P:=by
 go_wp2
 go_roundw
 case rel=>exact ⟨k+1,q,done,by omega,by go_num,rfl,HMQ.out,HN.out,HW.out,HP.out,hB⟩
 case measure=>exact me_):P:=h
theorem afM_ (s:ByteArray) (w:World) (hs:s.size<=maxLen):Calls Tryz.prog 27 #[.string s] w (apT_ s w):=by
 unfold maxLen at hs
 by_cases h6:60000<s.size
 ·have HE:=hd_ (xI_ h6)
  have k1:decide (60000<(s.size:Int))=true:=decide_eq_true om_
  go_enter Tryz.func27,Tryz.ntmps27
  go_wp2
  refine bodyPost_ret (v:=.tuple #[.slice none 0 0,.slice none 0 0,.int .i64 0,.int .i64 3]) (by simp [results,Tryz.results27,go_sem]) rfl ?_
  exact .inl ⟨by rw [HE.out];decide,by rw [HE.out];rfl,Below.refl _ _⟩
 ·obtain ⟨i0,hi0,hz0,hz1,hz2⟩:=info_parts iT_
  obtain ⟨iS,hiS,hzS,hzS1,hzS2⟩:=info_parts kT_
  have k1:decide (60000<(s.size:Int))=false:=decide_eq_false om_
  go_enter Tryz.func27,Tryz.ntmps27
  go_wp2_with fail
  go_loopw [6,7,8,9] (fun ws at' mn i wr=>∃ (k q:Nat) (done:List (Nat × List UInt8)),k<=s.size/\i=.int .i64 k/\mn=.int .i64 q/\d6_ (bB_ done)=q/\fU_ s k done/\wr.ownsRow w.heap.size 9 1 ws done.length ((bB_ done).map .string)/\wr.ownsRow w.heap.size 3 1 at' done.length (dK_ done)/\Below w.heap.size w wr) (fun _ _ _ i _=>s.size-(intOf i).toNat)
  case atStart=>exact ⟨0,0,[],by omega,rfl,rfl,rfl,fU_.start s,World.ownsRow_nil _ _ _ _,World.ownsRow_nil _ _ _ _,Below.refl _ _⟩
  case round =>
   obtain ⟨k,q,done,hk,rfl,rfl,hmq,hat,hws,hpl,hB⟩:=hrel
   have hdl:=hat.2.1
   have HAT:=hd_ hat;have HW:=hd_ hws;have HP:=hd_ hpl;have HMQ:=hd_ hmq;clear hat hws hpl hmq
   have HQL:Hid (q<=60000):=hd_ (by have:=ajJ_ (bB_ done);rw [HMQ.out] at this;simp [bB_] at this;omega)
   by_cases hlt:k<s.size
   ·have e32:=fE_ s[k] 32
    have e10:=fE_ s[k] 10
    cases h32:(s[k]==32) with
    | true =>
     have h5:((s[k].toNat:Int)==32)=true:=by rw [← h32];exact e32
     have HN:=hd_ (HAT.out.skip hlt (by rw [h32];rfl))
     clear e32 e10 h32
     exact am6_
    | false =>
     have h5:((s[k].toNat:Int)==32)=false:=by rw [← h32];exact e32
     cases h10:(s[k]==10) with
     | true =>
      have h7:((s[k].toNat:Int)==10)=true:=by rw [← h10];exact e10
      have HN:=hd_ (HAT.out.skip hlt (by rw [h32,h10];rfl))
      clear e32 e10 h32 h10
      exact am6_
     | false =>
      have h7:((s[k].toNat:Int)==10)=false:=by rw [← h10];exact e10
      have hnb:(s[k]==32||s[k]==10)=false:=by rw [h32,h10];rfl
      have HBL:Hid (blank s[k]=false):=hd_ h32
      have e35:=fE_ s[k] 35
      have e48:=fE_ s[k] 48
      have kk1:IntKind.i64.wrap ((k:Int)+1)=(k:Int)+1:=IntWalk.i64_in _ om_
      have HD:=hd_ (h3_ hlt)
      cases hlo:lowB s[k] with
      | true =>
       have HLO:=hd_ (fun w'=>nA_ hlo w')
       have HFI:=hd_ (fun w'=>i3_ (c:=s[k]) rfl w')
       have HST:=hd_ (fJ_.start (p:=lowB) hlt hlo)
       have HF0:Hid (aZ_ (s.data.toList.drop k)=(aX_ lowB (s.data.toList.drop k),decide (aX_ lowB (s.data.toList.drop k)<=8))):=hd_ (by rw [HD.out,c9_,if_pos hlo])
       have H35:Hid (s[k]≠35):=hd_ (by intro e;rw [e] at hlo;exact absurd hlo de_)
       exact am5_
      | false =>
       have HLO:=hd_ (fun w'=>nA_ hlo w')
       cases hdi:c6_ s[k] with
       | true =>
        have HFI:=hd_ (fun w'=>i3_ hdi w')
        have HST:=hd_ (fJ_.start (p:=c6_) hlt hdi)
        have HF0:Hid (aZ_ (s.data.toList.drop k)=(aX_ c6_ (s.data.toList.drop k),(decide (aX_ c6_ (s.data.toList.drop k)<=6)&&(decide (aX_ c6_ (s.data.toList.drop k)=1)||!(s[k]==48))))):=hd_ (by rw [HD.out,c9_,if_neg (by rw [hlo];decide),if_pos hdi])
        have H35:Hid (s[k]≠35):=hd_ (by intro e;rw [e] at hdi;exact absurd hdi de_)
        have h9:((s[k].toNat:Int)==35)=false:=by
         have:(s[k]==35)=false:=by simpa using H35.out
         rw [← this];exact e35
        have h9b:((s[k].toNat:Int) != 35)=true:=by simpa [bne] using h9
        have E48:=hd_ e48
        clear e32 e10 e35 e48 h10 hlo hdi
        exact abM_
       | false =>
        have HFI:=hd_ (fun w'=>i3_ hdi w')
        cases hha:(s[k]==35) with
        | true =>
         have h9:((s[k].toNat:Int)==35)=true:=by rw [← hha];exact e35
         have h9b:((s[k].toNat:Int) != 35)=false:=by simpa [bne] using h9
         have H35:Hid (s[k]=35):=hd_ (by simpa using hha)
         have HST:=hd_ (fJ_.start (p:=nlB) hlt (by rw [H35.out];decide))
         have HSP:Hid (((s.data.toList.drop k).take (k+1-k)).all prB=true):=hd_ (fJ_.start (p:=prB) hlt (by rw [H35.out];decide))
         have HF0:Hid (aZ_ (s.data.toList.drop k)=(aX_ nlB (s.data.toList.drop k),decide (aX_ nlB (s.data.toList.drop k)<=aX_ prB (s.data.toList.drop k)))):=hd_ (by rw [HD.out,c9_,if_neg (by rw [hlo];decide),if_neg (by rw [hdi];decide),if_pos hha])
         clear e32 e10 e35 e48 h10 hlo hdi hha
         exact abM_
        | false =>
         have h9:((s[k].toNat:Int)==35)=false:=by rw [← hha];exact e35
         exact am0_
   ·obtain ⟨hd1,hd2⟩:=HAT.out.done_ om_
    have hle:=xJ_ h6 hd2
    have hz:∀ p ∈ done,p.2.length<=60000:=fun p hp=>by have:=HAT.out.2.2 p hp;omega
    obtain ⟨A3,c3,rfl⟩:=b7_ HW.out
    obtain ⟨A4,c4,rfl⟩:=b7_ HP.out
    have htx:=yU_ HW.out rfl om_ hz
    have HTX:=hd_ htx;have HD1:=hd_ hd1
    rw [hd1,HMQ.out] at hle
    clear htx hd1 hd2 hz
    by_cases h300:300<q
    ·rw [if_pos h300] at hle
     have HE:=hd_ hle;clear hle
     have kq:decide (300<(q:Int))=true:=decide_eq_true om_
     have kqn:decide (300<q)=true:=decide_eq_true h300
     go_wp2
     refine bodyPost_ret (v:=.tuple #[.slice none 0 0,.slice none 0 0,.int .i64 0,.int .i64 3]) (by simp [results,Tryz.results27,go_sem]) rfl ?_
     exact .inl ⟨by rw [HE.out];show (3:Int)≠0;decide,by rw [HE.out];rfl,hB⟩
    ·rw [if_neg h300] at hle
     have HE:=hd_ hle;clear hle
     have kq:decide (300<(q:Int))=false:=decide_eq_false om_
     have kqn:decide (300<q)=false:=decide_eq_false h300
     go_wp2
     refine bodyPost_ret (v:=.tuple #[.slice A3 done.length c3,.slice A4 done.length c4,.int .i64 0,.int .i64 0]) (by simp [results,Tryz.results27,go_sem]) rfl ?_
     refine .inr ⟨by rw [HE.out],A3,c3,A4,c4,by rw [HD1.out], ?_, ?_,hB⟩
     ·rw [HD1.out];exact HTX.out
     ·rw [HD1.out];exact Sl.of_own HP.out
theorem ajX_ {w:World} {base:Nat} {e:TypeId} {size n c:Nat} {A:Option Addr} {xs:List Value} (h:w.ownsRow base e size (.slice A n c) n xs):n<=c:=by
 rcases h.2 with ⟨h1,h2⟩|⟨g,cap,cur,h1,h2,h3,h4,_⟩
 ·cases h1;omega
 ·cases h1;exact h4
theorem vY_ (s:ByteArray) (w:World) (hs:s.size<4294967281) :
  Calls Tryz.prog 28 #[.string s] w (sX_ s w):=by
 by_cases he:s.size<1
 ·have hn:aJ_ s=[]:=by rw [aJ_,if_pos (by simpa using lM_.2 he)]
  have HN:=hd_ hn;clear hn
  go_enter Tryz.func28,Tryz.ntmps28
  go_wp2
  go_ret
  exact ⟨none,0,by rw [HN.out];rfl,by rw [HN.out];exact ⟨Sl.nil_,by simp [maxLen],by simp⟩,Below.refl _ _,by rw [HN.out];exact Nat.le_refl _⟩
 ·obtain ⟨iS,hiS,hzS,hzS1,hzS2⟩:=info_parts vL_
  have hne:s.toList≠[]:=fun h=>he (lM_.1 (by simp [h]))
  have HTL:=hd_ (nF_ hne);clear hne
  have hz0:((s.size:Int)==0)=false:=by rw [beq_eq_false_iff_ne];omega
  go_enter Tryz.func28,Tryz.ntmps28
  go_wp2
  go_loopw [3,4,5] (fun out from' i wr=>∃ (m k:Nat) (done:List ByteArray) (v:Value),i=.int .i64 k/\from'=.int .i64 m/\out=v/\m<=k/\k<=s.size/\done.length<=m/\hY_ s m k/\done++iJ_ s m=aJ_ s/\wr.ownsRow w.heap.size 9 1 v done.length (done.map .string)/\Below w.heap.size w wr) (fun _ _ i _=>s.size-(intOf i).toNat)
  case atStart=>exact ⟨0,0,[],_,rfl,rfl,rfl,by omega,by omega,by simp,hY_.nil s 0,by rw [HTL.out];rfl,World.ownsRow_nil _ _ _ _,Below.refl _ _⟩
  case round =>
   obtain ⟨m,k,done,v,rfl,rfl,rfl,hmk,hk,hdm,hsp,hdn,hown,hB⟩:=hrel
   have HO:=hd_ hown;have HSP:=hd_ hsp;have HD:=hd_ hdn;clear hown hsp hdn
   have hsz:=hB.size
   by_cases hlt:k<s.size
   ·have hb1:=s[k].toNat_lt
    exact am1_
   ·obtain rfl:k=s.size:=by omega
    have HD2:Hid (done++[s.extract m s.size]=aJ_ s):=hd_ (by rw [← HD.out,lP_ HSP.out])
    have HSM:=hd_ (q8_ HD.out hs)
    have q1:(0:Int)<=(m:Int):=by omega
    have q2:(m:Int)<=(s.size:Int):=by omega
    go_wp2_with (refine ds32 ?_;intro v3 w3 hB3 HO3)
    obtain ⟨A3,c3,rfl⟩:=sB_ HO3.out
    have HL:Hid ((aJ_ s).length=done.length+1):=hd_ (by rw [← HD2.out];simp)
    go_ret
    have HS:=Sl.of_own HO3.out
    refine ⟨A3,c3,by rw [HL.out];rfl,⟨?_,by rw [HL.out];simp only [maxLen];omega,HSM.out.2⟩,hB3,by rw [HL.out];exact ajX_ HO3.out⟩
    rw [HL.out,← HD2.out,List.map_append]
    exact HS
end Go.Proofs.YtddfdmopaeghnadGreatDoor
