/- Plain facts on statements as lists of nodes: check, where the kids begin, each node but the first is the kid of one. With what it rests on. Conditions: as each theorem states them. -/
import Derived.Lib.Split
import Derived.Test.YtddfdmopaeghnadGreatDoorDqDw
import Derived.Test.YtddfdmopaeghnadGreatDoorDqSh
import Derived.Lib.SplitLaws
import Derived.BigQuiet
import Derived.Deep.QuietTactic
import Derived.Laws.ResultCell
set_option maxRecDepth 100000
set_option maxHeartbeats 16000000
namespace Go.Proofs.YtddfdmopaeghnadGreatDoor
variable {P Q:Prop}
theorem ds1 (k:Q) (h:Nx_ Q->P:=by intro k_;go_at_call 83;refine (apP_ op n t _ htz (HM.out.below hB _) HE.out).mono ?_;rintro e w1 ⟨rfl,hB1⟩;have hc0:=hB1.cell (p:=⟨wr.heap.size,0,none⟩) si_;have hc1:=hB1.cell (p:=⟨wr.heap.size,1,none⟩) si_;have hc2:=hB1.cell (p:=⟨wr.heap.size,2,none⟩) si_;have hsz1:=hB1.size;revert w1 hB1 hc0 hc1 hc2 hsz1;exact k_.o):P:=h ⟨k⟩
section
def b5_ (op:Int):Int:=if op=1 then 999999 else if op=3∨op=4 then 6 else -1
def dJ_ (op:Int):Bool:=decide (op=2)||decide (op=3)||decide (op=7)||decide (op=9)
def gR_ (c:UInt8):Bool:=decide (97<=c.toNat)&&decide (c.toNat<=122)
def aY_ (s:ByteArray):Bool:=!(s.toList.isEmpty)&&decide (s.size<=8)&&!(s.toList==[108,101,116])&&s.data.toList.all gR_
def iL_ (c:UInt8):Bool:=decide (33<=c.toNat)&&decide (c.toNat<=126)
def cF_ (s:ByteArray):Bool:=!(s.toList.isEmpty)&&decide (s.size<=20)&&s.data.toList.all iL_
def cE_ (l:List ByteArray):Int:=if 60<l.length then 3 else if l.all cF_=true then 0 else 5
def spB:ByteArray:=⟨#[32]⟩
def aJ_ (t:ByteArray):List ByteArray:=if t.toList=[] then [] else Lib.splitB spB 0 (Lib.countB t spB) t
def aL_ (op n:Int):Int:=if op=3∨op=4 then n else if op=5∨op=6 then 2 else if op=7∨op=8 then 1 else 0
def a8_ (op:Int) (t:ByteArray) (n:Int):Int :=
 if op<1∨9<op∨(0<=b5_ op/\(n<0∨b5_ op<n)) then 1
 else if (b5_ op<0/\n≠0)∨(dJ_ op=false/\t.toList≠[]) then 2
 else if op=9 then cE_ (aJ_ t)
 else if dJ_ op=true/\aY_ t=false then 5
 else 0
def f1_:List Nd->Bool->Int->Bool->Int
 | [],_,need,whole=>if whole=true/\need=0 then 0 else 2
 | d::r,fst,need,whole=>if a8_ d.op d.text d.n≠0 then a8_ d.op d.text d.n else f1_ r false (need+aL_ d.op d.n-1) (whole&&decide (0<need)&&(decide (7<=d.op)==fst))
def aM_ (l:List Nd):Int:=if 40<l.length then 3 else f1_ l true 1 true
theorem ahB_ {l:List Nd} {k:Nat} {nd:Int} {wh:Bool} {op n:Int} {t:ByteArray} (hlt:k<l.length) (hd:l[k]=Nd.mk op t n) :
  f1_ (l.drop k) (decide (k=0)) nd wh=if a8_ op t n≠0 then a8_ op t n else f1_ (l.drop (k+1)) (decide (k+1=0)) (nd+aL_ op n-1) (wh&&decide (0<nd)&&(decide (7<=op)==decide (k=0))):=by
 rw [List.drop_eq_getElem_cons hlt,hd];rfl
theorem akT_ {l:List Nd} {k:Nat} {b:Bool} {nd:Int} {wh:Bool} (hge:l.length<=k):f1_ (l.drop k) b nd wh=if wh=true/\nd=0 then 0 else 2:=by
 rw [List.drop_eq_nil_of_le hge];rfl
theorem nV_ (l:List Nd) (b:Bool) (nd:Int):f1_ l b nd false≠0:=by
 induction l generalizing nd b with
 | nil=>simp [f1_]
 | cons d r ih=>simp only [f1_,Bool.false_and];split <;> simp_all
theorem fG_ {op n:Int} {t:ByteArray} (h:a8_ op t n=0):0<=aL_ op n/\aL_ op n<=6:=by
 unfold a8_ at h
 have h1:¬ (op<1∨9<op∨(0<=b5_ op/\(n<0∨b5_ op<n))):=fun hh=>by rw [if_pos hh] at h;cases h
 unfold aL_
 by_cases h2:op=3∨op=4
 ·rw [if_pos h2]
  have:b5_ op=6:=by unfold b5_;rw [if_neg om_,if_pos h2]
  rw [this] at h1;omega
 ·rw [if_neg h2];split <;> (try split) <;> omega
def kQ_:Nat->List Nat->List Nat
 | _,[]=>[]
 | i,m::r=>i::(kQ_ (i+1) r).drop m
def b3_ (l:List Nd):List Nat:=l.map fun d=>(aL_ d.op d.n).toNat
def cL_ (l:List Nd) (i:Nat):List Nat:=kQ_ i ((b3_ l).drop i)
def hN_ (l:List Nd) (q:List Nat):Nat:=q.headD l.length
def a0_ (l:List Nd) (i:Nat):Nat:=hN_ l (cL_ l i).tail
theorem cV_ (l:List Nd):(b3_ l).length=l.length:=by simp [b3_]
theorem h8_ {l:List Nd} {i:Nat} (hi:i<l.length):cL_ l i=i::(cL_ l (i+1)).drop ((b3_ l).getD i 0):=by
 unfold cL_
 have h:i<(b3_ l).length:=by rw [cV_];exact hi
 rw [List.drop_eq_getElem_cons h,kQ_]
 simp [h]
theorem fR_ {l:List Nd} {i:Nat} (hi:l.length<=i):cL_ l i=[]:=by
 unfold cL_
 rw [List.drop_eq_nil_of_le (by rw [cV_];exact hi)];rfl
structure Tr (l:List Nd):Prop where
 chk:aM_ l=0
 len:l.length<=40
 one:∀ d ∈ l,a8_ d.op d.text d.n=0
 room:∀ i,i<l.length->(b3_ l).getD i 0<=(cL_ l (i+1)).length
 root:cL_ l 0=[0]
theorem ahA_:∀ (l:List Nd) (b:Bool) (nd:Int),f1_ l b nd true=0->(∀ d ∈ l,a8_ d.op d.text d.n=0)/\∀ i,((kQ_ i (b3_ l)).length:Int)=nd/\∀ j,j<l.length->(b3_ l).getD j 0<=(kQ_ (i+j+1) ((b3_ l).drop (j+1))).length:=by
 intro l
 induction l with
 | nil =>
  intro b nd h
  simp only [f1_,true_and] at h
  have:nd=0:=by
   by_cases h0:nd=0
   ·exact h0
   ·simp [h0] at h
  subst this
  exact ⟨by simp,fun i=>⟨rfl,fun j hj=>absurd hj si_⟩⟩
 | cons d r ih =>
  intro b nd h
  rw [f1_] at h
  by_cases h1:a8_ d.op d.text d.n=0
  ·rw [if_neg (by simp [h1])] at h
   have hw:(true&&decide (0<nd)&&(decide (7<=d.op)==b))=true:=by
    cases hh:(true&&decide (0<nd)&&(decide (7<=d.op)==b)) with
    | true=>rfl
    | false=>rw [hh] at h;exact absurd h (nV_ _ _ _)
   rw [hw] at h
   obtain ⟨g1,g2⟩:=ih _ _ h
   have hp:0<nd:=by
    have:decide (0<nd)=true:=by
     cases hd:decide (0<nd) with
     | true=>rfl
     | false=>rw [hd] at hw;simp at hw
    exact of_decide_eq_true this
   have hb:=fG_ h1
   refine ⟨fun x hx=>?_,fun i=>?_⟩
   ·rcases List.mem_cons.1 hx with rfl|hx
    ·exact h1
    ·exact g1 x hx
   ·obtain ⟨g3,g4⟩:=g2 (i+1)
    have hm:b3_ (d::r)=(aL_ d.op d.n).toNat::b3_ r:=rfl
    refine ⟨?_,fun j hj=>?_⟩
    ·rw [hm,kQ_,List.length_cons,List.length_drop];omega
    ·cases j with
     | zero=>rw [hm];simp only [List.getD_cons_zero,List.drop_succ_cons,List.drop_zero,Nat.add_zero];omega
     | succ j =>
      have:=g4 j (by simpa using hj)
      rw [hm];simp only [List.getD_cons_succ,List.drop_succ_cons]
      rw [show i+(j+1)+1=i+1+j+1 by omega];exact this
  ·rw [if_pos h1] at h;exact absurd h h1
theorem Tr.of_check {l:List Nd} (h:aM_ l=0):Tr l:=by
 have h0:=h
 unfold aM_ at h
 split at h
 ·cases h
 ·rename_i hl
  obtain ⟨h1,h2⟩:=ahA_ l true 1 h
  obtain ⟨h3,h4⟩:=h2 0
  refine ⟨h0,by omega,h1,fun i hi=>?_, ?_⟩
  ·have:=h4 i hi
   unfold cL_
   rwa [Nat.zero_add] at this
  ·have hl2:(cL_ l 0).length=1:=by unfold cL_;rw [List.drop_zero];omega
   have hpos:0<l.length:=by
    rcases Nat.eq_zero_or_pos l.length with h|h
    ·rw [fR_ om_] at hl2;simp at hl2
    ·exact h
   have:=h8_ hpos
   rw [this] at hl2
   simp only [List.length_cons] at hl2
   have h6:(cL_ l (0+1)).drop ((b3_ l).getD 0 0)=[]:=List.eq_nil_of_length_eq_zero om_
   rw [this,h6]
theorem ap4_:∀ (l:List Nat) (i:Nat),(kQ_ i l).Pairwise (·<·)/\∀ x ∈ kQ_ i l,i<=x/\x<i+l.length:=by
 intro l
 induction l with
 | nil=>intro i;exact ⟨.nil,by simp [kQ_]⟩
 | cons m r ih =>
  intro i
  obtain ⟨h1,h2⟩:=ih (i+1)
  refine ⟨?_, ?_⟩
  ·rw [kQ_,List.pairwise_cons]
   refine ⟨fun x hx=>?_,h1.sublist (List.drop_sublist _ _)⟩
   have:=h2 x (List.mem_of_mem_drop hx);omega
  ·intro x hx
   rw [kQ_] at hx
   simp only [List.length_cons]
   rcases List.mem_cons.1 hx with rfl|hx
   ·omega
   ·have:=h2 x (List.mem_of_mem_drop hx);omega
theorem nL_ (l:List Nd) (i:Nat):∀ x ∈ cL_ l i,i<=x/\x<l.length:=by
 intro x hx
 rcases Nat.lt_or_ge i l.length with h|h
 ·have:=(ap4_ ((b3_ l).drop i) i).2 x hx
  rw [List.length_drop,cV_] at this;omega
 ·rw [fR_ h] at hx;simp at hx
theorem y3_ {l:List Nd}:∀ (k i:Nat) (xs ys:List Nat) (a:Nat),l.length-i<=k->cL_ l i=xs++a::ys->cL_ l a=a::ys:=by
 intro k
 induction k with
 | zero =>
  intro i xs ys a hk h
  rw [fR_ om_] at h
  cases xs <;> simp at h
 | succ k ih =>
  intro i xs ys a hk h
  rcases Nat.lt_or_ge i l.length with hi|hi
  ·have h':=h
   rw [h8_ hi] at h'
   cases xs with
   | nil =>
    simp only [List.nil_append,List.cons.injEq] at h'
    rw [← h'.1] at h ⊢
    exact h
   | cons x xs =>
    simp only [List.cons_append,List.cons.injEq] at h'
    refine ih (i+1) ((cL_ l (i+1)).take ((b3_ l).getD i 0)++xs) ys a om_ ?_
    rw [List.append_assoc,← h'.2,List.take_append_drop]
  ·rw [fR_ hi] at h
   cases xs <;> simp at h
theorem cT_ {l:List Nd} {i:Nat} {op n:Int} {t:ByteArray} (hi:i<l.length) (hd:l[i]=Nd.mk op t n):(b3_ l).getD i 0=(aL_ op n).toNat:=by
 have h:i<(b3_ l).length:=by rw [cV_];exact hi
 rw [List.getD_eq_getElem?_getD,List.getElem?_eq_getElem h]
 simp [b3_,hd]
theorem xC_ {l:List Nd} {k:Nat} (hk:k<=l.length):hN_ l (cL_ l k)=k:=by
 unfold hN_
 rcases Nat.lt_or_ge k l.length with h|h
 ·rw [h8_ h];rfl
 ·rw [fR_ h];show l.length=k;omega
theorem ajE_ {l:List Nd} {i k:Nat} (hk:k<(cL_ l (i+1)).length) :
  hN_ l ((cL_ l (i+1)).drop k)=(cL_ l (i+1))[k]/\(cL_ l (i+1))[k]<l.length/\a0_ l (cL_ l (i+1))[k]=hN_ l ((cL_ l (i+1)).drop (k+1)):=by
 have h1:=List.drop_eq_getElem_cons hk
 have h2:cL_ l (i+1)=(cL_ l (i+1)).take k++(cL_ l (i+1))[k]::(cL_ l (i+1)).drop (k+1):=by rw [← h1,List.take_append_drop]
 have h3:=y3_ (l.length) (i+1) _ _ _ om_ h2
 refine ⟨by rw [h1];rfl,(nL_ l (i+1) _ (List.getElem_mem hk)).2, ?_⟩
 rw [a0_,h3];rfl
end
section
open Go.RowKit
def Txs (w:World) (B:Nat) (A:Option Addr) (l:List ByteArray):Prop:=Sl w B 1 A l.length (l.map .string)/\l.length<=maxLen/\∀ t ∈ l,t.size<=maxLen
theorem Txs.one {w wr:World} {B:Nat} {A:Option Addr} {l:List ByteArray} (h:Txs w B A l) (hB:Below B w wr) {k:Nat} (hk:k<l.length) :
  ∃ b off t,A=some ⟨b,off,none⟩/\b<B/\l[k]=t/\t.size<=maxLen/\wr.cell? ⟨b,off+k,none⟩=some (.string t):=by
 obtain ⟨b,off,u,h1,h2,h3,h4⟩:=h.1.one hk
 refine ⟨b,off,l[k],h1,h2,rfl,h.2.2 _ (List.getElem_mem hk), ?_⟩
 rw [hB.cell (p:=⟨b,off+k,none⟩) h2,h4]
 simp [hk] at h3
 rw [h3]
theorem Txs.past {w w':World} {A:Option Addr} {l:List ByteArray} (h:Txs w w.heap.size A l) (hb:Below w.heap.size w w'):Txs w' w'.heap.size A l:=⟨h.1.past hb,h.2⟩
theorem m6_ {p:UInt8->Bool} {s:ByteArray} {k:Nat} (ha:(s.data.toList.take k).all p=true) (hk:s.size<=k):s.data.toList.all p=true:=by
 rw [List.take_of_length_le so_] at ha;exact ha
theorem h0_ {p:UInt8->Bool} {s:ByteArray} {k:Nat} (ha:(s.data.toList.take k).all p=true) (hk:k<s.size) (hp:p s[k]=true):(s.data.toList.take (k+1)).all p=true:=by
 have hk':k<s.data.toList.length:=by simpa using hk
 rw [List.take_succ_eq_append_getElem hk',List.all_append,ha]
 show (true&&(p s[k]&&true))=true
 rw [hp];rfl
theorem rH_ {p:UInt8->Bool} {s:ByteArray} {k:Nat} (hk:k<s.size) (hp:p s[k]=false):s.data.toList.all p=false:=by
 have hk':k<s.data.toList.length:=by simpa using hk
 rw [List.all_eq_false]
 exact ⟨s[k],List.mem_of_getElem (i:=k) (h:=hk') rfl,by simp [hp]⟩
theorem dr5 (h:P:=by
 have HG:=hd_ hg;clear hg
 have HB:=hd_ hb;clear hb
 go_wp2
 all_goals first
  | (go_round
     case rel=>exact ⟨k+1,by omega,by go_num,HG.out om_⟩
     case measure=>exact me_)
  | (go_ret
     exact ⟨by rw [HW.out,HB.out om_];rfl,rfl⟩)):P:=h
theorem dr6 (h:P:=by
 go_wp2
 go_ret
 first
 |
  exact ⟨rfl,rfl⟩
  done
 |
  exact ⟨rfl,Below.refl _ _⟩
  done
 |
  refine ⟨?_,hB⟩
  rw [HC.out,HT.out];simp [eQ_]
  done
 |
  refine ⟨?_,hB⟩
  rw [HC.out,HT.out,if_neg (fun h=>H0.out h.2)];simp [eQ_]
  done
 |
  exact ⟨none,0,by rw [hn];rfl,by rw [hn];exact ⟨Sl.nil_,by simp [maxLen],by simp⟩,Below.refl _ _⟩):P:=h
theorem yV_ (s:ByteArray) (w:World) (hs:s.size<=maxLen) :
  Calls Tryz.prog 187 #[.string s] w fun e w'=>e=.returned (.bool (cF_ s))/\w=w':=by
 unfold maxLen at hs
 by_cases he:s.toList=[]
 ·have hw:cF_ s=false:=by simp [cF_,he]
  rw [hw]
  have he2:s.toList.isEmpty=true:=by simp [he]
  go_enter Tryz.func187,Tryz.ntmps187
  exact dr6
 ·have he2:s.toList.isEmpty=false:=by simpa using he
  by_cases h20:20<s.size
  ·have hw:cF_ s=false:=by
    have hd:decide (s.size<=20)=false:=by simp;omega
    rw [cF_,hd];simp
   rw [hw]
   go_enter Tryz.func187,Tryz.ntmps187
   exact dr6
  ·have hw:cF_ s=s.data.toList.all iL_:=by
    have hd:decide (s.size<=20)=true:=by simp;omega
    rw [cF_,hd,he2];simp
   have HW:=hd_ hw;clear hw
   go_enter Tryz.func187,Tryz.ntmps187
   go_wp2
   go_loop [3,13] (fun _ i=>∃ k:Nat,k<=s.size/\i=.int .i64 k/\(s.data.toList.take k).all iL_=true) (fun _ i=>s.size-(intOf i).toNat)
   case atStart=>exact ⟨0,Nat.zero_le _,rfl,rfl⟩
   case round =>
    obtain ⟨k,hk,rfl,ha⟩:=hrel
    have HA:=hd_ ha;clear ha
    by_cases hlt:k<s.size
    ·have hg:(33<=s[k].toNat/\s[k].toNat<=126)->(s.data.toList.take (k+1)).all iL_=true:=fun h=>h0_ HA.out hlt (by unfold iL_;simp;omega)
     have hb:(s[k].toNat<33∨126<s[k].toNat)->s.data.toList.all iL_=false:=fun h=>rH_ hlt (by unfold iL_;rcases h with h|h <;> simp <;> omega)
     exact dr5
    ·go_wp2
     go_ret
     exact ⟨by rw [HW.out,m6_ HA.out om_];rfl,rfl⟩
theorem yW_ {l:List ByteArray} {k:Nat} (h:¬ 60<l.length) (hk:k<l.length) (hb:cF_ l[k]=false):cE_ l=5:=by
 rw [cE_,if_neg h,if_neg]
 intro ha
 have:=List.all_eq_true.1 ha _ (List.getElem_mem hk)
 rw [hb] at this;cases this
theorem vS_ {l:List ByteArray} {k:Nat} (h:¬ 60<l.length) (hk:l.length<=k) (ha:(l.take k).all cF_=true):cE_ l=0:=by
 rw [List.take_of_length_le hk] at ha
 rw [cE_,if_neg h,if_pos ha]
theorem sU_ {l:List ByteArray} {k:Nat} (hk:k<l.length) (ha:(l.take k).all cF_=true) (hb:cF_ l[k]=true):(l.take (k+1)).all cF_=true:=by
 rw [List.take_succ_eq_append_getElem hk,List.all_append,ha]
 show (true&&(cF_ l[k]&&true))=true
 rw [hb];rfl
theorem vR_ (l:List ByteArray) (A:Option Addr) (n c:Nat) (hn:l.length=n) (w:World) (hl:Txs w w.heap.size A l) :
  Calls Tryz.prog 141 #[.slice A n c] w fun e w'=>e=.returned (eQ_ (cE_ l))/\w=w':=by
 subst hn
 have hm:=hl.2.1
 unfold maxLen at hm
 have HN:=hd_ hl;clear hl
 by_cases h60:60<l.length
 ·have hw:cE_ l=3:=by rw [cE_,if_pos h60]
  rw [hw]
  go_enter Tryz.func141,Tryz.ntmps141
  exact dr6
 ·go_enter Tryz.func141,Tryz.ntmps141
  go_wp2
  go_loop [4,11] (fun _ i=>∃ k:Nat,k<=l.length/\i=.int .i64 k/\(l.take k).all cF_=true) (fun _ i=>l.length-(intOf i).toNat)
  case atStart=>exact ⟨0,Nat.zero_le _,rfl,rfl⟩
  case round =>
   obtain ⟨k,hk,rfl,ha⟩:=hrel
   have HA:=hd_ ha;clear ha
   by_cases hlt:k<l.length
   ·obtain ⟨b,off,t,rfl,hb,ht,hts,hc⟩:=HN.out.one (Below.refl _ _) hlt
    cases hw:cF_ t with
    | true =>
     have HG:=hd_ (sU_ hlt HA.out (by rw [ht];exact hw));clear ht
     have HW:=hd_ hw;clear hw
     go_wp2_with (go_at_call 187;refine (yV_ _ _ hts).mono ?_;rw [HW.out];rintro e w' ⟨rfl,rfl⟩)
     go_round
     case rel=>exact ⟨k+1,by omega,by go_num,HG.out⟩
     case measure=>exact me_
    | false =>
     have HG:=hd_ (yW_ h60 hlt (by rw [ht];exact hw));clear ht
     have HW:=hd_ hw;clear hw
     go_wp2_with (go_at_call 187;refine (yV_ _ _ hts).mono ?_;rw [HW.out];rintro e w' ⟨rfl,rfl⟩)
     go_ret
     exact ⟨by rw [HG.out];rfl,rfl⟩
   ·go_wp2
    go_ret
    exact ⟨by rw [vS_ h60 om_ HA.out];rfl,rfl⟩
theorem ajM_ (op:Int) (w:World):Calls Tryz.prog 139 #[.int .i64 op] w fun e w'=>e=.returned (.int .i64 (b5_ op))/\w=w':=by
 go_enter Tryz.func139,Tryz.ntmps139
 go_wp2
 all_goals go_ret
 all_goals simp_all [b5_]
theorem afY_ (op:Int) (w:World):Calls Tryz.prog 140 #[.int .i64 op] w fun e w'=>e=.returned (.bool (dJ_ op))/\w=w':=by
 have hop:op=2∨op=3∨op=7∨op=9∨(op≠2/\op≠3/\op≠7/\op≠9):=by omega
 rcases hop with rfl|rfl|rfl|rfl|⟨h1,h2,h3,h4⟩
 case inr.inr.inr.inr =>
  have e1:(op==2)=false:=by simpa using h1
  have e2:(op==3)=false:=by simpa using h2
  have e3:(op==7)=false:=by simpa using h3
  have e4:(op==9)=false:=by simpa using h4
  have hn:dJ_ op=false:=by simp [dJ_,h1,h2,h3,h4]
  rw [hn]
  clear h1 h2 h3 h4 hn
  go_enter Tryz.func140,Tryz.ntmps140
  exact dr6
 all_goals
  go_enter Tryz.func140,Tryz.ntmps140
  exact dr6
theorem ajN_ (s:ByteArray) (w:World) (hs:s.size<=maxLen) :
  Calls Tryz.prog 143 #[.string s] w fun e w'=>e=.returned (.bool (aY_ s))/\w=w':=by
 unfold maxLen at hs
 by_cases he:s.toList=[]
 ·have hw:aY_ s=false:=by simp [aY_,he]
  rw [hw]
  have he2:s.toList.isEmpty=true:=by simp [he]
  go_enter Tryz.func143,Tryz.ntmps143
  exact dr6
 ·have he2:s.toList.isEmpty=false:=by simpa using he
  by_cases h20:8<s.size
  ·have hw:aY_ s=false:=by
    have hd:decide (s.size<=8)=false:=by simp;omega
    rw [aY_,hd];simp
   rw [hw]
   go_enter Tryz.func143,Tryz.ntmps143
   exact dr6
  ·cases hl:(s.toList==[108,101,116]) with
   | true =>
    have hw:aY_ s=false:=by simp [aY_,hl]
    rw [hw]
    go_enter Tryz.func143,Tryz.ntmps143
    exact dr6
   | false =>
    have hw:aY_ s=s.data.toList.all gR_:=by
     have hd:decide (s.size<=8)=true:=by simp;omega
     rw [aY_,hd,he2,hl];simp
    have HW:=hd_ hw;clear hw
    go_enter Tryz.func143,Tryz.ntmps143
    go_wp2
    go_loop [3,17] (fun _ i=>∃ k:Nat,k<=s.size/\i=.int .i64 k/\(s.data.toList.take k).all gR_=true) (fun _ i=>s.size-(intOf i).toNat)
    case atStart=>exact ⟨0,Nat.zero_le _,rfl,rfl⟩
    case round =>
     obtain ⟨k,hk,rfl,ha⟩:=hrel
     have HA:=hd_ ha;clear ha
     by_cases hlt:k<s.size
     ·have hg:(97<=s[k].toNat/\s[k].toNat<=122)->(s.data.toList.take (k+1)).all gR_=true:=fun h=>h0_ HA.out hlt (by unfold gR_;simp;omega)
      have hb:(s[k].toNat<97∨122<s[k].toNat)->s.data.toList.all gR_=false:=fun h=>rH_ hlt (by unfold gR_;rcases h with h|h <;> simp <;> omega)
      exact dr5
     ·go_wp2
      go_ret
      exact ⟨by rw [HW.out,m6_ HA.out om_];rfl,rfl⟩
theorem nB_ (op n:Int) (t:ByteArray) (w:World):Calls Tryz.prog 84 #[.agg #[.int .i64 op,.string t,.int .i64 n]] w (Ret w (.int .i64 (aL_ op n))):=by
 go_enter Tryz.func84,Tryz.ntmps84
 go_wp2
 all_goals go_ret
 all_goals refine ⟨?_,aF_⟩
 all_goals simp_all [aL_]
 all_goals omega
def cQ_ (w:World):Prop:=1+1<=w.heap.size/\∃ m,w.cell? ⟨1,0,none⟩=some (.int .i64 m)
theorem cQ_.past {w w':World} (h:cQ_ w) (hb:Below w.heap.size w w'):cQ_ w':=by
 obtain ⟨h1,m,hm⟩:=h
 exact ⟨Nat.le_trans h1 hb.size,m,(hb.cell (p:=⟨1,0,none⟩) (Nat.lt_of_lt_of_le (Nat.lt_succ_self _) h1)).trans hm⟩
theorem jK_ (sep:ByteArray) (save:Nat):∀ (k:Nat) (s:ByteArray),∀ x ∈ Lib.splitB sep save k s,x.size<=s.size:=by
 intro k
 induction k with
 | zero=>intro s x hx;rw [Lib.splitB_zero] at hx;simp at hx;subst hx;exact Nat.le_refl _
 | succ k ih =>
  intro s x hx
  unfold Lib.splitB at hx
  split at hx
  ·simp at hx;subst hx;exact Nat.le_refl _
  ·rcases List.mem_cons.1 hx with rfl|hx
   ·rw [ByteArray.size_extract];omega
   ·have:=ih _ x hx;rw [ByteArray.size_extract] at this;omega
theorem yE_ (w:World) (xs:List ByteArray) (hm:xs.length<=maxLen) (hs:∀ t ∈ xs,t.size<=maxLen):Txs (w.alloc (.cells (xs.map Value.string).toArray 9)) (w.alloc (.cells (xs.map Value.string).toArray 9)).heap.size (some ⟨w.heap.size,0,none⟩) xs:=by
 have h:=Sl.lit (sz:=1) w (xs.map Value.string).toArray 9 xs.length si_
 exact ⟨h,hm,hs⟩
def wH_ (t:ByteArray) (w:World) (e:Ending) (w':World):Prop:=∃ A c,e=.returned (.slice A (aJ_ t).length c)/\Txs w' w'.heap.size A (aJ_ t)/\Below w.heap.size w w'
theorem adX_ (t:ByteArray) (w:World) (hs:t.size<4294967281) (hm:cQ_ w) :
  Calls Tryz.prog 142 #[.string t] w (wH_ t w):=by
 obtain ⟨_,m,hm⟩:=hm
 by_cases he:t.toList=[]
 ·have he2:t.toList.isEmpty=true:=by simp [he]
  have hn:aJ_ t=[]:=by rw [aJ_,if_pos he]
  clear hm
  go_enter Tryz.func142,Tryz.ntmps142
  exact dr6
 ·have he2:t.toList.isEmpty=false:=by simpa using he
  have hn:aJ_ t=Lib.splitB spB 0 (Lib.countB t spB) t:=by rw [aJ_,if_neg he]
  have hl:(aJ_ t).length=Lib.countB t spB+1:=by rw [hn];exact Lib.splitB_all spB de_ 0 _ t rfl
  have hle:Lib.countB t spB<=t.size:=Lib.countB_le spB de_ t.size t (Nat.le_refl _)
  have hz:∀ x ∈ aJ_ t,x.size<=t.size:=by rw [hn];exact jK_ spB 0 _ t
  have HL:=hd_ hl;have HN:=hd_ hn;have HM:=hd_ hm;have HZ:=hd_ hz
  clear hl hn hm hz
  go_enter Tryz.func142,Tryz.ntmps142
  go_wp2_with (go_at_call 122;refine (Tryz.strings_Split t spB m _ hs HM.out de_).mono ?_;rintro e w1 ⟨rfl,rfl⟩)
  go_ret
  refine ⟨some ⟨w.heap.size,0,none⟩,Lib.countB t spB+1,by rw [HL.out];rfl, ?_,aF_⟩
  rw [← HN.out]
  exact yE_ w (aJ_ t) (by rw [HL.out];simp only [maxLen];omega) fun x hx=>by have:=HZ.out x hx;simp only [maxLen];omega
theorem aoU_ {op m:Int} (h:b5_ op=m) (w:World):Calls Tryz.prog 139 #[.int .i64 op] w fun e w'=>e=.returned (.int .i64 m)/\w=w':=by subst h;exact ajM_ op w
theorem xS_ {op:Int} {b:Bool} (h:dJ_ op=b) (w:World):Calls Tryz.prog 140 #[.int .i64 op] w fun e w'=>e=.returned (.bool b)/\w=w':=by subst h;exact afY_ op w
theorem pR_ {t:ByteArray} {b:Bool} (h:aY_ t=b) (hs:t.size<=maxLen) (w:World):Calls Tryz.prog 143 #[.string t] w fun e w'=>e=.returned (.bool b)/\w=w':=by subst h;exact ajN_ t w hs
theorem ajL_ (op:Int):-1<=b5_ op/\b5_ op<=999999:=by
 unfold b5_;split <;> (try split) <;> omega
theorem gN_ {op n:Int} {t:ByteArray} (h:op<1∨9<op∨(0<=b5_ op/\(n<0∨b5_ op<n))):a8_ op t n=1:=by rw [a8_,if_pos h]
theorem g4_ {op n:Int} {t:ByteArray} (h:¬ (op<1∨9<op∨(0<=b5_ op/\(n<0∨b5_ op<n)))) (h2:(b5_ op<0/\n≠0)∨(dJ_ op=false/\t.toList≠[])):a8_ op t n=2:=by rw [a8_,if_neg h,if_pos h2]
theorem g5_ {op n:Int} {t:ByteArray} (h:¬ (op<1∨9<op∨(0<=b5_ op/\(n<0∨b5_ op<n)))) (h2:¬ ((b5_ op<0/\n≠0)∨(dJ_ op=false/\t.toList≠[]))) :
  a8_ op t n=if op=9 then cE_ (aJ_ t) else if dJ_ op=true/\aY_ t=false then 5 else 0:=by rw [a8_,if_neg h,if_neg h2]
theorem dr1 (h:P:=by
 go_enter Tryz.func83,Tryz.ntmps83
 first
 |
  go_wp2_with (go_at_call 139;refine (HMo.out _).mono ?_;rintro e w' ⟨rfl,rfl⟩)
  go_ret
  exact ⟨rfl,aF_⟩
  done
 |
  go_wp2_with (first|(go_at_call 139;refine (HMo.out _).mono ?_;rintro e w' ⟨rfl,rfl⟩)|(go_at_call 140;refine (HNa.out _).mono ?_;rintro e w' ⟨rfl,rfl⟩))
  go_ret
  exact ⟨by rw [HR.out];rfl,aF_⟩
  done
 |
  go_wp2_with (first|(go_at_call 139;refine (HMo.out _).mono ?_;rintro e w' ⟨rfl,rfl⟩)|(go_at_call 140;refine (HNa.out _).mono ?_;rintro e w' ⟨rfl,rfl⟩)|(go_at_call 143;refine (HNm.out _).mono ?_;rintro e w' ⟨rfl,rfl⟩))
  go_ret
  exact ⟨by rw [HR.out];rfl,aF_⟩
  done
 |
  go_wp2_with (first
   | (go_at_call 139;refine (HMo.out _).mono ?_;rintro e w' ⟨rfl,rfl⟩)
   | (go_at_call 140;refine (HNa.out _).mono ?_;rintro e w' ⟨rfl,rfl⟩)
   | (go_at_call 142;refine (adX_ t _ hs (HM.out.past aF_)).mono ?_;rintro e w1 ⟨A1,c1,rfl,htx,hB1⟩;have HT:=hd_ htx;clear htx)
   | (go_at_call 141;refine (vR_ _ A1 _ c1 rfl _ HT.out).mono ?_;rintro e w2 ⟨rfl,rfl⟩))
  go_ret
  exact ⟨by rw [HR.out];rfl,((aE_).trans (hB1.mono si_))⟩):P:=h
theorem dr8 (h:P:=by
 rcases hcs with ⟨a1,a2,a3,a4⟩|⟨a1,rfl⟩
 all_goals
  exact dr1):P:=h
theorem yT_ (op n:Int) (t:ByteArray) (w:World) (hs:t.size<4294967281) (hm:cQ_ w) :
  Calls Tryz.prog 83 #[.agg #[.int .i64 op,.string t,.int .i64 n]] w (Ret w (eQ_ (a8_ op t n))):=by
 have hts:t.size<=maxLen:=by simp only [maxLen];omega
 have HM:=hd_ hm;clear hm
 obtain ⟨m,hmo⟩:∃ m,b5_ op=m:=⟨_,rfl⟩
 have HMo:=hd_ (aoU_ hmo)
 have hmb:=ajL_ op
 by_cases h1:op<1
 ·rw [gN_ (.inl h1)]
  clear hmb hmo
  exact dr1
 by_cases h9:9<op
 ·rw [gN_ (.inr (.inl h9))]
  clear hmb hmo
  exact dr1
 by_cases hr:0<=m/\n<0
 ·obtain ⟨hr1,hr2⟩:=hr
  rw [gN_ (.inr (.inr ⟨by omega,.inl hr2⟩))]
  clear hmb hmo
  exact dr1
 by_cases hr2:0<=m/\m<n
 ·obtain ⟨hr1,hr2⟩:=hr2
  have hr3:¬ n<0:=by omega
  rw [gN_ (.inr (.inr ⟨by omega,.inr om_⟩))]
  clear hmb hmo hr
  exact dr1
 have hn1:¬ (op<1∨9<op∨(0<=b5_ op/\(n<0∨b5_ op<n))):=by omega
 by_cases hr3:m<0/\n≠0
 ·obtain ⟨hm0,hn0⟩:=hr3
  rw [g4_ hn1 (.inl ⟨by omega,hn0⟩)]
  have hnb:(n != 0)=true:=by simpa using hn0
  clear hmb hmo hr hr2 hn1 hn0
  exact dr1
 have hcs:(0<=m/\¬ n<0/\¬ m<n/\¬ m<0)∨(m<0/\n=0):=by omega
 have h9':op=9->m<0:=by rintro rfl;rw [← hmo];decide
 have hA:∀ b,dJ_ op=b->(((b5_ op<0/\n≠0)∨(dJ_ op=false/\t.toList≠[]))↔(b=false/\t.toList≠[])):=by
  intro b hb
  rw [hb]
  constructor
  ·rintro (h|h)
   ·exact absurd ⟨by omega,h.2⟩ hr3
   ·exact h
  ·exact .inr
 have h1':1<=op:=by omega
 have h9'':op<=9:=by omega
 have HTE:=hd_ hA;clear hA
 have HN1:=hd_ hn1;clear hn1
 have HBD:=hd_ hmb;clear hmb hmo hr hr2 hr3
 cases hnm:dJ_ op with
 | false =>
  have HNa:=hd_ (xS_ hnm)
  have hne:op≠9:=by rintro rfl;exact absurd hnm de_
  have hne2:(op==9)=false:=by simpa using hne
  by_cases he:t.toList=[]
  ·have he2:t.toList.isEmpty=true:=by simp [he]
   have HR:Hid (a8_ op t n=0):=hd_ (by rw [g5_ HN1.out (fun h=>((HTE.out _ hnm).1 h).2 he),if_neg hne,if_neg (by simp [hnm])])
   clear hne h9' hnm
   exact dr8
  ·have he2:t.toList.isEmpty=false:=by simpa using he
   have HR:Hid (a8_ op t n=2):=hd_ (g4_ HN1.out ((HTE.out _ hnm).2 ⟨rfl,he⟩))
   clear hne h9' hnm
   exact dr8
 | true =>
  have HNa:=hd_ (xS_ hnm)
  have hn2:¬ ((b5_ op<0/\n≠0)∨(dJ_ op=false/\t.toList≠[])):=fun h=>by have:=((HTE.out _ hnm).1 h).1;cases this
  by_cases h9e:op=9
  ·subst h9e
   obtain ⟨a1,rfl⟩:m<0/\n=0:=by
    have:=h9' rfl
    rcases hcs with ⟨_,_,_,a4⟩|h
    ·exact absurd this a4
    ·exact h
   have HR:Hid (a8_ 9 t 0=cE_ (aJ_ t)):=hd_ (by rw [g5_ HN1.out hn2,if_pos rfl])
   clear hcs h9' hnm hn2
   exact dr1
  ·have hne2:(op==9)=false:=by simpa using h9e
   cases hna:aY_ t with
   | false =>
    have HNm:=hd_ (pR_ hna hts)
    have HR:Hid (a8_ op t n=5):=hd_ (by rw [g5_ HN1.out hn2,if_neg h9e,if_pos ⟨hnm,hna⟩])
    clear h9e h9' hnm hn2 hna
    exact dr8
   | true =>
    have HNm:=hd_ (pR_ hna hts)
    have HR:Hid (a8_ op t n=0):=hd_ (by rw [g5_ HN1.out hn2,if_neg h9e,if_neg (by simp [hna])])
    clear h9e h9' hnm hn2 hna
    exact dr8
def dP_ (l:List Nd):Prop:=∀ d ∈ l,d.text.size<4294967281
theorem apP_ (op n:Int) (t:ByteArray) (w:World) (hs:t.size<4294967281) (hm:cQ_ w) (h:a8_ op t n=0) :
  Calls Tryz.prog 83 #[.agg #[.int .i64 op,.string t,.int .i64 n]] w (Ret w .nilIface):=by rw [fA_ h];exact yT_ op n t w hs hm
theorem al7_ (op n:Int) (t:ByteArray) (w:World) (hs:t.size<4294967281) (hm:cQ_ w) (h:a8_ op t n≠0) :
  Calls Tryz.prog 83 #[.agg #[.int .i64 op,.string t,.int .i64 n]] w (Ret w (.iface 24 (.int .i64 (a8_ op t n)))):=by rw [d2_ h];exact yT_ op n t w hs hm
theorem cQ_.below {w wr:World} (h:cQ_ w) (hb:Below w.heap.size w wr) (o:Obj):cQ_ (wr.alloc o):=h.past (hb.alloc hb.size o)
theorem dr3 (h:P:=by
 have HKD:=hd_ hkd;clear hkd hk0
 go_wp2_with (first
  | (refine ds1 ?_;intro w1 hB1 hc0 hc1 hc2 hsz1)
  | (go_at_call 84;refine (nB_ _ _ _ _).mono ?_;rintro e w2 ⟨rfl,hB2⟩))
 go_roundw
 case measure=>exact me_
 case rel=>exact FIN.out false (by rw [HZ.out,H7.out,HKD.out];rfl) _ (((hB.alloc hsz _).trans (hB1.mono so_)).trans (hB2.mono (by simp at hsz1;omega))) _ rfl):P:=h
theorem dr4 (h:P:=by
 have HKD:=hd_ hkd;clear hkd hk0
 go_wp2_with (first
  | (refine ds1 ?_;intro w1 hB1 hc0 hc1 hc2 hsz1)
  | (go_at_call 84;refine (nB_ _ _ _ _).mono ?_;rintro e w2 ⟨rfl,hB2⟩))
 go_roundw
 case measure=>exact me_
 case rel=>exact FIN.out true (by rw [HZ.out,H7.out,HKD.out];rfl) _ (((hB.alloc hsz _).trans (hB1.mono so_)).trans (hB2.mono (by simp at hsz1;omega))) _ rfl):P:=h
theorem dr7 (h:P:=by
 have hsz:=hB.size
 first
 |
  by_cases hlt:k<p.length
  ·obtain ⟨b,off,Ak,ck,u,rfl,hb,hu,hc,hN,hS⟩:=HP.out.one hB hlt
   have HU:=hd_ hu;clear hu
   have HNU:=hd_ hN
   by_cases h0:aM_ u=0
   ·have HCK:=hd_ (ah9_ u Ak ck wr hN hS (HM.out.past hB) h0)
    obtain ⟨b2,off2,op,rfl,hb2,hin,d1⟩:=hN.first h0
    have hu0:=jN_ h0
    have H0:=hd_ h0;have HIN:=hd_ hin
    clear h0 hin hN hS
    cases k with
    | zero =>
     rw [Nat.add_zero] at hc
     have HNX:=hd_ (HA.out.next HU.out H0.out (by rw [HA.out.2.1 rfl];rfl))
     go_wp2_with (go_at_call 45;refine HCK.out.mono ?_;rintro e w1 ⟨rfl,hB1⟩;have e0:=(hB1.cell (p:=⟨b,off,none⟩) hb).trans hc;have e1:=(hB1.cell (p:=⟨b2,off2,none⟩) hb2).trans d1)
     go_roundw
     case measure=>exact me_
     case rel=>exact ⟨0+1,_,by omega,by go_num,HNX.out,hB.trans (hB1.mono hsz)⟩
    | succ j =>
     obtain ⟨b',off',Aj,cj,u',hq,hb',hu',hc',hN',hS'⟩:=HP.out.one hB (k:=j) om_
     cases hq
     obtain ⟨h0',hin'⟩:=HA.out.2.2 j u' rfl hu'
     obtain ⟨b3,off3,op',rfl,hb3,hin3,d1'⟩:=hN'.first h0'
     have hu0':=jN_ h0'
     have HPN:Hid (pn=decide (op'=9)):=hd_ (by rw [← hin',hin3])
     clear hin' hin3 h0' hu' hN' hS' hb'
     have k7:(j:Int)+1-1=(j:Int):=by omega
     have k8:IntKind.i64.wrap (j:Int)=(j:Int):=IntWalk.i64_in _ om_
     by_cases h9:op=9
     ·subst h9
      by_cases h9':op'=9
      ·subst h9'
       have HR:=hd_ (HA.out.two HU.out H0.out (by rw [HPN.out,HIN.out];rfl))
       exact dr2
      ·have h9b:(op'==9)=false:=by simpa using h9'
       have HNX:=hd_ (HA.out.next HU.out H0.out (by rw [HPN.out,decide_eq_false h9'];rfl))
       exact dr2
     ·have h9b:(op==9)=false:=by simpa using h9
      have HNX:=hd_ (HA.out.next HU.out H0.out (by rw [HIN.out,decide_eq_false h9,Bool.and_false]))
      exact dr2
   ·have HCK:=hd_ (adL_ u Ak ck wr hN hS (HM.out.past hB) h0)
    have HR:=hd_ (HA.out.bad HU.out h0)
    have HEV:=hd_ (d2_ h0)
    clear h0 hN hS
    go_wp2_with (go_at_call 45;refine HCK.out.mono ?_;rintro e w1 ⟨rfl,hB1⟩)
    go_ret2
    exact jA_.of HR.out HEV.out (hB.trans (hB1.mono hsz))
  ·have HR:Hid (cC_ p=(0,0)):=hd_ (by rw [HA.out.1,v6_ om_])
   go_wp2
   go_ret2
   exact jA_.of HR.out rfl hB
  done
 |
  have htz:t.size<4294967281:=by have:=HS.out _ (List.getElem_mem hlt);rw [hd] at this;exact this
  have HT:=hd_ (ahB_ (nd:=nd) (wh:=wh) hlt hd)
  clear hd
  by_cases he:a8_ op t n=0
  ·have hmb:=fG_ he
   have HE:=hd_ he;clear he
   have key:∀ wh',(wh&&decide (0<nd)&&(decide (7<=op)==decide (k=0)))=wh'->aM_ l=f1_ (l.drop (k+1)) (decide (k+1=0)) (nd+aL_ op n-1) wh':=by
    rintro _ rfl
    rw [HC.out,HT.out,if_neg (by simp [HE.out])]
   have KEY:=hd_ key;clear key
   have fin:∀ wh':Bool,(wh&&decide (0<nd)&&(decide (7<=op)==decide (k=0)))=wh'->∀ wr':World,Below w.heap.size w wr'->∀ wv:Value,wv=.bool wh'->∃ (k':Nat) (nd':Int) (wh'':Bool),k'<=l.length/\Value.int .i64 ((k:Int)+1)=.int .i64 k'/\Value.int .i64 (nd+(aL_ op n-1))=.int .i64 nd'/\wv=.bool wh''/\-(k':Int)<=nd'-1/\nd'-1<=6*k'/\aM_ l=f1_ (l.drop k') (decide (k'=0)) nd' wh''/\Below w.heap.size w wr':=by
    intro wh' h wr' hB' wv hwv
    exact ⟨k+1,nd+aL_ op n-1,wh',by omega,by go_num,by rw [show nd+(aL_ op n-1)=nd+aL_ op n-1 by omega],hwv,by omega,by omega,KEY.out _ h,hB'⟩
   have FIN:=hd_ fin;clear fin
   have hpar:(wh=false)∨(wh=true/\nd<=0)∨(wh=true/\0<nd):=by cases wh <;> simp;omega
   rcases hpar with rfl|⟨rfl,hnd⟩|⟨rfl,hnd⟩
   ·go_wp2_with (first
     | (refine ds1 ?_;intro w1 hB1 hc0 hc1 hc2 hsz1)
     | (go_at_call 84;refine (nB_ _ _ _ _).mono ?_;rintro e w2 ⟨rfl,hB2⟩))
    go_roundw
    case measure=>exact me_
    case rel=>exact FIN.out false si_ _ (((hB.alloc hsz _).trans (hB1.mono so_)).trans (hB2.mono (by simp at hsz1;omega))) _ rfl
   ·have hz:decide (0<nd)=false:=by simp;omega
    go_wp2_with (first
     | (refine ds1 ?_;intro w1 hB1 hc0 hc1 hc2 hsz1)
     | (go_at_call 84;refine (nB_ _ _ _ _).mono ?_;rintro e w2 ⟨rfl,hB2⟩))
    go_roundw
    case measure=>exact me_
    case rel=>exact FIN.out false (by simp [hz]) _ (((hB.alloc hsz _).trans (hB1.mono so_)).trans (hB2.mono (by simp at hsz1;omega))) _ rfl
   ·have hz:decide (0<nd)=true:=by simp;omega
    have HZ:=hd_ hz;clear hz
    by_cases h7:7<=op
    ·have h7b:decide (7<=op)=true:=by simpa using h7
     have H7:=hd_ h7b;clear h7b
     by_cases hk0:k=0
     ·have hkb:((k:Int)==0)=true:=by simp [hk0]
      have hkd:decide (k=0)=true:=by simpa using hk0
      exact dr4
     ·have hkb:((k:Int)==0)=false:=by simp;omega
      have hkd:decide (k=0)=false:=by simpa using hk0
      exact dr3
    ·have h7b:decide (7<=op)=false:=by simpa using h7
     have H7:=hd_ h7b
     by_cases hk0:k=0
     ·have hkb:((k:Int)==0)=true:=by simp [hk0]
      have hkd:decide (k=0)=true:=by simpa using hk0
      exact dr3
     ·have hkb:((k:Int)==0)=false:=by simp;omega
      have hkd:decide (k=0)=false:=by simpa using hk0
      exact dr4
  ·have HE:=hd_ he;clear he
   go_wp2_with (go_at_call 83;refine (al7_ op n t _ htz (HM.out.below hB _) HE.out).mono ?_;rintro e w1 ⟨rfl,hB1⟩)
   go_ret
   refine ⟨?_,((hB.alloc hsz _).trans (hB1.mono so_))⟩
   rw [HC.out,HT.out,if_pos HE.out,← d2_ HE.out];rfl):P:=h
theorem k9_ (l:List Nd) (A:Option Addr) (c:Nat) (w:World) (hl:Nds w w.heap.size A l) (hsh:dP_ l) (hm:cQ_ w) :
  Calls Tryz.prog 45 #[.slice A l.length c] w (Ret w (eQ_ (aM_ l))):=by
 have hml:=hl.2.1
 unfold maxLen at hml
 by_cases h40:40<l.length
 ·have hF:aM_ l=3:=by rw [aM_,if_pos h40]
  rw [hF]
  go_enter Tryz.func45,Tryz.ntmps45
  exact dr6
 ·have hF:aM_ l=f1_ (l.drop 0) (decide (0=0)) 1 true:=by rw [aM_,if_neg h40];rfl
  have HF:=hd_ hF;clear hF
  have HN:=hd_ hl;clear hl
  have HS:=hd_ hsh;clear hsh
  have HM:=hd_ hm;clear hm
  go_enter Tryz.func45,Tryz.ntmps45
  go_wp2
  go_loopw [3,4,5,6,7,14] (fun need whole _ _ _ i wr=>∃ (k:Nat) (nd:Int) (wh:Bool),k<=l.length/\i=.int .i64 k/\need=.int .i64 nd/\whole=.bool wh/\-(k:Int)<=nd-1/\nd-1<=6*k/\aM_ l=f1_ (l.drop k) (decide (k=0)) nd wh/\Below w.heap.size w wr) (fun _ _ _ _ _ i _=>l.length-(intOf i).toNat)
  case atStart=>exact ⟨0,1,true,by omega,rfl,rfl,rfl,by omega,by omega,HF.out,Below.refl _ _⟩
  case round =>
   obtain ⟨k,nd,wh,hk,rfl,rfl,rfl,hb1,hb2,hc,hB⟩:=hrel
   have HC:=hd_ hc;clear hc
   by_cases hlt:k<l.length
   ·obtain ⟨b,off,op,t,n,rfl,hb,hd,hts,d1,d2,d3⟩:=HN.out.node hB hlt
    exact dr7
   ·have HT:=hd_ (akT_ (nd:=nd) (wh:=wh) (l:=l) (k:=k) (b:=decide (k=0)) om_)
    cases wh with
    | false =>
     exact dr6
    | true =>
     by_cases h0:nd=0
     ·subst h0
      exact dr6
     ·have h0':(nd != 0)=true:=by simpa using h0
      have H0:=hd_ h0;clear h0
      exact dr6
def h5_:List Nd->Bool
 | []=>false
 | d::_=>decide (d.op=9)
def k5_:List (List Nd)->Nat->Bool->Nat × Int
 | [],_,_=>(0,0)
 | t::r,i,pn=>if aM_ t≠0 then (i,aM_ t) else if (pn&&h5_ t)=true then (i,2) else k5_ r (i+1) (h5_ t)
def cC_ (p:List (List Nd)):Nat × Int:=if 20<p.length then (0,3) else k5_ p 0 false
theorem nM_ {p:List (List Nd)} {k:Nat} {pn:Bool} {u:List Nd} (hu:p[k]?=some u):k5_ (p.drop k) k pn=if aM_ u≠0 then (k,aM_ u) else if (pn&&h5_ u)=true then (k,2) else k5_ (p.drop (k+1)) (k+1) (h5_ u):=by
 obtain ⟨h1,h2⟩:=List.getElem?_eq_some_iff.1 hu
 rw [List.drop_eq_getElem_cons h1,h2,k5_]
theorem v6_ {p:List (List Nd)} {k:Nat} {pn:Bool} (h:p.length<=k):k5_ (p.drop k) k pn=(0,0):=by rw [List.drop_eq_nil_of_le h];rfl
structure Prg (w:World) (B:Nat) (A:Option Addr) (l:List (List Nd)):Prop where
 sl:∃ vs:List Value,Sl w B 1 A l.length vs/\∀ (j:Nat) v,vs[j]?=some v->∃ Aj cj u,l[j]?=some u/\v=.slice Aj u.length cj/\Nds w B Aj u/\dP_ u
 le:l.length<=maxLen
theorem Prg.one {w wr:World} {A:Option Addr} {l:List (List Nd)} (h:Prg w w.heap.size A l) (hB:Below w.heap.size w wr) {k:Nat} (hk:k<l.length) :
  ∃ b off Aj cj u,A=some ⟨b,off,none⟩/\b<wr.heap.size/\l[k]?=some u/\wr.cell? ⟨b,off+k,none⟩=some (.slice Aj u.length cj)/\Nds wr wr.heap.size Aj u/\dP_ u:=by
 obtain ⟨⟨vs,h1,h2⟩,h3⟩:=h
 obtain ⟨b,off,v,e1,e2,e3,e4⟩:=h1.one hk
 obtain ⟨Aj,cj,u,g1,rfl,g3,g4⟩:=h2 k v e3
 exact ⟨b,off,Aj,cj,u,e1,Nat.lt_of_lt_of_le e2 hB.size,g1,(hB.cell (p:=⟨b,off+k,none⟩) e2).trans e4,g3.past hB,g4⟩
theorem jN_ {u:List Nd} (h:aM_ u=0):0<u.length:=by
 have:=(Tr.of_check h).root
 rcases Nat.eq_zero_or_pos u.length with h1|h1
 ·rw [fR_ om_] at this;cases this
 ·exact h1
theorem Nds.first {w:World} {A:Option Addr} {u:List Nd} (hu:Nds w w.heap.size A u) (h:aM_ u=0):∃ b off op,A=some ⟨b,off,none⟩/\b<w.heap.size/\h5_ u=decide (op=9)/\w.cell? ⟨b,off,none⟩=some (.int .i64 op):=by
 have h0:=jN_ h
 obtain ⟨b,off,op,t,n,h1,h2,h3,h4,h5,_⟩:=hu.node (Below.refl _ _) h0
 refine ⟨b,off,op,h1,h2, ?_,by simpa using h5⟩
 cases u with
 | nil=>simp at h0
 | cons d r =>
  simp only [List.getElem_cons_zero] at h3
  rw [h3];rfl
theorem ah9_ (l:List Nd) (A:Option Addr) (c:Nat) (w:World) (hl:Nds w w.heap.size A l) (hsh:dP_ l) (hm:cQ_ w) (h:aM_ l=0) :
  Calls Tryz.prog 45 #[.slice A l.length c] w (Ret w .nilIface):=by rw [fA_ h];exact k9_ l A c w hl hsh hm
theorem adL_ (l:List Nd) (A:Option Addr) (c:Nat) (w:World) (hl:Nds w w.heap.size A l) (hsh:dP_ l) (hm:cQ_ w) (h:aM_ l≠0) :
  Calls Tryz.prog 45 #[.slice A l.length c] w (Ret w (.iface 24 (.int .i64 (aM_ l)))):=by rw [d2_ h];exact k9_ l A c w hl hsh hm
def i9_ (p:List (List Nd)) (k:Nat) (pn:Bool):Prop:=cC_ p=k5_ (p.drop k) k pn/\(k=0->pn=false)/\∀ j u,k=j+1->p[j]?=some u->aM_ u=0/\h5_ u=pn
theorem i9_.next {p:List (List Nd)} {k:Nat} {pn:Bool} {u:List Nd} (h:i9_ p k pn) (hu:p[k]?=some u) (h0:aM_ u=0) (hn:(pn&&h5_ u)=false):i9_ p (k+1) (h5_ u):=by
 refine ⟨?_,fun h=>absurd h om_,fun j v hj hv=>?_⟩
 ·rw [h.1,nM_ hu,if_neg (by simp [h0]),if_neg (by simp [hn])]
 ·obtain rfl:j=k:=by omega
  rw [hu] at hv;cases hv
  exact ⟨h0,rfl⟩
theorem i9_.bad {p:List (List Nd)} {k:Nat} {pn:Bool} {u:List Nd} (h:i9_ p k pn) (hu:p[k]?=some u) (h0:aM_ u≠0):cC_ p=(k,aM_ u):=by rw [h.1,nM_ hu,if_pos h0]
theorem i9_.two {p:List (List Nd)} {k:Nat} {pn:Bool} {u:List Nd} (h:i9_ p k pn) (hu:p[k]?=some u) (h0:aM_ u=0) (hn:(pn&&h5_ u)=true):cC_ p=(k,2):=by rw [h.1,nM_ hu,if_neg (by simp [h0]),if_pos hn]
def jA_ (p:List (List Nd)) (w:World) (e:Ending) (w':World):Prop:=e=.returned (.tuple #[.int .i64 (cC_ p).1,eQ_ (cC_ p).2])/\Below w.heap.size w w'
theorem jA_.of {p:List (List Nd)} {w w':World} {i:Nat} {k:Int} {v:Value} (h:cC_ p=(i,k)) (hv:v=eQ_ k) (hb:Below w.heap.size w w'):jA_ p w (.returned (.tuple #[.int .i64 i,v])) w':=by
 unfold jA_;rw [h,hv];exact ⟨rfl,hb⟩
theorem dr2 (h:P:=by
 go_wp2_with (go_at_call 45;refine HCK.out.mono ?_;rintro e w1 ⟨rfl,hB1⟩;have e0:=(hB1.cell (p:=⟨b,off+(j+1),none⟩) hb).trans hc;have e1:=(hB1.cell (p:=⟨b2,off2,none⟩) hb2).trans d1;have e2:=(hB1.cell (p:=⟨b,off+j,none⟩) hb).trans hc';have e3:=(hB1.cell (p:=⟨b3,off3,none⟩) hb3).trans d1')
 first
 |
  go_ret2
  exact jA_.of HR.out rfl (hB.trans (hB1.mono hsz))
  done
 |
  go_roundw
  case measure=>exact me_
  case rel=>exact ⟨j+1+1,_,by omega,by go_num,HNX.out,hB.trans (hB1.mono hsz)⟩):P:=h
theorem anN_ (p:List (List Nd)) (A:Option Addr) (c:Nat) (w:World) (hp:Prg w w.heap.size A p) (hm:cQ_ w) :
  Calls Tryz.prog 44 #[.slice A p.length c] w (jA_ p w):=by
 have hml:=hp.le
 unfold maxLen at hml
 by_cases h20:20<p.length
 ·have hF:cC_ p=(0,3):=by rw [cC_,if_pos h20]
  have HF:=hd_ hF;clear hF
  go_enter Tryz.func44,Tryz.ntmps44
  go_wp2
  go_ret2
  exact jA_.of HF.out rfl (Below.refl _ _)
 ·have hF:i9_ p 0 false:=⟨by rw [cC_,if_neg h20];rfl,fun _=>rfl,fun j u h=>by cases h⟩
  have HF:=hd_ hF;clear hF
  have HP:=hd_ hp;clear hp
  have HM:=hd_ hm;clear hm
  go_enter Tryz.func44,Tryz.ntmps44
  go_wp2
  go_loopw [13] (fun i wr=>∃ (k:Nat) (pn:Bool),k<=p.length/\i=.int .i64 k/\i9_ p k pn/\Below w.heap.size w wr) (fun i _=>p.length-(intOf i).toNat)
  case atStart=>exact ⟨0,false,by omega,rfl,HF.out,Below.refl _ _⟩
  case round =>
   obtain ⟨k,pn,hk,rfl,ha,hB⟩:=hrel
   have HA:=hd_ ha;clear ha
   exact dr7
end
end Go.Proofs.YtddfdmopaeghnadGreatDoor
