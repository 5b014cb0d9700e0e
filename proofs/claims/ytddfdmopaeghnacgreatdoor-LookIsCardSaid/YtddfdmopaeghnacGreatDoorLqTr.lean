/- Plain facts on statements as lists of nodes: check, where the kids begin, each node but the first is the kid of one. With what it rests on. Conditions: as each theorem states them. -/
import Derived.Test.YtddfdmopaeghnacGreatDoorLqDp
import Derived.Lib.Split
import Derived.Test.YtddfdmopaeghnacGreatDoorLqDw
import Derived.Test.YtddfdmopaeghnacGreatDoorLqSh
import Derived.Lib.SplitLaws
import Derived.BigQuiet
import Derived.Deep.QuietTactic
import Derived.Laws.ResultCell
set_option maxRecDepth 100000
set_option maxHeartbeats 16000000
namespace Go.Proofs.YtddfdmopaeghnacGreatDoor
def b4_ (op:Int):Int:=if op=1 then 999999 else if op=3∨op=4 then 6 else -1
def dP_ (op:Int):Bool:=decide (op=2)||decide (op=3)||decide (op=7)||decide (op=9)
def hL_ (c:UInt8):Bool:=decide (97<=c.toNat)&&decide (c.toNat<=122)
def b1_ (s:ByteArray):Bool:=!(s.toList.isEmpty)&&decide (s.size<=8)&&!(s.toList==[108,101,116])&&s.data.toList.all hL_
def i5_ (c:UInt8):Bool:=decide (33<=c.toNat)&&decide (c.toNat<=126)
def cO_ (s:ByteArray):Bool:=!(s.toList.isEmpty)&&decide (s.size<=20)&&s.data.toList.all i5_
def cL_ (l:List ByteArray):Int:=if 60<l.length then 3 else if l.all cO_=true then 0 else 5
def spB:ByteArray:=⟨#[32]⟩
def aS_ (t:ByteArray):List ByteArray:=if t.toList=[] then [] else Lib.splitB spB 0 (Lib.countB t spB) t
def bK_ (op n:Int):Int:=if op=3∨op=4 then n else if op=5∨op=6 then 2 else if op=7∨op=8 then 1 else 0
def a8_ (op:Int) (t:ByteArray) (n:Int):Int :=
 if op<1∨9<op∨(0<=b4_ op/\(n<0∨b4_ op<n)) then 1
 else if (b4_ op<0/\n≠0)∨(dP_ op=false/\t.toList≠[]) then 2
 else if op=9 then cL_ (aS_ t)
 else if dP_ op=true/\b1_ t=false then 5
 else 0
def eL_:List Nd->Bool->Int->Bool->Int
 | [],_,need,whole=>if whole=true/\need=0 then 0 else 2
 | d::r,fst,need,whole=>if a8_ d.op d.text d.n≠0 then a8_ d.op d.text d.n else eL_ r false (need+bK_ d.op d.n-1) (whole&&decide (0<need)&&(decide (7<=d.op)==fst))
def aY_ (l:List Nd):Int:=if 40<l.length then 3 else eL_ l true 1 true
theorem acK_ {l:List Nd} {k:Nat} {nd:Int} {wh:Bool} {op n:Int} {t:ByteArray} (hlt:k<l.length) (hd:l[k]=Nd.mk op t n) :
  eL_ (l.drop k) (decide (k=0)) nd wh=if a8_ op t n≠0 then a8_ op t n else eL_ (l.drop (k+1)) (decide (k+1=0)) (nd+bK_ op n-1) (wh&&decide (0<nd)&&(decide (7<=op)==decide (k=0))):=by
 rw [List.drop_eq_getElem_cons hlt,hd];rfl
theorem af0_ {l:List Nd} {k:Nat} {b:Bool} {nd:Int} {wh:Bool} (hge:l.length<=k):eL_ (l.drop k) b nd wh=if wh=true/\nd=0 then 0 else 2:=by
 rw [List.drop_eq_nil_of_le hge];rfl
theorem mK_ (l:List Nd) (b:Bool) (nd:Int):eL_ l b nd false≠0:=by
 induction l generalizing nd b with
 | nil=>simp [eL_]
 | cons d r ih=>simp only [eL_,Bool.false_and];split <;> simp_all
theorem hM_ {op n:Int} {t:ByteArray} (h:a8_ op t n=0):0<=bK_ op n/\bK_ op n<=6:=by
 unfold a8_ at h
 have h1:¬ (op<1∨9<op∨(0<=b4_ op/\(n<0∨b4_ op<n))):=fun hh=>by rw [if_pos hh] at h;cases h
 unfold bK_
 by_cases h2:op=3∨op=4
 ·rw [if_pos h2]
  have:b4_ op=6:=by unfold b4_;rw [if_neg (by omega),if_pos h2]
  rw [this] at h1;omega
 ·rw [if_neg h2];split <;> (try split) <;> omega
def jW_:Nat->List Nat->List Nat
 | _,[]=>[]
 | i,m::r=>i::(jW_ (i+1) r).drop m
def bC_ (l:List Nd):List Nat:=l.map fun d=>(bK_ d.op d.n).toNat
def cD_ (l:List Nd) (i:Nat):List Nat:=jW_ i ((bC_ l).drop i)
def hA_ (l:List Nd) (q:List Nat):Nat:=q.headD l.length
def a7_ (l:List Nd) (i:Nat):Nat:=hA_ l (cD_ l i).tail
theorem cS_ (l:List Nd):(bC_ l).length=l.length:=by simp [bC_]
theorem h1_ {l:List Nd} {i:Nat} (hi:i<l.length):cD_ l i=i::(cD_ l (i+1)).drop ((bC_ l).getD i 0):=by
 unfold cD_
 have h:i<(bC_ l).length:=by rw [cS_];exact hi
 rw [List.drop_eq_getElem_cons h,jW_]
 simp [h]
theorem fE_ {l:List Nd} {i:Nat} (hi:l.length<=i):cD_ l i=[]:=by
 unfold cD_
 rw [List.drop_eq_nil_of_le (by rw [cS_];exact hi)];rfl
structure Tr (l:List Nd):Prop where
 chk:aY_ l=0
 len:l.length<=40
 one:∀ d ∈ l,a8_ d.op d.text d.n=0
 room:∀ i,i<l.length->(bC_ l).getD i 0<=(cD_ l (i+1)).length
 root:cD_ l 0=[0]
theorem acJ_:∀ (l:List Nd) (b:Bool) (nd:Int),eL_ l b nd true=0->(∀ d ∈ l,a8_ d.op d.text d.n=0)/\∀ i,((jW_ i (bC_ l)).length:Int)=nd/\∀ j,j<l.length->(bC_ l).getD j 0<=(jW_ (i+j+1) ((bC_ l).drop (j+1))).length:=by
 intro l
 induction l with
 | nil =>
  intro b nd h
  simp only [eL_,true_and] at h
  have:nd=0:=by
   by_cases h0:nd=0
   ·exact h0
   ·simp [h0] at h
  subst this
  exact ⟨by simp,fun i=>⟨rfl,fun j hj=>absurd hj (by simp)⟩⟩
 | cons d r ih =>
  intro b nd h
  rw [eL_] at h
  by_cases h1:a8_ d.op d.text d.n=0
  ·rw [if_neg (by simp [h1])] at h
   have hw:(true&&decide (0<nd)&&(decide (7<=d.op)==b))=true:=by
    cases hh:(true&&decide (0<nd)&&(decide (7<=d.op)==b)) with
    | true=>rfl
    | false=>rw [hh] at h;exact absurd h (mK_ _ _ _)
   rw [hw] at h
   obtain ⟨g1,g2⟩:=ih _ _ h
   have hp:0<nd:=by
    have:decide (0<nd)=true:=by
     cases hd:decide (0<nd) with
     | true=>rfl
     | false=>rw [hd] at hw;simp at hw
    exact of_decide_eq_true this
   have hb:=hM_ h1
   refine ⟨fun x hx=>?_,fun i=>?_⟩
   ·rcases List.mem_cons.1 hx with rfl|hx
    ·exact h1
    ·exact g1 x hx
   ·obtain ⟨g3,g4⟩:=g2 (i+1)
    have hm:bC_ (d::r)=(bK_ d.op d.n).toNat::bC_ r:=rfl
    refine ⟨?_,fun j hj=>?_⟩
    ·rw [hm,jW_,List.length_cons,List.length_drop];omega
    ·cases j with
     | zero=>rw [hm];simp only [List.getD_cons_zero,List.drop_succ_cons,List.drop_zero,Nat.add_zero];omega
     | succ j =>
      have:=g4 j (by simpa using hj)
      rw [hm];simp only [List.getD_cons_succ,List.drop_succ_cons]
      rw [show i+(j+1)+1=i+1+j+1 by omega];exact this
  ·rw [if_pos h1] at h;exact absurd h h1
theorem Tr.of_check {l:List Nd} (h:aY_ l=0):Tr l:=by
 have h0:=h
 unfold aY_ at h
 split at h
 ·cases h
 ·rename_i hl
  obtain ⟨h1,h2⟩:=acJ_ l true 1 h
  obtain ⟨h3,h4⟩:=h2 0
  refine ⟨h0,by omega,h1,fun i hi=>?_, ?_⟩
  ·have:=h4 i hi
   unfold cD_
   rwa [Nat.zero_add] at this
  ·have hl2:(cD_ l 0).length=1:=by unfold cD_;rw [List.drop_zero];omega
   have hpos:0<l.length:=by
    rcases Nat.eq_zero_or_pos l.length with h|h
    ·rw [fE_ (by omega)] at hl2;simp at hl2
    ·exact h
   have:=h1_ hpos
   rw [this] at hl2
   simp only [List.length_cons] at hl2
   have h6:(cD_ l (0+1)).drop ((bC_ l).getD 0 0)=[]:=List.eq_nil_of_length_eq_zero (by omega)
   rw [this,h6]
theorem ah6_:∀ (l:List Nat) (i:Nat),(jW_ i l).Pairwise (·<·)/\∀ x ∈ jW_ i l,i<=x/\x<i+l.length:=by
 intro l
 induction l with
 | nil=>intro i;exact ⟨.nil,by simp [jW_]⟩
 | cons m r ih =>
  intro i
  obtain ⟨h1,h2⟩:=ih (i+1)
  refine ⟨?_, ?_⟩
  ·rw [jW_,List.pairwise_cons]
   refine ⟨fun x hx=>?_,h1.sublist (List.drop_sublist _ _)⟩
   have:=h2 x (List.mem_of_mem_drop hx);omega
  ·intro x hx
   rw [jW_] at hx
   simp only [List.length_cons]
   rcases List.mem_cons.1 hx with rfl|hx
   ·omega
   ·have:=h2 x (List.mem_of_mem_drop hx);omega
theorem mB_ (l:List Nd) (i:Nat):∀ x ∈ cD_ l i,i<=x/\x<l.length:=by
 intro x hx
 rcases Nat.lt_or_ge i l.length with h|h
 ·have:=(ah6_ ((bC_ l).drop i) i).2 x hx
  rw [List.length_drop,cS_] at this;omega
 ·rw [fE_ h] at hx;simp at hx
theorem v8_ {l:List Nd}:∀ (k i:Nat) (xs ys:List Nat) (a:Nat),l.length-i<=k->cD_ l i=xs++a::ys->cD_ l a=a::ys:=by
 intro k
 induction k with
 | zero =>
  intro i xs ys a hk h
  rw [fE_ (by omega)] at h
  cases xs <;> simp at h
 | succ k ih =>
  intro i xs ys a hk h
  rcases Nat.lt_or_ge i l.length with hi|hi
  ·have h':=h
   rw [h1_ hi] at h'
   cases xs with
   | nil =>
    simp only [List.nil_append,List.cons.injEq] at h'
    rw [← h'.1] at h ⊢
    exact h
   | cons x xs =>
    simp only [List.cons_append,List.cons.injEq] at h'
    refine ih (i+1) ((cD_ l (i+1)).take ((bC_ l).getD i 0)++xs) ys a (by omega) ?_
    rw [List.append_assoc,← h'.2,List.take_append_drop]
  ·rw [fE_ hi] at h
   cases xs <;> simp at h
theorem gX_ {l:List Nd} {i:Nat} {op n:Int} {t:ByteArray} (hi:i<l.length) (hd:l[i]=Nd.mk op t n):(bC_ l).getD i 0=(bK_ op n).toNat:=by
 have h:i<(bC_ l).length:=by rw [cS_];exact hi
 rw [List.getD_eq_getElem?_getD,List.getElem?_eq_getElem h]
 simp [bC_,hd]
theorem uI_ {l:List Nd} {k:Nat} (hk:k<=l.length):hA_ l (cD_ l k)=k:=by
 unfold hA_
 rcases Nat.lt_or_ge k l.length with h|h
 ·rw [h1_ h];rfl
 ·rw [fE_ h];show l.length=k;omega
theorem adM_ {l:List Nd} {i k:Nat} (hk:k<(cD_ l (i+1)).length) :
  hA_ l ((cD_ l (i+1)).drop k)=(cD_ l (i+1))[k]/\(cD_ l (i+1))[k]<l.length/\a7_ l (cD_ l (i+1))[k]=hA_ l ((cD_ l (i+1)).drop (k+1)):=by
 have h1:=List.drop_eq_getElem_cons hk
 have h2:cD_ l (i+1)=(cD_ l (i+1)).take k++(cD_ l (i+1))[k]::(cD_ l (i+1)).drop (k+1):=by rw [← h1,List.take_append_drop]
 have h3:=v8_ (l.length) (i+1) _ _ _ (by omega) h2
 refine ⟨by rw [h1];rfl,(mB_ l (i+1) _ (List.getElem_mem hk)).2, ?_⟩
 rw [a7_,h3];rfl
end Go.Proofs.YtddfdmopaeghnacGreatDoor
namespace Go.Proofs.YtddfdmopaeghnacGreatDoor
open Go.RowKit
def Txs (w:World) (B:Nat) (A:Option Addr) (l:List ByteArray):Prop:=Sl w B 1 A l.length (l.map .string)/\l.length<=maxLen/\∀ t ∈ l,t.size<=maxLen
theorem Txs.one {w wr:World} {B:Nat} {A:Option Addr} {l:List ByteArray} (h:Txs w B A l) (hB:Below B w wr) {k:Nat} (hk:k<l.length) :
  ∃ b off t,A=some ⟨b,off,none⟩/\b<B/\l[k]=t/\t.size<=maxLen/\wr.cell? ⟨b,off+k,none⟩=some (.string t):=by
 obtain ⟨b,off,u,h1,h2,h3,h4⟩:=h.1.one hk
 refine ⟨b,off,l[k],h1,h2,rfl,h.2.2 _ (List.getElem_mem hk), ?_⟩
 rw [hB.cell (p:=⟨b,off+k,none⟩) h2,h4]
 simp [hk] at h3
 rw [h3]
theorem Txs.past {w w':World} {A:Option Addr} {l:List ByteArray} (h:Txs w w.heap.size A l) (hb:Below w.heap.size w w'):Txs w' w'.heap.size A l:=⟨h.1.past hb,h.2⟩
theorem kX_ {p:UInt8->Bool} {s:ByteArray} {k:Nat} (ha:(s.data.toList.take k).all p=true) (hk:s.size<=k):s.data.toList.all p=true:=by
 rw [List.take_of_length_le (by simp;omega)] at ha;exact ha
theorem gM_ {p:UInt8->Bool} {s:ByteArray} {k:Nat} (ha:(s.data.toList.take k).all p=true) (hk:k<s.size) (hp:p s[k]=true):(s.data.toList.take (k+1)).all p=true:=by
 have hk':k<s.data.toList.length:=by simpa using hk
 rw [List.take_succ_eq_append_getElem hk',List.all_append,ha]
 show (true&&(p s[k]&&true))=true
 rw [hp];rfl
theorem pI_ {p:UInt8->Bool} {s:ByteArray} {k:Nat} (hk:k<s.size) (hp:p s[k]=false):s.data.toList.all p=false:=by
 have hk':k<s.data.toList.length:=by simpa using hk
 rw [List.all_eq_false]
 exact ⟨s[k],List.mem_of_getElem (i:=k) (h:=hk') rfl,by simp [hp]⟩
theorem lq6 {P:Prop} (h:P:=by
 have HG:=hd_ hg;clear hg
 have HB:=hd_ hb;clear hb
 go_wp2
 all_goals first
  | (go_round
     case rel=>exact ⟨k+1,by omega,by go_num,HG.out (by omega)⟩
     case measure=>simp [intOf];omega)
  | (go_ret
     exact ⟨by rw [HW.out,HB.out (by omega)];rfl,rfl⟩)):P:=h
theorem vZ_ (s:ByteArray) (w:World) (hs:s.size<=maxLen) :
  Calls Tryz.prog 177 #[.string s] w fun e w'=>e=.returned (.bool (cO_ s))/\w=w':=by
 unfold maxLen at hs
 by_cases he:s.toList=[]
 ·have hw:cO_ s=false:=by simp [cO_,he]
  rw [hw]
  have he2:s.toList.isEmpty=true:=by simp [he]
  go_enter Tryz.func177,Tryz.ntmps177
  go_wp2
  go_ret
  exact ⟨rfl,rfl⟩
 ·have he2:s.toList.isEmpty=false:=by simpa using he
  by_cases h20:20<s.size
  ·have hw:cO_ s=false:=by
    have hd:decide (s.size<=20)=false:=by simp;omega
    rw [cO_,hd];simp
   rw [hw]
   go_enter Tryz.func177,Tryz.ntmps177
   go_wp2
   go_ret
   exact ⟨rfl,rfl⟩
  ·have hw:cO_ s=s.data.toList.all i5_:=by
    have hd:decide (s.size<=20)=true:=by simp;omega
    rw [cO_,hd,he2];simp
   have HW:=hd_ hw;clear hw
   go_enter Tryz.func177,Tryz.ntmps177
   go_wp2
   go_loop [3,13] (fun _ i=>∃ k:Nat,k<=s.size/\i=.int .i64 k/\(s.data.toList.take k).all i5_=true) (fun _ i=>s.size-(intOf i).toNat)
   case atStart=>exact ⟨0,Nat.zero_le _,rfl,rfl⟩
   case round =>
    obtain ⟨k,hk,rfl,ha⟩:=hrel
    have HA:=hd_ ha;clear ha
    by_cases hlt:k<s.size
    ·have hg:(33<=s[k].toNat/\s[k].toNat<=126)->(s.data.toList.take (k+1)).all i5_=true:=fun h=>gM_ HA.out hlt (by unfold i5_;simp;omega)
     have hb:(s[k].toNat<33∨126<s[k].toNat)->s.data.toList.all i5_=false:=fun h=>pI_ hlt (by unfold i5_;rcases h with h|h <;> simp <;> omega)
     exact lq6
    ·go_wp2
     go_ret
     exact ⟨by rw [HW.out,kX_ HA.out (by omega)];rfl,rfl⟩
theorem w0_ {l:List ByteArray} {k:Nat} (h:¬ 60<l.length) (hk:k<l.length) (hb:cO_ l[k]=false):cL_ l=5:=by
 rw [cL_,if_neg h,if_neg]
 intro ha
 have:=List.all_eq_true.1 ha _ (List.getElem_mem hk)
 rw [hb] at this;cases this
theorem t6_ {l:List ByteArray} {k:Nat} (h:¬ 60<l.length) (hk:l.length<=k) (ha:(l.take k).all cO_=true):cL_ l=0:=by
 rw [List.take_of_length_le hk] at ha
 rw [cL_,if_neg h,if_pos ha]
theorem qO_ {l:List ByteArray} {k:Nat} (hk:k<l.length) (ha:(l.take k).all cO_=true) (hb:cO_ l[k]=true):(l.take (k+1)).all cO_=true:=by
 rw [List.take_succ_eq_append_getElem hk,List.all_append,ha]
 show (true&&(cO_ l[k]&&true))=true
 rw [hb];rfl
theorem t5_ (l:List ByteArray) (A:Option Addr) (n c:Nat) (hn:l.length=n) (w:World) (hl:Txs w w.heap.size A l) :
  Calls Tryz.prog 133 #[.slice A n c] w fun e w'=>e=.returned (dU_ (cL_ l))/\w=w':=by
 subst hn
 have hm:=hl.2.1
 unfold maxLen at hm
 have HN:=hd_ hl;clear hl
 by_cases h60:60<l.length
 ·have hw:cL_ l=3:=by rw [cL_,if_pos h60]
  rw [hw]
  go_enter Tryz.func133,Tryz.ntmps133
  go_wp2
  go_ret
  exact ⟨rfl,rfl⟩
 ·go_enter Tryz.func133,Tryz.ntmps133
  go_wp2
  go_loop [4,11] (fun _ i=>∃ k:Nat,k<=l.length/\i=.int .i64 k/\(l.take k).all cO_=true) (fun _ i=>l.length-(intOf i).toNat)
  case atStart=>exact ⟨0,Nat.zero_le _,rfl,rfl⟩
  case round =>
   obtain ⟨k,hk,rfl,ha⟩:=hrel
   have HA:=hd_ ha;clear ha
   by_cases hlt:k<l.length
   ·obtain ⟨b,off,t,rfl,hb,ht,hts,hc⟩:=HN.out.one (Below.refl _ _) hlt
    cases hw:cO_ t with
    | true =>
     have HG:=hd_ (qO_ hlt HA.out (by rw [ht];exact hw));clear ht
     have HW:=hd_ hw;clear hw
     go_wp2_with (go_at_call 177;refine (vZ_ _ _ hts).mono ?_;rw [HW.out];rintro e w' ⟨rfl,rfl⟩)
     go_round
     case rel=>exact ⟨k+1,by omega,by go_num,HG.out⟩
     case measure=>simp [intOf];omega
    | false =>
     have HG:=hd_ (w0_ h60 hlt (by rw [ht];exact hw));clear ht
     have HW:=hd_ hw;clear hw
     go_wp2_with (go_at_call 177;refine (vZ_ _ _ hts).mono ?_;rw [HW.out];rintro e w' ⟨rfl,rfl⟩)
     go_ret
     exact ⟨by rw [HG.out];rfl,rfl⟩
   ·go_wp2
    go_ret
    exact ⟨by rw [t6_ h60 (by omega) HA.out];rfl,rfl⟩
theorem ae9_ (op:Int) (w:World):Calls Tryz.prog 131 #[.int .i64 op] w fun e w'=>e=.returned (.int .i64 (b4_ op))/\w=w':=by
 go_enter Tryz.func131,Tryz.ntmps131
 go_wp2
 all_goals go_ret
 all_goals simp_all [b4_]
theorem abE_ (op:Int) (w:World):Calls Tryz.prog 132 #[.int .i64 op] w fun e w'=>e=.returned (.bool (dP_ op))/\w=w':=by
 have hop:op=2∨op=3∨op=7∨op=9∨(op≠2/\op≠3/\op≠7/\op≠9):=by omega
 rcases hop with rfl|rfl|rfl|rfl|⟨h1,h2,h3,h4⟩
 case inr.inr.inr.inr =>
  have e1:(op==2)=false:=by simpa using h1
  have e2:(op==3)=false:=by simpa using h2
  have e3:(op==7)=false:=by simpa using h3
  have e4:(op==9)=false:=by simpa using h4
  have hn:dP_ op=false:=by simp [dP_,h1,h2,h3,h4]
  rw [hn]
  clear h1 h2 h3 h4 hn
  go_enter Tryz.func132,Tryz.ntmps132
  go_wp2
  go_ret
  exact ⟨rfl,rfl⟩
 all_goals
  go_enter Tryz.func132,Tryz.ntmps132
  go_wp2
  go_ret
  exact ⟨rfl,rfl⟩
theorem aeA_ (s:ByteArray) (w:World) (hs:s.size<=maxLen) :
  Calls Tryz.prog 135 #[.string s] w fun e w'=>e=.returned (.bool (b1_ s))/\w=w':=by
 unfold maxLen at hs
 by_cases he:s.toList=[]
 ·have hw:b1_ s=false:=by simp [b1_,he]
  rw [hw]
  have he2:s.toList.isEmpty=true:=by simp [he]
  go_enter Tryz.func135,Tryz.ntmps135
  go_wp2
  go_ret
  exact ⟨rfl,rfl⟩
 ·have he2:s.toList.isEmpty=false:=by simpa using he
  by_cases h20:8<s.size
  ·have hw:b1_ s=false:=by
    have hd:decide (s.size<=8)=false:=by simp;omega
    rw [b1_,hd];simp
   rw [hw]
   go_enter Tryz.func135,Tryz.ntmps135
   go_wp2
   go_ret
   exact ⟨rfl,rfl⟩
  ·cases hl:(s.toList==[108,101,116]) with
   | true =>
    have hw:b1_ s=false:=by simp [b1_,hl]
    rw [hw]
    go_enter Tryz.func135,Tryz.ntmps135
    go_wp2
    go_ret
    exact ⟨rfl,rfl⟩
   | false =>
    have hw:b1_ s=s.data.toList.all hL_:=by
     have hd:decide (s.size<=8)=true:=by simp;omega
     rw [b1_,hd,he2,hl];simp
    have HW:=hd_ hw;clear hw
    go_enter Tryz.func135,Tryz.ntmps135
    go_wp2
    go_loop [3,17] (fun _ i=>∃ k:Nat,k<=s.size/\i=.int .i64 k/\(s.data.toList.take k).all hL_=true) (fun _ i=>s.size-(intOf i).toNat)
    case atStart=>exact ⟨0,Nat.zero_le _,rfl,rfl⟩
    case round =>
     obtain ⟨k,hk,rfl,ha⟩:=hrel
     have HA:=hd_ ha;clear ha
     by_cases hlt:k<s.size
     ·have hg:(97<=s[k].toNat/\s[k].toNat<=122)->(s.data.toList.take (k+1)).all hL_=true:=fun h=>gM_ HA.out hlt (by unfold hL_;simp;omega)
      have hb:(s[k].toNat<97∨122<s[k].toNat)->s.data.toList.all hL_=false:=fun h=>pI_ hlt (by unfold hL_;rcases h with h|h <;> simp <;> omega)
      exact lq6
     ·go_wp2
      go_ret
      exact ⟨by rw [HW.out,kX_ HA.out (by omega)];rfl,rfl⟩
theorem m2_ (op n:Int) (t:ByteArray) (w:World):Calls Tryz.prog 79 #[.agg #[.int .i64 op,.string t,.int .i64 n]] w (Ret w (.int .i64 (bK_ op n))):=by
 go_enter Tryz.func79,Tryz.ntmps79
 go_wp2
 all_goals go_ret
 all_goals refine ⟨?_,aA_⟩
 all_goals simp_all [bK_]
 all_goals omega
def cU_ (w:World):Prop:=1+1<=w.heap.size/\∃ m,w.cell? ⟨1,0,none⟩=some (.int .i64 m)
theorem cU_.past {w w':World} (h:cU_ w) (hb:Below w.heap.size w w'):cU_ w':=by
 obtain ⟨h1,m,hm⟩:=h
 exact ⟨Nat.le_trans h1 hb.size,m,(hb.cell (p:=⟨1,0,none⟩) (Nat.lt_of_lt_of_le (Nat.lt_succ_self _) h1)).trans hm⟩
theorem h7_ (sep:ByteArray) (save:Nat):∀ (k:Nat) (s:ByteArray),∀ x ∈ Lib.splitB sep save k s,x.size<=s.size:=by
 intro k
 induction k with
 | zero=>intro s x hx;rw [Lib.splitB_zero] at hx;simp at hx;subst hx;exact Nat.le_refl _
 | succ k ih =>
  intro s x hx
  unfold Lib.splitB at hx
  split at hx
  ·simp at hx;subst hx;exact Nat.le_refl _
  ·rcases List.mem_cons.1 hx with rfl|hx
   ·rw [ByteArray.size_extract];omega
   ·have:=ih _ x hx;rw [ByteArray.size_extract] at this;omega
theorem vI_ (w:World) (xs:List ByteArray) (hm:xs.length<=maxLen) (hs:∀ t ∈ xs,t.size<=maxLen):Txs (w.alloc (.cells (xs.map Value.string).toArray 9)) (w.alloc (.cells (xs.map Value.string).toArray 9)).heap.size (some ⟨w.heap.size,0,none⟩) xs:=by
 have h:=Sl.lit (sz:=1) w (xs.map Value.string).toArray 9 xs.length (by simp)
 exact ⟨h,hm,hs⟩
def tS_ (t:ByteArray) (w:World) (e:Ending) (w':World):Prop:=∃ A c,e=.returned (.slice A (aS_ t).length c)/\Txs w' w'.heap.size A (aS_ t)/\Below w.heap.size w w'
theorem zR_ (t:ByteArray) (w:World) (hs:t.size<4294967281) (hm:cU_ w) :
  Calls Tryz.prog 134 #[.string t] w (tS_ t w):=by
 obtain ⟨_,m,hm⟩:=hm
 by_cases he:t.toList=[]
 ·have he2:t.toList.isEmpty=true:=by simp [he]
  have hn:aS_ t=[]:=by rw [aS_,if_pos he]
  clear hm
  go_enter Tryz.func134,Tryz.ntmps134
  go_wp2
  go_ret
  exact ⟨none,0,by rw [hn];rfl,by rw [hn];exact ⟨Sl.nil_,by simp [maxLen],by simp⟩,Below.refl _ _⟩
 ·have he2:t.toList.isEmpty=false:=by simpa using he
  have hn:aS_ t=Lib.splitB spB 0 (Lib.countB t spB) t:=by rw [aS_,if_neg he]
  have hl:(aS_ t).length=Lib.countB t spB+1:=by rw [hn];exact Lib.splitB_all spB (by decide) 0 _ t rfl
  have hle:Lib.countB t spB<=t.size:=Lib.countB_le spB (by decide) t.size t (Nat.le_refl _)
  have hz:∀ x ∈ aS_ t,x.size<=t.size:=by rw [hn];exact h7_ spB 0 _ t
  have HL:=hd_ hl;have HN:=hd_ hn;have HM:=hd_ hm;have HZ:=hd_ hz
  clear hl hn hm hz
  go_enter Tryz.func134,Tryz.ntmps134
  go_wp2_with (go_at_call 130;refine (Tryz.strings_Split t spB m _ hs HM.out (by decide)).mono ?_;rintro e w1 ⟨rfl,rfl⟩)
  go_ret
  refine ⟨some ⟨w.heap.size,0,none⟩,Lib.countB t spB+1,by rw [HL.out];rfl, ?_,aA_⟩
  rw [← HN.out]
  exact vI_ w (aS_ t) (by rw [HL.out];simp only [maxLen];omega) fun x hx=>by have:=HZ.out x hx;simp only [maxLen];omega
theorem agV_ {op m:Int} (h:b4_ op=m) (w:World):Calls Tryz.prog 131 #[.int .i64 op] w fun e w'=>e=.returned (.int .i64 m)/\w=w':=by subst h;exact ae9_ op w
theorem uX_ {op:Int} {b:Bool} (h:dP_ op=b) (w:World):Calls Tryz.prog 132 #[.int .i64 op] w fun e w'=>e=.returned (.bool b)/\w=w':=by subst h;exact abE_ op w
theorem o7_ {t:ByteArray} {b:Bool} (h:b1_ t=b) (hs:t.size<=maxLen) (w:World):Calls Tryz.prog 135 #[.string t] w fun e w'=>e=.returned (.bool b)/\w=w':=by subst h;exact aeA_ t w hs
theorem ae8_ (op:Int):-1<=b4_ op/\b4_ op<=999999:=by
 unfold b4_;split <;> (try split) <;> omega
theorem gB_ {op n:Int} {t:ByteArray} (h:op<1∨9<op∨(0<=b4_ op/\(n<0∨b4_ op<n))):a8_ op t n=1:=by rw [a8_,if_pos h]
theorem fR_ {op n:Int} {t:ByteArray} (h:¬ (op<1∨9<op∨(0<=b4_ op/\(n<0∨b4_ op<n)))) (h2:(b4_ op<0/\n≠0)∨(dP_ op=false/\t.toList≠[])):a8_ op t n=2:=by rw [a8_,if_neg h,if_pos h2]
theorem fS_ {op n:Int} {t:ByteArray} (h:¬ (op<1∨9<op∨(0<=b4_ op/\(n<0∨b4_ op<n)))) (h2:¬ ((b4_ op<0/\n≠0)∨(dP_ op=false/\t.toList≠[]))) :
  a8_ op t n=if op=9 then cL_ (aS_ t) else if dP_ op=true/\b1_ t=false then 5 else 0:=by rw [a8_,if_neg h,if_neg h2]
theorem lq3 {P:Prop} (h:P:=by
 go_enter Tryz.func78,Tryz.ntmps78
 go_wp2_with (go_at_call 131;refine (HMo.out _).mono ?_;rintro e w' ⟨rfl,rfl⟩)
 go_ret
 exact ⟨rfl,aA_⟩):P:=h
theorem lq5 {P:Prop} (h:P:=by
 clear h9e h9' hnm hn2 hna
 rcases hcs with ⟨a1,a2,a3,a4⟩|⟨a1,rfl⟩
 all_goals
  go_enter Tryz.func78,Tryz.ntmps78
  go_wp2_with (first|(go_at_call 131;refine (HMo.out _).mono ?_;rintro e w' ⟨rfl,rfl⟩)|(go_at_call 132;refine (HNa.out _).mono ?_;rintro e w' ⟨rfl,rfl⟩)|(go_at_call 135;refine (HNm.out _).mono ?_;rintro e w' ⟨rfl,rfl⟩))
  go_ret
  exact ⟨by rw [HR.out];rfl,aA_⟩):P:=h
theorem lq7 {P:Prop} (h:P:=by
 clear hne h9' hnm
 rcases hcs with ⟨a1,a2,a3,a4⟩|⟨a1,rfl⟩
 all_goals
  go_enter Tryz.func78,Tryz.ntmps78
  go_wp2_with (first|(go_at_call 131;refine (HMo.out _).mono ?_;rintro e w' ⟨rfl,rfl⟩)|(go_at_call 132;refine (HNa.out _).mono ?_;rintro e w' ⟨rfl,rfl⟩))
  go_ret
  exact ⟨by rw [HR.out];rfl,aA_⟩):P:=h
theorem vX_ (op n:Int) (t:ByteArray) (w:World) (hs:t.size<4294967281) (hm:cU_ w) :
  Calls Tryz.prog 78 #[.agg #[.int .i64 op,.string t,.int .i64 n]] w (Ret w (dU_ (a8_ op t n))):=by
 have hts:t.size<=maxLen:=by simp only [maxLen];omega
 have HM:=hd_ hm;clear hm
 obtain ⟨m,hmo⟩:∃ m,b4_ op=m:=⟨_,rfl⟩
 have HMo:=hd_ (agV_ hmo)
 have hmb:=ae8_ op
 by_cases h1:op<1
 ·rw [gB_ (.inl h1)]
  clear hmb hmo
  exact lq3
 by_cases h9:9<op
 ·rw [gB_ (.inr (.inl h9))]
  clear hmb hmo
  exact lq3
 by_cases hr:0<=m/\n<0
 ·obtain ⟨hr1,hr2⟩:=hr
  rw [gB_ (.inr (.inr ⟨by omega,.inl hr2⟩))]
  clear hmb hmo
  exact lq3
 by_cases hr2:0<=m/\m<n
 ·obtain ⟨hr1,hr2⟩:=hr2
  have hr3:¬ n<0:=by omega
  rw [gB_ (.inr (.inr ⟨by omega,.inr (by omega)⟩))]
  clear hmb hmo hr
  exact lq3
 have hn1:¬ (op<1∨9<op∨(0<=b4_ op/\(n<0∨b4_ op<n))):=by omega
 by_cases hr3:m<0/\n≠0
 ·obtain ⟨hm0,hn0⟩:=hr3
  rw [fR_ hn1 (.inl ⟨by omega,hn0⟩)]
  have hnb:(n != 0)=true:=by simpa using hn0
  clear hmb hmo hr hr2 hn1 hn0
  exact lq3
 have hcs:(0<=m/\¬ n<0/\¬ m<n/\¬ m<0)∨(m<0/\n=0):=by omega
 have h9':op=9->m<0:=by rintro rfl;rw [← hmo];decide
 have hA:∀ b,dP_ op=b->(((b4_ op<0/\n≠0)∨(dP_ op=false/\t.toList≠[]))↔(b=false/\t.toList≠[])):=by
  intro b hb
  rw [hb]
  constructor
  ·rintro (h|h)
   ·exact absurd ⟨by omega,h.2⟩ hr3
   ·exact h
  ·exact .inr
 have h1':1<=op:=by omega
 have h9'':op<=9:=by omega
 have HTE:=hd_ hA;clear hA
 have HN1:=hd_ hn1;clear hn1
 have HBD:=hd_ hmb;clear hmb hmo hr hr2 hr3
 cases hnm:dP_ op with
 | false =>
  have HNa:=hd_ (uX_ hnm)
  have hne:op≠9:=by rintro rfl;exact absurd hnm (by decide)
  have hne2:(op==9)=false:=by simpa using hne
  by_cases he:t.toList=[]
  ·have he2:t.toList.isEmpty=true:=by simp [he]
   have HR:Hid (a8_ op t n=0):=hd_ (by rw [fS_ HN1.out (fun h=>((HTE.out _ hnm).1 h).2 he),if_neg hne,if_neg (by simp [hnm])])
   exact lq7
  ·have he2:t.toList.isEmpty=false:=by simpa using he
   have HR:Hid (a8_ op t n=2):=hd_ (fR_ HN1.out ((HTE.out _ hnm).2 ⟨rfl,he⟩))
   exact lq7
 | true =>
  have HNa:=hd_ (uX_ hnm)
  have hn2:¬ ((b4_ op<0/\n≠0)∨(dP_ op=false/\t.toList≠[])):=fun h=>by have:=((HTE.out _ hnm).1 h).1;cases this
  by_cases h9e:op=9
  ·subst h9e
   obtain ⟨a1,rfl⟩:m<0/\n=0:=by
    have:=h9' rfl
    rcases hcs with ⟨_,_,_,a4⟩|h
    ·exact absurd this a4
    ·exact h
   have HR:Hid (a8_ 9 t 0=cL_ (aS_ t)):=hd_ (by rw [fS_ HN1.out hn2,if_pos rfl])
   clear hcs h9' hnm hn2
   go_enter Tryz.func78,Tryz.ntmps78
   go_wp2_with (first
    | (go_at_call 131;refine (HMo.out _).mono ?_;rintro e w' ⟨rfl,rfl⟩)
    | (go_at_call 132;refine (HNa.out _).mono ?_;rintro e w' ⟨rfl,rfl⟩)
    | (go_at_call 134;refine (zR_ t _ hs (HM.out.past aA_)).mono ?_;rintro e w1 ⟨A1,c1,rfl,htx,hB1⟩;have HT:=hd_ htx;clear htx)
    | (go_at_call 133;refine (t5_ _ A1 _ c1 rfl _ HT.out).mono ?_;rintro e w2 ⟨rfl,rfl⟩))
   go_ret
   exact ⟨by rw [HR.out];rfl,(((Below.refl _ _).alloc (Nat.le_refl _) _).trans (hB1.mono (by simp)))⟩
  ·have hne2:(op==9)=false:=by simpa using h9e
   cases hna:b1_ t with
   | false =>
    have HNm:=hd_ (o7_ hna hts)
    have HR:Hid (a8_ op t n=5):=hd_ (by rw [fS_ HN1.out hn2,if_neg h9e,if_pos ⟨hnm,hna⟩])
    exact lq5
   | true =>
    have HNm:=hd_ (o7_ hna hts)
    have HR:Hid (a8_ op t n=0):=hd_ (by rw [fS_ HN1.out hn2,if_neg h9e,if_neg (by simp [hna])])
    exact lq5
def d6_ (l:List Nd):Prop:=∀ d ∈ l,d.text.size<4294967281
theorem oD_ (op n:Int) (t:ByteArray) (w:World) (hs:t.size<4294967281) (hm:cU_ w) (h:a8_ op t n=0) :
  Calls Tryz.prog 78 #[.agg #[.int .i64 op,.string t,.int .i64 n]] w (Ret w .nilIface):=by rw [dN_ h];exact vX_ op n t w hs hm
theorem af4_ (op n:Int) (t:ByteArray) (w:World) (hs:t.size<4294967281) (hm:cU_ w) (h:a8_ op t n≠0) :
  Calls Tryz.prog 78 #[.agg #[.int .i64 op,.string t,.int .i64 n]] w (Ret w (.iface 43 (.int .i64 (a8_ op t n)))):=by rw [bQ_ h];exact vX_ op n t w hs hm
theorem cU_.below {w wr:World} (h:cU_ w) (hb:Below w.heap.size w wr) (o:Obj):cU_ (wr.alloc o):=h.past (hb.alloc hb.size o)
theorem lq1 {P:Prop} (h:P:=by
 have HKD:=hd_ hkd;clear hkd hk0
 go_wp2_with (first
  | (go_at_call 78;refine (oD_ op n t _ htz (HM.out.below hB _) HE.out).mono ?_;rintro e w1 ⟨rfl,hB1⟩;have hc0:=hB1.cell (p:=⟨wr.heap.size,0,none⟩) (by simp);have hc1:=hB1.cell (p:=⟨wr.heap.size,1,none⟩) (by simp);have hc2:=hB1.cell (p:=⟨wr.heap.size,2,none⟩) (by simp);have hsz1:=hB1.size)
  | (go_at_call 79;refine (m2_ _ _ _ _).mono ?_;rintro e w2 ⟨rfl,hB2⟩))
 go_roundw
 case measure=>simp [intOf];omega
 case rel=>exact FIN.out false (by rw [HZ.out,H7.out,HKD.out];rfl) _ (((hB.alloc hsz _).trans (hB1.mono (by simp;omega))).trans (hB2.mono (by simp at hsz1;omega))) _ rfl):P:=h
theorem lq2 {P:Prop} (h:P:=by
 have HKD:=hd_ hkd;clear hkd hk0
 go_wp2_with (first
  | (go_at_call 78;refine (oD_ op n t _ htz (HM.out.below hB _) HE.out).mono ?_;rintro e w1 ⟨rfl,hB1⟩;have hc0:=hB1.cell (p:=⟨wr.heap.size,0,none⟩) (by simp);have hc1:=hB1.cell (p:=⟨wr.heap.size,1,none⟩) (by simp);have hc2:=hB1.cell (p:=⟨wr.heap.size,2,none⟩) (by simp);have hsz1:=hB1.size)
  | (go_at_call 79;refine (m2_ _ _ _ _).mono ?_;rintro e w2 ⟨rfl,hB2⟩))
 go_roundw
 case measure=>simp [intOf];omega
 case rel=>exact FIN.out true (by rw [HZ.out,H7.out,HKD.out];rfl) _ (((hB.alloc hsz _).trans (hB1.mono (by simp;omega))).trans (hB2.mono (by simp at hsz1;omega))) _ rfl):P:=h
theorem jK_ (l:List Nd) (A:Option Addr) (c:Nat) (w:World) (hl:Nds w w.heap.size A l) (hsh:d6_ l) (hm:cU_ w) :
  Calls Tryz.prog 41 #[.slice A l.length c] w (Ret w (dU_ (aY_ l))):=by
 have hml:=hl.2.1
 unfold maxLen at hml
 by_cases h40:40<l.length
 ·have hF:aY_ l=3:=by rw [aY_,if_pos h40]
  rw [hF]
  go_enter Tryz.func41,Tryz.ntmps41
  go_wp2
  go_ret
  exact ⟨rfl,Below.refl _ _⟩
 ·have hF:aY_ l=eL_ (l.drop 0) (decide (0=0)) 1 true:=by rw [aY_,if_neg h40];rfl
  have HF:=hd_ hF;clear hF
  have HN:=hd_ hl;clear hl
  have HS:=hd_ hsh;clear hsh
  have HM:=hd_ hm;clear hm
  go_enter Tryz.func41,Tryz.ntmps41
  go_wp2
  go_loopw [3,4,5,6,7,14] (fun need whole _ _ _ i wr=>∃ (k:Nat) (nd:Int) (wh:Bool),k<=l.length/\i=.int .i64 k/\need=.int .i64 nd/\whole=.bool wh/\-(k:Int)<=nd-1/\nd-1<=6*k/\aY_ l=eL_ (l.drop k) (decide (k=0)) nd wh/\Below w.heap.size w wr) (fun _ _ _ _ _ i _=>l.length-(intOf i).toNat)
  case atStart=>exact ⟨0,1,true,by omega,rfl,rfl,rfl,by omega,by omega,HF.out,Below.refl _ _⟩
  case round =>
   obtain ⟨k,nd,wh,hk,rfl,rfl,rfl,hb1,hb2,hc,hB⟩:=hrel
   have HC:=hd_ hc;clear hc
   by_cases hlt:k<l.length
   ·obtain ⟨b,off,op,t,n,rfl,hb,hd,hts,d1,d2,d3⟩:=HN.out.node hB hlt
    have hsz:=hB.size
    have htz:t.size<4294967281:=by have:=HS.out _ (List.getElem_mem hlt);rw [hd] at this;exact this
    have HT:=hd_ (acK_ (nd:=nd) (wh:=wh) hlt hd)
    clear hd
    by_cases he:a8_ op t n=0
    ·have hmb:=hM_ he
     have HE:=hd_ he;clear he
     have key:∀ wh',(wh&&decide (0<nd)&&(decide (7<=op)==decide (k=0)))=wh'->aY_ l=eL_ (l.drop (k+1)) (decide (k+1=0)) (nd+bK_ op n-1) wh':=by
      rintro _ rfl
      rw [HC.out,HT.out,if_neg (by simp [HE.out])]
     have KEY:=hd_ key;clear key
     have fin:∀ wh':Bool,(wh&&decide (0<nd)&&(decide (7<=op)==decide (k=0)))=wh'->∀ wr':World,Below w.heap.size w wr'->∀ wv:Value,wv=.bool wh'->∃ (k':Nat) (nd':Int) (wh'':Bool),k'<=l.length/\Value.int .i64 ((k:Int)+1)=.int .i64 k'/\Value.int .i64 (nd+(bK_ op n-1))=.int .i64 nd'/\wv=.bool wh''/\-(k':Int)<=nd'-1/\nd'-1<=6*k'/\aY_ l=eL_ (l.drop k') (decide (k'=0)) nd' wh''/\Below w.heap.size w wr':=by
      intro wh' h wr' hB' wv hwv
      exact ⟨k+1,nd+bK_ op n-1,wh',by omega,by go_num,by rw [show nd+(bK_ op n-1)=nd+bK_ op n-1 by omega],hwv,by omega,by omega,KEY.out _ h,hB'⟩
     have FIN:=hd_ fin;clear fin
     have hpar:(wh=false)∨(wh=true/\nd<=0)∨(wh=true/\0<nd):=by cases wh <;> simp;omega
     rcases hpar with rfl|⟨rfl,hnd⟩|⟨rfl,hnd⟩
     ·go_wp2_with (first
       | (go_at_call 78;refine (oD_ op n t _ htz (HM.out.below hB _) HE.out).mono ?_;rintro e w1 ⟨rfl,hB1⟩;have hc0:=hB1.cell (p:=⟨wr.heap.size,0,none⟩) (by simp);have hc1:=hB1.cell (p:=⟨wr.heap.size,1,none⟩) (by simp);have hc2:=hB1.cell (p:=⟨wr.heap.size,2,none⟩) (by simp);have hsz1:=hB1.size)
       | (go_at_call 79;refine (m2_ _ _ _ _).mono ?_;rintro e w2 ⟨rfl,hB2⟩))
      go_roundw
      case measure=>simp [intOf];omega
      case rel=>exact FIN.out false (by simp) _ (((hB.alloc hsz _).trans (hB1.mono (by simp;omega))).trans (hB2.mono (by simp at hsz1;omega))) _ rfl
     ·have hz:decide (0<nd)=false:=by simp;omega
      go_wp2_with (first
       | (go_at_call 78;refine (oD_ op n t _ htz (HM.out.below hB _) HE.out).mono ?_;rintro e w1 ⟨rfl,hB1⟩;have hc0:=hB1.cell (p:=⟨wr.heap.size,0,none⟩) (by simp);have hc1:=hB1.cell (p:=⟨wr.heap.size,1,none⟩) (by simp);have hc2:=hB1.cell (p:=⟨wr.heap.size,2,none⟩) (by simp);have hsz1:=hB1.size)
       | (go_at_call 79;refine (m2_ _ _ _ _).mono ?_;rintro e w2 ⟨rfl,hB2⟩))
      go_roundw
      case measure=>simp [intOf];omega
      case rel=>exact FIN.out false (by simp [hz]) _ (((hB.alloc hsz _).trans (hB1.mono (by simp;omega))).trans (hB2.mono (by simp at hsz1;omega))) _ rfl
     ·have hz:decide (0<nd)=true:=by simp;omega
      have HZ:=hd_ hz;clear hz
      by_cases h7:7<=op
      ·have h7b:decide (7<=op)=true:=by simpa using h7
       have H7:=hd_ h7b;clear h7b
       by_cases hk0:k=0
       ·have hkb:((k:Int)==0)=true:=by simp [hk0]
        have hkd:decide (k=0)=true:=by simpa using hk0
        exact lq2
       ·have hkb:((k:Int)==0)=false:=by simp;omega
        have hkd:decide (k=0)=false:=by simpa using hk0
        exact lq1
      ·have h7b:decide (7<=op)=false:=by simpa using h7
       have H7:=hd_ h7b
       by_cases hk0:k=0
       ·have hkb:((k:Int)==0)=true:=by simp [hk0]
        have hkd:decide (k=0)=true:=by simpa using hk0
        exact lq1
       ·have hkb:((k:Int)==0)=false:=by simp;omega
        have hkd:decide (k=0)=false:=by simpa using hk0
        exact lq2
    ·have HE:=hd_ he;clear he
     go_wp2_with (go_at_call 78;refine (af4_ op n t _ htz (HM.out.below hB _) HE.out).mono ?_;rintro e w1 ⟨rfl,hB1⟩)
     go_ret
     refine ⟨?_,((hB.alloc hsz _).trans (hB1.mono (by simp;omega)))⟩
     rw [HC.out,HT.out,if_pos HE.out,← bQ_ HE.out];rfl
   ·have HT:=hd_ (af0_ (nd:=nd) (wh:=wh) (l:=l) (k:=k) (b:=decide (k=0)) (by omega))
    cases wh with
    | false =>
     go_wp2
     go_ret
     refine ⟨?_,hB⟩
     rw [HC.out,HT.out];simp [dU_]
    | true =>
     by_cases h0:nd=0
     ·subst h0
      go_wp2
      go_ret
      refine ⟨?_,hB⟩
      rw [HC.out,HT.out];simp [dU_]
     ·have h0':(nd != 0)=true:=by simpa using h0
      have H0:=hd_ h0;clear h0
      go_wp2
      go_ret
      refine ⟨?_,hB⟩
      rw [HC.out,HT.out,if_neg (fun h=>H0.out h.2)];simp [dU_]
def gU_:List Nd->Bool
 | []=>false
 | d::_=>decide (d.op=9)
def jH_:List (List Nd)->Nat->Bool->Nat × Int
 | [],_,_=>(0,0)
 | t::r,i,pn=>if aY_ t≠0 then (i,aY_ t) else if (pn&&gU_ t)=true then (i,2) else jH_ r (i+1) (gU_ t)
def c1_ (p:List (List Nd)):Nat × Int:=if 20<p.length then (0,3) else jH_ p 0 false
theorem mC_ {p:List (List Nd)} {k:Nat} {pn:Bool} {u:List Nd} (hu:p[k]?=some u):jH_ (p.drop k) k pn=if aY_ u≠0 then (k,aY_ u) else if (pn&&gU_ u)=true then (k,2) else jH_ (p.drop (k+1)) (k+1) (gU_ u):=by
 obtain ⟨h1,h2⟩:=List.getElem?_eq_some_iff.1 hu
 rw [List.drop_eq_getElem_cons h1,h2,jH_]
theorem sH_ {p:List (List Nd)} {k:Nat} {pn:Bool} (h:p.length<=k):jH_ (p.drop k) k pn=(0,0):=by rw [List.drop_eq_nil_of_le h];rfl
structure Prg (w:World) (B:Nat) (A:Option Addr) (l:List (List Nd)):Prop where
 sl:∃ vs:List Value,Sl w B 1 A l.length vs/\∀ (j:Nat) v,vs[j]?=some v->∃ Aj cj u,l[j]?=some u/\v=.slice Aj u.length cj/\Nds w B Aj u/\d6_ u
 le:l.length<=maxLen
theorem Prg.one {w wr:World} {A:Option Addr} {l:List (List Nd)} (h:Prg w w.heap.size A l) (hB:Below w.heap.size w wr) {k:Nat} (hk:k<l.length) :
  ∃ b off Aj cj u,A=some ⟨b,off,none⟩/\b<wr.heap.size/\l[k]?=some u/\wr.cell? ⟨b,off+k,none⟩=some (.slice Aj u.length cj)/\Nds wr wr.heap.size Aj u/\d6_ u:=by
 obtain ⟨⟨vs,h1,h2⟩,h3⟩:=h
 obtain ⟨b,off,v,e1,e2,e3,e4⟩:=h1.one hk
 obtain ⟨Aj,cj,u,g1,rfl,g3,g4⟩:=h2 k v e3
 exact ⟨b,off,Aj,cj,u,e1,Nat.lt_of_lt_of_le e2 hB.size,g1,(hB.cell (p:=⟨b,off+k,none⟩) e2).trans e4,g3.past hB,g4⟩
theorem j1_ {u:List Nd} (h:aY_ u=0):0<u.length:=by
 have:=(Tr.of_check h).root
 rcases Nat.eq_zero_or_pos u.length with h1|h1
 ·rw [fE_ (by omega)] at this;cases this
 ·exact h1
theorem Nds.first {w:World} {A:Option Addr} {u:List Nd} (hu:Nds w w.heap.size A u) (h:aY_ u=0):∃ b off op,A=some ⟨b,off,none⟩/\b<w.heap.size/\gU_ u=decide (op=9)/\w.cell? ⟨b,off,none⟩=some (.int .i64 op):=by
 have h0:=j1_ h
 obtain ⟨b,off,op,t,n,h1,h2,h3,h4,h5,_⟩:=hu.node (Below.refl _ _) h0
 refine ⟨b,off,op,h1,h2, ?_,by simpa using h5⟩
 cases u with
 | nil=>simp at h0
 | cons d r =>
  simp only [List.getElem_cons_zero] at h3
  rw [h3];rfl
theorem acI_ (l:List Nd) (A:Option Addr) (c:Nat) (w:World) (hl:Nds w w.heap.size A l) (hsh:d6_ l) (hm:cU_ w) (h:aY_ l=0) :
  Calls Tryz.prog 41 #[.slice A l.length c] w (Ret w .nilIface):=by rw [dN_ h];exact jK_ l A c w hl hsh hm
theorem zI_ (l:List Nd) (A:Option Addr) (c:Nat) (w:World) (hl:Nds w w.heap.size A l) (hsh:d6_ l) (hm:cU_ w) (h:aY_ l≠0) :
  Calls Tryz.prog 41 #[.slice A l.length c] w (Ret w (.iface 43 (.int .i64 (aY_ l)))):=by rw [bQ_ h];exact jK_ l A c w hl hsh hm
def hV_ (p:List (List Nd)) (k:Nat) (pn:Bool):Prop:=c1_ p=jH_ (p.drop k) k pn/\(k=0->pn=false)/\∀ j u,k=j+1->p[j]?=some u->aY_ u=0/\gU_ u=pn
theorem hV_.next {p:List (List Nd)} {k:Nat} {pn:Bool} {u:List Nd} (h:hV_ p k pn) (hu:p[k]?=some u) (h0:aY_ u=0) (hn:(pn&&gU_ u)=false):hV_ p (k+1) (gU_ u):=by
 refine ⟨?_,fun h=>absurd h (by omega),fun j v hj hv=>?_⟩
 ·rw [h.1,mC_ hu,if_neg (by simp [h0]),if_neg (by simp [hn])]
 ·obtain rfl:j=k:=by omega
  rw [hu] at hv;cases hv
  exact ⟨h0,rfl⟩
theorem hV_.bad {p:List (List Nd)} {k:Nat} {pn:Bool} {u:List Nd} (h:hV_ p k pn) (hu:p[k]?=some u) (h0:aY_ u≠0):c1_ p=(k,aY_ u):=by rw [h.1,mC_ hu,if_pos h0]
theorem hV_.two {p:List (List Nd)} {k:Nat} {pn:Bool} {u:List Nd} (h:hV_ p k pn) (hu:p[k]?=some u) (h0:aY_ u=0) (hn:(pn&&gU_ u)=true):c1_ p=(k,2):=by rw [h.1,mC_ hu,if_neg (by simp [h0]),if_pos hn]
def iS_ (p:List (List Nd)) (w:World) (e:Ending) (w':World):Prop:=e=.returned (.tuple #[.int .i64 (c1_ p).1,dU_ (c1_ p).2])/\Below w.heap.size w w'
theorem iS_.of {p:List (List Nd)} {w w':World} {i:Nat} {k:Int} {v:Value} (h:c1_ p=(i,k)) (hv:v=dU_ k) (hb:Below w.heap.size w w'):iS_ p w (.returned (.tuple #[.int .i64 i,v])) w':=by
 unfold iS_;rw [h,hv];exact ⟨rfl,hb⟩
theorem lq4 {P:Prop} (h:P:=by
 go_wp2_with (go_at_call 41;refine HCK.out.mono ?_;rintro e w1 ⟨rfl,hB1⟩;have e0:=(hB1.cell (p:=⟨b,off+(j+1),none⟩) hb).trans hc;have e1:=(hB1.cell (p:=⟨b2,off2,none⟩) hb2).trans d1;have e2:=(hB1.cell (p:=⟨b,off+j,none⟩) hb).trans hc';have e3:=(hB1.cell (p:=⟨b3,off3,none⟩) hb3).trans d1')
 go_roundw
 case measure=>simp [intOf];omega
 case rel=>exact ⟨j+1+1,_,by omega,by go_num,HNX.out,hB.trans (hB1.mono hsz)⟩):P:=h
theorem afT_ (p:List (List Nd)) (A:Option Addr) (c:Nat) (w:World) (hp:Prg w w.heap.size A p) (hm:cU_ w) :
  Calls Tryz.prog 46 #[.slice A p.length c] w (iS_ p w):=by
 have hml:=hp.le
 unfold maxLen at hml
 by_cases h20:20<p.length
 ·have hF:c1_ p=(0,3):=by rw [c1_,if_pos h20]
  have HF:=hd_ hF;clear hF
  go_enter Tryz.func46,Tryz.ntmps46
  go_wp2
  go_ret2
  exact iS_.of HF.out rfl (Below.refl _ _)
 ·have hF:hV_ p 0 false:=⟨by rw [c1_,if_neg h20];rfl,fun _=>rfl,fun j u h=>by cases h⟩
  have HF:=hd_ hF;clear hF
  have HP:=hd_ hp;clear hp
  have HM:=hd_ hm;clear hm
  go_enter Tryz.func46,Tryz.ntmps46
  go_wp2
  go_loopw [13] (fun i wr=>∃ (k:Nat) (pn:Bool),k<=p.length/\i=.int .i64 k/\hV_ p k pn/\Below w.heap.size w wr) (fun i _=>p.length-(intOf i).toNat)
  case atStart=>exact ⟨0,false,by omega,rfl,HF.out,Below.refl _ _⟩
  case round =>
   obtain ⟨k,pn,hk,rfl,ha,hB⟩:=hrel
   have HA:=hd_ ha;clear ha
   have hsz:=hB.size
   by_cases hlt:k<p.length
   ·obtain ⟨b,off,Ak,ck,u,rfl,hb,hu,hc,hN,hS⟩:=HP.out.one hB hlt
    have HU:=hd_ hu;clear hu
    have HNU:=hd_ hN
    by_cases h0:aY_ u=0
    ·have HCK:=hd_ (acI_ u Ak ck wr hN hS (HM.out.past hB) h0)
     obtain ⟨b2,off2,op,rfl,hb2,hin,d1⟩:=hN.first h0
     have hu0:=j1_ h0
     have H0:=hd_ h0;have HIN:=hd_ hin
     clear h0 hin hN hS
     cases k with
     | zero =>
      rw [Nat.add_zero] at hc
      have HNX:=hd_ (HA.out.next HU.out H0.out (by rw [HA.out.2.1 rfl];rfl))
      go_wp2_with (go_at_call 41;refine HCK.out.mono ?_;rintro e w1 ⟨rfl,hB1⟩;have e0:=(hB1.cell (p:=⟨b,off,none⟩) hb).trans hc;have e1:=(hB1.cell (p:=⟨b2,off2,none⟩) hb2).trans d1)
      go_roundw
      case measure=>simp [intOf];omega
      case rel=>exact ⟨0+1,_,by omega,by go_num,HNX.out,hB.trans (hB1.mono hsz)⟩
     | succ j =>
      obtain ⟨b',off',Aj,cj,u',hq,hb',hu',hc',hN',hS'⟩:=HP.out.one hB (k:=j) (by omega)
      cases hq
      obtain ⟨h0',hin'⟩:=HA.out.2.2 j u' rfl hu'
      obtain ⟨b3,off3,op',rfl,hb3,hin3,d1'⟩:=hN'.first h0'
      have hu0':=j1_ h0'
      have HPN:Hid (pn=decide (op'=9)):=hd_ (by rw [← hin',hin3])
      clear hin' hin3 h0' hu' hN' hS' hb'
      have k7:(j:Int)+1-1=(j:Int):=by omega
      have k8:IntKind.i64.wrap (j:Int)=(j:Int):=IntWalk.i64_in _ (by omega)
      by_cases h9:op=9
      ·subst h9
       by_cases h9':op'=9
       ·subst h9'
        have HR:=hd_ (HA.out.two HU.out H0.out (by rw [HPN.out,HIN.out];rfl))
        go_wp2_with (go_at_call 41;refine HCK.out.mono ?_;rintro e w1 ⟨rfl,hB1⟩;have e0:=(hB1.cell (p:=⟨b,off+(j+1),none⟩) hb).trans hc;have e1:=(hB1.cell (p:=⟨b2,off2,none⟩) hb2).trans d1;have e2:=(hB1.cell (p:=⟨b,off+j,none⟩) hb).trans hc';have e3:=(hB1.cell (p:=⟨b3,off3,none⟩) hb3).trans d1')
        go_ret2
        exact iS_.of HR.out rfl (hB.trans (hB1.mono hsz))
       ·have h9b:(op'==9)=false:=by simpa using h9'
        have HNX:=hd_ (HA.out.next HU.out H0.out (by rw [HPN.out,decide_eq_false h9'];rfl))
        exact lq4
      ·have h9b:(op==9)=false:=by simpa using h9
       have HNX:=hd_ (HA.out.next HU.out H0.out (by rw [HIN.out,decide_eq_false h9,Bool.and_false]))
       exact lq4
    ·have HCK:=hd_ (zI_ u Ak ck wr hN hS (HM.out.past hB) h0)
     have HR:=hd_ (HA.out.bad HU.out h0)
     have HEV:=hd_ (bQ_ h0)
     clear h0 hN hS
     go_wp2_with (go_at_call 41;refine HCK.out.mono ?_;rintro e w1 ⟨rfl,hB1⟩)
     go_ret2
     exact iS_.of HR.out HEV.out (hB.trans (hB1.mono hsz))
   ·have HR:Hid (c1_ p=(0,0)):=hd_ (by rw [HA.out.1,sH_ (by omega)])
    go_wp2
    go_ret2
    exact iS_.of HR.out rfl hB
end Go.Proofs.YtddfdmopaeghnacGreatDoor
