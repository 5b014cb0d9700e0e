/- Plain facts on statements as lists of nodes: check, where the kids begin, each node but the first is the kid of one. With what it rests on. Conditions: as each theorem states them. -/
import Derived.Test.YtddfdmopaeghnadGreatDoorRqDp
import Derived.Lib.Split
import Derived.Test.YtddfdmopaeghnadGreatDoorRqDw
import Derived.Test.YtddfdmopaeghnadGreatDoorRqSh
import Derived.Lib.SplitLaws
import Derived.BigQuiet
import Derived.Deep.QuietTactic
import Derived.Laws.ResultCell
set_option maxRecDepth 100000
set_option maxHeartbeats 16000000
namespace Go.Proofs.YtddfdmopaeghnadGreatDoor
def mostF (op:Int):Int:=if op=1 then 999999 else if op=3∨op=4 then 6 else -1
def namedF (op:Int):Bool:=decide (op=2)||decide (op=3)||decide (op=7)||decide (op=9)
def lowC (c:UInt8):Bool:=decide (97<=c.toNat)&&decide (c.toNat<=122)
def nameF (s:ByteArray):Bool:=!(s.toList.isEmpty)&&decide (s.size<=8)&&!(s.toList==[108,101,116])&&s.data.toList.all lowC
def visC (c:UInt8):Bool:=decide (33<=c.toNat)&&decide (c.toNat<=126)
def wordF (s:ByteArray):Bool:=!(s.toList.isEmpty)&&decide (s.size<=20)&&s.data.toList.all visC
def wordsF (l:List ByteArray):Int:=if 60<l.length then 3 else if l.all wordF=true then 0 else 5
def spB:ByteArray:=⟨#[32]⟩
def noteL (t:ByteArray):List ByteArray:=if t.toList=[] then [] else Lib.splitB spB 0 (Lib.countB t spB) t
def manyF (op n:Int):Int:=if op=3∨op=4 then n else if op=5∨op=6 then 2 else if op=7∨op=8 then 1 else 0
def treeOne (op:Int) (t:ByteArray) (n:Int):Int :=
 if op<1∨9<op∨(0<=mostF op/\(n<0∨mostF op<n)) then 1
 else if (mostF op<0/\n≠0)∨(namedF op=false/\t.toList≠[]) then 2
 else if op=9 then wordsF (noteL t)
 else if namedF op=true/\nameF t=false then 5
 else 0
def tchk:List Nd->Bool->Int->Bool->Int
 | [],_,need,whole=>if whole=true/\need=0 then 0 else 2
 | d::r,fst,need,whole=>if treeOne d.op d.text d.n≠0 then treeOne d.op d.text d.n else tchk r false (need+manyF d.op d.n-1) (whole&&decide (0<need)&&(decide (7<=d.op)==fst))
def treeF (l:List Nd):Int:=if 40<l.length then 3 else tchk l true 1 true
theorem tchk_step {l:List Nd} {k:Nat} {nd:Int} {wh:Bool} {op n:Int} {t:ByteArray} (hlt:k<l.length) (hd:l[k]=Nd.mk op t n) :
  tchk (l.drop k) (decide (k=0)) nd wh=if treeOne op t n≠0 then treeOne op t n else tchk (l.drop (k+1)) (decide (k+1=0)) (nd+manyF op n-1) (wh&&decide (0<nd)&&(decide (7<=op)==decide (k=0))):=by
 rw [List.drop_eq_getElem_cons hlt,hd];rfl
theorem tchk_end {l:List Nd} {k:Nat} {b:Bool} {nd:Int} {wh:Bool} (hge:l.length<=k):tchk (l.drop k) b nd wh=if wh=true/\nd=0 then 0 else 2:=by
 rw [List.drop_eq_nil_of_le hge];rfl
theorem tchk_false (l:List Nd) (b:Bool) (nd:Int):tchk l b nd false≠0:=by
 induction l generalizing nd b with
 | nil=>simp [tchk]
 | cons d r ih=>simp only [tchk,Bool.false_and];split <;> simp_all
theorem manyF_bd {op n:Int} {t:ByteArray} (h:treeOne op t n=0):0<=manyF op n/\manyF op n<=6:=by
 unfold treeOne at h
 have h1:¬ (op<1∨9<op∨(0<=mostF op/\(n<0∨mostF op<n))):=fun hh=>by rw [if_pos hh] at h;cases h
 unfold manyF
 by_cases h2:op=3∨op=4
 ·rw [if_pos h2]
  have:mostF op=6:=by unfold mostF;rw [if_neg (by omega),if_pos h2]
  rw [this] at h1;omega
 ·rw [if_neg h2];split <;> (try split) <;> omega
def posL:Nat->List Nat->List Nat
 | _,[]=>[]
 | i,m::r=>i::(posL (i+1) r).drop m
def manyL (l:List Nd):List Nat:=l.map fun d=>(manyF d.op d.n).toNat
def posAt (l:List Nd) (i:Nat):List Nat:=posL i ((manyL l).drop i)
def kidsAt (l:List Nd) (i:Nat):List Nat:=(posAt l (i+1)).take ((manyL l).getD i 0)
def headN (l:List Nd) (q:List Nat):Nat:=q.headD l.length
def tEnd (l:List Nd) (i:Nat):Nat:=headN l (posAt l i).tail
theorem manyL_len (l:List Nd):(manyL l).length=l.length:=by simp [manyL]
theorem posAt_lt {l:List Nd} {i:Nat} (hi:i<l.length):posAt l i=i::(posAt l (i+1)).drop ((manyL l).getD i 0):=by
 unfold posAt
 have h:i<(manyL l).length:=by rw [manyL_len];exact hi
 rw [List.drop_eq_getElem_cons h,posL]
 simp [h]
theorem posAt_ge {l:List Nd} {i:Nat} (hi:l.length<=i):posAt l i=[]:=by
 unfold posAt
 rw [List.drop_eq_nil_of_le (by rw [manyL_len];exact hi)];rfl
theorem posAt_split {l:List Nd} {i:Nat} (hi:i<l.length):posAt l (i+1)=kidsAt l i++(posAt l i).tail:=by
 rw [posAt_lt hi,List.tail_cons,kidsAt,List.take_append_drop]
structure Tr (l:List Nd):Prop where
 chk:treeF l=0
 len:l.length<=40
 one:∀ d ∈ l,treeOne d.op d.text d.n=0
 room:∀ i,i<l.length->(manyL l).getD i 0<=(posAt l (i+1)).length
 root:posAt l 0=[0]
theorem tchk_docs:∀ (l:List Nd) (b:Bool) (nd:Int),tchk l b nd true=0->(∀ d ∈ l,treeOne d.op d.text d.n=0)/\∀ i,((posL i (manyL l)).length:Int)=nd/\∀ j,j<l.length->(manyL l).getD j 0<=(posL (i+j+1) ((manyL l).drop (j+1))).length:=by
 intro l
 induction l with
 | nil =>
  intro b nd h
  simp only [tchk,true_and] at h
  have:nd=0:=by
   by_cases h0:nd=0
   ·exact h0
   ·simp [h0] at h
  subst this
  exact ⟨by simp,fun i=>⟨rfl,fun j hj=>absurd hj (by simp)⟩⟩
 | cons d r ih =>
  intro b nd h
  rw [tchk] at h
  by_cases h1:treeOne d.op d.text d.n=0
  ·rw [if_neg (by simp [h1])] at h
   have hw:(true&&decide (0<nd)&&(decide (7<=d.op)==b))=true:=by
    cases hh:(true&&decide (0<nd)&&(decide (7<=d.op)==b)) with
    | true=>rfl
    | false=>rw [hh] at h;exact absurd h (tchk_false _ _ _)
   rw [hw] at h
   obtain ⟨g1,g2⟩:=ih _ _ h
   have hp:0<nd:=by
    have:decide (0<nd)=true:=by
     cases hd:decide (0<nd) with
     | true=>rfl
     | false=>rw [hd] at hw;simp at hw
    exact of_decide_eq_true this
   have hb:=manyF_bd h1
   refine ⟨fun x hx=>?_,fun i=>?_⟩
   ·rcases List.mem_cons.1 hx with rfl|hx
    ·exact h1
    ·exact g1 x hx
   ·obtain ⟨g3,g4⟩:=g2 (i+1)
    have hm:manyL (d::r)=(manyF d.op d.n).toNat::manyL r:=rfl
    refine ⟨?_,fun j hj=>?_⟩
    ·rw [hm,posL,List.length_cons,List.length_drop];omega
    ·cases j with
     | zero=>rw [hm];simp only [List.getD_cons_zero,List.drop_succ_cons,List.drop_zero,Nat.add_zero];omega
     | succ j =>
      have:=g4 j (by simpa using hj)
      rw [hm];simp only [List.getD_cons_succ,List.drop_succ_cons]
      rw [show i+(j+1)+1=i+1+j+1 by omega];exact this
  ·rw [if_pos h1] at h;exact absurd h h1
theorem Tr.of_check {l:List Nd} (h:treeF l=0):Tr l:=by
 have h0:=h
 unfold treeF at h
 split at h
 ·cases h
 ·rename_i hl
  obtain ⟨h1,h2⟩:=tchk_docs l true 1 h
  obtain ⟨h3,h4⟩:=h2 0
  refine ⟨h0,by omega,h1,fun i hi=>?_, ?_⟩
  ·have:=h4 i hi
   unfold posAt
   rwa [Nat.zero_add] at this
  ·have hl2:(posAt l 0).length=1:=by unfold posAt;rw [List.drop_zero];omega
   have hpos:0<l.length:=by
    rcases Nat.eq_zero_or_pos l.length with h|h
    ·rw [posAt_ge (by omega)] at hl2;simp at hl2
    ·exact h
   have:=posAt_lt hpos
   rw [this] at hl2
   simp only [List.length_cons] at hl2
   have h6:(posAt l (0+1)).drop ((manyL l).getD 0 0)=[]:=List.eq_nil_of_length_eq_zero (by omega)
   rw [this,h6]
theorem posL_ge:∀ (l:List Nat) (i:Nat),(posL i l).Pairwise (·<·)/\∀ x ∈ posL i l,i<=x/\x<i+l.length:=by
 intro l
 induction l with
 | nil=>intro i;exact ⟨.nil,by simp [posL]⟩
 | cons m r ih =>
  intro i
  obtain ⟨h1,h2⟩:=ih (i+1)
  refine ⟨?_, ?_⟩
  ·rw [posL,List.pairwise_cons]
   refine ⟨fun x hx=>?_,h1.sublist (List.drop_sublist _ _)⟩
   have:=h2 x (List.mem_of_mem_drop hx);omega
  ·intro x hx
   rw [posL] at hx
   simp only [List.length_cons]
   rcases List.mem_cons.1 hx with rfl|hx
   ·omega
   ·have:=h2 x (List.mem_of_mem_drop hx);omega
theorem posAt_bd (l:List Nd) (i:Nat):∀ x ∈ posAt l i,i<=x/\x<l.length:=by
 intro x hx
 rcases Nat.lt_or_ge i l.length with h|h
 ·have:=(posL_ge ((manyL l).drop i) i).2 x hx
  rw [List.length_drop,manyL_len] at this;omega
 ·rw [posAt_ge h] at hx;simp at hx
theorem posAt_suffix {l:List Nd}:∀ (k i:Nat) (xs ys:List Nat) (a:Nat),l.length-i<=k->posAt l i=xs++a::ys->posAt l a=a::ys:=by
 intro k
 induction k with
 | zero =>
  intro i xs ys a hk h
  rw [posAt_ge (by omega)] at h
  cases xs <;> simp at h
 | succ k ih =>
  intro i xs ys a hk h
  rcases Nat.lt_or_ge i l.length with hi|hi
  ·have h':=h
   rw [posAt_lt hi] at h'
   cases xs with
   | nil =>
    simp only [List.nil_append,List.cons.injEq] at h'
    rw [← h'.1] at h ⊢
    exact h
   | cons x xs =>
    simp only [List.cons_append,List.cons.injEq] at h'
    refine ih (i+1) ((posAt l (i+1)).take ((manyL l).getD i 0)++xs) ys a (by omega) ?_
    rw [List.append_assoc,← h'.2,List.take_append_drop]
  ·rw [posAt_ge hi] at h
   cases xs <;> simp at h
theorem Tr.kids_len {l:List Nd} (h:Tr l) {i:Nat} (hi:i<l.length):(kidsAt l i).length=(manyL l).getD i 0:=by
 unfold kidsAt
 rw [List.length_take];have:=h.room i hi;omega
theorem manyL_at {l:List Nd} {i:Nat} {op n:Int} {t:ByteArray} (hi:i<l.length) (hd:l[i]=Nd.mk op t n):(manyL l).getD i 0=(manyF op n).toNat:=by
 have h:i<(manyL l).length:=by rw [manyL_len];exact hi
 rw [List.getD_eq_getElem?_getD,List.getElem?_eq_getElem h]
 simp [manyL,hd]
theorem Tr.step {l:List Nd} (h:Tr l) {k m:Nat} {a r:List Nat} (hp:posAt l k=a++r) (ha:a.length=m) (hm:0<m) :
  k<l.length/\∃ a',posAt l (k+1)=a'++r/\a'.length+1=m+(manyL l).getD k 0:=by
 have hk:k<l.length:=by
  rcases Nat.lt_or_ge k l.length with h1|h1
  ·exact h1
  ·rw [posAt_ge h1] at hp
   have:a=[]:=by cases a <;> simp_all
   rw [this] at ha;simp at ha;omega
 refine ⟨hk,kidsAt l k++a.tail, ?_, ?_⟩
 ·rw [posAt_split hk,hp,List.append_assoc]
  congr 1
  cases a with
  | nil=>simp at ha;omega
  | cons x a=>rfl
 ·rw [List.length_append,h.kids_len hk,List.length_tail];omega
theorem headN_of {l:List Nd} {k:Nat} (hk:k<=l.length):headN l (posAt l k)=k:=by
 unfold headN
 rcases Nat.lt_or_ge k l.length with h|h
 ·rw [posAt_lt h];rfl
 ·rw [posAt_ge h];show l.length=k;omega
theorem kid_next {l:List Nd} {i k:Nat} (hk:k<(posAt l (i+1)).length) :
  headN l ((posAt l (i+1)).drop k)=(posAt l (i+1))[k]/\(posAt l (i+1))[k]<l.length/\tEnd l (posAt l (i+1))[k]=headN l ((posAt l (i+1)).drop (k+1)):=by
 have h1:=List.drop_eq_getElem_cons hk
 have h2:posAt l (i+1)=(posAt l (i+1)).take k++(posAt l (i+1))[k]::(posAt l (i+1)).drop (k+1):=by rw [← h1,List.take_append_drop]
 have h3:=posAt_suffix (l.length) (i+1) _ _ _ (by omega) h2
 refine ⟨by rw [h1];rfl,(posAt_bd l (i+1) _ (List.getElem_mem hk)).2, ?_⟩
 rw [tEnd,h3];rfl
end Go.Proofs.YtddfdmopaeghnadGreatDoor
namespace Go.Proofs.YtddfdmopaeghnadGreatDoor
open Go.RowKit
def Txs (w:World) (B:Nat) (A:Option Addr) (l:List ByteArray):Prop:=Sl w B 1 A l.length (l.map .string)/\l.length<=maxLen/\∀ t ∈ l,t.size<=maxLen
theorem Txs.one {w wr:World} {B:Nat} {A:Option Addr} {l:List ByteArray} (h:Txs w B A l) (hB:Below B w wr) {k:Nat} (hk:k<l.length) :
  ∃ b off t,A=some ⟨b,off,none⟩/\b<B/\l[k]=t/\t.size<=maxLen/\wr.cell? ⟨b,off+k,none⟩=some (.string t):=by
 obtain ⟨b,off,u,h1,h2,h3,h4⟩:=h.1.one hk
 refine ⟨b,off,l[k],h1,h2,rfl,h.2.2 _ (List.getElem_mem hk), ?_⟩
 rw [hB.cell (p:=⟨b,off+k,none⟩) h2,h4]
 simp [hk] at h3
 rw [h3]
theorem Txs.past {w w':World} {A:Option Addr} {l:List ByteArray} (h:Txs w w.heap.size A l) (hb:Below w.heap.size w w'):Txs w' w'.heap.size A l:=⟨h.1.past hb,h.2⟩
theorem all_yes {p:UInt8->Bool} {s:ByteArray} {k:Nat} (ha:(s.data.toList.take k).all p=true) (hk:s.size<=k):s.data.toList.all p=true:=by
 rw [List.take_of_length_le (by simp;omega)] at ha;exact ha
theorem all_more {p:UInt8->Bool} {s:ByteArray} {k:Nat} (ha:(s.data.toList.take k).all p=true) (hk:k<s.size) (hp:p s[k]=true):(s.data.toList.take (k+1)).all p=true:=by
 have hk':k<s.data.toList.length:=by simpa using hk
 rw [List.take_succ_eq_append_getElem hk',List.all_append,ha]
 show (true&&(p s[k]&&true))=true
 rw [hp];rfl
theorem all_no {p:UInt8->Bool} {s:ByteArray} {k:Nat} (hk:k<s.size) (hp:p s[k]=false):s.data.toList.all p=false:=by
 have hk':k<s.data.toList.length:=by simpa using hk
 rw [List.all_eq_false]
 exact ⟨s[k],List.mem_of_getElem (i:=k) (h:=hk') rfl,by simp [hp]⟩
theorem rq6 {P:Prop} (h:P:=by
 have HG:=hd_ hg;clear hg
 have HB:=hd_ hb;clear hb
 go_wp2
 all_goals first
  | (go_round
     case rel=>exact ⟨k+1,by omega,by go_num,HG.out (by omega)⟩
     case measure=>simp [intOf];omega)
  | (go_ret
     exact ⟨by rw [HW.out,HB.out (by omega)];rfl,rfl⟩)):P:=h
theorem word_any (s:ByteArray) (w:World) (hs:s.size<=maxLen) :
  Calls Tryz.prog 187 #[.string s] w fun e w'=>e=.returned (.bool (wordF s))/\w=w':=by
 unfold maxLen at hs
 by_cases he:s.toList=[]
 ·have hw:wordF s=false:=by simp [wordF,he]
  rw [hw]
  have he2:s.toList.isEmpty=true:=by simp [he]
  go_enter Tryz.func187,Tryz.ntmps187
  go_wp2
  go_ret
  exact ⟨rfl,rfl⟩
 ·have he2:s.toList.isEmpty=false:=by simpa using he
  by_cases h20:20<s.size
  ·have hw:wordF s=false:=by
    have hd:decide (s.size<=20)=false:=by simp;omega
    rw [wordF,hd];simp
   rw [hw]
   go_enter Tryz.func187,Tryz.ntmps187
   go_wp2
   go_ret
   exact ⟨rfl,rfl⟩
  ·have hw:wordF s=s.data.toList.all visC:=by
    have hd:decide (s.size<=20)=true:=by simp;omega
    rw [wordF,hd,he2];simp
   have HW:=hd_ hw;clear hw
   go_enter Tryz.func187,Tryz.ntmps187
   go_wp2
   go_loop [3,13] (fun _ i=>∃ k:Nat,k<=s.size/\i=.int .i64 k/\(s.data.toList.take k).all visC=true) (fun _ i=>s.size-(intOf i).toNat)
   case atStart=>exact ⟨0,Nat.zero_le _,rfl,rfl⟩
   case round =>
    obtain ⟨k,hk,rfl,ha⟩:=hrel
    have HA:=hd_ ha;clear ha
    by_cases hlt:k<s.size
    ·have hg:(33<=s[k].toNat/\s[k].toNat<=126)->(s.data.toList.take (k+1)).all visC=true:=fun h=>all_more HA.out hlt (by unfold visC;simp;omega)
     have hb:(s[k].toNat<33∨126<s[k].toNat)->s.data.toList.all visC=false:=fun h=>all_no hlt (by unfold visC;rcases h with h|h <;> simp <;> omega)
     exact rq6
    ·go_wp2
     go_ret
     exact ⟨by rw [HW.out,all_yes HA.out (by omega)];rfl,rfl⟩
theorem words_no {l:List ByteArray} {k:Nat} (h:¬ 60<l.length) (hk:k<l.length) (hb:wordF l[k]=false):wordsF l=5:=by
 rw [wordsF,if_neg h,if_neg]
 intro ha
 have:=List.all_eq_true.1 ha _ (List.getElem_mem hk)
 rw [hb] at this;cases this
theorem words_yes {l:List ByteArray} {k:Nat} (h:¬ 60<l.length) (hk:l.length<=k) (ha:(l.take k).all wordF=true):wordsF l=0:=by
 rw [List.take_of_length_le hk] at ha
 rw [wordsF,if_neg h,if_pos ha]
theorem words_more {l:List ByteArray} {k:Nat} (hk:k<l.length) (ha:(l.take k).all wordF=true) (hb:wordF l[k]=true):(l.take (k+1)).all wordF=true:=by
 rw [List.take_succ_eq_append_getElem hk,List.all_append,ha]
 show (true&&(wordF l[k]&&true))=true
 rw [hb];rfl
theorem words_any (l:List ByteArray) (A:Option Addr) (n c:Nat) (hn:l.length=n) (w:World) (hl:Txs w w.heap.size A l) :
  Calls Tryz.prog 141 #[.slice A n c] w fun e w'=>e=.returned (errV (wordsF l))/\w=w':=by
 subst hn
 have hm:=hl.2.1
 unfold maxLen at hm
 have HN:=hd_ hl;clear hl
 by_cases h60:60<l.length
 ·have hw:wordsF l=3:=by rw [wordsF,if_pos h60]
  rw [hw]
  go_enter Tryz.func141,Tryz.ntmps141
  go_wp2
  go_ret
  exact ⟨rfl,rfl⟩
 ·go_enter Tryz.func141,Tryz.ntmps141
  go_wp2
  go_loop [4,11] (fun _ i=>∃ k:Nat,k<=l.length/\i=.int .i64 k/\(l.take k).all wordF=true) (fun _ i=>l.length-(intOf i).toNat)
  case atStart=>exact ⟨0,Nat.zero_le _,rfl,rfl⟩
  case round =>
   obtain ⟨k,hk,rfl,ha⟩:=hrel
   have HA:=hd_ ha;clear ha
   by_cases hlt:k<l.length
   ·obtain ⟨b,off,t,rfl,hb,ht,hts,hc⟩:=HN.out.one (Below.refl _ _) hlt
    cases hw:wordF t with
    | true =>
     have HG:=hd_ (words_more hlt HA.out (by rw [ht];exact hw));clear ht
     have HW:=hd_ hw;clear hw
     go_wp2_with (go_at_call 187;refine (word_any _ _ hts).mono ?_;rw [HW.out];rintro e w' ⟨rfl,rfl⟩)
     go_round
     case rel=>exact ⟨k+1,by omega,by go_num,HG.out⟩
     case measure=>simp [intOf];omega
    | false =>
     have HG:=hd_ (words_no h60 hlt (by rw [ht];exact hw));clear ht
     have HW:=hd_ hw;clear hw
     go_wp2_with (go_at_call 187;refine (word_any _ _ hts).mono ?_;rw [HW.out];rintro e w' ⟨rfl,rfl⟩)
     go_ret
     exact ⟨by rw [HG.out];rfl,rfl⟩
   ·go_wp2
    go_ret
    exact ⟨by rw [words_yes h60 (by omega) HA.out];rfl,rfl⟩
theorem most_any (op:Int) (w:World):Calls Tryz.prog 139 #[.int .i64 op] w fun e w'=>e=.returned (.int .i64 (mostF op))/\w=w':=by
 go_enter Tryz.func139,Tryz.ntmps139
 go_wp2
 all_goals go_ret
 all_goals simp_all [mostF]
theorem named_any (op:Int) (w:World):Calls Tryz.prog 140 #[.int .i64 op] w fun e w'=>e=.returned (.bool (namedF op))/\w=w':=by
 have hop:op=2∨op=3∨op=7∨op=9∨(op≠2/\op≠3/\op≠7/\op≠9):=by omega
 rcases hop with rfl|rfl|rfl|rfl|⟨h1,h2,h3,h4⟩
 case inr.inr.inr.inr =>
  have e1:(op==2)=false:=by simpa using h1
  have e2:(op==3)=false:=by simpa using h2
  have e3:(op==7)=false:=by simpa using h3
  have e4:(op==9)=false:=by simpa using h4
  have hn:namedF op=false:=by simp [namedF,h1,h2,h3,h4]
  rw [hn]
  clear h1 h2 h3 h4 hn
  go_enter Tryz.func140,Tryz.ntmps140
  go_wp2
  go_ret
  exact ⟨rfl,rfl⟩
 all_goals
  go_enter Tryz.func140,Tryz.ntmps140
  go_wp2
  go_ret
  exact ⟨rfl,rfl⟩
theorem name_any (s:ByteArray) (w:World) (hs:s.size<=maxLen) :
  Calls Tryz.prog 143 #[.string s] w fun e w'=>e=.returned (.bool (nameF s))/\w=w':=by
 unfold maxLen at hs
 by_cases he:s.toList=[]
 ·have hw:nameF s=false:=by simp [nameF,he]
  rw [hw]
  have he2:s.toList.isEmpty=true:=by simp [he]
  go_enter Tryz.func143,Tryz.ntmps143
  go_wp2
  go_ret
  exact ⟨rfl,rfl⟩
 ·have he2:s.toList.isEmpty=false:=by simpa using he
  by_cases h20:8<s.size
  ·have hw:nameF s=false:=by
    have hd:decide (s.size<=8)=false:=by simp;omega
    rw [nameF,hd];simp
   rw [hw]
   go_enter Tryz.func143,Tryz.ntmps143
   go_wp2
   go_ret
   exact ⟨rfl,rfl⟩
  ·cases hl:(s.toList==[108,101,116]) with
   | true =>
    have hw:nameF s=false:=by simp [nameF,hl]
    rw [hw]
    go_enter Tryz.func143,Tryz.ntmps143
    go_wp2
    go_ret
    exact ⟨rfl,rfl⟩
   | false =>
    have hw:nameF s=s.data.toList.all lowC:=by
     have hd:decide (s.size<=8)=true:=by simp;omega
     rw [nameF,hd,he2,hl];simp
    have HW:=hd_ hw;clear hw
    go_enter Tryz.func143,Tryz.ntmps143
    go_wp2
    go_loop [3,17] (fun _ i=>∃ k:Nat,k<=s.size/\i=.int .i64 k/\(s.data.toList.take k).all lowC=true) (fun _ i=>s.size-(intOf i).toNat)
    case atStart=>exact ⟨0,Nat.zero_le _,rfl,rfl⟩
    case round =>
     obtain ⟨k,hk,rfl,ha⟩:=hrel
     have HA:=hd_ ha;clear ha
     by_cases hlt:k<s.size
     ·have hg:(97<=s[k].toNat/\s[k].toNat<=122)->(s.data.toList.take (k+1)).all lowC=true:=fun h=>all_more HA.out hlt (by unfold lowC;simp;omega)
      have hb:(s[k].toNat<97∨122<s[k].toNat)->s.data.toList.all lowC=false:=fun h=>all_no hlt (by unfold lowC;rcases h with h|h <;> simp <;> omega)
      exact rq6
     ·go_wp2
      go_ret
      exact ⟨by rw [HW.out,all_yes HA.out (by omega)];rfl,rfl⟩
theorem many_any (op n:Int) (t:ByteArray) (w:World):Calls Tryz.prog 84 #[.agg #[.int .i64 op,.string t,.int .i64 n]] w (Ret w (.int .i64 (manyF op n))):=by
 go_enter Tryz.func84,Tryz.ntmps84
 go_wp2
 all_goals go_ret
 all_goals refine ⟨?_,bel_⟩
 all_goals simp_all [manyF]
 all_goals omega
def MaxL (w:World):Prop:=1+1<=w.heap.size/\∃ m,w.cell? ⟨1,0,none⟩=some (.int .i64 m)
theorem MaxL.past {w w':World} (h:MaxL w) (hb:Below w.heap.size w w'):MaxL w':=by
 obtain ⟨h1,m,hm⟩:=h
 exact ⟨Nat.le_trans h1 hb.size,m,(hb.cell (p:=⟨1,0,none⟩) (Nat.lt_of_lt_of_le (Nat.lt_succ_self _) h1)).trans hm⟩
theorem splitB_size (sep:ByteArray) (save:Nat):∀ (k:Nat) (s:ByteArray),∀ x ∈ Lib.splitB sep save k s,x.size<=s.size:=by
 intro k
 induction k with
 | zero=>intro s x hx;rw [Lib.splitB_zero] at hx;simp at hx;subst hx;exact Nat.le_refl _
 | succ k ih =>
  intro s x hx
  unfold Lib.splitB at hx
  split at hx
  ·simp at hx;subst hx;exact Nat.le_refl _
  ·rcases List.mem_cons.1 hx with rfl|hx
   ·rw [ByteArray.size_extract];omega
   ·have:=ih _ x hx;rw [ByteArray.size_extract] at this;omega
theorem sl_texts (w:World) (xs:List ByteArray) (hm:xs.length<=maxLen) (hs:∀ t ∈ xs,t.size<=maxLen):Txs (w.alloc (.cells (xs.map Value.string).toArray 9)) (w.alloc (.cells (xs.map Value.string).toArray 9)).heap.size (some ⟨w.heap.size,0,none⟩) xs:=by
 have h:=Sl.lit (sz:=1) w (xs.map Value.string).toArray 9 xs.length (by simp)
 exact ⟨h,hm,hs⟩
def NoteTo (t:ByteArray) (w:World) (e:Ending) (w':World):Prop:=∃ A c,e=.returned (.slice A (noteL t).length c)/\Txs w' w'.heap.size A (noteL t)/\Below w.heap.size w w'
theorem twords_any (t:ByteArray) (w:World) (hs:t.size<4294967281) (hm:MaxL w) :
  Calls Tryz.prog 142 #[.string t] w (NoteTo t w):=by
 obtain ⟨_,m,hm⟩:=hm
 by_cases he:t.toList=[]
 ·have he2:t.toList.isEmpty=true:=by simp [he]
  have hn:noteL t=[]:=by rw [noteL,if_pos he]
  clear hm
  go_enter Tryz.func142,Tryz.ntmps142
  go_wp2
  go_ret
  exact ⟨none,0,by rw [hn];rfl,by rw [hn];exact ⟨Sl.nil_,by simp [maxLen],by simp⟩,Below.refl _ _⟩
 ·have he2:t.toList.isEmpty=false:=by simpa using he
  have hn:noteL t=Lib.splitB spB 0 (Lib.countB t spB) t:=by rw [noteL,if_neg he]
  have hl:(noteL t).length=Lib.countB t spB+1:=by rw [hn];exact Lib.splitB_all spB (by decide) 0 _ t rfl
  have hle:Lib.countB t spB<=t.size:=Lib.countB_le spB (by decide) t.size t (Nat.le_refl _)
  have hz:∀ x ∈ noteL t,x.size<=t.size:=by rw [hn];exact splitB_size spB 0 _ t
  have HL:=hd_ hl;have HN:=hd_ hn;have HM:=hd_ hm;have HZ:=hd_ hz
  clear hl hn hm hz
  go_enter Tryz.func142,Tryz.ntmps142
  go_wp2_with (go_at_call 122;refine (Tryz.strings_Split t spB m _ hs HM.out (by decide)).mono ?_;rintro e w1 ⟨rfl,rfl⟩)
  go_ret
  refine ⟨some ⟨w.heap.size,0,none⟩,Lib.countB t spB+1,by rw [HL.out];rfl, ?_,bel_⟩
  rw [← HN.out]
  exact sl_texts w (noteL t) (by rw [HL.out];simp only [maxLen];omega) fun x hx=>by have:=HZ.out x hx;simp only [maxLen];omega
theorem most_is {op m:Int} (h:mostF op=m) (w:World):Calls Tryz.prog 139 #[.int .i64 op] w fun e w'=>e=.returned (.int .i64 m)/\w=w':=by subst h;exact most_any op w
theorem named_is {op:Int} {b:Bool} (h:namedF op=b) (w:World):Calls Tryz.prog 140 #[.int .i64 op] w fun e w'=>e=.returned (.bool b)/\w=w':=by subst h;exact named_any op w
theorem name_is {t:ByteArray} {b:Bool} (h:nameF t=b) (hs:t.size<=maxLen) (w:World):Calls Tryz.prog 143 #[.string t] w fun e w'=>e=.returned (.bool b)/\w=w':=by subst h;exact name_any t w hs
theorem mostF_bd (op:Int):-1<=mostF op/\mostF op<=999999:=by
 unfold mostF;split <;> (try split) <;> omega
theorem tone_1 {op n:Int} {t:ByteArray} (h:op<1∨9<op∨(0<=mostF op/\(n<0∨mostF op<n))):treeOne op t n=1:=by rw [treeOne,if_pos h]
theorem tone_2 {op n:Int} {t:ByteArray} (h:¬ (op<1∨9<op∨(0<=mostF op/\(n<0∨mostF op<n)))) (h2:(mostF op<0/\n≠0)∨(namedF op=false/\t.toList≠[])):treeOne op t n=2:=by rw [treeOne,if_neg h,if_pos h2]
theorem tone_3 {op n:Int} {t:ByteArray} (h:¬ (op<1∨9<op∨(0<=mostF op/\(n<0∨mostF op<n)))) (h2:¬ ((mostF op<0/\n≠0)∨(namedF op=false/\t.toList≠[]))) :
  treeOne op t n=if op=9 then wordsF (noteL t) else if namedF op=true/\nameF t=false then 5 else 0:=by rw [treeOne,if_neg h,if_neg h2]
theorem rq3 {P:Prop} (h:P:=by
 go_enter Tryz.func83,Tryz.ntmps83
 go_wp2_with (go_at_call 139;refine (HMo.out _).mono ?_;rintro e w' ⟨rfl,rfl⟩)
 go_ret
 exact ⟨rfl,bel_⟩):P:=h
theorem rq5 {P:Prop} (h:P:=by
 clear h9e h9' hnm hn2 hna
 rcases hcs with ⟨a1,a2,a3,a4⟩|⟨a1,rfl⟩
 all_goals
  go_enter Tryz.func83,Tryz.ntmps83
  go_wp2_with (first|(go_at_call 139;refine (HMo.out _).mono ?_;rintro e w' ⟨rfl,rfl⟩)|(go_at_call 140;refine (HNa.out _).mono ?_;rintro e w' ⟨rfl,rfl⟩)|(go_at_call 143;refine (HNm.out _).mono ?_;rintro e w' ⟨rfl,rfl⟩))
  go_ret
  exact ⟨by rw [HR.out];rfl,bel_⟩):P:=h
theorem rq7 {P:Prop} (h:P:=by
 clear hne h9' hnm
 rcases hcs with ⟨a1,a2,a3,a4⟩|⟨a1,rfl⟩
 all_goals
  go_enter Tryz.func83,Tryz.ntmps83
  go_wp2_with (first|(go_at_call 139;refine (HMo.out _).mono ?_;rintro e w' ⟨rfl,rfl⟩)|(go_at_call 140;refine (HNa.out _).mono ?_;rintro e w' ⟨rfl,rfl⟩))
  go_ret
  exact ⟨by rw [HR.out];rfl,bel_⟩):P:=h
theorem tone_any (op n:Int) (t:ByteArray) (w:World) (hs:t.size<4294967281) (hm:MaxL w) :
  Calls Tryz.prog 83 #[.agg #[.int .i64 op,.string t,.int .i64 n]] w (Ret w (errV (treeOne op t n))):=by
 have hts:t.size<=maxLen:=by simp only [maxLen];omega
 have HM:=hd_ hm;clear hm
 obtain ⟨m,hmo⟩:∃ m,mostF op=m:=⟨_,rfl⟩
 have HMo:=hd_ (most_is hmo)
 have hmb:=mostF_bd op
 by_cases h1:op<1
 ·rw [tone_1 (.inl h1)]
  clear hmb hmo
  exact rq3
 by_cases h9:9<op
 ·rw [tone_1 (.inr (.inl h9))]
  clear hmb hmo
  exact rq3
 by_cases hr:0<=m/\n<0
 ·obtain ⟨hr1,hr2⟩:=hr
  rw [tone_1 (.inr (.inr ⟨by omega,.inl hr2⟩))]
  clear hmb hmo
  exact rq3
 by_cases hr2:0<=m/\m<n
 ·obtain ⟨hr1,hr2⟩:=hr2
  have hr3:¬ n<0:=by omega
  rw [tone_1 (.inr (.inr ⟨by omega,.inr (by omega)⟩))]
  clear hmb hmo hr
  exact rq3
 have hn1:¬ (op<1∨9<op∨(0<=mostF op/\(n<0∨mostF op<n))):=by omega
 by_cases hr3:m<0/\n≠0
 ·obtain ⟨hm0,hn0⟩:=hr3
  rw [tone_2 hn1 (.inl ⟨by omega,hn0⟩)]
  have hnb:(n != 0)=true:=by simpa using hn0
  clear hmb hmo hr hr2 hn1 hn0
  exact rq3
 have hcs:(0<=m/\¬ n<0/\¬ m<n/\¬ m<0)∨(m<0/\n=0):=by omega
 have h9':op=9->m<0:=by rintro rfl;rw [← hmo];decide
 have hA:∀ b,namedF op=b->(((mostF op<0/\n≠0)∨(namedF op=false/\t.toList≠[]))↔(b=false/\t.toList≠[])):=by
  intro b hb
  rw [hb]
  constructor
  ·rintro (h|h)
   ·exact absurd ⟨by omega,h.2⟩ hr3
   ·exact h
  ·exact .inr
 have h1':1<=op:=by omega
 have h9'':op<=9:=by omega
 have HTE:=hd_ hA;clear hA
 have HN1:=hd_ hn1;clear hn1
 have HBD:=hd_ hmb;clear hmb hmo hr hr2 hr3
 cases hnm:namedF op with
 | false =>
  have HNa:=hd_ (named_is hnm)
  have hne:op≠9:=by rintro rfl;exact absurd hnm (by decide)
  have hne2:(op==9)=false:=by simpa using hne
  by_cases he:t.toList=[]
  ·have he2:t.toList.isEmpty=true:=by simp [he]
   have HR:Hid (treeOne op t n=0):=hd_ (by rw [tone_3 HN1.out (fun h=>((HTE.out _ hnm).1 h).2 he),if_neg hne,if_neg (by simp [hnm])])
   exact rq7
  ·have he2:t.toList.isEmpty=false:=by simpa using he
   have HR:Hid (treeOne op t n=2):=hd_ (tone_2 HN1.out ((HTE.out _ hnm).2 ⟨rfl,he⟩))
   exact rq7
 | true =>
  have HNa:=hd_ (named_is hnm)
  have hn2:¬ ((mostF op<0/\n≠0)∨(namedF op=false/\t.toList≠[])):=fun h=>by have:=((HTE.out _ hnm).1 h).1;cases this
  by_cases h9e:op=9
  ·subst h9e
   obtain ⟨a1,rfl⟩:m<0/\n=0:=by
    have:=h9' rfl
    rcases hcs with ⟨_,_,_,a4⟩|h
    ·exact absurd this a4
    ·exact h
   have HR:Hid (treeOne 9 t 0=wordsF (noteL t)):=hd_ (by rw [tone_3 HN1.out hn2,if_pos rfl])
   clear hcs h9' hnm hn2
   go_enter Tryz.func83,Tryz.ntmps83
   go_wp2_with (first
    | (go_at_call 139;refine (HMo.out _).mono ?_;rintro e w' ⟨rfl,rfl⟩)
    | (go_at_call 140;refine (HNa.out _).mono ?_;rintro e w' ⟨rfl,rfl⟩)
    | (go_at_call 142;refine (twords_any t _ hs (HM.out.past bel_)).mono ?_;rintro e w1 ⟨A1,c1,rfl,htx,hB1⟩;have HT:=hd_ htx;clear htx)
    | (go_at_call 141;refine (words_any _ A1 _ c1 rfl _ HT.out).mono ?_;rintro e w2 ⟨rfl,rfl⟩))
   go_ret
   exact ⟨by rw [HR.out];rfl,(((Below.refl _ _).alloc (Nat.le_refl _) _).trans (hB1.mono (by simp)))⟩
  ·have hne2:(op==9)=false:=by simpa using h9e
   cases hna:nameF t with
   | false =>
    have HNm:=hd_ (name_is hna hts)
    have HR:Hid (treeOne op t n=5):=hd_ (by rw [tone_3 HN1.out hn2,if_neg h9e,if_pos ⟨hnm,hna⟩])
    exact rq5
   | true =>
    have HNm:=hd_ (name_is hna hts)
    have HR:Hid (treeOne op t n=0):=hd_ (by rw [tone_3 HN1.out hn2,if_neg h9e,if_neg (by simp [hna])])
    exact rq5
def Short (l:List Nd):Prop:=∀ d ∈ l,d.text.size<4294967281
theorem tone_ok (op n:Int) (t:ByteArray) (w:World) (hs:t.size<4294967281) (hm:MaxL w) (h:treeOne op t n=0) :
  Calls Tryz.prog 83 #[.agg #[.int .i64 op,.string t,.int .i64 n]] w (Ret w .nilIface):=by rw [errV_zero h];exact tone_any op n t w hs hm
theorem tone_bad (op n:Int) (t:ByteArray) (w:World) (hs:t.size<4294967281) (hm:MaxL w) (h:treeOne op t n≠0) :
  Calls Tryz.prog 83 #[.agg #[.int .i64 op,.string t,.int .i64 n]] w (Ret w (.iface 24 (.int .i64 (treeOne op t n)))):=by rw [errV_pos h];exact tone_any op n t w hs hm
theorem MaxL.below {w wr:World} (h:MaxL w) (hb:Below w.heap.size w wr) (o:Obj):MaxL (wr.alloc o):=h.past (hb.alloc hb.size o)
theorem rq1 {P:Prop} (h:P:=by
 have HKD:=hd_ hkd;clear hkd hk0
 go_wp2_with (first
  | (go_at_call 83;refine (tone_ok op n t _ htz (HM.out.below hB _) HE.out).mono ?_;rintro e w1 ⟨rfl,hB1⟩;have hc0:=hB1.cell (p:=⟨wr.heap.size,0,none⟩) (by simp);have hc1:=hB1.cell (p:=⟨wr.heap.size,1,none⟩) (by simp);have hc2:=hB1.cell (p:=⟨wr.heap.size,2,none⟩) (by simp);have hsz1:=hB1.size)
  | (go_at_call 84;refine (many_any _ _ _ _).mono ?_;rintro e w2 ⟨rfl,hB2⟩))
 go_roundw
 case measure=>simp [intOf];omega
 case rel=>exact FIN.out false (by rw [HZ.out,H7.out,HKD.out];rfl) _ (((hB.alloc hsz _).trans (hB1.mono (by simp;omega))).trans (hB2.mono (by simp at hsz1;omega))) _ rfl):P:=h
theorem rq2 {P:Prop} (h:P:=by
 have HKD:=hd_ hkd;clear hkd hk0
 go_wp2_with (first
  | (go_at_call 83;refine (tone_ok op n t _ htz (HM.out.below hB _) HE.out).mono ?_;rintro e w1 ⟨rfl,hB1⟩;have hc0:=hB1.cell (p:=⟨wr.heap.size,0,none⟩) (by simp);have hc1:=hB1.cell (p:=⟨wr.heap.size,1,none⟩) (by simp);have hc2:=hB1.cell (p:=⟨wr.heap.size,2,none⟩) (by simp);have hsz1:=hB1.size)
  | (go_at_call 84;refine (many_any _ _ _ _).mono ?_;rintro e w2 ⟨rfl,hB2⟩))
 go_roundw
 case measure=>simp [intOf];omega
 case rel=>exact FIN.out true (by rw [HZ.out,H7.out,HKD.out];rfl) _ (((hB.alloc hsz _).trans (hB1.mono (by simp;omega))).trans (hB2.mono (by simp at hsz1;omega))) _ rfl):P:=h
theorem tcheck_any (l:List Nd) (A:Option Addr) (c:Nat) (w:World) (hl:Nds w w.heap.size A l) (hsh:Short l) (hm:MaxL w) :
  Calls Tryz.prog 45 #[.slice A l.length c] w (Ret w (errV (treeF l))):=by
 have hml:=hl.2.1
 unfold maxLen at hml
 by_cases h40:40<l.length
 ·have hF:treeF l=3:=by rw [treeF,if_pos h40]
  rw [hF]
  go_enter Tryz.func45,Tryz.ntmps45
  go_wp2
  go_ret
  exact ⟨rfl,Below.refl _ _⟩
 ·have hF:treeF l=tchk (l.drop 0) (decide (0=0)) 1 true:=by rw [treeF,if_neg h40];rfl
  have HF:=hd_ hF;clear hF
  have HN:=hd_ hl;clear hl
  have HS:=hd_ hsh;clear hsh
  have HM:=hd_ hm;clear hm
  go_enter Tryz.func45,Tryz.ntmps45
  go_wp2
  go_loopw [3,4,5,6,7,14] (fun need whole _ _ _ i wr=>∃ (k:Nat) (nd:Int) (wh:Bool),k<=l.length/\i=.int .i64 k/\need=.int .i64 nd/\whole=.bool wh/\-(k:Int)<=nd-1/\nd-1<=6*k/\treeF l=tchk (l.drop k) (decide (k=0)) nd wh/\Below w.heap.size w wr) (fun _ _ _ _ _ i _=>l.length-(intOf i).toNat)
  case atStart=>exact ⟨0,1,true,by omega,rfl,rfl,rfl,by omega,by omega,HF.out,Below.refl _ _⟩
  case round =>
   obtain ⟨k,nd,wh,hk,rfl,rfl,rfl,hb1,hb2,hc,hB⟩:=hrel
   have HC:=hd_ hc;clear hc
   by_cases hlt:k<l.length
   ·obtain ⟨b,off,op,t,n,rfl,hb,hd,hts,d1,d2,d3⟩:=HN.out.node hB hlt
    have hsz:=hB.size
    have htz:t.size<4294967281:=by have:=HS.out _ (List.getElem_mem hlt);rw [hd] at this;exact this
    have HT:=hd_ (tchk_step (nd:=nd) (wh:=wh) hlt hd)
    clear hd
    by_cases he:treeOne op t n=0
    ·have hmb:=manyF_bd he
     have HE:=hd_ he;clear he
     have key:∀ wh',(wh&&decide (0<nd)&&(decide (7<=op)==decide (k=0)))=wh'->treeF l=tchk (l.drop (k+1)) (decide (k+1=0)) (nd+manyF op n-1) wh':=by
      rintro _ rfl
      rw [HC.out,HT.out,if_neg (by simp [HE.out])]
     have KEY:=hd_ key;clear key
     have fin:∀ wh':Bool,(wh&&decide (0<nd)&&(decide (7<=op)==decide (k=0)))=wh'->∀ wr':World,Below w.heap.size w wr'->∀ wv:Value,wv=.bool wh'->∃ (k':Nat) (nd':Int) (wh'':Bool),k'<=l.length/\Value.int .i64 ((k:Int)+1)=.int .i64 k'/\Value.int .i64 (nd+(manyF op n-1))=.int .i64 nd'/\wv=.bool wh''/\-(k':Int)<=nd'-1/\nd'-1<=6*k'/\treeF l=tchk (l.drop k') (decide (k'=0)) nd' wh''/\Below w.heap.size w wr':=by
      intro wh' h wr' hB' wv hwv
      exact ⟨k+1,nd+manyF op n-1,wh',by omega,by go_num,by rw [show nd+(manyF op n-1)=nd+manyF op n-1 by omega],hwv,by omega,by omega,KEY.out _ h,hB'⟩
     have FIN:=hd_ fin;clear fin
     have hpar:(wh=false)∨(wh=true/\nd<=0)∨(wh=true/\0<nd):=by cases wh <;> simp;omega
     rcases hpar with rfl|⟨rfl,hnd⟩|⟨rfl,hnd⟩
     ·go_wp2_with (first
       | (go_at_call 83;refine (tone_ok op n t _ htz (HM.out.below hB _) HE.out).mono ?_;rintro e w1 ⟨rfl,hB1⟩;have hc0:=hB1.cell (p:=⟨wr.heap.size,0,none⟩) (by simp);have hc1:=hB1.cell (p:=⟨wr.heap.size,1,none⟩) (by simp);have hc2:=hB1.cell (p:=⟨wr.heap.size,2,none⟩) (by simp);have hsz1:=hB1.size)
       | (go_at_call 84;refine (many_any _ _ _ _).mono ?_;rintro e w2 ⟨rfl,hB2⟩))
      go_roundw
      case measure=>simp [intOf];omega
      case rel=>exact FIN.out false (by simp) _ (((hB.alloc hsz _).trans (hB1.mono (by simp;omega))).trans (hB2.mono (by simp at hsz1;omega))) _ rfl
     ·have hz:decide (0<nd)=false:=by simp;omega
      go_wp2_with (first
       | (go_at_call 83;refine (tone_ok op n t _ htz (HM.out.below hB _) HE.out).mono ?_;rintro e w1 ⟨rfl,hB1⟩;have hc0:=hB1.cell (p:=⟨wr.heap.size,0,none⟩) (by simp);have hc1:=hB1.cell (p:=⟨wr.heap.size,1,none⟩) (by simp);have hc2:=hB1.cell (p:=⟨wr.heap.size,2,none⟩) (by simp);have hsz1:=hB1.size)
       | (go_at_call 84;refine (many_any _ _ _ _).mono ?_;rintro e w2 ⟨rfl,hB2⟩))
      go_roundw
      case measure=>simp [intOf];omega
      case rel=>exact FIN.out false (by simp [hz]) _ (((hB.alloc hsz _).trans (hB1.mono (by simp;omega))).trans (hB2.mono (by simp at hsz1;omega))) _ rfl
     ·have hz:decide (0<nd)=true:=by simp;omega
      have HZ:=hd_ hz;clear hz
      by_cases h7:7<=op
      ·have h7b:decide (7<=op)=true:=by simpa using h7
       have H7:=hd_ h7b;clear h7b
       by_cases hk0:k=0
       ·have hkb:((k:Int)==0)=true:=by simp [hk0]
        have hkd:decide (k=0)=true:=by simpa using hk0
        exact rq2
       ·have hkb:((k:Int)==0)=false:=by simp;omega
        have hkd:decide (k=0)=false:=by simpa using hk0
        exact rq1
      ·have h7b:decide (7<=op)=false:=by simpa using h7
       have H7:=hd_ h7b
       by_cases hk0:k=0
       ·have hkb:((k:Int)==0)=true:=by simp [hk0]
        have hkd:decide (k=0)=true:=by simpa using hk0
        exact rq1
       ·have hkb:((k:Int)==0)=false:=by simp;omega
        have hkd:decide (k=0)=false:=by simpa using hk0
        exact rq2
    ·have HE:=hd_ he;clear he
     go_wp2_with (go_at_call 83;refine (tone_bad op n t _ htz (HM.out.below hB _) HE.out).mono ?_;rintro e w1 ⟨rfl,hB1⟩)
     go_ret
     refine ⟨?_,((hB.alloc hsz _).trans (hB1.mono (by simp;omega)))⟩
     rw [HC.out,HT.out,if_pos HE.out,← errV_pos HE.out];rfl
   ·have HT:=hd_ (tchk_end (nd:=nd) (wh:=wh) (l:=l) (k:=k) (b:=decide (k=0)) (by omega))
    cases wh with
    | false =>
     go_wp2
     go_ret
     refine ⟨?_,hB⟩
     rw [HC.out,HT.out];simp [errV]
    | true =>
     by_cases h0:nd=0
     ·subst h0
      go_wp2
      go_ret
      refine ⟨?_,hB⟩
      rw [HC.out,HT.out];simp [errV]
     ·have h0':(nd != 0)=true:=by simpa using h0
      have H0:=hd_ h0;clear h0
      go_wp2
      go_ret
      refine ⟨?_,hB⟩
      rw [HC.out,HT.out,if_neg (fun h=>H0.out h.2)];simp [errV]
def isNote:List Nd->Bool
 | []=>false
 | d::_=>decide (d.op=9)
def progK:List (List Nd)->Nat->Bool->Nat × Int
 | [],_,_=>(0,0)
 | t::r,i,pn=>if treeF t≠0 then (i,treeF t) else if (pn&&isNote t)=true then (i,2) else progK r (i+1) (isNote t)
def progF (p:List (List Nd)):Nat × Int:=if 20<p.length then (0,3) else progK p 0 false
theorem progK_step {p:List (List Nd)} {k:Nat} {pn:Bool} {u:List Nd} (hu:p[k]?=some u):progK (p.drop k) k pn=if treeF u≠0 then (k,treeF u) else if (pn&&isNote u)=true then (k,2) else progK (p.drop (k+1)) (k+1) (isNote u):=by
 obtain ⟨h1,h2⟩:=List.getElem?_eq_some_iff.1 hu
 rw [List.drop_eq_getElem_cons h1,h2,progK]
theorem progK_end {p:List (List Nd)} {k:Nat} {pn:Bool} (h:p.length<=k):progK (p.drop k) k pn=(0,0):=by rw [List.drop_eq_nil_of_le h];rfl
structure Prg (w:World) (B:Nat) (A:Option Addr) (l:List (List Nd)):Prop where
 sl:∃ vs:List Value,Sl w B 1 A l.length vs/\∀ (j:Nat) v,vs[j]?=some v->∃ Aj cj u,l[j]?=some u/\v=.slice Aj u.length cj/\Nds w B Aj u/\Short u
 le:l.length<=maxLen
theorem Prg.past {w w':World} {A:Option Addr} {l:List (List Nd)} (h:Prg w w.heap.size A l) (hb:Below w.heap.size w w'):Prg w' w'.heap.size A l:=by
 obtain ⟨⟨vs,h1,h2⟩,h3⟩:=h
 exact ⟨⟨vs,h1.past hb,fun j v hv=>let ⟨Aj,cj,u,g1,g2,g3,g4⟩:=h2 j v hv;⟨Aj,cj,u,g1,g2,g3.past hb,g4⟩⟩,h3⟩
theorem Prg.one {w wr:World} {A:Option Addr} {l:List (List Nd)} (h:Prg w w.heap.size A l) (hB:Below w.heap.size w wr) {k:Nat} (hk:k<l.length) :
  ∃ b off Aj cj u,A=some ⟨b,off,none⟩/\b<wr.heap.size/\l[k]?=some u/\wr.cell? ⟨b,off+k,none⟩=some (.slice Aj u.length cj)/\Nds wr wr.heap.size Aj u/\Short u:=by
 obtain ⟨⟨vs,h1,h2⟩,h3⟩:=h
 obtain ⟨b,off,v,e1,e2,e3,e4⟩:=h1.one hk
 obtain ⟨Aj,cj,u,g1,rfl,g3,g4⟩:=h2 k v e3
 exact ⟨b,off,Aj,cj,u,e1,Nat.lt_of_lt_of_le e2 hB.size,g1,(hB.cell (p:=⟨b,off+k,none⟩) e2).trans e4,g3.past hB,g4⟩
theorem treeF_pos {u:List Nd} (h:treeF u=0):0<u.length:=by
 have:=(Tr.of_check h).root
 rcases Nat.eq_zero_or_pos u.length with h1|h1
 ·rw [posAt_ge (by omega)] at this;cases this
 ·exact h1
theorem Nds.first {w:World} {A:Option Addr} {u:List Nd} (hu:Nds w w.heap.size A u) (h:treeF u=0):∃ b off op,A=some ⟨b,off,none⟩/\b<w.heap.size/\isNote u=decide (op=9)/\w.cell? ⟨b,off,none⟩=some (.int .i64 op):=by
 have h0:=treeF_pos h
 obtain ⟨b,off,op,t,n,h1,h2,h3,h4,h5,_⟩:=hu.node (Below.refl _ _) h0
 refine ⟨b,off,op,h1,h2, ?_,by simpa using h5⟩
 cases u with
 | nil=>simp at h0
 | cons d r =>
  simp only [List.getElem_cons_zero] at h3
  rw [h3];rfl
theorem tcheck_ok (l:List Nd) (A:Option Addr) (c:Nat) (w:World) (hl:Nds w w.heap.size A l) (hsh:Short l) (hm:MaxL w) (h:treeF l=0) :
  Calls Tryz.prog 45 #[.slice A l.length c] w (Ret w .nilIface):=by rw [errV_zero h];exact tcheck_any l A c w hl hsh hm
theorem tcheck_bad (l:List Nd) (A:Option Addr) (c:Nat) (w:World) (hl:Nds w w.heap.size A l) (hsh:Short l) (hm:MaxL w) (h:treeF l≠0) :
  Calls Tryz.prog 45 #[.slice A l.length c] w (Ret w (.iface 24 (.int .i64 (treeF l)))):=by rw [errV_pos h];exact tcheck_any l A c w hl hsh hm
def Ahead (p:List (List Nd)) (k:Nat) (pn:Bool):Prop:=progF p=progK (p.drop k) k pn/\(k=0->pn=false)/\∀ j u,k=j+1->p[j]?=some u->treeF u=0/\isNote u=pn
theorem Ahead.next {p:List (List Nd)} {k:Nat} {pn:Bool} {u:List Nd} (h:Ahead p k pn) (hu:p[k]?=some u) (h0:treeF u=0) (hn:(pn&&isNote u)=false):Ahead p (k+1) (isNote u):=by
 refine ⟨?_,fun h=>absurd h (by omega),fun j v hj hv=>?_⟩
 ·rw [h.1,progK_step hu,if_neg (by simp [h0]),if_neg (by simp [hn])]
 ·obtain rfl:j=k:=by omega
  rw [hu] at hv;cases hv
  exact ⟨h0,rfl⟩
theorem Ahead.bad {p:List (List Nd)} {k:Nat} {pn:Bool} {u:List Nd} (h:Ahead p k pn) (hu:p[k]?=some u) (h0:treeF u≠0):progF p=(k,treeF u):=by rw [h.1,progK_step hu,if_pos h0]
theorem Ahead.two {p:List (List Nd)} {k:Nat} {pn:Bool} {u:List Nd} (h:Ahead p k pn) (hu:p[k]?=some u) (h0:treeF u=0) (hn:(pn&&isNote u)=true):progF p=(k,2):=by rw [h.1,progK_step hu,if_neg (by simp [h0]),if_pos hn]
def AllTo (p:List (List Nd)) (w:World) (e:Ending) (w':World):Prop:=e=.returned (.tuple #[.int .i64 (progF p).1,errV (progF p).2])/\Below w.heap.size w w'
theorem AllTo.of {p:List (List Nd)} {w w':World} {i:Nat} {k:Int} {v:Value} (h:progF p=(i,k)) (hv:v=errV k) (hb:Below w.heap.size w w'):AllTo p w (.returned (.tuple #[.int .i64 i,v])) w':=by
 unfold AllTo;rw [h,hv];exact ⟨rfl,hb⟩
theorem rq4 {P:Prop} (h:P:=by
 go_wp2_with (go_at_call 45;refine HCK.out.mono ?_;rintro e w1 ⟨rfl,hB1⟩;have e0:=(hB1.cell (p:=⟨b,off+(j+1),none⟩) hb).trans hc;have e1:=(hB1.cell (p:=⟨b2,off2,none⟩) hb2).trans d1;have e2:=(hB1.cell (p:=⟨b,off+j,none⟩) hb).trans hc';have e3:=(hB1.cell (p:=⟨b3,off3,none⟩) hb3).trans d1')
 go_roundw
 case measure=>simp [intOf];omega
 case rel=>exact ⟨j+1+1,_,by omega,by go_num,HNX.out,hB.trans (hB1.mono hsz)⟩):P:=h
theorem all_any (p:List (List Nd)) (A:Option Addr) (c:Nat) (w:World) (hp:Prg w w.heap.size A p) (hm:MaxL w) :
  Calls Tryz.prog 44 #[.slice A p.length c] w (AllTo p w):=by
 have hml:=hp.le
 unfold maxLen at hml
 by_cases h20:20<p.length
 ·have hF:progF p=(0,3):=by rw [progF,if_pos h20]
  have HF:=hd_ hF;clear hF
  go_enter Tryz.func44,Tryz.ntmps44
  go_wp2
  go_ret2
  exact AllTo.of HF.out rfl (Below.refl _ _)
 ·have hF:Ahead p 0 false:=⟨by rw [progF,if_neg h20];rfl,fun _=>rfl,fun j u h=>by cases h⟩
  have HF:=hd_ hF;clear hF
  have HP:=hd_ hp;clear hp
  have HM:=hd_ hm;clear hm
  go_enter Tryz.func44,Tryz.ntmps44
  go_wp2
  go_loopw [13] (fun i wr=>∃ (k:Nat) (pn:Bool),k<=p.length/\i=.int .i64 k/\Ahead p k pn/\Below w.heap.size w wr) (fun i _=>p.length-(intOf i).toNat)
  case atStart=>exact ⟨0,false,by omega,rfl,HF.out,Below.refl _ _⟩
  case round =>
   obtain ⟨k,pn,hk,rfl,ha,hB⟩:=hrel
   have HA:=hd_ ha;clear ha
   have hsz:=hB.size
   by_cases hlt:k<p.length
   ·obtain ⟨b,off,Ak,ck,u,rfl,hb,hu,hc,hN,hS⟩:=HP.out.one hB hlt
    have HU:=hd_ hu;clear hu
    have HNU:=hd_ hN
    by_cases h0:treeF u=0
    ·have HCK:=hd_ (tcheck_ok u Ak ck wr hN hS (HM.out.past hB) h0)
     obtain ⟨b2,off2,op,rfl,hb2,hin,d1⟩:=hN.first h0
     have hu0:=treeF_pos h0
     have H0:=hd_ h0;have HIN:=hd_ hin
     clear h0 hin hN hS
     cases k with
     | zero =>
      rw [Nat.add_zero] at hc
      have HNX:=hd_ (HA.out.next HU.out H0.out (by rw [HA.out.2.1 rfl];rfl))
      go_wp2_with (go_at_call 45;refine HCK.out.mono ?_;rintro e w1 ⟨rfl,hB1⟩;have e0:=(hB1.cell (p:=⟨b,off,none⟩) hb).trans hc;have e1:=(hB1.cell (p:=⟨b2,off2,none⟩) hb2).trans d1)
      go_roundw
      case measure=>simp [intOf];omega
      case rel=>exact ⟨0+1,_,by omega,by go_num,HNX.out,hB.trans (hB1.mono hsz)⟩
     | succ j =>
      obtain ⟨b',off',Aj,cj,u',hq,hb',hu',hc',hN',hS'⟩:=HP.out.one hB (k:=j) (by omega)
      cases hq
      obtain ⟨h0',hin'⟩:=HA.out.2.2 j u' rfl hu'
      obtain ⟨b3,off3,op',rfl,hb3,hin3,d1'⟩:=hN'.first h0'
      have hu0':=treeF_pos h0'
      have HPN:Hid (pn=decide (op'=9)):=hd_ (by rw [← hin',hin3])
      clear hin' hin3 h0' hu' hN' hS' hb'
      have k7:(j:Int)+1-1=(j:Int):=by omega
      have k8:IntKind.i64.wrap (j:Int)=(j:Int):=IntWalk.i64_in _ (by omega)
      by_cases h9:op=9
      ·subst h9
       by_cases h9':op'=9
       ·subst h9'
        have HR:=hd_ (HA.out.two HU.out H0.out (by rw [HPN.out,HIN.out];rfl))
        go_wp2_with (go_at_call 45;refine HCK.out.mono ?_;rintro e w1 ⟨rfl,hB1⟩;have e0:=(hB1.cell (p:=⟨b,off+(j+1),none⟩) hb).trans hc;have e1:=(hB1.cell (p:=⟨b2,off2,none⟩) hb2).trans d1;have e2:=(hB1.cell (p:=⟨b,off+j,none⟩) hb).trans hc';have e3:=(hB1.cell (p:=⟨b3,off3,none⟩) hb3).trans d1')
        go_ret2
        exact AllTo.of HR.out rfl (hB.trans (hB1.mono hsz))
       ·have h9b:(op'==9)=false:=by simpa using h9'
        have HNX:=hd_ (HA.out.next HU.out H0.out (by rw [HPN.out,decide_eq_false h9'];rfl))
        exact rq4
      ·have h9b:(op==9)=false:=by simpa using h9
       have HNX:=hd_ (HA.out.next HU.out H0.out (by rw [HIN.out,decide_eq_false h9,Bool.and_false]))
       exact rq4
    ·have HCK:=hd_ (tcheck_bad u Ak ck wr hN hS (HM.out.past hB) h0)
     have HR:=hd_ (HA.out.bad HU.out h0)
     have HEV:=hd_ (errV_pos h0)
     clear h0 hN hS
     go_wp2_with (go_at_call 45;refine HCK.out.mono ?_;rintro e w1 ⟨rfl,hB1⟩)
     go_ret2
     exact AllTo.of HR.out HEV.out (hB.trans (hB1.mono hsz))
   ·have HR:Hid (progF p=(0,0)):=hd_ (by rw [HA.out.1,progK_end (by omega)])
    go_wp2
    go_ret2
    exact AllTo.of HR.out rfl hB
end Go.Proofs.YtddfdmopaeghnadGreatDoor
