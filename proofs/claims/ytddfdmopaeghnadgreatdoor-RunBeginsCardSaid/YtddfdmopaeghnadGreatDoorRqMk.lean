/- Plain facts on statements as the reference tells them: trees skipped, the first node at fault, a note's words cut at each blank. With what it rests on. Conditions: as each theorem states them. -/
import Derived.Test.YtddfdmopaeghnadGreatDoorRqTr
import Derived.Lib.SplitLaws
import Derived.Lib.IndexLaws
import Derived.Lib.ItoaNum
import Derived.Lib.ItoaMem
import Derived.Test.YtddfdmopaeghnadGreatDoorRqWp
namespace Go.Proofs.YtddfdmopaeghnadGreatDoor
def skipT:List Nat->Nat->Option (List Nat)
 | l,0=>some l
 | [],_+1=>none
 | m::r,k+1=>skipT r (k+m)
theorem skipT_zero (l:List Nat):skipT l 0=some l:=by cases l <;> rfl
theorem Tr.skip {l:List Nd} (h:Tr l):∀ f i k:Nat,l.length<=i+f->i<=l.length->k<=(posAt l i).length->skipT ((manyL l).drop i) k=some ((manyL l).drop (headN l ((posAt l i).drop k))):=by
 intro f
 induction f with
 | zero =>
  intro i k h1 h2 h3
  obtain rfl:i=l.length:=by omega
  rw [posAt_ge (Nat.le_refl _)] at h3 ⊢
  obtain rfl:k=0:=by simpa using h3
  rw [skipT_zero];rfl
 | succ f ih =>
  intro i k h1 h2 h3
  cases k with
  | zero=>rw [skipT_zero,List.drop_zero,headN_of h2]
  | succ k =>
   have hi:i<l.length:=by
    rcases Nat.lt_or_ge i l.length with h|h
    ·exact h
    ·rw [posAt_ge h] at h3;simp at h3
   have hlt:i<(manyL l).length:=by rw [manyL_len];exact hi
   have hm:(manyL l).getD i 0=(manyL l)[i]:=by simp [hlt]
   have hr:=h.room i hi
   rw [posAt_lt hi,List.length_cons,List.length_drop] at h3
   rw [List.drop_eq_getElem_cons hlt,skipT,posAt_lt hi,List.drop_succ_cons,List.drop_drop,← hm,ih (i+1) _ (by omega) (by omega) (by omega),Nat.add_comm k]
def topsOk:List Nd->Bool->Bool
 | [],_=>true
 | d::r,b=>(decide (7<=d.op)==b)&&topsOk r false
theorem tops_step {l:List Nd} {k:Nat} {op n:Int} {t:ByteArray} (hk:k<l.length) (hd:l[k]=Nd.mk op t n):topsOk (l.drop k) (decide (k=0))=((decide (7<=op)==decide (k=0))&&topsOk (l.drop (k+1)) (decide (k+1=0))):=by
 rw [List.drop_eq_getElem_cons hk,hd];rfl
theorem tchk_two:∀ (l:List Nd) (b:Bool) (nd:Int) (wh:Bool),(∀ d ∈ l,treeOne d.op d.text d.n=0)->tchk l b nd wh=0∨tchk l b nd wh=2:=by
 intro l
 induction l with
 | nil=>intro b nd wh _;simp only [tchk];split <;> simp
 | cons d r ih =>
  intro b nd wh h
  rw [tchk,if_neg (by simp [h d (by simp)])]
  exact ih _ _ _ fun x hx=>h x (by simp [hx])
theorem tchk_iff:∀ (l:List Nd) (b:Bool) (k:Nat),(∀ d ∈ l,treeOne d.op d.text d.n=0)->(tchk l b k true=0↔skipT (manyL l) k=some []/\topsOk l b=true):=by
 intro l
 induction l with
 | nil =>
  intro b k _
  cases k with
  | zero=>simp [tchk,manyL,skipT,topsOk]
  | succ k=>simp [tchk,manyL,skipT];omega
 | cons d r ih =>
  intro b k h
  have h0:=h d (by simp)
  have hr:∀ x ∈ r,treeOne x.op x.text x.n=0:=fun x hx=>h x (by simp [hx])
  have hb:=manyF_bd h0
  have hm:manyL (d::r)=(manyF d.op d.n).toNat::manyL r:=rfl
  rw [tchk,if_neg (by simp [h0]),hm]
  cases k with
  | zero =>
   have:(true&&decide ((0:Int)<((0:Nat):Int))&&(decide (7<=d.op)==b))=false:=by simp
   rw [this,skipT_zero]
   constructor
   ·intro h;exact absurd h (tchk_false _ _ _)
   ·rintro ⟨h,_⟩;cases h
  | succ k =>
   have hd:decide ((0:Int)<((k+1:Nat):Int))=true:=decide_eq_true (by omega)
   have hn:((k+1:Nat):Int)+manyF d.op d.n-1=((k+(manyF d.op d.n).toNat:Nat):Int):=by omega
   rw [hd,hn,skipT,topsOk]
   cases hq:(decide (7<=d.op)==b) with
   | true =>
    simp only [Bool.and_self,Bool.true_and]
    exact ih false _ hr
   | false =>
    simp only [Bool.and_false,Bool.false_and]
    constructor
    ·intro h;exact absurd h (tchk_false _ _ _)
    ·rintro ⟨_,h⟩;cases h
theorem treeF_good {l:List Nd} (h40:¬ 40<l.length) (h:∀ d ∈ l,treeOne d.op d.text d.n=0):treeF l=if skipT (manyL l) 1=some []/\topsOk l true=true then 0 else 2:=by
 rw [treeF,if_neg h40]
 have h1:=tchk_iff l true 1 h
 rw [show ((1:Nat):Int)=1 from rfl] at h1
 split
 ·rename_i hc;exact h1.2 hc
 ·rename_i hc
  rcases tchk_two l true 1 true h with h2|h2
  ·exact absurd (h1.1 h2) hc
  ·exact h2
def noSp (s:ByteArray) (m j:Nat):Prop:=∀ x,m<=x->x<j->s.data.toList[x]?≠some 32
theorem noSp.nil (s:ByteArray) (m:Nat):noSp s m m:=fun x h1 h2=>absurd h1 (by omega)
theorem noSp.more {s:ByteArray} {m j:Nat} (h:noSp s m j) (hj:j<s.size) (hc:s[j]≠32):noSp s m (j+1):=by
 intro x h1 h2
 by_cases e:x=j
 ·subst e
  have hl:x<s.data.toList.length:=by simpa using hj
  rw [List.getElem?_eq_getElem hl]
  intro h
  injection h with h
  exact hc h
 ·exact h x h1 (by omega)
def tailN (s:ByteArray) (m:Nat):List ByteArray:=Lib.splitB spB 0 (Lib.countB (s.extract m s.size) spB) (s.extract m s.size)
theorem occ_one (l:List UInt8) (i:Nat):Lib.occAt l [32] i=(l[i]?==some 32):=by
 unfold Lib.occAt
 cases hd:l.drop i with
 | nil =>
  have:l.length<=i:=by have:=congrArg List.length hd;rw [List.length_drop,List.length_nil] at this;omega
  rw [List.getElem?_eq_none this];rfl
 | cons a r =>
  have:l[i]?=some a:=by
   have h:=congrArg (fun x=>x[0]?) hd
   simp only [List.getElem?_drop,Nat.add_zero,List.getElem?_cons_zero] at h
   exact h
  rw [this]
  simp [List.isPrefixOf]
  rw [Bool.eq_iff_iff,beq_iff_eq,beq_iff_eq];exact eq_comm
theorem tail_data (s:ByteArray) (m:Nat):(s.extract m s.size).data.toList=s.data.toList.drop m:=by
 rw [Lib.extract_data,List.take_of_length_le]
 rw [List.length_drop];simp
theorem index_blank {s:ByteArray} {m i:Nat} (hm:m<=i) (hi:i<s.size) (hn:noSp s m i) (hc:s[i]=32):Lib.indexB (s.extract m s.size) spB=((i-m:Nat):Int):=by
 have hl:i<s.data.toList.length:=by simpa using hi
 refine Lib.index_hit (s:=(s.extract m s.size).data.toList) (sub:=[32]) (fun j hj=>?_) ?_ ?_
 ·rw [occ_one,tail_data,List.getElem?_drop]
  have:=hn (m+j) (by omega) (by omega)
  simpa using this
 ·rw [tail_data,List.length_drop];omega
 ·rw [occ_one,tail_data,List.getElem?_drop,show m+(i-m)=i by omega,List.getElem?_eq_getElem hl]
  have:s.data.toList[i]=32:=hc
  rw [this];rfl
theorem index_noblank {s:ByteArray} {m:Nat} (hn:noSp s m s.size):Lib.indexB (s.extract m s.size) spB=-1:=by
 refine Lib.index_none (s:=(s.extract m s.size).data.toList) (sub:=[32]) (fun j hj=>?_)
 rw [occ_one,tail_data,List.getElem?_drop]
 by_cases h:m+j<s.size
 ·simpa using hn (m+j) (by omega) h
 ·rw [List.getElem?_eq_none (by simp;omega)];rfl
theorem ext_ext (s:ByteArray) (m a b:Nat):(s.extract m s.size).extract a b=s.extract (m+a) (m+b):=by
 apply ByteArray.ext
 apply Array.toList_inj.1
 rw [Lib.extract_data,tail_data,Lib.extract_data,List.drop_drop]
 congr 1;omega
theorem tail_hit {s:ByteArray} {m i:Nat} (hm:m<=i) (hi:i<s.size) (hn:noSp s m i) (hc:s[i]=32):tailN s m=s.extract m i::tailN s (i+1):=by
 have hx:=index_blank hm hi hn hc
 have hz:(s.extract m s.size).size=s.size-m:=by rw [ByteArray.size_extract];omega
 have e2:(s.extract m s.size).extract (i-m+spB.size) (s.extract m s.size).size=s.extract (i+1) s.size:=by
  rw [hz,ext_ext s m _ _]
  congr 1
  ·show m+(i-m+1)=i+1;omega
  ·omega
 unfold tailN
 rw [Lib.countB_hit _ spB (i-m) (by decide) hx,Nat.add_comm 1,Lib.splitB_hit _ _ _ _ _ hx,e2]
 congr 1
 rw [ext_ext s m _ _,Nat.add_zero]
 congr 1;omega
theorem tail_miss {s:ByteArray} {m:Nat} (hn:noSp s m s.size):tailN s m=[s.extract m s.size]:=Lib.splitB_miss _ _ _ _ (index_noblank hn)
theorem ext_all (s:ByteArray):s.extract 0 s.size=s:=by
 apply ByteArray.ext
 apply Array.toList_inj.1
 rw [tail_data,List.drop_zero]
theorem noteL_tail {s:ByteArray} (h:s.toList≠[]):noteL s=tailN s 0:=by
 rw [noteL,if_neg h,tailN,ext_all]
end Go.Proofs.YtddfdmopaeghnadGreatDoor
namespace Go.Proofs.YtddfdmopaeghnadGreatDoor
def wordN (s:ByteArray):List Nd:=[⟨1,s,0⟩]
def opN (k:Int):List Nd:=[⟨k,.empty,0⟩]
def bothN (a b:List Nd):List Nd:=⟨6,.empty,0⟩::(a++b)
def groupN (a:List Nd):List Nd:=⟨8,.empty,0⟩::a
def deepN (a:List Nd):List Nd:=⟨7,.empty,2⟩::a
def boundF (po ko:Int) (second:Bool):Bool:=(decide (po=6)&&decide (ko=5))||(second&&(decide (po=5)||decide (po=6))&&decide (ko=po))
def kidD (po ko:Int) (second:Bool) (x:List Nd):List Nd:=if boundF po ko second=true then bothN (wordN ⟨#[40]⟩) (bothN x (wordN ⟨#[41]⟩)) else x
def kidsD (g:Nat->List Nd) (e:Nat->Nat):Nat->Nat->List Nd
 | _,0=>[]
 | a,m+1=>if m=0 then g a else bothN (bothN (g a) (wordN ⟨#[44]⟩)) (bothN (opN 2) (kidsD g e (e a) m))
def listD (o c:ByteArray) (m:Nat) (k:List Nd):List Nd:=if m=0 then wordN (o++c) else groupN (bothN (wordN o) (bothN (deepN (bothN (opN 3) k)) (bothN (opN 3) (wordN c))))
def twoD (s:ByteArray) (a b:List Nd):List Nd:=groupN (bothN a (deepN (bothN (opN 2) (bothN (wordN s) b))))
def opAt (l:List Nd) (i:Nat):Int:=(l.getD i ⟨0,.empty,0⟩).op
def docT (l:List Nd):Nat->Nat->List Nd
 | 0,_=>[]
 | f+1,i =>
  let d:=l.getD i ⟨0,.empty,0⟩
  if d.op=1 then wordN ⟨(Lib.itoa d.n).toArray⟩
  else if d.op=2 then wordN d.text
  else if d.op=3 then listD (d.text++⟨#[40]⟩) ⟨#[41]⟩ d.n.toNat (kidsD (docT l f) (tEnd l) (i+1) d.n.toNat)
  else if d.op=4 then listD ⟨#[91]⟩ ⟨#[93]⟩ d.n.toNat (kidsD (docT l f) (tEnd l) (i+1) d.n.toNat)
  else if d.op=5 then twoD ⟨#[43,32]⟩ (kidD 5 (opAt l (i+1)) false (docT l f (i+1))) (kidD 5 (opAt l (tEnd l (i+1))) true (docT l f (tEnd l (i+1))))
  else if d.op=6 then twoD ⟨#[42,32]⟩ (kidD 6 (opAt l (i+1)) false (docT l f (i+1))) (kidD 6 (opAt l (tEnd l (i+1))) true (docT l f (tEnd l (i+1))))
  else if d.op=7 then groupN (bothN (wordN (⟨#[108,101,116,32]⟩++d.text++⟨#[32,61]⟩)) (deepN (bothN (opN 2) (bothN (docT l f (i+1)) (wordN ⟨#[59]⟩)))))
  else bothN (docT l f (i+1)) (wordN ⟨#[59]⟩)
def KidsP (l:List Nd):Nat->Nat->Nat->Prop
 | a,0,z=>a=z
 | a,m+1,z=>a<l.length/\a<tEnd l a/\KidsP l (tEnd l a) m z
theorem headN_le {l:List Nd} {q:List Nat} (h:∀ x ∈ q,x<l.length):headN l q<=l.length:=by
 unfold headN
 cases q with
 | nil=>simp
 | cons a r=>have:=h a (by simp);simp;omega
theorem tEnd_bd {l:List Nd} {i:Nat} (hi:i<l.length):i<tEnd l i/\tEnd l i<=l.length:=by
 refine ⟨?_,headN_le fun x hx=>(posAt_bd l i x (List.mem_of_mem_tail hx)).2⟩
 rw [tEnd,posAt_lt hi,List.tail_cons]
 unfold headN
 cases hq:(posAt l (i+1)).drop ((manyL l).getD i 0) with
 | nil=>simpa using hi
 | cons a r =>
  have:=(posAt_bd l (i+1) a (List.mem_of_mem_drop (i:=(manyL l).getD i 0) (by rw [hq];simp))).1
  simp;omega
theorem Tr.kidsP {l:List Nd} (h:Tr l) {i:Nat} (hi:i<l.length):KidsP l (i+1) ((manyL l).getD i 0) (tEnd l i):=by
 have hr:=h.room i hi
 have he:tEnd l i=headN l ((posAt l (i+1)).drop ((manyL l).getD i 0)):=by rw [tEnd,posAt_lt hi,List.tail_cons]
 have main:∀ m k:Nat,k+m=(manyL l).getD i 0->KidsP l (headN l ((posAt l (i+1)).drop k)) m (tEnd l i):=by
  intro m
  induction m with
  | zero=>intro k hk;rw [KidsP,he];congr 2
  | succ m ih =>
   intro k hk
   have hlt:k<(posAt l (i+1)).length:=by omega
   obtain ⟨h1,h2,h3⟩:=kid_next hlt
   rw [h1,KidsP]
   refine ⟨h2,(tEnd_bd h2).1, ?_⟩
   rw [h3]
   exact ih (k+1) (by omega)
 have h0:=main ((manyL l).getD i 0) 0 (by omega)
 rw [List.drop_zero,headN_of (by omega)] at h0
 exact h0
theorem Tr.tops {l:List Nd} (h:Tr l) {i:Nat} (hi:i<l.length):decide (7<=l[i].op)=decide (i=0):=by
 have h1:=treeF_good (by have:=h.len;omega) h.one
 rw [h.chk] at h1
 have h2:topsOk l true=true:=by
  by_cases hc:skipT (manyL l) 1=some []/\topsOk l true=true
  ·exact hc.2
  ·rw [if_neg hc] at h1;cases h1
 have main:∀ k,k<=l.length->topsOk (l.drop k) (decide (k=0))=true:=by
  intro k
  induction k with
  | zero=>intro _;exact h2
  | succ k ih =>
   intro hk
   have h3:=ih (by omega)
   rw [tops_step (l:=l) (k:=k) (op:=l[k].op) (n:=l[k].n) (t:=l[k].text) (by omega) rfl] at h3
   simp only [Bool.and_eq_true] at h3
   exact h3.2
 have h3:=main i (by omega)
 rw [tops_step (l:=l) (k:=i) (op:=l[i].op) (n:=l[i].n) (t:=l[i].text) hi rfl] at h3
 simp only [Bool.and_eq_true,beq_iff_eq] at h3
 exact h3.1
theorem kidD_len (po ko:Int) (b:Bool) (x:List Nd):(kidD po ko b x).length<=x.length+4:=by
 unfold kidD
 split
 ·simp [bothN,wordN]
 ·omega
theorem kidsD_len {l:List Nd} {g:Nat->List Nd}:∀ (m a z:Nat),KidsP l a m z->(∀ b,a<=b->b<l.length->(g b).length+9<=20*(tEnd l b-b))->a<=z/\(kidsD g (tEnd l) a m).length+4*m<=20*(z-a):=by
 intro m
 induction m with
 | zero=>intro a z h _;rw [KidsP] at h;subst h;simp [kidsD]
 | succ m ih =>
  intro a z h hg
  obtain ⟨h1,h2,h3⟩:=h
  have h4:=hg a (Nat.le_refl _) h1
  obtain ⟨h5,h6⟩:=ih _ _ h3 (fun b hb hb2=>hg b (by omega) hb2)
  refine ⟨by omega, ?_⟩
  rw [kidsD]
  split
  ·rename_i e;subst e;omega
  ·simp only [bothN,wordN,opN,List.length_cons,List.length_append,List.length_nil]
   omega
theorem getD_at {l:List Nd} {i:Nat} (hi:i<l.length):l.getD i ⟨0,.empty,0⟩=l[i]:=by simp [hi]
theorem Tr.low {l:List Nd} (h:Tr l) {i:Nat} (hi:i<l.length) (h0:0<i):l[i].op<=6:=by
 have:=h.tops hi
 rw [decide_eq_false (show ¬ i=0 by omega)] at this
 have:=of_decide_eq_false this
 omega
theorem rq8 {P:Prop} (h:P:=by
 by_cases hc:l[i].op<1∨9<l[i].op
 ·rw [treeOne,if_pos (by rcases hc with h|h;exact .inl h;exact .inr (.inl h))] at hone;cases hone
 ·omega):P:=h
theorem rq9 {P:Prop} (h:P:=by
 split
 ·simp [wordN];omega
 ·simp only [groupN,bothN,wordN,opN,deepN,List.length_cons,List.length_append,List.length_nil];omega):P:=h
theorem docT_len {l:List Nd} (hT:Tr l):∀ f i:Nat,l.length<=i+f->(hi:i<l.length)->l[i].op≠9->(docT l f i).length+9<=20*(tEnd l i-i):=by
 intro f
 induction f with
 | zero=>intro i h1 h2;omega
 | succ f ih =>
  intro i h1 h2 h9
  have hk:=hT.kidsP h2
  have hb:=(tEnd_bd h2).1
  have hm:(manyL l).getD i 0=(manyF l[i].op l[i].n).toNat:=manyL_at h2 rfl
  have hone:=hT.one _ (List.getElem_mem h2)
  have hbd:=manyF_bd hone
  have hop:1<=l[i].op/\l[i].op<=9:=by
   exact rq8
  rw [hm] at hk
  have ihk:∀ b,i+1<=b->b<l.length->(docT l f b).length+9<=20*(tEnd l b-b):=fun b hb hl=>ih b (by omega) hl (by have:=hT.low hl (by omega);omega)
  rw [docT,getD_at h2]
  generalize l[i].op=op at *
  generalize l[i].n=n at *
  generalize l[i].text=t at *
  have hcs:op=1∨op=2∨op=3∨op=4∨op=5∨op=6∨op=7∨op=8:=by omega
  rcases hcs with rfl|rfl|rfl|rfl|rfl|rfl|rfl|rfl
  ·simp [wordN];omega
  ·simp [wordN];omega
  ·rw [show manyF 3 n=n from rfl] at hk
   obtain ⟨g1,g2⟩:=kidsD_len _ _ _ hk ihk
   rw [if_neg (by decide),if_neg (by decide),if_pos rfl,listD]
   exact rq9
  ·rw [show manyF 4 n=n from rfl] at hk
   obtain ⟨g1,g2⟩:=kidsD_len _ _ _ hk ihk
   rw [if_neg (by decide),if_neg (by decide),if_neg (by decide),if_pos rfl,listD]
   exact rq9
  ·obtain ⟨a1,a2,b1,b2,b3⟩:i+1<l.length/\i+1<tEnd l (i+1)/\tEnd l (i+1)<l.length/\tEnd l (i+1)<tEnd l (tEnd l (i+1))/\tEnd l (tEnd l (i+1))=tEnd l i:=⟨hk.1,hk.2.1,hk.2.2.1,hk.2.2.2.1,hk.2.2.2.2⟩
   have q1:=ihk _ (Nat.le_refl _) a1
   have q2:=ihk _ (by omega) b1
   have q3:=kidD_len 5 (opAt l (i+1)) false (docT l f (i+1))
   have q4:=kidD_len 5 (opAt l (tEnd l (i+1))) true (docT l f (tEnd l (i+1)))
   rw [if_neg (by decide),if_neg (by decide),if_neg (by decide),if_neg (by decide),if_pos rfl]
   simp only [twoD,groupN,bothN,wordN,opN,deepN,List.length_cons,List.length_append,List.length_nil];omega
  ·obtain ⟨a1,a2,b1,b2,b3⟩:i+1<l.length/\i+1<tEnd l (i+1)/\tEnd l (i+1)<l.length/\tEnd l (i+1)<tEnd l (tEnd l (i+1))/\tEnd l (tEnd l (i+1))=tEnd l i:=⟨hk.1,hk.2.1,hk.2.2.1,hk.2.2.2.1,hk.2.2.2.2⟩
   have q1:=ihk _ (Nat.le_refl _) a1
   have q2:=ihk _ (by omega) b1
   have q3:=kidD_len 6 (opAt l (i+1)) false (docT l f (i+1))
   have q4:=kidD_len 6 (opAt l (tEnd l (i+1))) true (docT l f (tEnd l (i+1)))
   rw [if_neg (by decide),if_neg (by decide),if_neg (by decide),if_neg (by decide),if_neg (by decide),if_pos rfl]
   simp only [twoD,groupN,bothN,wordN,opN,deepN,List.length_cons,List.length_append,List.length_nil];omega
  ·obtain ⟨a1,a2,b3⟩:i+1<l.length/\i+1<tEnd l (i+1)/\tEnd l (i+1)=tEnd l i:=⟨hk.1,hk.2.1,hk.2.2⟩
   have q1:=ihk _ (Nat.le_refl _) a1
   rw [if_neg (by decide),if_neg (by decide),if_neg (by decide),if_neg (by decide),if_neg (by decide),if_neg (by decide),if_pos rfl]
   simp only [groupN,bothN,wordN,opN,deepN,List.length_cons,List.length_append,List.length_nil];omega
  ·obtain ⟨a1,a2,b3⟩:i+1<l.length/\i+1<tEnd l (i+1)/\tEnd l (i+1)=tEnd l i:=⟨hk.1,hk.2.1,hk.2.2⟩
   have q1:=ihk _ (Nat.le_refl _) a1
   rw [if_neg (by decide),if_neg (by decide),if_neg (by decide),if_neg (by decide),if_neg (by decide),if_neg (by decide),if_neg (by decide)]
   simp only [bothN,wordN,List.length_cons,List.length_append,List.length_nil];omega
end Go.Proofs.YtddfdmopaeghnadGreatDoor
namespace Go.Proofs.YtddfdmopaeghnadGreatDoor
def kidX (po ko:Int) (second:Bool) (x:ByteArray):ByteArray:=if boundF po ko second=true then ⟨#[40]⟩++x++⟨#[41]⟩ else x
def kidsX (g:Nat->ByteArray) (e:Nat->Nat):Nat->Nat->ByteArray
 | _,0=>.empty
 | a,m+1=>if m=0 then g a else g a++⟨#[44,32]⟩++kidsX g e (e a) m
def letB:ByteArray:=⟨#[108,101,116,32]⟩
def textX (l:List Nd):Nat->Nat->ByteArray
 | 0,_=>.empty
 | f+1,i =>
  let d:=l.getD i ⟨0,.empty,0⟩
  if d.op=1 then ⟨(Lib.itoa d.n).toArray⟩
  else if d.op=2 then d.text
  else if d.op=3 then d.text++⟨#[40]⟩++kidsX (textX l f) (tEnd l) (i+1) d.n.toNat++⟨#[41]⟩
  else if d.op=4 then ⟨#[91]⟩++kidsX (textX l f) (tEnd l) (i+1) d.n.toNat++⟨#[93]⟩
  else if d.op=5 then kidX 5 (opAt l (i+1)) false (textX l f (i+1))++⟨#[32,43,32]⟩++kidX 5 (opAt l (tEnd l (i+1))) true (textX l f (tEnd l (i+1)))
  else if d.op=6 then kidX 6 (opAt l (i+1)) false (textX l f (i+1))++⟨#[32,42,32]⟩++kidX 6 (opAt l (tEnd l (i+1))) true (textX l f (tEnd l (i+1)))
  else if d.op=7 then letB++d.text++⟨#[32,61,32]⟩++textX l f (i+1)++⟨#[59]⟩
  else textX l f (i+1)++⟨#[59]⟩
def Flt (ns:List Nd) (t:ByteArray):Prop:=∃ x:D,x.ok/\x.enc=ns/\x.flat=some t/\(∀ d ∈ ns,oneF d.op d.text d.n=0)/\∀ d ∈ ns,d.op≠9
theorem Flt.word {s:ByteArray} (h:oneF 1 s 0=0):Flt (wordN s) s :=
 ⟨.leaf ⟨1,s,0⟩,rfl,rfl,by simp [D.flat],fun d hd=>by simp [wordN] at hd;subst hd;exact h,fun d hd=>by simp [wordN] at hd;subst hd;show (1:Int)≠9;decide⟩
theorem Flt.blank:Flt (opN 2) ⟨#[32]⟩ :=
 ⟨.leaf ⟨2,.empty,0⟩,rfl,rfl,by simp [D.flat],fun d hd=>by simp [opN] at hd;subst hd;decide +kernel,fun d hd=>by simp [opN] at hd;subst hd;decide +kernel⟩
theorem Flt.soft:Flt (opN 3) .empty :=
 ⟨.leaf ⟨3,.empty,0⟩,rfl,rfl,by simp [D.flat],fun d hd=>by simp [opN] at hd;subst hd;decide +kernel,fun d hd=>by simp [opN] at hd;subst hd;decide +kernel⟩
theorem Flt.both {a b:List Nd} {s t:ByteArray} (ha:Flt a s) (hb:Flt b t):Flt (bothN a b) (s++t):=by
 obtain ⟨x,x1,x2,x3,x4,x5⟩:=ha
 obtain ⟨y,y1,y2,y3,y4,y5⟩:=hb
 refine ⟨.bin ⟨6,.empty,0⟩ x y,⟨by decide,x1,y1⟩,by simp [D.enc,bothN,x2,y2],by simp [D.flat,x3,y3],fun d hd=>?_,fun d hd=>?_⟩
 ·simp only [bothN,List.mem_cons,List.mem_append] at hd
  rcases hd with rfl|h|h
  ·decide +kernel
  ·exact x4 d h
  ·exact y4 d h
 ·simp only [bothN,List.mem_cons,List.mem_append] at hd
  rcases hd with rfl|h|h
  ·decide
  ·exact x5 d h
  ·exact y5 d h
theorem Flt.group {a:List Nd} {s:ByteArray} (ha:Flt a s):Flt (groupN a) s:=by
 obtain ⟨x,x1,x2,x3,x4,x5⟩:=ha
 refine ⟨.un ⟨8,.empty,0⟩ x,⟨by decide,x1⟩,by simp [D.enc,groupN,x2],by simp [D.flat,x3],fun d hd=>?_,fun d hd=>?_⟩
 ·simp only [groupN,List.mem_cons] at hd
  rcases hd with rfl|h
  ·decide +kernel
  ·exact x4 d h
 ·simp only [groupN,List.mem_cons] at hd
  rcases hd with rfl|h
  ·decide
  ·exact x5 d h
theorem Flt.deep {a:List Nd} {s:ByteArray} (ha:Flt a s):Flt (deepN a) s:=by
 obtain ⟨x,x1,x2,x3,x4,x5⟩:=ha
 refine ⟨.un ⟨7,.empty,2⟩ x,⟨by decide,x1⟩,by simp [D.enc,deepN,x2],by simp [D.flat,x3],fun d hd=>?_,fun d hd=>?_⟩
 ·simp only [deepN,List.mem_cons] at hd
  rcases hd with rfl|h
  ·decide +kernel
  ·exact x4 d h
 ·simp only [deepN,List.mem_cons] at hd
  rcases hd with rfl|h
  ·decide
  ·exact x5 d h
theorem Flt.of_eq {a:List Nd} {s t:ByteArray} (h:Flt a s) (e:s=t):Flt a t:=by subst e;exact h
theorem oneF_word {s:ByteArray} (h0:0<s.size) (h1:s.size<=20) (h2:prtAll s=true):oneF 1 s 0=0:=by
 have hs:s.toList≠[]:=by
  rw [ByteArray.toList_eq]
  intro h
  have h3:s.data.toList.length=s.size:=by simp
  rw [h] at h3
  simp at h3;omega
 unfold oneF
 rw [if_neg (by omega),if_neg (by simp),if_neg ?_,if_neg (by omega)]
 rintro ⟨_,h|h|h⟩
 ·exact hs h
 ·omega
 ·rw [h2] at h;cases h
theorem prtAll_app {a b:ByteArray} (ha:prtAll a=true) (hb:prtAll b=true):prtAll (a++b)=true:=by
 unfold prtAll at *
 rw [ByteArray.data_append,Array.toList_append,List.all_append,ha,hb];rfl
theorem name_facts {s:ByteArray} (h:nameF s=true):0<s.size/\s.size<=8/\s.data.toList.all lowC=true:=by
 simp only [nameF,Bool.and_eq_true,Bool.not_eq_true',decide_eq_true_eq] at h
 obtain ⟨⟨⟨h1,h2⟩,_⟩,h4⟩:=h
 refine ⟨?_,h2,h4⟩
 rcases Nat.eq_zero_or_pos s.size with h0|h0
 ·rw [ByteArray.toList_eq] at h1
  have h3:s.data.toList.length=0:=by simpa using h0
  rw [List.eq_nil_of_length_eq_zero h3] at h1;cases h1
 ·exact h0
theorem name_prt {s:ByteArray} (h:nameF s=true):prtAll s=true:=by
 have h1:=(name_facts h).2.2
 unfold prtAll
 rw [List.all_eq_true] at *
 intro c hc
 have h2:=h1 c hc
 simp only [lowC,Bool.and_eq_true,decide_eq_true_eq] at h2
 simp only [prt,Bool.and_eq_true,decide_eq_true_eq]
 omega
theorem dig_lt {u j:Nat}:48<=(Lib.dg u j).toNat/\(Lib.dg u j).toNat<=57:=by
 unfold Lib.dg
 have:u / 10 ^ j % 10<10:=Nat.mod_lt _ (by omega)
 generalize u / 10 ^ j % 10=q at *
 rw [UInt8.toNat_ofNat']
 omega
theorem itoa_digs {n:Int} (h0:0<=n):∀ c ∈ Lib.itoa n,48<=c.toNat/\c.toNat<=57:=by
 intro c hc
 rw [Lib.itoa,if_neg (by omega),Lib.decDigits_eq] at hc
 obtain ⟨j,_,rfl⟩:=List.mem_map.1 hc
 exact dig_lt
theorem itoa_len6 {n:Int} (h0:0<=n) (h:n<=999999):0<(Lib.itoa n).length/\(Lib.itoa n).length<=6:=by
 rw [Lib.itoa,if_neg (by omega),Lib.decDigits_length]
 refine ⟨Lib.nDigits_pos _, ?_⟩
 have hu:n.toNat<=999999:=by omega
 generalize n.toNat=u at *
 have main:∀ k u:Nat,u<10 ^ (k+1)->Lib.nDigits u<=k+1:=by
  intro k
  induction k with
  | zero=>intro u h;rw [Lib.nDigits_small (by simpa using h)];omega
  | succ k ih =>
   intro u h
   by_cases h1:u<10
   ·rw [Lib.nDigits_small h1];omega
   ·rw [Lib.nDigits_big h1]
    have:=ih (u / 10) (by rw [Nat.pow_succ] at h;omega)
    omega
 exact main 5 u (by omega)
theorem itoa_word {n:Int} (h0:0<=n) (h:n<=999999):oneF 1 ⟨(Lib.itoa n).toArray⟩ 0=0:=by
 have h1:=itoa_len6 h0 h
 have hz:(⟨(Lib.itoa n).toArray⟩:ByteArray).size=(Lib.itoa n).length:=by simp [ByteArray.size]
 refine oneF_word (by omega) (by omega) ?_
 unfold prtAll
 rw [List.all_eq_true]
 intro c hc
 have:=itoa_digs h0 c (by simpa using hc)
 simp only [prt,Bool.and_eq_true,decide_eq_true_eq]
 omega
theorem Flt.kid {po ko:Int} {b:Bool} {x:List Nd} {t:ByteArray} (h:Flt x t):Flt (kidD po ko b x) (kidX po ko b t):=by
 unfold kidD kidX
 split
 ·refine (Flt.both (Flt.word (s:=⟨#[40]⟩) (by decide +kernel)) (Flt.both h (Flt.word (s:=⟨#[41]⟩) (by decide +kernel)))).of_eq ?_
  rw [ByteArray.append_assoc]
 ·exact h
theorem Flt.kids {l:List Nd} {g:Nat->List Nd} {t:Nat->ByteArray}:∀ (m a z:Nat),KidsP l a m z->0<m->(∀ b,a<=b->b<l.length->Flt (g b) (t b))->Flt (kidsD g (tEnd l) a m) (kidsX t (tEnd l) a m):=by
 intro m
 induction m with
 | zero=>intro a z h h0;omega
 | succ m ih =>
  intro a z h _ hg
  obtain ⟨h1,h2,h3⟩:=h
  have h4:=hg a (Nat.le_refl _) h1
  rw [kidsD,kidsX]
  split
  ·exact h4
  ·have h5:=ih _ _ h3 (by omega) (fun b hb hb2=>hg b (by omega) hb2)
   refine (Flt.both (Flt.both h4 (Flt.word (s:=⟨#[44]⟩) (by decide +kernel))) (Flt.both Flt.blank h5)).of_eq ?_
   rw [ByteArray.append_assoc,ByteArray.append_assoc,← ByteArray.append_assoc (a:=⟨#[44]⟩)]
   rfl
theorem Flt.listed {o c:ByteArray} {m:Nat} {k:List Nd} {t:ByteArray} (h:0<m->Flt k t) (hz:m=0->t=.empty) (ho:oneF 1 o 0=0) (hc:oneF 1 c 0=0) (hoc:oneF 1 (o++c) 0=0):Flt (listD o c m k) (o++t++c):=by
 unfold listD
 split
 ·rename_i e
  rw [hz e]
  exact (Flt.word hoc).of_eq (by simp)
 ·refine (Flt.group (Flt.both (Flt.word ho) (Flt.both (Flt.deep (Flt.both Flt.soft (h (by omega)))) (Flt.both Flt.soft (Flt.word hc))))).of_eq ?_
  simp [ByteArray.append_assoc]
theorem tone_word {op n:Int} {t:ByteArray} (h:treeOne op t n=0) (hn:namedF op=true) (h9:op≠9):nameF t=true:=by
 unfold treeOne at h
 split at h
 ·cases h
 ·split at h
  ·cases h
  ·try rw [if_neg h9] at h
   split at h
   ·cases h
   ·rename_i hh
    cases hf:nameF t with
    | true=>rfl
    | false=>exact absurd ⟨hn,hf⟩ hh
theorem tone_num {n:Int} {t:ByteArray} (h:treeOne 1 t n=0):0<=n/\n<=999999:=by
 unfold treeOne at h
 split at h
 ·cases h
 ·rename_i hh
  rw [show mostF 1=999999 from rfl] at hh
  omega
theorem docT_flat {l:List Nd} (hT:Tr l):∀ f i:Nat,l.length<=i+f->(hi:i<l.length)->l[i].op≠9->Flt (docT l f i) (textX l f i):=by
 intro f
 induction f with
 | zero=>intro i h1 h2;omega
 | succ f ih =>
  intro i h1 h2 h9
  have hk:=hT.kidsP h2
  have hm:(manyL l).getD i 0=(manyF l[i].op l[i].n).toNat:=manyL_at h2 rfl
  have hone:=hT.one _ (List.getElem_mem h2)
  have hop:1<=l[i].op/\l[i].op<=9:=by
   exact rq8
  rw [hm] at hk
  have ihk:∀ b,i+1<=b->b<l.length->Flt (docT l f b) (textX l f b):=fun b hb hl=>ih b (by omega) hl (by have:=hT.low hl (by omega);omega)
  rw [docT,textX,getD_at h2]
  generalize l[i].op=op at *
  generalize l[i].n=n at *
  generalize l[i].text=t at *
  have hcs:op=1∨op=2∨op=3∨op=4∨op=5∨op=6∨op=7∨op=8:=by omega
  have hw:∀ s:ByteArray,s.size<=10->prtAll s=true->nameF t=true->oneF 1 (t++s) 0=0:=fun s h1 h2 h=>by
   have h3:=name_facts h
   exact oneF_word (by rw [ByteArray.size_append];omega) (by rw [ByteArray.size_append];omega) (prtAll_app (name_prt h) h2)
  rcases hcs with rfl|rfl|rfl|rfl|rfl|rfl|rfl|rfl
  ·obtain ⟨n0,n1⟩:=tone_num hone
   simp only [if_true]
   exact Flt.word (itoa_word n0 n1)
  ·have hnm:=tone_word hone rfl (by decide)
   simp only [show ¬ (2:Int)=1 by decide,if_false,if_true]
   have h3:=name_facts hnm
   exact Flt.word (oneF_word h3.1 (by omega) (name_prt hnm))
  ·have hnm:=tone_word hone rfl (by decide)
   rw [show manyF 3 n=n from rfl] at hk
   simp only [show ¬ (3:Int)=1 by decide,show ¬ (3:Int)=2 by decide,if_false,if_true]
   refine Flt.listed (fun h0=>Flt.kids _ _ _ hk h0 ihk) (fun h0=>by rw [h0];rfl) (hw _ (by decide) (by decide) hnm) (by decide +kernel) ?_
   rw [ByteArray.append_assoc]
   exact hw _ (by decide) (by decide) hnm
  ·rw [show manyF 4 n=n from rfl] at hk
   simp only [show ¬ (4:Int)=1 by decide,show ¬ (4:Int)=2 by decide,show ¬ (4:Int)=3 by decide,if_false,if_true]
   exact Flt.listed (fun h0=>Flt.kids _ _ _ hk h0 ihk) (fun h0=>by rw [h0];rfl) (by decide +kernel) (by decide +kernel) (by decide +kernel)
  ·obtain ⟨a1,a2,b1,b2,b3⟩:i+1<l.length/\i+1<tEnd l (i+1)/\tEnd l (i+1)<l.length/\tEnd l (i+1)<tEnd l (tEnd l (i+1))/\tEnd l (tEnd l (i+1))=tEnd l i:=⟨hk.1,hk.2.1,hk.2.2.1,hk.2.2.2.1,hk.2.2.2.2⟩
   have q1:=ihk _ (Nat.le_refl _) a1
   have q2:=ihk _ (by omega) b1
   simp only [show ¬ (5:Int)=1 by decide,show ¬ (5:Int)=2 by decide,show ¬ (5:Int)=3 by decide,show ¬ (5:Int)=4 by decide,if_false,if_true]
   refine (Flt.group (Flt.both q1.kid (Flt.deep (Flt.both Flt.blank (Flt.both (Flt.word (s:=⟨#[43,32]⟩) (by decide +kernel)) q2.kid))))).of_eq ?_
   rw [show (⟨#[32,43,32]⟩:ByteArray)=⟨#[32]⟩++⟨#[43,32]⟩ by decide]
   simp [ByteArray.append_assoc]
  ·obtain ⟨a1,a2,b1,b2,b3⟩:i+1<l.length/\i+1<tEnd l (i+1)/\tEnd l (i+1)<l.length/\tEnd l (i+1)<tEnd l (tEnd l (i+1))/\tEnd l (tEnd l (i+1))=tEnd l i:=⟨hk.1,hk.2.1,hk.2.2.1,hk.2.2.2.1,hk.2.2.2.2⟩
   have q1:=ihk _ (Nat.le_refl _) a1
   have q2:=ihk _ (by omega) b1
   simp only [show ¬ (6:Int)=1 by decide,show ¬ (6:Int)=2 by decide,show ¬ (6:Int)=3 by decide,show ¬ (6:Int)=4 by decide,show ¬ (6:Int)=5 by decide,if_false,if_true]
   refine (Flt.group (Flt.both q1.kid (Flt.deep (Flt.both Flt.blank (Flt.both (Flt.word (s:=⟨#[42,32]⟩) (by decide +kernel)) q2.kid))))).of_eq ?_
   rw [show (⟨#[32,42,32]⟩:ByteArray)=⟨#[32]⟩++⟨#[42,32]⟩ by decide]
   simp [ByteArray.append_assoc]
  ·have hnm:=tone_word hone rfl (by decide)
   obtain ⟨a1,a2,b3⟩:i+1<l.length/\i+1<tEnd l (i+1)/\tEnd l (i+1)=tEnd l i:=⟨hk.1,hk.2.1,hk.2.2⟩
   have q1:=ihk _ (Nat.le_refl _) a1
   have h3:=name_facts hnm
   simp only [show ¬ (7:Int)=1 by decide,show ¬ (7:Int)=2 by decide,show ¬ (7:Int)=3 by decide,show ¬ (7:Int)=4 by decide,show ¬ (7:Int)=5 by decide,show ¬ (7:Int)=6 by decide,if_false,if_true]
   refine (Flt.group (Flt.both (Flt.word ?_) (Flt.deep (Flt.both Flt.blank (Flt.both q1 (Flt.word (s:=⟨#[59]⟩) (by decide +kernel))))))).of_eq ?_
   ·refine oneF_word ?_ ?_ (prtAll_app (prtAll_app (by decide) (name_prt hnm)) (by decide))
    ·simp only [ByteArray.size_append];omega
    ·simp only [ByteArray.size_append]
     show 4+t.size+2<=20
     omega
   ·rw [show (⟨#[32,61,32]⟩:ByteArray)=⟨#[32,61]⟩++⟨#[32]⟩ by decide]
    simp [ByteArray.append_assoc,letB]
  ·obtain ⟨a1,a2,b3⟩:i+1<l.length/\i+1<tEnd l (i+1)/\tEnd l (i+1)=tEnd l i:=⟨hk.1,hk.2.1,hk.2.2⟩
   have q1:=ihk _ (Nat.le_refl _) a1
   simp only [show ¬ (8:Int)=1 by decide,show ¬ (8:Int)=2 by decide,show ¬ (8:Int)=3 by decide,show ¬ (8:Int)=4 by decide,show ¬ (8:Int)=5 by decide,show ¬ (8:Int)=6 by decide,show ¬ (8:Int)=7 by decide,if_false]
   exact Flt.both q1 (Flt.word (s:=⟨#[59]⟩) (by decide +kernel))
end Go.Proofs.YtddfdmopaeghnadGreatDoor
namespace Go.Proofs.YtddfdmopaeghnadGreatDoor
def textL (l:List Nd):ByteArray:=textX l l.length 0
end Go.Proofs.YtddfdmopaeghnadGreatDoor
