/- Plain facts on ways: the plan of a doc (what is laid behind each part, how deep it is), and what laying gives. No program, no condition. -/
import Derived.Test.YtddfdmopaeghnadGreatDoorRqDp
namespace Go.Proofs.YtddfdmopaeghnadGreatDoor
def D.plan:D->Nat->Nat->Int->List (Nat × Int)
 | .leaf _,nx,_,dp=>[(nx,dp)]
 | .un d a,nx,i,dp=>(nx,dp)::a.plan nx (i+1) (dp+d.n)
 | .bin d a b,nx,i,dp=>(nx,dp)::(a.plan (if d.op=6 then i+1+a.sz else nx) (i+1) (dp+d.n)++b.plan nx (i+1+a.sz) (dp+d.n))
theorem D.plan_len (x:D):∀ nx i dp,(x.plan nx i dp).length=x.sz:=by
 induction x with
 | leaf d=>intro nx i dp;rfl
 | un d a ih=>intro nx i dp;simp [plan,sz,ih]
 | bin d a b ia ib=>intro nx i dp;simp [plan,sz,ia,ib]
theorem D.plan_head (x:D) (nx i:Nat) (dp:Int):∃ r,x.plan nx i dp=(nx,dp)::r:=by cases x <;> exact ⟨_,rfl⟩
theorem D.plan_at (x:D) (hx:x.ok):∀ (nx0 i0:Nat) (dp0:Int) (j:Nat),j<x.sz->∃ (nx:Nat) (dp:Int) (a:D) (r:List (Nat × Int)) (r':List Nd),(x.plan nx0 i0 dp0).drop j=a.plan nx (i0+j) dp++r/\x.enc.drop j=a.enc++r'/\a.ok:=by
 induction x with
 | leaf d =>
  intro nx0 i0 dp0 j hj
  simp only [sz] at hj
  obtain rfl:j=0:=by omega
  exact ⟨nx0,dp0,.leaf d,[],[],by simp,by simp,hx⟩
 | un d a ih =>
  intro nx0 i0 dp0 j hj
  cases j with
  | zero=>exact ⟨nx0,dp0,.un d a,[],[],by simp,by simp,hx⟩
  | succ j =>
   obtain ⟨nx,dp,y,r,r',h1,h2,h3⟩:=ih hx.2 nx0 (i0+1) (dp0+d.n) j (by simp only [sz] at hj;omega)
   exact ⟨nx,dp,y,r,r',by rw [plan,List.drop_succ_cons,h1];congr 2;omega,by rw [enc,List.drop_succ_cons,h2],h3⟩
 | bin d a b ia ib =>
  intro nx0 i0 dp0 j hj
  cases j with
  | zero=>exact ⟨nx0,dp0,.bin d a b,[],[],by simp,by simp,hx⟩
  | succ j =>
   simp only [sz] at hj
   by_cases hlt:j<a.sz
   ·obtain ⟨nx,dp,y,r,r',h1,h2,h3⟩:=ia hx.2.1 (if d.op=6 then i0+1+a.sz else nx0) (i0+1) (dp0+d.n) j hlt
    refine ⟨nx,dp,y,r++b.plan nx0 (i0+1+a.sz) (dp0+d.n),r'++b.enc, ?_, ?_,h3⟩
    ·rw [plan,List.drop_succ_cons,List.drop_append_of_le_length (by rw [plan_len];omega),h1,List.append_assoc]
     congr 2;omega
    ·rw [enc,List.drop_succ_cons,List.drop_append_of_le_length (by rw [len_enc];omega),h2,List.append_assoc]
   ·obtain ⟨nx,dp,y,r,r',h1,h2,h3⟩:=ib hx.2.2 nx0 (i0+1+a.sz) (dp0+d.n) (j-a.sz) (by omega)
    refine ⟨nx,dp,y,r,r', ?_, ?_,h3⟩
    ·rw [plan,List.drop_succ_cons,List.drop_append,List.drop_eq_nil_of_le (by rw [plan_len];omega),plan_len,h1,List.nil_append]
     congr 2;omega
    ·rw [enc,List.drop_succ_cons,List.drop_append,List.drop_eq_nil_of_le (by rw [len_enc];omega),len_enc,h2,List.nil_append]
def planOf (l:List Nd):List (Nat × Int):=(docAt l 0).plan l.length 0 0
def nextAt (l:List Nd) (i:Nat):Nat:=((planOf l).getD i (0,0)).1
def deepAt (l:List Nd) (i:Nat):Int:=((planOf l).getD i (0,0)).2
theorem Doc.plan_ {l:List Nd} {x:D} (h:Doc l x) {i:Nat} (hi:i<l.length):∃ r,(planOf l).drop i=(docAt l i).plan (nextAt l i) i (deepAt l i)++r:=by
 have hsz:l.length=x.sz:=by rw [h.enc,D.len_enc]
 obtain ⟨nx,dp,a,r,r',h1,h2,h3⟩:=x.plan_at h.ok l.length 0 0 i (by omega)
 have ha:docAt l i=a:=docAt_of (by rw [← h2,← h.enc]) h3
 have hp:planOf l=x.plan l.length 0 0:=by rw [planOf,h.root]
 rw [Nat.zero_add] at h1
 obtain ⟨q,hq⟩:=a.plan_head nx i dp
 have hg:(planOf l).getD i (0,0)=(nx,dp):=by
  rw [List.getD_eq_getElem?_getD]
  have:(planOf l)[i]?=((planOf l).drop i)[0]?:=by rw [List.getElem?_drop,Nat.add_zero]
  rw [this,hp,h1,hq];rfl
 refine ⟨r, ?_⟩
 rw [nextAt,deepAt,hg,ha,hp,h1]
theorem plan_get {l:List Nd} {i j:Nat} {p:Nat × Int} (h:((planOf l).drop i)[j]?=some p):nextAt l (i+j)=p.1/\deepAt l (i+j)=p.2:=by
 rw [List.getElem?_drop] at h
 unfold nextAt deepAt
 rw [List.getD_eq_getElem?_getD,h]
 exact ⟨rfl,rfl⟩
theorem Doc.root_plan {l:List Nd} {x:D} (_h:Doc l x):nextAt l 0=l.length/\deepAt l 0=0:=by
 obtain ⟨r,hr⟩:=(docAt l 0).plan_head l.length 0 0
 have:((planOf l).drop 0)[0]?=some (l.length,0):=by rw [List.drop_zero,planOf,hr];rfl
 exact plan_get this
theorem Doc.plan_un {l:List Nd} {x:D} (h:Doc l x) {i:Nat} (hi:i<l.length) (h1:parts l[i].op=1) :
  i+1<l.length/\docAt l i=.un l[i] (docAt l (i+1))/\nextAt l (i+1)=nextAt l i/\deepAt l (i+1)=deepAt l i+l[i].n:=by
 rcases h.parts_ hi with ⟨h2,_⟩|⟨_,h3,h4⟩|⟨h2,_⟩
 ·omega
 ·obtain ⟨r,hr⟩:=h.plan_ hi
  rw [h4,D.plan] at hr
  obtain ⟨q,hq⟩:=(docAt l (i+1)).plan_head (nextAt l i) (i+1) (deepAt l i+l[i].n)
  have:=plan_get (l:=l) (i:=i) (j:=1) (p:=(nextAt l i,deepAt l i+l[i].n)) (by rw [hr,hq];rfl)
  exact ⟨h3,h4,this.1,this.2⟩
 ·omega
theorem Doc.plan_bin {l:List Nd} {x:D} (h:Doc l x) {i:Nat} (hi:i<l.length) (h1:parts l[i].op=2) :
  i+1<endAt l (i+1)/\endAt l (i+1)<l.length/\docAt l i=.bin l[i] (docAt l (i+1)) (docAt l (endAt l (i+1))) /\
  nextAt l (i+1)=(if l[i].op=6 then endAt l (i+1) else nextAt l i)/\deepAt l (i+1)=deepAt l i+l[i].n /\
  nextAt l (endAt l (i+1))=nextAt l i/\deepAt l (endAt l (i+1))=deepAt l i+l[i].n:=by
 rcases h.parts_ hi with ⟨h2,_⟩|⟨h2,_⟩|⟨_,h3,h4,h5⟩
 ·omega
 ·omega
 ·obtain ⟨r,hr⟩:=h.plan_ hi
  rw [h5,D.plan] at hr
  have hp:=(docAt l (i+1)).sz_pos
  obtain ⟨q,hq⟩:=(docAt l (i+1)).plan_head (if l[i].op=6 then i+1+(docAt l (i+1)).sz else nextAt l i) (i+1) (deepAt l i+l[i].n)
  obtain ⟨q',hq'⟩:=(docAt l (i+1+(docAt l (i+1)).sz)).plan_head (nextAt l i) (i+1+(docAt l (i+1)).sz) (deepAt l i+l[i].n)
  have e1:=plan_get (l:=l) (i:=i) (j:=1) (p:=(if l[i].op=6 then i+1+(docAt l (i+1)).sz else nextAt l i,deepAt l i+l[i].n)) (by rw [hr,hq];rfl)
  have e2:=plan_get (l:=l) (i:=i) (j:=1+(docAt l (i+1)).sz) (p:=(nextAt l i,deepAt l i+l[i].n)) (by
   rw [hr,List.cons_append,show 1+(docAt l (i+1)).sz=(docAt l (i+1)).sz+1 from by omega,List.getElem?_cons_succ,List.append_assoc,List.getElem?_append_right (by rw [D.plan_len];exact Nat.le_refl _),D.plan_len,Nat.sub_self,hq'];rfl)
  rw [← Nat.add_assoc] at e2
  refine ⟨by unfold endAt;omega,by unfold endAt;exact h4,h5, ?_,e1.2,e2.1,e2.2⟩
  exact e1.1
def ChildOf (l:List Nd) (p j:Nat):Prop:=(0<parts (l.getD p ⟨0,.empty,0⟩).op/\j=p+1)∨(parts (l.getD p ⟨0,.empty,0⟩).op=2/\j=endAt l (p+1))
theorem D.parent (x:D) (hx:x.ok):∀ j,0<j->j<x.sz->∃ p,p<j/\((∃ d a r,x.enc.drop p=(D.un d a).enc++r/\(D.un d a).ok/\j=p+1)∨(∃ d a b r,x.enc.drop p=(D.bin d a b).enc++r/\(D.bin d a b).ok/\(j=p+1∨j=p+1+a.sz))):=by
 induction x with
 | leaf d=>intro j h0 h1;simp only [sz] at h1;omega
 | un d a ih =>
  intro j h0 h1
  by_cases hj:j=1
  ·exact ⟨0,by omega,.inl ⟨d,a,[],by simp,hx,by omega⟩⟩
  ·obtain ⟨p,hp,h⟩:=ih hx.2 (j-1) (by omega) (by simp only [sz] at h1;omega)
   refine ⟨p+1,by omega, ?_⟩
   rcases h with ⟨d',a',r,e,o,hj'⟩|⟨d',a',b',r,e,o,hj'⟩
   ·exact .inl ⟨d',a',r,by rw [enc,List.drop_succ_cons,e],o,by omega⟩
   ·exact .inr ⟨d',a',b',r,by rw [enc,List.drop_succ_cons,e],o,by omega⟩
 | bin d a b ia ib =>
  intro j h0 h1
  simp only [sz] at h1
  by_cases hj:j=1
  ·exact ⟨0,by omega,.inr ⟨d,a,b,[],by simp,hx,.inl (by omega)⟩⟩
  by_cases hk:j=1+a.sz
  ·exact ⟨0,by omega,.inr ⟨d,a,b,[],by simp,hx,.inr (by omega)⟩⟩
  by_cases hlt:j-1<a.sz
  ·obtain ⟨p,hp,h⟩:=ia hx.2.1 (j-1) (by omega) hlt
   have hd:(D.bin d a b).enc.drop (p+1)=a.enc.drop p++b.enc:=by rw [enc,List.drop_succ_cons,List.drop_append_of_le_length (by rw [len_enc];omega)]
   refine ⟨p+1,by omega, ?_⟩
   rcases h with ⟨d',a',r,e,o,hj'⟩|⟨d',a',b',r,e,o,hj'⟩
   ·exact .inl ⟨d',a',r++b.enc,by rw [hd,e,List.append_assoc],o,by omega⟩
   ·exact .inr ⟨d',a',b',r++b.enc,by rw [hd,e,List.append_assoc],o,by omega⟩
  ·obtain ⟨p,hp,h⟩:=ib hx.2.2 (j-1-a.sz) (by omega) (by omega)
   have hd:(D.bin d a b).enc.drop (p+1+a.sz)=b.enc.drop p:=by
    rw [enc,show p+1+a.sz=(a.sz+p)+1 by omega,List.drop_succ_cons,List.drop_append,List.drop_eq_nil_of_le (by rw [len_enc];omega),len_enc,List.nil_append]
    congr 1;omega
   refine ⟨p+1+a.sz,by omega, ?_⟩
   rcases h with ⟨d',a',r,e,o,hj'⟩|⟨d',a',b',r,e,o,hj'⟩
   ·exact .inl ⟨d',a',r,by rw [hd,e],o,by omega⟩
   ·exact .inr ⟨d',a',b',r,by rw [hd,e],o,by omega⟩
theorem Doc.parent {l:List Nd} {x:D} (h:Doc l x) {j:Nat} (h0:0<j) (hj:j<l.length):∃ p,p<j/\ChildOf l p j:=by
 have hsz:l.length=x.sz:=by rw [h.enc,D.len_enc]
 obtain ⟨p,hp,hh⟩:=x.parent h.ok j h0 (by omega)
 have hpl:p<l.length:=by omega
 have hget:l.getD p ⟨0,.empty,0⟩=l[p]:=by simp [hpl]
 rw [← h.enc] at hh
 refine ⟨p,hp, ?_⟩
 have hcons:=List.drop_eq_getElem_cons hpl
 have htail:l.drop (p+1)=(l.drop p).tail:=by rw [hcons];rfl
 rcases hh with ⟨d,a,r,e,o,e1⟩|⟨d,a,b,r,e,o,e1⟩
 ·have:l[p]=d:=by
   have h1:=e;rw [hcons] at h1
   simp only [D.enc,List.cons_append,List.cons.injEq] at h1
   exact h1.1
  refine .inl ⟨by rw [hget,this,o.1];omega,e1⟩
 ·have hd:l[p]=d:=by
   have h1:=e;rw [hcons] at h1
   simp only [D.enc,List.cons_append,List.cons.injEq] at h1
   exact h1.1
  rcases e1 with e1|e1
  ·exact .inl ⟨by rw [hget,hd,o.1];omega,e1⟩
  ·refine .inr ⟨by rw [hget,hd,o.1], ?_⟩
   have hda:docAt l (p+1)=a:=docAt_of (r:=b.enc++r) (by rw [htail,e];simp [D.enc]) o.2.1
   rw [endAt,hda];exact e1
theorem Doc.deep_bd {l:List Nd} {x:D} (h:Doc l x):∀ i,i<l.length->0<=deepAt l i/\deepAt l i<=8*i:=by
 intro i
 induction i using Nat.strongRecOn with
 | ind i ih =>
  intro hi
  by_cases h0:i=0
  ·subst h0;rw [h.root_plan.2];omega
  ·obtain ⟨p,hp,hc⟩:=h.parent (by omega) hi
   have hpl:p<l.length:=by omega
   have hget:l.getD p ⟨0,.empty,0⟩=l[p]:=by simp [hpl]
   obtain ⟨b1,b2⟩:=ih p hp hpl
   have hone:=h.one _ (List.getElem_mem hpl)
   have hn:0<=l[p].n/\l[p].n<=8:=by
    unfold oneF at hone
    by_cases c1:l[p].op<1∨9<l[p].op
    ·rw [if_pos c1] at hone;cases hone
    ·rw [if_neg c1] at hone
     split at hone
     ·cases hone
     ·split at hone
      ·cases hone
      ·split at hone
       ·cases hone
       ·omega
   have hb:=parts_bd l[p].op
   rw [ChildOf,hget] at hc
   by_cases h2:parts l[p].op=2
   ·obtain ⟨_,_,_,_,e1,_,e2⟩:=h.plan_bin hpl h2
    rcases hc with ⟨_,rfl⟩|⟨_,rfl⟩
    ·rw [e1];omega
    ·rw [e2];have:=(h.plan_bin hpl h2).1;omega
   ·rcases hc with ⟨h3,rfl⟩|⟨h3,_⟩
    ·obtain ⟨_,_,_,e1⟩:=h.plan_un hpl (by omega)
     rw [e1];omega
    ·omega
def blanksB (n:Nat):ByteArray:=⟨(List.replicate n 32).toArray⟩
def D.lay:D->Int->List Int->Except Int (ByteArray × List Int)
 | .leaf d,dp,w=>if d.op=1 then .ok (d.text,w) else if d.op=5 then .ok (.empty,w) else .ok (⟨#[10]⟩++blanksB dp.toNat,w)
 | .un d a,dp,w=>if d.op=7 then a.lay (dp+d.n) w else
  match w with
  | []=>.error 2
  | c::w'=>if c=0 then (match a.flat with|some s=>.ok (s,w')|none=>.error 4) else a.lay (dp+d.n) w'
 | .bin d a b,dp,w=>if d.op=6 then
   match a.lay (dp+d.n) w with
   | .error e=>.error e
   | .ok (s,w')=>match b.lay (dp+d.n) w' with
    | .error e=>.error e
    | .ok (t,w'')=>.ok (s++t,w'')
  else
  match w with
  | []=>.error 2
  | c::w'=>if c=0 then a.lay (dp+d.n) w' else b.lay (dp+d.n) w'
def layK:List (D × Int)->List Int->ByteArray->Except Int (ByteArray × List Int)
 | [],w,acc=>.ok (acc,w)
 | (x,dp)::K,w,acc=>match x.lay dp w with
  | .error e=>.error e
  | .ok (s,w')=>layK K w' (acc++s)
theorem layK_both {d:Nd} {a b:D} {dp:Int} {K:List (D × Int)} {w:List Int} {acc:ByteArray} (h:d.op=6) :
  layK ((.bin d a b,dp)::K) w acc=layK ((a,dp+d.n)::(b,dp+d.n)::K) w acc:=by
 simp only [layK,D.lay,h,if_true]
 cases a.lay (dp+d.n) w with
 | error e=>rfl
 | ok p =>
  simp only
  cases b.lay (dp+d.n) p.2 with
  | error e=>rfl
  | ok q=>simp only [ByteArray.append_assoc]
inductive Rep (l:List Nd):Nat->List (D × Int)->Prop where
 | done:Rep l l.length []
 | at_ (i:Nat) (K:List (D × Int)):i<l.length->Rep l (nextAt l i) K->Rep l i ((docAt l i,deepAt l i)::K)
theorem Rep.lt {l:List Nd} {i:Nat} {K:List (D × Int)} (h:Rep l i K) (hi:i<l.length):∃ K',K=(docAt l i,deepAt l i)::K'/\Rep l (nextAt l i) K':=by
 cases h with
 | done=>omega
 | at_ _ K _ hr=>exact ⟨K,rfl,hr⟩
theorem Rep.ge {l:List Nd} {i:Nat} {K:List (D × Int)} (h:Rep l i K) (hi:l.length<=i):K=[]/\i=l.length:=by
 cases h with
 | done=>exact ⟨rfl,rfl⟩
 | at_ _ K h1 hr=>omega
theorem Doc.rep0 {l:List Nd} {x:D} (h:Doc l x):Rep l 0 [(x,0)]:=by
 have:=Rep.at_ (l:=l) 0 [] h.pos (by rw [h.root_plan.1];exact .done)
 rw [h.root,h.root_plan.2] at this
 exact this
theorem Rep.un {l:List Nd} {x:D} (h:Doc l x) {i:Nat} (hi:i<l.length) (h1:parts l[i].op=1) {K:List (D × Int)} (hr:Rep l (nextAt l i) K):Rep l (i+1) ((docAt l (i+1),deepAt l i+l[i].n)::K):=by
 obtain ⟨h2,_,h3,h4⟩:=h.plan_un hi h1
 rw [← h4]
 exact .at_ _ _ h2 (by rw [h3];exact hr)
theorem Rep.bin {l:List Nd} {x:D} (h:Doc l x) {i:Nat} (hi:i<l.length) (h1:parts l[i].op=2) {K:List (D × Int)} (hr:Rep l (nextAt l i) K) :
  Rep l (endAt l (i+1)) ((docAt l (endAt l (i+1)),deepAt l i+l[i].n)::K):=by
 obtain ⟨_,h2,_,_,_,h3,h4⟩:=h.plan_bin hi h1
 rw [← h4]
 exact .at_ _ _ h2 (by rw [h3];exact hr)
theorem Rep.both {l:List Nd} {x:D} (h:Doc l x) {i:Nat} (hi:i<l.length) (h1:l[i].op=6) {K:List (D × Int)} (hr:Rep l (nextAt l i) K) :
  Rep l (i+1) ((docAt l (i+1),deepAt l i+l[i].n)::(docAt l (endAt l (i+1)),deepAt l i+l[i].n)::K):=by
 have hp:parts l[i].op=2:=by rw [h1];rfl
 obtain ⟨g1,g2,_,g3,g4,_,_⟩:=h.plan_bin hi hp
 rw [← g4]
 refine .at_ _ _ (by omega) ?_
 rw [g3,if_pos h1,g4]
 exact Rep.bin h hi hp hr
theorem Rep.either {l:List Nd} {x:D} (h:Doc l x) {i:Nat} (hi:i<l.length) (h1:l[i].op=9) {K:List (D × Int)} (hr:Rep l (nextAt l i) K) :
  Rep l (i+1) ((docAt l (i+1),deepAt l i+l[i].n)::K):=by
 have hp:parts l[i].op=2:=by rw [h1];rfl
 obtain ⟨g1,g2,_,g3,g4,_,_⟩:=h.plan_bin hi hp
 rw [← g4]
 refine .at_ _ _ (by omega) ?_
 rw [g3,if_neg (by omega)]
 exact hr
def szK:List (D × Int)->Nat
 | []=>0
 | (x,_)::K=>x.sz+szK K
end Go.Proofs.YtddfdmopaeghnadGreatDoor
