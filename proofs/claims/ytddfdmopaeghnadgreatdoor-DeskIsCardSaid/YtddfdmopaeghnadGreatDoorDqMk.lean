/- Plain facts on statements as the reference tells them: trees skipped, the first node at fault, a note's words cut at each blank. With what it rests on. Conditions: as each theorem states them. -/
import Derived.Test.YtddfdmopaeghnadGreatDoorDqTr
import Derived.Lib.IndexLaws
import Derived.Lib.ItoaNum
import Derived.Lib.ItoaMem
import Derived.Test.YtddfdmopaeghnadGreatDoorDqWp
namespace Go.Proofs.YtddfdmopaeghnadGreatDoor
variable {P Q:Prop}
section
def dU_:List Nat->Nat->Option (List Nat)
 | l,0=>some l
 | [],_+1=>none
 | m::r,k+1=>dU_ r (k+m)
theorem fM_ (l:List Nat):dU_ l 0=some l:=by cases l <;> rfl
theorem agL_:∀ (l:List Nat) (a b:Nat),dU_ l (a+b)=(dU_ l a).bind fun r=>dU_ r b:=by
 intro l
 induction l with
 | nil =>
  intro a b
  cases a with
  | zero=>rw [fM_,Nat.zero_add];rfl
  | succ a=>rw [show a+1+b=(a+b)+1 by omega];rfl
 | cons m r ih =>
  intro a b
  cases a with
  | zero=>rw [fM_,Nat.zero_add];rfl
  | succ a =>
   rw [show a+1+b=(a+b)+1 by omega,dU_,dU_,show a+b+m=(a+m)+b by omega,ih]
theorem p4_:∀ (l:List Nat) (k:Nat) (r:List Nat),dU_ l k=some r->∃ j,j<=l.length/\r=l.drop j/\(0<k->0<j):=by
 intro l
 induction l with
 | nil =>
  intro k r h
  cases k with
  | zero=>rw [fM_] at h;cases h;exact ⟨0,by simp,rfl,fun h=>absurd h om_⟩
  | succ k=>cases h
 | cons m l ih =>
  intro k r h
  cases k with
  | zero=>rw [fM_] at h;cases h;exact ⟨0,by simp,rfl,fun h=>absurd h om_⟩
  | succ k =>
   rw [dU_] at h
   obtain ⟨j,h1,h2,_⟩:=ih _ _ h
   exact ⟨j+1,by simpa using h1,by rw [h2];rfl,fun _=>by omega⟩
def p2_ (g:Nat->Option Nat):Nat->Option Nat->Option Nat
 | 0,v=>v
 | _+1,none=>none
 | m+1,some c=>p2_ g m (g c)
def eoT (l:List Nd):Nat->Nat->Option Nat
 | 0,_=>none
 | f+1,i=>if l.length<=i then none else p2_ (eoT l f) ((b3_ l).getD i 0) (some (i+1))
def opT:Option Nat->Int|some c=>c|none=>-1
theorem qS_ (l:List Nd):∀ f i:Nat,l.length<=i+f->i<=l.length->eoT l f i=(dU_ ((b3_ l).drop i) 1).map fun r=>l.length-r.length:=by
 intro f
 induction f with
 | zero =>
  intro i h1 h2
  rw [List.drop_eq_nil_of_le (by rw [cV_];omega)];rfl
 | succ f ih =>
  have hrun:∀ m c:Nat,l.length<=c+f->c<=l.length->p2_ (eoT l f) m (some c)=(dU_ ((b3_ l).drop c) m).map fun r=>l.length-r.length:=by
   intro m
   induction m with
   | zero =>
    intro c h1 h2
    rw [fM_,p2_,Option.map_some,List.length_drop,cV_]
    congr 1;omega
   | succ m ihm =>
    intro c h1 h2
    rw [p2_,ih c h1 h2,show m+1=1+m by omega,agL_]
    cases hs:dU_ ((b3_ l).drop c) 1 with
    | none=>cases m <;> rfl
    | some r =>
     obtain ⟨j,g1,g2,g3⟩:=p4_ _ _ _ hs
     rw [List.length_drop,cV_] at g1
     rw [List.drop_drop] at g2
     have hl:l.length-r.length=c+j:=by rw [g2,List.length_drop,cV_];omega
     rw [Option.map_some,hl,ihm (c+j) om_ om_,← g2];rfl
  intro i h1 h2
  rw [eoT]
  by_cases hi:l.length<=i
  ·rw [if_pos hi,List.drop_eq_nil_of_le (by rw [cV_];omega)];rfl
  ·have hlt:i<(b3_ l).length:=by rw [cV_];omega
   rw [if_neg hi,hrun _ (i+1) om_ om_,List.drop_eq_getElem_cons hlt,dU_,Nat.zero_add]
   congr 2
   simp [hlt]
theorem asP_ {l:List Nd} {f i c:Nat} (h1:l.length<=i+f) (h2:i<=l.length) (h:eoT l f i=some c):i<c/\c<=l.length:=by
 rw [qS_ l f i h1 h2] at h
 cases hs:dU_ ((b3_ l).drop i) 1 with
 | none=>rw [hs] at h;cases h
 | some r =>
  rw [hs,Option.map_some] at h
  obtain ⟨j,g1,g2,g3⟩:=p4_ _ _ _ hs
  have hl:=congrArg List.length g2
  rw [List.drop_drop,List.length_drop,cV_] at hl
  rw [List.length_drop,cV_] at g1
  injection h with h
  have:=g3 om_
  omega
theorem ao5_ (l:List Nd):(opT (eoT l l.length 0)=(l.length:Int))↔dU_ (b3_ l) 1=some []:=by
 rw [qS_ l l.length 0 om_ om_,List.drop_zero]
 cases hs:dU_ (b3_ l) 1 with
 | none =>
  simp only [Option.map_none,opT];constructor
  ·intro h;omega
  ·intro h;cases h
 | some r =>
  obtain ⟨j,g1,g2,g3⟩:=p4_ _ _ _ hs
  simp only [Option.map_some,opT,Option.some.injEq]
  have hl:=congrArg List.length g2
  rw [List.length_drop,cV_] at hl
  rw [cV_] at g1
  have h3:=g3 om_
  constructor
  ·intro h;exact List.eq_nil_of_length_eq_zero om_
  ·intro h;rw [h] at hl ⊢;simp
theorem aj2_ {l:List Nd} {i:Nat}:dU_ ((b3_ l).drop i) 1=some ((b3_ l).drop (a0_ l i))->opT (eoT l (l.length-i) i)=(a0_ l i:Nat):=by
 intro h
 rcases Nat.lt_or_ge i l.length with hi|hi
 ·rw [qS_ l _ i om_ om_,h]
  simp only [Option.map_some,opT]
  have hb:a0_ l i<=l.length:=by
   unfold a0_ hN_
   cases hp:(cL_ l i).tail with
   | nil=>simp
   | cons a r =>
    have:a ∈ cL_ l i:=List.mem_of_mem_tail (by rw [hp];simp)
    have:=(nL_ l i a this).2
    simp;omega
  rw [List.length_drop,cV_]
  congr 1;omega
 ·rw [List.drop_eq_nil_of_le (by rw [cV_];omega)] at h;cases h
theorem Tr.skip {l:List Nd} (h:Tr l):∀ f i k:Nat,l.length<=i+f->i<=l.length->k<=(cL_ l i).length->dU_ ((b3_ l).drop i) k=some ((b3_ l).drop (hN_ l ((cL_ l i).drop k))):=by
 intro f
 induction f with
 | zero =>
  intro i k h1 h2 h3
  obtain rfl:i=l.length:=by omega
  rw [fR_ (Nat.le_refl _)] at h3 ⊢
  obtain rfl:k=0:=by simpa using h3
  rw [fM_];rfl
 | succ f ih =>
  intro i k h1 h2 h3
  cases k with
  | zero=>rw [fM_,List.drop_zero,xC_ h2]
  | succ k =>
   have hi:i<l.length:=by
    rcases Nat.lt_or_ge i l.length with h|h
    ·exact h
    ·rw [fR_ h] at h3;simp at h3
   have hlt:i<(b3_ l).length:=by rw [cV_];exact hi
   have hm:(b3_ l).getD i 0=(b3_ l)[i]:=by simp [hlt]
   have hr:=h.room i hi
   rw [h8_ hi,List.length_cons,List.length_drop] at h3
   rw [List.drop_eq_getElem_cons hlt,dU_,h8_ hi,List.drop_succ_cons,List.drop_drop,← hm,ih (i+1) _ om_ om_ om_,Nat.add_comm k]
theorem Tr.endOf {l:List Nd} (h:Tr l) {i:Nat} (hi:i<l.length):opT (eoT l (l.length-i) i)=(a0_ l i:Nat):=by
 refine aj2_ ?_
 rw [h.skip l.length i 1 om_ om_ (by rw [h8_ hi];simp),a0_,List.drop_one]
def f5_:List Nd->Bool->Bool
 | [],_=>true
 | d::r,b=>(decide (7<=d.op)==b)&&f5_ r false
theorem pC_ {l:List Nd} {k:Nat} {op n:Int} {t:ByteArray} (hk:k<l.length) (hd:l[k]=Nd.mk op t n):f5_ (l.drop k) (decide (k=0))=((decide (7<=op)==decide (k=0))&&f5_ (l.drop (k+1)) (decide (k+1=0))):=by
 rw [List.drop_eq_getElem_cons hk,hd];rfl
theorem al8_ {l:List Nd} {k:Nat} {b:Bool} (hk:l.length<=k):f5_ (l.drop k) b=true:=by rw [List.drop_eq_nil_of_le hk];rfl
theorem akV_:∀ (l:List Nd) (b:Bool) (nd:Int) (wh:Bool),(∀ d ∈ l,a8_ d.op d.text d.n=0)->f1_ l b nd wh=0∨f1_ l b nd wh=2:=by
 intro l
 induction l with
 | nil=>intro b nd wh _;simp only [f1_];split <;> simp
 | cons d r ih =>
  intro b nd wh h
  rw [f1_,if_neg (by simp [h d si_])]
  exact ih _ _ _ fun x hx=>h x (by simp [hx])
theorem akU_:∀ (l:List Nd) (b:Bool) (k:Nat),(∀ d ∈ l,a8_ d.op d.text d.n=0)->(f1_ l b k true=0↔dU_ (b3_ l) k=some []/\f5_ l b=true):=by
 intro l
 induction l with
 | nil =>
  intro b k _
  cases k with
  | zero=>simp [f1_,b3_,dU_,f5_]
  | succ k=>simp [f1_,b3_,dU_];omega
 | cons d r ih =>
  intro b k h
  have h0:=h d si_
  have hr:∀ x ∈ r,a8_ x.op x.text x.n=0:=fun x hx=>h x (by simp [hx])
  have hb:=fG_ h0
  have hm:b3_ (d::r)=(aL_ d.op d.n).toNat::b3_ r:=rfl
  rw [f1_,if_neg (by simp [h0]),hm]
  cases k with
  | zero =>
   have:(true&&decide ((0:Int)<((0:Nat):Int))&&(decide (7<=d.op)==b))=false:=by simp
   rw [this,fM_]
   constructor
   ·intro h;exact absurd h (nV_ _ _ _)
   ·rintro ⟨h,_⟩;cases h
  | succ k =>
   have hd:decide ((0:Int)<((k+1:Nat):Int))=true:=decide_eq_true om_
   have hn:((k+1:Nat):Int)+aL_ d.op d.n-1=((k+(aL_ d.op d.n).toNat:Nat):Int):=by omega
   rw [hd,hn,dU_,f5_]
   cases hq:(decide (7<=d.op)==b) with
   | true =>
    simp only [Bool.and_self,Bool.true_and]
    exact ih false _ hr
   | false =>
    simp only [Bool.and_false,Bool.false_and]
    constructor
    ·intro h;exact absurd h (nV_ _ _ _)
    ·rintro ⟨_,h⟩;cases h
theorem sQ_ {l:List Nd} (h40:¬ 40<l.length) (h:∀ d ∈ l,a8_ d.op d.text d.n=0):aM_ l=if dU_ (b3_ l) 1=some []/\f5_ l true=true then 0 else 2:=by
 rw [aM_,if_neg h40]
 have h1:=akU_ l true 1 h
 rw [show ((1:Nat):Int)=1 from rfl] at h1
 split
 ·rename_i hc;exact h1.2 hc
 ·rename_i hc
  rcases akV_ l true 1 true h with h2|h2
  ·exact absurd (h1.1 h2) hc
  ·exact h2
theorem adM_:∀ (l:List Nd) (b:Bool) (nd:Int) (wh:Bool) (k:Nat) (hk:k<l.length) (op n:Int) (t:ByteArray),l[k]=Nd.mk op t n->(∀ d ∈ l.take k,a8_ d.op d.text d.n=0)->a8_ op t n≠0->f1_ l b nd wh=a8_ op t n:=by
 intro l
 induction l with
 | nil=>intro b nd wh k hk;simp at hk
 | cons d r ih =>
  intro b nd wh k hk op n t hd hg hz
  rw [f1_]
  cases k with
  | zero =>
   simp only [List.getElem_cons_zero] at hd
   subst hd
   rw [if_pos hz]
  | succ k =>
   rw [List.take_succ_cons] at hg
   rw [if_neg (by simp [hg d si_])]
   exact ih _ _ _ k (by simpa using hk) op n t (by simpa using hd) (fun x hx=>hg x (by simp [hx])) hz
theorem aa4_ {l:List Nd} (h40:¬ 40<l.length) {k:Nat} (hk:k<l.length) {op n:Int} {t:ByteArray} (hd:l[k]=Nd.mk op t n) (hg:∀ d ∈ l.take k,a8_ d.op d.text d.n=0):a8_ op t n≠0->aM_ l=a8_ op t n:=by
 intro hz
 rw [aM_,if_neg h40]
 exact adM_ l _ _ _ k hk op n t hd hg hz
theorem adQ_ {l:List Nd} {k:Nat} {op n:Int} {t:ByteArray} (h:∀ d ∈ l.take k,a8_ d.op d.text d.n=0) (hk:k<l.length) (hd:l[k]=Nd.mk op t n) (h0:a8_ op t n=0):∀ d ∈ l.take (k+1),a8_ d.op d.text d.n=0:=by
 intro d hm
 rw [List.take_succ_eq_append_getElem hk,List.mem_append] at hm
 rcases hm with hm|hm
 ·exact h d hm
 ·simp only [List.mem_singleton] at hm
  rw [hm,hd];exact h0
def hY_ (s:ByteArray) (m j:Nat):Prop:=∀ x,m<=x->x<j->s.data.toList[x]?≠some 32
theorem hY_.nil (s:ByteArray) (m:Nat):hY_ s m m:=fun x h1 h2=>absurd h1 om_
theorem hY_.more {s:ByteArray} {m j:Nat} (h:hY_ s m j) (hj:j<s.size) (hc:s[j]≠32):hY_ s m (j+1):=by
 intro x h1 h2
 by_cases e:x=j
 ·subst e
  have hl:x<s.data.toList.length:=by simpa using hj
  rw [List.getElem?_eq_getElem hl]
  intro h
  injection h with h
  exact hc h
 ·exact h x h1 om_
def iJ_ (s:ByteArray) (m:Nat):List ByteArray:=Lib.splitB spB 0 (Lib.countB (s.extract m s.size) spB) (s.extract m s.size)
theorem tE_ (l:List UInt8) (i:Nat):Lib.occAt l [32] i=(l[i]?==some 32):=by
 unfold Lib.occAt
 cases hd:l.drop i with
 | nil =>
  have:l.length<=i:=by have:=congrArg List.length hd;rw [List.length_drop,List.length_nil] at this;omega
  rw [List.getElem?_eq_none this];rfl
 | cons a r =>
  have:l[i]?=some a:=by
   have h:=congrArg (fun x=>x[0]?) hd
   simp only [List.getElem?_drop,Nat.add_zero,List.getElem?_cons_zero] at h
   exact h
  rw [this]
  simp [List.isPrefixOf]
  rw [Bool.eq_iff_iff,beq_iff_eq,beq_iff_eq];exact eq_comm
theorem fN_ (s:ByteArray) (m:Nat):(s.extract m s.size).data.toList=s.data.toList.drop m:=by
 rw [Lib.extract_data,List.take_of_length_le]
 rw [List.length_drop];simp
theorem zG_ {s:ByteArray} {m i:Nat} (hm:m<=i) (hi:i<s.size) (hn:hY_ s m i) (hc:s[i]=32):Lib.indexB (s.extract m s.size) spB=((i-m:Nat):Int):=by
 have hl:i<s.data.toList.length:=by simpa using hi
 refine Lib.index_hit (s:=(s.extract m s.size).data.toList) (sub:=[32]) (fun j hj=>?_) ?_ ?_
 ·rw [tE_,fN_,List.getElem?_drop]
  have:=hn (m+j) om_ om_
  simpa using this
 ·rw [fN_,List.length_drop];omega
 ·rw [tE_,fN_,List.getElem?_drop,show m+(i-m)=i by omega,List.getElem?_eq_getElem hl]
  have:s.data.toList[i]=32:=hc
  rw [this];rfl
theorem vX_ {s:ByteArray} {m:Nat} (hn:hY_ s m s.size):Lib.indexB (s.extract m s.size) spB=-1:=by
 refine Lib.index_none (s:=(s.extract m s.size).data.toList) (sub:=[32]) (fun j hj=>?_)
 rw [tE_,fN_,List.getElem?_drop]
 by_cases h:m+j<s.size
 ·simpa using hn (m+j) om_ h
 ·rw [List.getElem?_eq_none so_];rfl
theorem aaB_ (s:ByteArray) (m a b:Nat):(s.extract m s.size).extract a b=s.extract (m+a) (m+b):=by
 apply ByteArray.ext
 apply Array.toList_inj.1
 rw [Lib.extract_data,fN_,Lib.extract_data,List.drop_drop]
 congr 1;omega
theorem yO_ {s:ByteArray} {m i:Nat} (hm:m<=i) (hi:i<s.size) (hn:hY_ s m i) (hc:s[i]=32):iJ_ s m=s.extract m i::iJ_ s (i+1):=by
 have hx:=zG_ hm hi hn hc
 have hz:(s.extract m s.size).size=s.size-m:=by rw [ByteArray.size_extract];omega
 have e2:(s.extract m s.size).extract (i-m+spB.size) (s.extract m s.size).size=s.extract (i+1) s.size:=by
  rw [hz,aaB_ s m _ _]
  congr 1
  ·show m+(i-m+1)=i+1;omega
  ·omega
 unfold iJ_
 rw [Lib.countB_hit _ spB (i-m) de_ hx,Nat.add_comm 1,Lib.splitB_hit _ _ _ _ _ hx,e2]
 congr 1
 rw [aaB_ s m _ _,Nat.add_zero]
 congr 1;omega
theorem lP_ {s:ByteArray} {m:Nat} (hn:hY_ s m s.size):iJ_ s m=[s.extract m s.size]:=Lib.splitB_miss _ _ _ _ (vX_ hn)
theorem ao6_ (s:ByteArray):s.extract 0 s.size=s:=by
 apply ByteArray.ext
 apply Array.toList_inj.1
 rw [fN_,List.drop_zero]
theorem nF_ {s:ByteArray} (h:s.toList≠[]):aJ_ s=iJ_ s 0:=by
 rw [aJ_,if_neg h,iJ_,ao6_]
end
section
def aQ_ (s:ByteArray):List Nd:=[⟨1,s,0⟩]
def opN (k:Int):List Nd:=[⟨k,.empty,0⟩]
def aN_ (a b:List Nd):List Nd:=⟨6,.empty,0⟩::(a++b)
def cA_ (a:List Nd):List Nd:=⟨8,.empty,0⟩::a
def d4_ (a:List Nd):List Nd:=⟨7,.empty,2⟩::a
def bV_ (po ko:Int) (second:Bool):Bool:=(decide (po=6)&&decide (ko=5))||(second&&(decide (po=5)||decide (po=6))&&decide (ko=po))
def dF_ (po ko:Int) (second:Bool) (x:List Nd):List Nd:=if bV_ po ko second=true then aN_ (aQ_ ⟨#[40]⟩) (aN_ x (aQ_ ⟨#[41]⟩)) else x
def bU_ (g:Nat->List Nd) (e:Nat->Nat):Nat->Nat->List Nd
 | _,0=>[]
 | a,m+1=>if m=0 then g a else aN_ (aN_ (g a) (aQ_ ⟨#[44]⟩)) (aN_ (opN 2) (bU_ g e (e a) m))
def d8_ (o c:ByteArray) (m:Nat) (k:List Nd):List Nd:=if m=0 then aQ_ (o++c) else cA_ (aN_ (aQ_ o) (aN_ (d4_ (aN_ (opN 3) k)) (aN_ (opN 3) (aQ_ c))))
def iK_ (s:ByteArray) (a b:List Nd):List Nd:=cA_ (aN_ a (d4_ (aN_ (opN 2) (aN_ (aQ_ s) b))))
def a9_ (l:List Nd) (i:Nat):Int:=(l.getD i ⟨0,.empty,0⟩).op
def aC_ (l:List Nd):Nat->Nat->List Nd
 | 0,_=>[]
 | f+1,i =>
  let d:=l.getD i ⟨0,.empty,0⟩
  if d.op=1 then aQ_ ⟨(Lib.itoa d.n).toArray⟩
  else if d.op=2 then aQ_ d.text
  else if d.op=3 then d8_ (d.text++⟨#[40]⟩) ⟨#[41]⟩ d.n.toNat (bU_ (aC_ l f) (a0_ l) (i+1) d.n.toNat)
  else if d.op=4 then d8_ ⟨#[91]⟩ ⟨#[93]⟩ d.n.toNat (bU_ (aC_ l f) (a0_ l) (i+1) d.n.toNat)
  else if d.op=5 then iK_ ⟨#[43,32]⟩ (dF_ 5 (a9_ l (i+1)) false (aC_ l f (i+1))) (dF_ 5 (a9_ l (a0_ l (i+1))) true (aC_ l f (a0_ l (i+1))))
  else if d.op=6 then iK_ ⟨#[42,32]⟩ (dF_ 6 (a9_ l (i+1)) false (aC_ l f (i+1))) (dF_ 6 (a9_ l (a0_ l (i+1))) true (aC_ l f (a0_ l (i+1))))
  else if d.op=7 then cA_ (aN_ (aQ_ (⟨#[108,101,116,32]⟩++d.text++⟨#[32,61]⟩)) (d4_ (aN_ (opN 2) (aN_ (aC_ l f (i+1)) (aQ_ ⟨#[59]⟩)))))
  else aN_ (aC_ l f (i+1)) (aQ_ ⟨#[59]⟩)
def bN_ (l:List Nd):Nat->Nat->Nat->Prop
 | a,0,z=>a=z
 | a,m+1,z=>a<l.length/\a<a0_ l a/\bN_ l (a0_ l a) m z
theorem ajA_ {l:List Nd} {q:List Nat} (h:∀ x ∈ q,x<l.length):hN_ l q<=l.length:=by
 unfold hN_
 cases q with
 | nil=>simp
 | cons a r=>have:=h a si_;simp;omega
theorem dI_ {l:List Nd} {i:Nat} (hi:i<l.length):i<a0_ l i/\a0_ l i<=l.length:=by
 refine ⟨?_,ajA_ fun x hx=>(nL_ l i x (List.mem_of_mem_tail hx)).2⟩
 rw [a0_,h8_ hi,List.tail_cons]
 unfold hN_
 cases hq:(cL_ l (i+1)).drop ((b3_ l).getD i 0) with
 | nil=>simpa using hi
 | cons a r =>
  have:=(nL_ l (i+1) a (List.mem_of_mem_drop (i:=(b3_ l).getD i 0) (by rw [hq];simp))).1
  simp;omega
theorem Tr.kidsP {l:List Nd} (h:Tr l) {i:Nat} (hi:i<l.length):bN_ l (i+1) ((b3_ l).getD i 0) (a0_ l i):=by
 have hr:=h.room i hi
 have he:a0_ l i=hN_ l ((cL_ l (i+1)).drop ((b3_ l).getD i 0)):=by rw [a0_,h8_ hi,List.tail_cons]
 have main:∀ m k:Nat,k+m=(b3_ l).getD i 0->bN_ l (hN_ l ((cL_ l (i+1)).drop k)) m (a0_ l i):=by
  intro m
  induction m with
  | zero=>intro k hk;rw [bN_,he];congr 2
  | succ m ih =>
   intro k hk
   have hlt:k<(cL_ l (i+1)).length:=by omega
   obtain ⟨h1,h2,h3⟩:=ajE_ hlt
   rw [h1,bN_]
   refine ⟨h2,(dI_ h2).1, ?_⟩
   rw [h3]
   exact ih (k+1) om_
 have h0:=main ((b3_ l).getD i 0) 0 om_
 rw [List.drop_zero,xC_ om_] at h0
 exact h0
theorem Tr.tops {l:List Nd} (h:Tr l) {i:Nat} (hi:i<l.length):decide (7<=l[i].op)=decide (i=0):=by
 have h1:=sQ_ (by have:=h.len;omega) h.one
 rw [h.chk] at h1
 have h2:f5_ l true=true:=by
  by_cases hc:dU_ (b3_ l) 1=some []/\f5_ l true=true
  ·exact hc.2
  ·rw [if_neg hc] at h1;cases h1
 have main:∀ k,k<=l.length->f5_ (l.drop k) (decide (k=0))=true:=by
  intro k
  induction k with
  | zero=>intro _;exact h2
  | succ k ih =>
   intro hk
   have h3:=ih om_
   rw [pC_ (l:=l) (k:=k) (op:=l[k].op) (n:=l[k].n) (t:=l[k].text) om_ rfl] at h3
   simp only [Bool.and_eq_true] at h3
   exact h3.2
 have h3:=main i om_
 rw [pC_ (l:=l) (k:=i) (op:=l[i].op) (n:=l[i].n) (t:=l[i].text) hi rfl] at h3
 simp only [Bool.and_eq_true,beq_iff_eq] at h3
 exact h3.1
theorem fQ_ (po ko:Int) (b:Bool) (x:List Nd):(dF_ po ko b x).length<=x.length+4:=by
 unfold dF_
 split
 ·simp [aN_,aQ_]
 ·omega
theorem l9_ {l:List Nd} {g:Nat->List Nd}:∀ (m a z:Nat),bN_ l a m z->(∀ b,a<=b->b<l.length->(g b).length+9<=20*(a0_ l b-b))->a<=z/\(bU_ g (a0_ l) a m).length+4*m<=20*(z-a):=by
 intro m
 induction m with
 | zero=>intro a z h _;rw [bN_] at h;subst h;simp [bU_]
 | succ m ih =>
  intro a z h hg
  obtain ⟨h1,h2,h3⟩:=h
  have h4:=hg a (Nat.le_refl _) h1
  obtain ⟨h5,h6⟩:=ih _ _ h3 (fun b hb hb2=>hg b om_ hb2)
  refine ⟨by omega, ?_⟩
  rw [bU_]
  split
  ·rename_i e;subst e;omega
  ·simp only [aN_,aQ_,opN,List.length_cons,List.length_append,List.length_nil]
   omega
theorem aD_ {l:List Nd} {i:Nat} (hi:i<l.length):l.getD i ⟨0,.empty,0⟩=l[i]:=by simp [hi]
theorem Tr.low {l:List Nd} (h:Tr l) {i:Nat} (hi:i<l.length) (h0:0<i):l[i].op<=6:=by
 have:=h.tops hi
 rw [decide_eq_false (show ¬ i=0 by omega)] at this
 have:=of_decide_eq_false this
 omega
theorem dr10 (h:P:=by
 have q1:=ihk _ (Nat.le_refl _) a1
 have q2:=ihk _ om_ b1
 first
 |
  have q3:=fQ_ 5 (a9_ l (i+1)) false (aC_ l f (i+1))
  have q4:=fQ_ 5 (a9_ l (a0_ l (i+1))) true (aC_ l f (a0_ l (i+1)))
  rw [if_neg de_,if_neg de_,if_neg de_,if_neg de_,if_pos rfl]
  simp only [iK_,cA_,aN_,aQ_,opN,d4_,List.length_cons,List.length_append,List.length_nil];omega
  done
 |
  have q3:=fQ_ 6 (a9_ l (i+1)) false (aC_ l f (i+1))
  have q4:=fQ_ 6 (a9_ l (a0_ l (i+1))) true (aC_ l f (a0_ l (i+1)))
  rw [if_neg de_,if_neg de_,if_neg de_,if_neg de_,if_neg de_,if_pos rfl]
  simp only [iK_,cA_,aN_,aQ_,opN,d4_,List.length_cons,List.length_append,List.length_nil];omega
  done
 |
  simp only [show ¬ (5:Int)=1 by decide,show ¬ (5:Int)=2 by decide,show ¬ (5:Int)=3 by decide,show ¬ (5:Int)=4 by decide,if_false,if_true]
  refine (Flt.group (Flt.both q1.kid (Flt.deep (Flt.both Flt.blank (Flt.both (Flt.word (s:=⟨#[43,32]⟩) (by decide +kernel)) q2.kid))))).of_eq ?_
  rw [show (⟨#[32,43,32]⟩:ByteArray)=⟨#[32]⟩++⟨#[43,32]⟩ by decide]
  simp [ByteArray.append_assoc]
  done
 |
  simp only [show ¬ (6:Int)=1 by decide,show ¬ (6:Int)=2 by decide,show ¬ (6:Int)=3 by decide,show ¬ (6:Int)=4 by decide,show ¬ (6:Int)=5 by decide,if_false,if_true]
  refine (Flt.group (Flt.both q1.kid (Flt.deep (Flt.both Flt.blank (Flt.both (Flt.word (s:=⟨#[42,32]⟩) (by decide +kernel)) q2.kid))))).of_eq ?_
  rw [show (⟨#[32,42,32]⟩:ByteArray)=⟨#[32]⟩++⟨#[42,32]⟩ by decide]
  simp [ByteArray.append_assoc]):P:=h
theorem dq1 (h:P:=by
 obtain ⟨a1,a2,b1,b2,b3⟩:i+1<l.length/\i+1<a0_ l (i+1)/\a0_ l (i+1)<l.length/\a0_ l (i+1)<a0_ l (a0_ l (i+1))/\a0_ l (a0_ l (i+1))=a0_ l i:=⟨hk.1,hk.2.1,hk.2.2.1,hk.2.2.2.1,hk.2.2.2.2⟩
 exact dr10):P:=h
theorem dq2 (h:P:=by
 split
 ·simp [aQ_];omega
 ·simp only [cA_,aN_,aQ_,opN,d4_,List.length_cons,List.length_append,List.length_nil];omega):P:=h
theorem dr9 (h:P:=by
 have hop:1<=l[i].op/\l[i].op<=9:=by
  by_cases hc:l[i].op<1∨9<l[i].op
  ·rw [a8_,if_pos (by rcases hc with h|h;exact .inl h;exact .inr (.inl h))] at hone;cases hone
  ·omega
 rw [hm] at hk
 first
 |
  have ihk:∀ b,i+1<=b->b<l.length->(aC_ l f b).length+9<=20*(a0_ l b-b):=fun b hb hl=>ih b om_ hl (by have:=hT.low hl om_;omega)
  rw [aC_,aD_ h2]
  generalize l[i].op=op at *
  generalize l[i].n=n at *
  generalize l[i].text=t at *
  have hcs:op=1∨op=2∨op=3∨op=4∨op=5∨op=6∨op=7∨op=8:=by omega
  rcases hcs with rfl|rfl|rfl|rfl|rfl|rfl|rfl|rfl
  ·simp [aQ_];omega
  ·simp [aQ_];omega
  ·rw [show aL_ 3 n=n from rfl] at hk
   obtain ⟨g1,g2⟩:=l9_ _ _ _ hk ihk
   rw [if_neg de_,if_neg de_,if_pos rfl,d8_]
   exact dq2
  ·rw [show aL_ 4 n=n from rfl] at hk
   obtain ⟨g1,g2⟩:=l9_ _ _ _ hk ihk
   rw [if_neg de_,if_neg de_,if_neg de_,if_pos rfl,d8_]
   exact dq2
  ·exact dq1
  ·exact dq1
  ·obtain ⟨a1,a2,b3⟩:i+1<l.length/\i+1<a0_ l (i+1)/\a0_ l (i+1)=a0_ l i:=⟨hk.1,hk.2.1,hk.2.2⟩
   have q1:=ihk _ (Nat.le_refl _) a1
   rw [if_neg de_,if_neg de_,if_neg de_,if_neg de_,if_neg de_,if_neg de_,if_pos rfl]
   simp only [cA_,aN_,aQ_,opN,d4_,List.length_cons,List.length_append,List.length_nil];omega
  ·obtain ⟨a1,a2,b3⟩:i+1<l.length/\i+1<a0_ l (i+1)/\a0_ l (i+1)=a0_ l i:=⟨hk.1,hk.2.1,hk.2.2⟩
   have q1:=ihk _ (Nat.le_refl _) a1
   rw [if_neg de_,if_neg de_,if_neg de_,if_neg de_,if_neg de_,if_neg de_,if_neg de_]
   simp only [aN_,aQ_,List.length_cons,List.length_append,List.length_nil];omega
  done
 |
  have ihk:∀ b,i+1<=b->b<l.length->Flt (aC_ l f b) (aA_ l f b):=fun b hb hl=>ih b om_ hl (by have:=hT.low hl om_;omega)
  rw [aC_,aA_,aD_ h2]
  generalize l[i].op=op at *
  generalize l[i].n=n at *
  generalize l[i].text=t at *
  have hcs:op=1∨op=2∨op=3∨op=4∨op=5∨op=6∨op=7∨op=8:=by omega
  have hw:∀ s:ByteArray,s.size<=10->e8_ s=true->aY_ t=true->cP_ 1 (t++s) 0=0:=fun s h1 h2 h=>by
   have h3:=cY_ h
   exact lH_ (by rw [ByteArray.size_append];omega) (by rw [ByteArray.size_append];omega) (nP_ (qY_ h) h2)
  rcases hcs with rfl|rfl|rfl|rfl|rfl|rfl|rfl|rfl
  ·obtain ⟨n0,n1⟩:=fH_ hone
   simp only [if_true]
   exact Flt.word (afA_ n0 n1)
  ·have hnm:=c4_ hone rfl de_
   simp only [show ¬ (2:Int)=1 by decide,if_false,if_true]
   have h3:=cY_ hnm
   exact Flt.word (lH_ h3.1 om_ (qY_ hnm))
  ·have hnm:=c4_ hone rfl de_
   rw [show aL_ 3 n=n from rfl] at hk
   simp only [show ¬ (3:Int)=1 by decide,show ¬ (3:Int)=2 by decide,if_false,if_true]
   refine Flt.listed (fun h0=>Flt.kids _ _ _ hk h0 ihk) (fun h0=>by rw [h0];rfl) (hw _ de_ de_ hnm) (by decide +kernel) ?_
   rw [ByteArray.append_assoc]
   exact hw _ de_ de_ hnm
  ·rw [show aL_ 4 n=n from rfl] at hk
   simp only [show ¬ (4:Int)=1 by decide,show ¬ (4:Int)=2 by decide,show ¬ (4:Int)=3 by decide,if_false,if_true]
   exact Flt.listed (fun h0=>Flt.kids _ _ _ hk h0 ihk) (fun h0=>by rw [h0];rfl) (by decide +kernel) (by decide +kernel) (by decide +kernel)
  ·exact dq1
  ·exact dq1
  ·have hnm:=c4_ hone rfl de_
   obtain ⟨a1,a2,b3⟩:i+1<l.length/\i+1<a0_ l (i+1)/\a0_ l (i+1)=a0_ l i:=⟨hk.1,hk.2.1,hk.2.2⟩
   have q1:=ihk _ (Nat.le_refl _) a1
   have h3:=cY_ hnm
   simp only [show ¬ (7:Int)=1 by decide,show ¬ (7:Int)=2 by decide,show ¬ (7:Int)=3 by decide,show ¬ (7:Int)=4 by decide,show ¬ (7:Int)=5 by decide,show ¬ (7:Int)=6 by decide,if_false,if_true]
   refine (Flt.group (Flt.both (Flt.word ?_) (Flt.deep (Flt.both Flt.blank (Flt.both q1 (Flt.word (s:=⟨#[59]⟩) (by decide +kernel))))))).of_eq ?_
   ·refine lH_ ?_ ?_ (nP_ (nP_ de_ (qY_ hnm)) de_)
    ·simp only [ByteArray.size_append];omega
    ·simp only [ByteArray.size_append]
     show 4+t.size+2<=20
     omega
   ·rw [show (⟨#[32,61,32]⟩:ByteArray)=⟨#[32,61]⟩++⟨#[32]⟩ by decide]
    simp [ByteArray.append_assoc,iU_]
  ·obtain ⟨a1,a2,b3⟩:i+1<l.length/\i+1<a0_ l (i+1)/\a0_ l (i+1)=a0_ l i:=⟨hk.1,hk.2.1,hk.2.2⟩
   have q1:=ihk _ (Nat.le_refl _) a1
   simp only [show ¬ (8:Int)=1 by decide,show ¬ (8:Int)=2 by decide,show ¬ (8:Int)=3 by decide,show ¬ (8:Int)=4 by decide,show ¬ (8:Int)=5 by decide,show ¬ (8:Int)=6 by decide,show ¬ (8:Int)=7 by decide,if_false]
   exact Flt.both q1 (Flt.word (s:=⟨#[59]⟩) (by decide +kernel))):P:=h
theorem mU_ {l:List Nd} (hT:Tr l):∀ f i:Nat,l.length<=i+f->(hi:i<l.length)->l[i].op≠9->(aC_ l f i).length+9<=20*(a0_ l i-i):=by
 intro f
 induction f with
 | zero=>intro i h1 h2;omega
 | succ f ih =>
  intro i h1 h2 h9
  have hk:=hT.kidsP h2
  have hb:=(dI_ h2).1
  have hm:(b3_ l).getD i 0=(aL_ l[i].op l[i].n).toNat:=cT_ h2 rfl
  have hone:=hT.one _ (List.getElem_mem h2)
  have hbd:=fG_ hone
  exact dr9
end
section
def cG_ (po ko:Int) (second:Bool) (x:ByteArray):ByteArray:=if bV_ po ko second=true then ⟨#[40]⟩++x++⟨#[41]⟩ else x
def dG_ (g:Nat->ByteArray) (e:Nat->Nat):Nat->Nat->ByteArray
 | _,0=>.empty
 | a,m+1=>if m=0 then g a else g a++⟨#[44,32]⟩++dG_ g e (e a) m
def iU_:ByteArray:=⟨#[108,101,116,32]⟩
def aA_ (l:List Nd):Nat->Nat->ByteArray
 | 0,_=>.empty
 | f+1,i =>
  let d:=l.getD i ⟨0,.empty,0⟩
  if d.op=1 then ⟨(Lib.itoa d.n).toArray⟩
  else if d.op=2 then d.text
  else if d.op=3 then d.text++⟨#[40]⟩++dG_ (aA_ l f) (a0_ l) (i+1) d.n.toNat++⟨#[41]⟩
  else if d.op=4 then ⟨#[91]⟩++dG_ (aA_ l f) (a0_ l) (i+1) d.n.toNat++⟨#[93]⟩
  else if d.op=5 then cG_ 5 (a9_ l (i+1)) false (aA_ l f (i+1))++⟨#[32,43,32]⟩++cG_ 5 (a9_ l (a0_ l (i+1))) true (aA_ l f (a0_ l (i+1)))
  else if d.op=6 then cG_ 6 (a9_ l (i+1)) false (aA_ l f (i+1))++⟨#[32,42,32]⟩++cG_ 6 (a9_ l (a0_ l (i+1))) true (aA_ l f (a0_ l (i+1)))
  else if d.op=7 then iU_++d.text++⟨#[32,61,32]⟩++aA_ l f (i+1)++⟨#[59]⟩
  else aA_ l f (i+1)++⟨#[59]⟩
def Flt (ns:List Nd) (t:ByteArray):Prop:=∃ x:D,x.ok/\x.enc=ns/\x.flat=some t/\(∀ d ∈ ns,cP_ d.op d.text d.n=0)/\∀ d ∈ ns,d.op≠9
theorem Flt.word {s:ByteArray} (h:cP_ 1 s 0=0):Flt (aQ_ s) s :=
 ⟨.leaf ⟨1,s,0⟩,rfl,rfl,by simp [D.flat],fun d hd=>by simp [aQ_] at hd;subst hd;exact h,fun d hd=>by simp [aQ_] at hd;subst hd;show (1:Int)≠9;decide⟩
theorem Flt.blank:Flt (opN 2) ⟨#[32]⟩ :=
 ⟨.leaf ⟨2,.empty,0⟩,rfl,rfl,by simp [D.flat],fun d hd=>by simp [opN] at hd;subst hd;decide +kernel,fun d hd=>by simp [opN] at hd;subst hd;decide +kernel⟩
theorem Flt.soft:Flt (opN 3) .empty :=
 ⟨.leaf ⟨3,.empty,0⟩,rfl,rfl,by simp [D.flat],fun d hd=>by simp [opN] at hd;subst hd;decide +kernel,fun d hd=>by simp [opN] at hd;subst hd;decide +kernel⟩
theorem Flt.both {a b:List Nd} {s t:ByteArray} (ha:Flt a s) (hb:Flt b t):Flt (aN_ a b) (s++t):=by
 obtain ⟨x,x1,x2,x3,x4,x5⟩:=ha
 obtain ⟨y,y1,y2,y3,y4,y5⟩:=hb
 refine ⟨.bin ⟨6,.empty,0⟩ x y,⟨by decide,x1,y1⟩,by simp [D.enc,aN_,x2,y2],by simp [D.flat,x3,y3],fun d hd=>?_,fun d hd=>?_⟩
 ·simp only [aN_,List.mem_cons,List.mem_append] at hd
  rcases hd with rfl|h|h
  ·decide +kernel
  ·exact x4 d h
  ·exact y4 d h
 ·simp only [aN_,List.mem_cons,List.mem_append] at hd
  rcases hd with rfl|h|h
  ·decide
  ·exact x5 d h
  ·exact y5 d h
theorem Flt.group {a:List Nd} {s:ByteArray} (ha:Flt a s):Flt (cA_ a) s:=by
 obtain ⟨x,x1,x2,x3,x4,x5⟩:=ha
 refine ⟨.un ⟨8,.empty,0⟩ x,⟨by decide,x1⟩,by simp [D.enc,cA_,x2],by simp [D.flat,x3],fun d hd=>?_,fun d hd=>?_⟩
 ·simp only [cA_,List.mem_cons] at hd
  rcases hd with rfl|h
  ·decide +kernel
  ·exact x4 d h
 ·simp only [cA_,List.mem_cons] at hd
  rcases hd with rfl|h
  ·decide
  ·exact x5 d h
theorem Flt.deep {a:List Nd} {s:ByteArray} (ha:Flt a s):Flt (d4_ a) s:=by
 obtain ⟨x,x1,x2,x3,x4,x5⟩:=ha
 refine ⟨.un ⟨7,.empty,2⟩ x,⟨by decide,x1⟩,by simp [D.enc,d4_,x2],by simp [D.flat,x3],fun d hd=>?_,fun d hd=>?_⟩
 ·simp only [d4_,List.mem_cons] at hd
  rcases hd with rfl|h
  ·decide +kernel
  ·exact x4 d h
 ·simp only [d4_,List.mem_cons] at hd
  rcases hd with rfl|h
  ·decide
  ·exact x5 d h
theorem Flt.of_eq {a:List Nd} {s t:ByteArray} (h:Flt a s) (e:s=t):Flt a t:=by subst e;exact h
theorem lH_ {s:ByteArray} (h0:0<s.size) (h1:s.size<=20) (h2:e8_ s=true):cP_ 1 s 0=0:=by
 have hs:s.toList≠[]:=by
  rw [ByteArray.toList_eq]
  intro h
  have h3:s.data.toList.length=s.size:=by simp
  rw [h] at h3
  simp at h3;omega
 unfold cP_
 rw [if_neg om_,if_neg si_,if_neg ?_,if_neg om_]
 rintro ⟨_,h|h|h⟩
 ·exact hs h
 ·omega
 ·rw [h2] at h;cases h
theorem nP_ {a b:ByteArray} (ha:e8_ a=true) (hb:e8_ b=true):e8_ (a++b)=true:=by
 unfold e8_ at *
 rw [ByteArray.data_append,Array.toList_append,List.all_append,ha,hb];rfl
theorem cY_ {s:ByteArray} (h:aY_ s=true):0<s.size/\s.size<=8/\s.data.toList.all gR_=true:=by
 simp only [aY_,Bool.and_eq_true,Bool.not_eq_true',decide_eq_true_eq] at h
 obtain ⟨⟨⟨h1,h2⟩,_⟩,h4⟩:=h
 refine ⟨?_,h2,h4⟩
 rcases Nat.eq_zero_or_pos s.size with h0|h0
 ·rw [ByteArray.toList_eq] at h1
  have h3:s.data.toList.length=0:=by simpa using h0
  rw [List.eq_nil_of_length_eq_zero h3] at h1;cases h1
 ·exact h0
theorem qY_ {s:ByteArray} (h:aY_ s=true):e8_ s=true:=by
 have h1:=(cY_ h).2.2
 unfold e8_
 rw [List.all_eq_true] at *
 intro c hc
 have h2:=h1 c hc
 simp only [gR_,Bool.and_eq_true,decide_eq_true_eq] at h2
 simp only [prt,Bool.and_eq_true,decide_eq_true_eq]
 omega
theorem aq4_ {u j:Nat}:48<=(Lib.dg u j).toNat/\(Lib.dg u j).toNat<=57:=by
 unfold Lib.dg
 have:u / 10 ^ j % 10<10:=Nat.mod_lt _ om_
 generalize u / 10 ^ j % 10=q at *
 rw [UInt8.toNat_ofNat']
 omega
theorem oF_ {n:Int} (h0:0<=n):∀ c ∈ Lib.itoa n,48<=c.toNat/\c.toNat<=57:=by
 intro c hc
 rw [Lib.itoa,if_neg om_,Lib.decDigits_eq] at hc
 obtain ⟨j,_,rfl⟩:=List.mem_map.1 hc
 exact aq4_
theorem eR_ {n:Int} (h0:0<=n) (h:n<=999999):0<(Lib.itoa n).length/\(Lib.itoa n).length<=6:=by
 rw [Lib.itoa,if_neg om_,Lib.decDigits_length]
 refine ⟨Lib.nDigits_pos _, ?_⟩
 have hu:n.toNat<=999999:=by omega
 generalize n.toNat=u at *
 have main:∀ k u:Nat,u<10 ^ (k+1)->Lib.nDigits u<=k+1:=by
  intro k
  induction k with
  | zero=>intro u h;rw [Lib.nDigits_small (by simpa using h)];omega
  | succ k ih =>
   intro u h
   by_cases h1:u<10
   ·rw [Lib.nDigits_small h1];omega
   ·rw [Lib.nDigits_big h1]
    have:=ih (u / 10) (by rw [Nat.pow_succ] at h;omega)
    omega
 exact main 5 u om_
theorem afA_ {n:Int} (h0:0<=n) (h:n<=999999):cP_ 1 ⟨(Lib.itoa n).toArray⟩ 0=0:=by
 have h1:=eR_ h0 h
 have hz:(⟨(Lib.itoa n).toArray⟩:ByteArray).size=(Lib.itoa n).length:=by simp [ByteArray.size]
 refine lH_ om_ om_ ?_
 unfold e8_
 rw [List.all_eq_true]
 intro c hc
 have:=oF_ h0 c (by simpa using hc)
 simp only [prt,Bool.and_eq_true,decide_eq_true_eq]
 omega
theorem Flt.kid {po ko:Int} {b:Bool} {x:List Nd} {t:ByteArray} (h:Flt x t):Flt (dF_ po ko b x) (cG_ po ko b t):=by
 unfold dF_ cG_
 split
 ·refine (Flt.both (Flt.word (s:=⟨#[40]⟩) (by decide +kernel)) (Flt.both h (Flt.word (s:=⟨#[41]⟩) (by decide +kernel)))).of_eq ?_
  rw [ByteArray.append_assoc]
 ·exact h
theorem Flt.kids {l:List Nd} {g:Nat->List Nd} {t:Nat->ByteArray}:∀ (m a z:Nat),bN_ l a m z->0<m->(∀ b,a<=b->b<l.length->Flt (g b) (t b))->Flt (bU_ g (a0_ l) a m) (dG_ t (a0_ l) a m):=by
 intro m
 induction m with
 | zero=>intro a z h h0;omega
 | succ m ih =>
  intro a z h _ hg
  obtain ⟨h1,h2,h3⟩:=h
  have h4:=hg a (Nat.le_refl _) h1
  rw [bU_,dG_]
  split
  ·exact h4
  ·have h5:=ih _ _ h3 om_ (fun b hb hb2=>hg b om_ hb2)
   refine (Flt.both (Flt.both h4 (Flt.word (s:=⟨#[44]⟩) (by decide +kernel))) (Flt.both Flt.blank h5)).of_eq ?_
   rw [ByteArray.append_assoc,ByteArray.append_assoc,← ByteArray.append_assoc (a:=⟨#[44]⟩)]
   rfl
theorem Flt.listed {o c:ByteArray} {m:Nat} {k:List Nd} {t:ByteArray} (h:0<m->Flt k t) (hz:m=0->t=.empty) (ho:cP_ 1 o 0=0) (hc:cP_ 1 c 0=0) (hoc:cP_ 1 (o++c) 0=0):Flt (d8_ o c m k) (o++t++c):=by
 unfold d8_
 split
 ·rename_i e
  rw [hz e]
  exact (Flt.word hoc).of_eq si_
 ·refine (Flt.group (Flt.both (Flt.word ho) (Flt.both (Flt.deep (Flt.both Flt.soft (h om_))) (Flt.both Flt.soft (Flt.word hc))))).of_eq ?_
  simp [ByteArray.append_assoc]
theorem c4_ {op n:Int} {t:ByteArray} (h:a8_ op t n=0) (hn:dJ_ op=true) (h9:op≠9):aY_ t=true:=by
 unfold a8_ at h
 split at h
 ·cases h
 ·split at h
  ·cases h
  ·try rw [if_neg h9] at h
   split at h
   ·cases h
   ·rename_i hh
    cases hf:aY_ t with
    | true=>rfl
    | false=>exact absurd ⟨hn,hf⟩ hh
theorem fH_ {n:Int} {t:ByteArray} (h:a8_ 1 t n=0):0<=n/\n<=999999:=by
 unfold a8_ at h
 split at h
 ·cases h
 ·rename_i hh
  rw [show b5_ 1=999999 from rfl] at hh
  omega
theorem oC_ {l:List Nd} (hT:Tr l):∀ f i:Nat,l.length<=i+f->(hi:i<l.length)->l[i].op≠9->Flt (aC_ l f i) (aA_ l f i):=by
 intro f
 induction f with
 | zero=>intro i h1 h2;omega
 | succ f ih =>
  intro i h1 h2 h9
  have hk:=hT.kidsP h2
  have hm:(b3_ l).getD i 0=(aL_ l[i].op l[i].n).toNat:=cT_ h2 rfl
  have hone:=hT.one _ (List.getElem_mem h2)
  exact dr9
end
section
def gH_ (l:List Nd):ByteArray:=aA_ l l.length 0
end
end Go.Proofs.YtddfdmopaeghnadGreatDoor
