/- Plain facts on docs as lists of nodes: check, tree form, ends, flat line. No program, no condition. -/
import Derived.Below
namespace Go.Proofs.YtddfdmopaeghnadGreatDoor
def prt (c:UInt8):Bool:=decide (32<=c.toNat)&&decide (c.toNat<=126)
def prtAll (s:ByteArray):Bool:=s.data.toList.all prt
structure Nd where
 op:Int
 text:ByteArray
 n:Int
def oneF (op:Int) (t:ByteArray) (n:Int):Int :=
 if op<1∨9<op then 1
 else if (op≠1/\t.toList≠[])∨(op≠7/\n≠0) then 2
 else if op=1/\(t.toList=[]∨20<t.size∨prtAll t=false) then 5
 else if n<0∨8<n then 1
 else 0
def parts (op:Int):Int:=if op=6∨op=9 then 2 else if op=7∨op=8 then 1 else 0
theorem parts_bd (op:Int):0<=parts op/\parts op<=2:=by unfold parts;split <;> (try split) <;> omega
def chk:List Nd->Int->Bool->Int
 | [],need,whole=>if whole=true/\need=0 then 0 else 2
 | d::r,need,whole=>if oneF d.op d.text d.n≠0 then oneF d.op d.text d.n else chk r (need+parts d.op-1) (whole&&decide (0<need))
def checkF (l:List Nd):Int:=if 400<l.length then 3 else chk l 1 true
theorem chk_step {l:List Nd} {k:Nat} {nd:Int} {wh:Bool} {op n:Int} {t:ByteArray} (hlt:k<l.length) (hd:Nd.mk op t n=l[k]) :
  chk (l.drop k) nd wh=if oneF op t n≠0 then oneF op t n else chk (l.drop (k+1)) (nd+parts op-1) (wh&&decide (0<nd)):=by
 rw [List.drop_eq_getElem_cons hlt,← hd];rfl
theorem chk_end {l:List Nd} {k:Nat} {nd:Int} {wh:Bool} (hge:l.length<=k):chk (l.drop k) nd wh=if wh=true/\nd=0 then 0 else 2:=by
 rw [List.drop_eq_nil_of_le hge];rfl
inductive D where
 | leaf (d:Nd)
 | un (d:Nd) (a:D)
 | bin (d:Nd) (a b:D)
def D.hd:D->Nd
 | .leaf d=>d
 | .un d _=>d
 | .bin d _ _=>d
def D.enc:D->List Nd
 | .leaf d=>[d]
 | .un d a=>d::a.enc
 | .bin d a b=>d::(a.enc++b.enc)
def D.ok:D->Prop
 | .leaf d=>parts d.op=0
 | .un d a=>parts d.op=1/\a.ok
 | .bin d a b=>parts d.op=2/\a.ok/\b.ok
def D.sz:D->Nat
 | .leaf _=>1
 | .un _ a=>a.sz+1
 | .bin _ a b=>a.sz+b.sz+1
theorem D.len_enc (x:D):x.enc.length=x.sz:=by
 induction x with
 | leaf d=>rfl
 | un d a ih=>simp [enc,sz,ih]
 | bin d a b ia ib=>simp [enc,sz,ia,ib]
theorem D.sz_pos (x:D):0<x.sz:=by cases x <;> simp [sz]
def stk:List Nd->List D
 | []=>[]
 | d::r =>
  if parts d.op=2 then
   match stk r with
   | a::b::s=>.bin d a b::s
   | s=>s
  else if parts d.op=1 then
   match stk r with
   | a::s=>.un d a::s
   | []=>[]
  else .leaf d::stk r
theorem stk_enc {x:D} (h:x.ok) (r:List Nd):stk (x.enc++r)=x::stk r:=by
 induction x generalizing r with
 | leaf d=>simp only [D.ok] at h;simp [D.enc,stk,h]
 | un d a ih =>
  obtain ⟨h1,h2⟩:=h
  rw [D.enc,List.cons_append,stk,ih h2];simp [h1]
 | bin d a b ia ib =>
  obtain ⟨h1,h2,h3⟩:=h
  rw [D.enc,List.cons_append,stk,List.append_assoc,ia h2,ib h3];simp [h1]
theorem D.enc_inj {x y:D} (hx:x.ok) (hy:y.ok) {r s:List Nd} (h:x.enc++r=y.enc++s):x=y:=by
 have h1:=stk_enc hx r
 rw [h,stk_enc hy s] at h1
 exact (List.cons.inj h1).1.symm
theorem chk_enc {xs:List D} (hok:∀ x ∈ xs,x.ok) (hone:∀ d ∈ xs.flatMap D.enc,oneF d.op d.text d.n=0):chk (xs.flatMap D.enc) xs.length true=0:=by
 have main:∀ (x:D) (r:List Nd) (nd:Int),x.ok->0<nd->(∀ d ∈ x.enc,oneF d.op d.text d.n=0)->chk (x.enc++r) nd true=chk r (nd-1) true:=by
  intro x
  induction x with
  | leaf d =>
   intro r nd hx hn ho
   simp only [D.ok] at hx
   simp only [D.enc,List.cons_append,List.nil_append,chk]
   rw [if_neg (by simp [ho d (by simp [D.enc])]),hx]
   simp [hn]
  | un d a ih =>
   intro r nd hx hn ho
   obtain ⟨h1,h2⟩:=hx
   simp only [D.enc,List.cons_append,chk]
   rw [if_neg (by simp [ho d (by simp [D.enc])]),h1]
   simp only [hn,decide_true,Bool.and_self]
   rw [ih r _ h2 (by omega) (fun e he=>ho e (by simp [D.enc,he]))]
   congr 1;omega
  | bin d a b ia ib =>
   intro r nd hx hn ho
   obtain ⟨h1,h2,h3⟩:=hx
   simp only [D.enc,List.cons_append,chk,List.append_assoc]
   rw [if_neg (by simp [ho d (by simp [D.enc])]),h1]
   simp only [hn,decide_true,Bool.and_self]
   rw [ia _ _ h2 (by omega) (fun e he=>ho e (by simp [D.enc,he])),ib _ _ h3 (by omega) (fun e he=>ho e (by simp [D.enc,he]))]
   congr 1;omega
 induction xs with
 | nil=>simp [chk]
 | cons x s ih =>
  rw [List.flatMap_cons,main x _ _ (hok x (by simp)) (by simp) (fun d hd=>hone d (by simp [hd]))]
  have:=ih (fun y hy=>hok y (by simp [hy])) (fun d hd=>hone d (by rw [List.flatMap_cons];simp [List.mem_append];exact .inr (by simpa using hd)))
  rw [← this];congr 1;simp
structure Doc (l:List Nd) (x:D):Prop where
 ok:x.ok
 enc:l=x.enc
 one:∀ d ∈ l,oneF d.op d.text d.n=0
 len:l.length<=400
theorem Doc.check {l:List Nd} {x:D} (h:Doc l x):checkF l=0:=by
 have h1:=chk_enc (xs:=[x]) (by simpa using h.ok) (by simpa [← h.enc] using h.one)
 unfold checkF
 rw [if_neg (by have:=h.len;omega),h.enc]
 simpa using h1
theorem D.at_ (x:D) (hx:x.ok):∀ i,i<x.sz->∃ (a:D) (r:List Nd),x.enc.drop i=a.enc++r/\a.ok:=by
 induction x with
 | leaf d =>
  intro i hi
  simp only [sz] at hi
  obtain rfl:i=0:=by omega
  exact ⟨.leaf d,[],by simp [enc],hx⟩
 | un d a ih =>
  intro i hi
  cases i with
  | zero=>exact ⟨.un d a,[],by simp,hx⟩
  | succ i =>
   obtain ⟨y,r,h1,h2⟩:=ih hx.2 i (by simp only [sz] at hi;omega)
   exact ⟨y,r,by simpa [enc] using h1,h2⟩
 | bin d a b ia ib =>
  intro i hi
  cases i with
  | zero=>exact ⟨.bin d a b,[],by simp,hx⟩
  | succ i =>
   simp only [sz] at hi
   by_cases hlt:i<a.sz
   ·obtain ⟨y,r,h1,h2⟩:=ia hx.2.1 i hlt
    refine ⟨y,r++b.enc, ?_,h2⟩
    simp only [enc,List.drop_succ_cons]
    rw [List.drop_append_of_le_length (by rw [len_enc];omega),h1,List.append_assoc]
   ·obtain ⟨y,r,h1,h2⟩:=ib hx.2.2 (i-a.sz) (by omega)
    refine ⟨y,r, ?_,h2⟩
    simp only [enc,List.drop_succ_cons]
    rw [List.drop_append,List.drop_eq_nil_of_le (by rw [len_enc];omega),len_enc,h1,List.nil_append]
def docAt (l:List Nd) (i:Nat):D:=(stk (l.drop i)).headD (.leaf ⟨0,.empty,0⟩)
theorem docAt_of {l:List Nd} {i:Nat} {a:D} {r:List Nd} (h:l.drop i=a.enc++r) (ha:a.ok):docAt l i=a:=by
 unfold docAt;rw [h,stk_enc ha];rfl
theorem Doc.at_ {l:List Nd} {x:D} (h:Doc l x) {i:Nat} (hi:i<l.length):∃ r,l.drop i=(docAt l i).enc++r/\(docAt l i).ok:=by
 obtain ⟨a,r,h1,h2⟩:=x.at_ h.ok i (by rw [← D.len_enc,← h.enc];exact hi)
 rw [← h.enc] at h1
 rw [docAt_of h1 h2]
 exact ⟨r,h1,h2⟩
theorem Doc.parts_ {l:List Nd} {x:D} (h:Doc l x) {i:Nat} (hi:i<l.length) :
  (parts l[i].op=0/\docAt l i=.leaf l[i]) ∨
  (parts l[i].op=1/\i+1<l.length/\docAt l i=.un l[i] (docAt l (i+1))) ∨
  (parts l[i].op=2/\i+1<l.length/\i+1+(docAt l (i+1)).sz<l.length/\docAt l i=.bin l[i] (docAt l (i+1)) (docAt l (i+1+(docAt l (i+1)).sz))):=by
 obtain ⟨r,h1,h2⟩:=h.at_ hi
 have hcons:=List.drop_eq_getElem_cons hi
 have htail:l.drop (i+1)=(l.drop i).tail:=by rw [hcons];rfl
 cases hd:docAt l i with
 | leaf d =>
  rw [hd] at h1 h2
  rw [h1] at hcons
  simp only [D.enc,List.cons_append,List.nil_append,List.cons.injEq] at hcons
  rw [← hcons.1]
  exact .inl ⟨h2,rfl⟩
 | un d a =>
  rw [hd] at h1 h2
  rw [h1] at hcons
  simp only [D.enc,List.cons_append,List.cons.injEq] at hcons
  have hdr:l.drop (i+1)=a.enc++r:=hcons.2.symm
  have hlen:(l.drop (i+1)).length=a.sz+r.length:=by rw [hdr,List.length_append,D.len_enc]
  have:=a.sz_pos
  rw [List.length_drop] at hlen
  rw [docAt_of hdr h2.2,← hcons.1]
  exact .inr (.inl ⟨h2.1,by omega,rfl⟩)
 | bin d a b =>
  rw [hd] at h1 h2
  rw [h1] at hcons
  simp only [D.enc,List.cons_append,List.append_assoc,List.cons.injEq] at hcons
  have hdr:l.drop (i+1)=a.enc++(b.enc++r):=hcons.2.symm
  have hlen:(l.drop (i+1)).length=a.sz+(b.sz+r.length):=by rw [hdr,List.length_append,List.length_append,D.len_enc,D.len_enc]
  have:=a.sz_pos
  have:=b.sz_pos
  rw [List.length_drop] at hlen
  have hdr2:l.drop (i+1+a.sz)=b.enc++r:=by
   rw [← List.drop_drop,hdr,List.drop_append,List.drop_eq_nil_of_le (by rw [D.len_enc];omega),D.len_enc];simp
  rw [docAt_of hdr h2.2.1,docAt_of hdr2 h2.2.2,← hcons.1]
  exact .inr (.inr ⟨h2.1,by omega,by omega,rfl⟩)
def endAt (l:List Nd) (i:Nat):Nat:=i+(docAt l i).sz
theorem Doc.end_le {l:List Nd} {x:D} (h:Doc l x) {i:Nat} (hi:i<l.length):i<endAt l i/\endAt l i<=l.length:=by
 obtain ⟨r,h1,h2⟩:=h.at_ hi
 have hlen:(l.drop i).length=(docAt l i).sz+r.length:=by rw [h1,List.length_append,D.len_enc]
 have:=(docAt l i).sz_pos
 rw [List.length_drop] at hlen
 unfold endAt
 omega
def D.flat:D->Option ByteArray
 | .leaf d=>if d.op=1 then some d.text else if d.op=2 then some ⟨#[32]⟩ else if d.op=3∨d.op=5 then some .empty else none
 | .un _ a=>a.flat
 | .bin d a b=>if d.op=6 then (match a.flat,b.flat with|some s,some t=>some (s++t)|_,_=>none) else a.flat
def lineOf:Option ByteArray->ByteArray × Bool
 | some s=>(s,true)
 | none=>(.empty,false)
theorem Doc.root {l:List Nd} {x:D} (h:Doc l x):docAt l 0=x:=by
 refine docAt_of (r:=[]) ?_ h.ok
 rw [List.drop_zero,List.append_nil];exact h.enc
theorem Doc.pos {l:List Nd} {x:D} (h:Doc l x):0<l.length:=by rw [h.enc,D.len_enc];exact x.sz_pos
end Go.Proofs.YtddfdmopaeghnadGreatDoor
