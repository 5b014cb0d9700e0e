/- Plain: what a word may be; a note is one node. With what it rests on. Conditions: as each theorem states them. -/
import Derived.Test.YtddfdmopaeghnacGreatDoorLqTr
import Derived.Test.YtddfdmopaeghnacGreatDoorLqMk
import Derived.Test.YtddfdmopaeghnacGreatDoorLqLx
import Derived.Lib.ItoaNum
import Derived.Lib.FieldsP
import Derived.Lib.TrimU
import Derived.Lib.Join
import Derived.Lib.Strings
import Derived.Laws.RangeString
import Derived.Test.YtddfdmopaeghnacGreatDoorLqCa
import Derived.Deep.RegionHeld3
import Derived.RegionDies
set_option maxRecDepth 100000
set_option maxHeartbeats 16000000
namespace Go.Proofs.YtddfdmopaeghnacGreatDoor
theorem oT_ {w:ByteArray} (h:cO_ w=true):w.data.toList≠[]/\w.size<=20/\∀ c ∈ w.data.toList,33<=c.toNat/\c.toNat<=126:=by
 simp only [cO_,Bool.and_eq_true,Bool.not_eq_true',decide_eq_true_eq,ByteArray.toList_eq,List.isEmpty_eq_false_iff] at h
 refine ⟨h.1.1,h.1.2,fun c hc=>?_⟩
 have:=List.all_eq_true.1 h.2 c hc
 simpa [i5_] using this
theorem nY_ {l:List ByteArray} (h:cL_ l=0):l.length<=60/\∀ w ∈ l,cO_ w=true:=by
 unfold cL_ at h
 split at h
 ·cases h
 ·split at h
  ·rename_i h1 h2
   exact ⟨by omega,fun w hw=>List.all_eq_true.1 h2 w hw⟩
  ·cases h
theorem ah1_ {l:List Nd} {i:Nat} (hi:i<l.length):aW_ l i=l[i].op:=by rw [aW_,bF_ hi]
theorem akI_ {op n:Int} {t:ByteArray} (h:a8_ op t n=0) (hm:b4_ op<0):n=0:=by
 unfold a8_ at h
 split at h
 ·cases h
 ·split at h
  ·cases h
  ·rename_i hh
   by_cases hn:n=0
   ·exact hn
   ·exact absurd (.inl ⟨hm,hn⟩) hh
theorem af6_ {u:List Nd} (h:aY_ u=0):0<u.length:=by
 have:=(Tr.of_check h).root
 rcases Nat.eq_zero_or_pos u.length with h1|h1
 ·rw [fE_ (by omega)] at this;cases this
 ·exact h1
theorem nW_ {u:List Nd} (h:aY_ u=0) (h9:aW_ u 0=9):∃ x,u=[⟨9,x,0⟩]/\a8_ 9 x 0=0:=by
 have hT:=Tr.of_check h
 have hp:=af6_ h
 have hk:=hT.kidsP hp
 have hm:(bC_ u).getD 0 0=(bK_ u[0].op u[0].n).toNat:=gX_ hp rfl
 have hone:=hT.one _ (List.getElem_mem hp)
 rw [ah1_ hp] at h9
 rw [hm,h9,show (bK_ 9 u[0].n).toNat=0 from rfl,dR_] at hk
 have hend:a7_ u 0=u.length:=by rw [a7_,hT.root];rfl
 have hl:u.length=1:=by omega
 rw [h9] at hone
 have hn:=akI_ hone (by decide)
 refine ⟨u[0].text, ?_,by rw [hn] at hone;exact hone⟩
 match u,hl with
 | [d],_ =>
  simp only [List.getElem_cons_zero] at h9 hn ⊢
  obtain ⟨op,t,n⟩:=d
  simp only at h9 hn
  subst h9 hn
  rfl
end Go.Proofs.YtddfdmopaeghnacGreatDoor
namespace Go.Proofs.YtddfdmopaeghnacGreatDoor
def xX_ (c:UInt8):Bool:=lowB c||c0_ c
def Lx (ed:Bool) (tk:List (List UInt8)) (s:List UInt8):Prop :=
 ∀ (i:Nat) (r:List UInt8),(ed=true->∀ c r',r=c::r'->xX_ c=false)->(d1_ i (s++r)).1.map (·.2)=tk++(d1_ (i+s.length) r).1.map (·.2)/\(d1_ i (s++r)).2=(d1_ (i+s.length) r).2
theorem akM_ {ed:Bool} {c:UInt8} {w:List UInt8} (hb:(c==32||c==10)=false) (ht:bP_ (c::w)=c::w)
  (hf:∀ r,(ed=true->∀ d r',r=d::r'->xX_ d=false)->aR_ (c::(w++r))=((c::w).length,true)):Lx ed [c::w] (c::w):=by
 intro i r hr
 have h:=hf r hr
 rw [List.cons_append,f2_ hb (by rw [h]),h]
 have e1:(c::(w++r)).take (c::w).length=c::w:=by rw [← List.cons_append,List.take_left]
 have e2:(c::(w++r)).drop (c::w).length=r:=by rw [← List.cons_append,List.drop_left]
 simp only [e1,e2,ht]
 exact ⟨rfl,trivial⟩
theorem zC_ {p:UInt8->Bool} {r:List UInt8} (hr:∀ c r',r=c::r'->p c=false):∀ {w:List UInt8},(∀ c ∈ w,p c=true)->aU_ p (w++r)=w.length:=by
 intro w
 induction w with
 | nil =>
  intro _
  cases r with
  | nil=>rfl
  | cons c r'=>rw [List.nil_append,aU_,if_neg (by rw [hr c r' rfl];decide)];rfl
 | cons c w ih =>
  intro h
  rw [List.cons_append,aU_,if_pos (h c (by simp)),ih (fun d hd=>h d (by simp [hd]))];rfl
theorem ahW_ {c:UInt8} (h:xX_ c=false):lowB c=false/\c0_ c=false:=by simpa [xX_] using h
theorem Lx.num {w:List UInt8} (h0:0<w.length) (h6:w.length<=6) (h:∀ c ∈ w,c0_ c=true) (hz:w.length=1∨w.head?≠some 48):Lx true [w] w:=by
 cases w with
 | nil=>simp at h0
 | cons c w =>
  have hc:=h c (by simp)
  refine akM_ (l1_ hc).1 (hQ_ fun d hd=>(l1_ (h d hd)).2.1) (fun r hr=>?_)
  have e:=zC_ (p:=c0_) (r:=r) (fun d r' e=>(ahW_ (hr rfl d r' e)).2) (w:=c::w) h
  rw [List.cons_append] at e
  rw [cM_,if_neg (by rw [(l1_ hc).2.2];decide),if_pos hc,e,decide_eq_true h6]
  rcases hz with hz|hz
  ·rw [decide_eq_true hz];rfl
  ·have:(c==48)=false:=by simpa using hz
   rw [this];simp
theorem pS_:∀ u:Nat,(∀ c ∈ Lib.decDigits u,c0_ c=true)/\(0<u->(Lib.decDigits u).head?≠some 48)/\(Lib.decDigits u).foldl (fun (n:Int) c=>n*10+((c.toNat:Int)-48)) 0=(u:Int):=by
 intro u
 induction u using Nat.strongRecOn with
 | _ u ih =>
  have hone:∀ d:Fin 10,c0_ (UInt8.ofNat (48+d.val))=true/\(UInt8.ofNat (48+d.val)).toNat=48+d.val/\(0<d.val->UInt8.ofNat (48+d.val)≠48):=by decide +kernel
  by_cases h:u<10
  ·obtain ⟨a1,a2,a3⟩:=hone ⟨u,h⟩
   rw [Lib.decDigits_one h]
   refine ⟨by simpa using a1,fun h0=>by simpa using a3 h0, ?_⟩
   simp only [List.foldl_cons,List.foldl_nil,a2]
   omega
  ·obtain ⟨b1,b2,b3⟩:=ih (u / 10) (by omega)
   obtain ⟨a1,a2,a3⟩:=hone ⟨u % 10,Nat.mod_lt _ (by omega)⟩
   have e:Lib.decDigits u=Lib.decDigits (u / 10)++[UInt8.ofNat (48+u % 10)]:=by rw [Lib.decDigits,dif_neg h]
   rw [e]
   refine ⟨fun c hc=>?_,fun _=>?_, ?_⟩
   ·rcases List.mem_append.1 hc with hc|hc
    ·exact b1 c hc
    ·rw [List.mem_singleton.1 hc];exact a1
   ·have:=b2 (by omega)
    cases hd:Lib.decDigits (u / 10) with
    | nil=>have:=Lib.decDigits_length (u / 10);rw [hd] at this;have:=Lib.nDigits_pos (u / 10);simp at *;omega
    | cons c r=>rw [hd] at this;simpa using this
   ·rw [List.foldl_append,b3]
    simp only [List.foldl_cons,List.foldl_nil,a2]
    omega
theorem adI_ {n:Int} (h0:0<=n):Lib.itoa n=Lib.decDigits n.toNat:=by rw [Lib.itoa,if_neg (by omega)]
theorem Lx.itoa {n:Int} (h0:0<=n) (h:n<=999999):Lx true [Lib.itoa n] (Lib.itoa n):=by
 have hl:=hT_ h0 h
 obtain ⟨a1,a2,a3⟩:=pS_ n.toNat
 rw [adI_ h0] at *
 refine Lx.num hl.1 hl.2 a1 ?_
 rcases Nat.eq_zero_or_pos n.toNat with hz|hz
 ·left;rw [hz,Lib.decDigits_one (by omega)];rfl
 ·exact .inr (a2 hz)
end Go.Proofs.YtddfdmopaeghnacGreatDoor
namespace Go.Proofs.YtddfdmopaeghnacGreatDoor
def a4_ (ws:List ByteArray) (k:Nat):ByteArray:=ws.getD k .empty
def isW (ws:List ByteArray) (k:Nat) (c:List UInt8):Bool:=(a4_ ws k).toList==c
def fN_ (c:UInt8):Bool:=decide (48<=c.toNat)&&decide (c.toNat<=57)
def eI_ (s:ByteArray):Bool:=match s.data.toList with
 | []=>false
 | c::_=>fN_ c
def nC_ (s:ByteArray):Int:=s.data.toList.foldl (fun n c=>n*10+((c.toNat:Int)-48)) 0
abbrev PrR:=Except Nat (List Nd × Nat)
def cJ_ (ws:List ByteArray) (op:Int) (sg:List UInt8) (part:Nat->PrR):Nat->List Nd->Nat->PrR
 | 0,out,k=>.ok (out,k)
 | f+1,out,k=>if isW ws k sg=true then
   match part (k+1) with
   | .error e=>.error e
   | .ok (x,k')=>cJ_ ws op sg part f (⟨op,.empty,0⟩::(out++x)) k'
  else .ok (out,k)
def cR_ (ws:List ByteArray) (op:Int) (sg:List UInt8) (part:Nat->PrR) (k:Nat):PrR :=
 match part k with
 | .error e=>.error e
 | .ok (x,k')=>cJ_ ws op sg part ws.length x k'
def c5_ (ws:List ByteArray) (ed:List UInt8) (sum:Nat->PrR):Nat->Nat->List Nd->Nat->Except Nat (Nat × List Nd × Nat)
 | 0,n,out,k=>.ok (n,out,k)
 | f+1,n,out,k=>if isW ws k ed=true then .ok (n,out,k+1)
  else if 0<n/\isW ws k [44]=false then .error k
  else match sum (if 0<n then k+1 else k) with
   | .error e=>.error e
   | .ok (x,k')=>c5_ ws ed sum f (n+1) (out++x) k'
def pE (ws:List ByteArray):Nat->Nat->Nat->PrR
 | 0,_,k=>.error k
 | f+1,lv,k =>
  if lv=0 then cR_ ws 5 [43] (pE ws f 1) k
  else if lv=1 then cR_ ws 6 [42] (pE ws f 2) k
  else if isW ws k [40]=true then
   match pE ws f 0 (k+1) with
   | .error e=>.error e
   | .ok (x,k')=>if isW ws k' [41]=true then .ok (x,k'+1) else .error k'
  else if isW ws k [91]=true then
   match c5_ ws [93] (pE ws f 0) (ws.length+1) 0 [] (k+1) with
   | .error e=>.error e
   | .ok (n,x,k')=>.ok (⟨4,.empty,(n:Nat)⟩::x,k')
  else if eI_ (a4_ ws k)=true then .ok ([⟨1,.empty,nC_ (a4_ ws k)⟩],k+1)
  else if b1_ (a4_ ws k)=false then .error k
  else if isW ws (k+1) [40]=true then
   match c5_ ws [41] (pE ws f 0) (ws.length+1) 0 [] (k+2) with
   | .error e=>.error e
   | .ok (n,x,k')=>.ok (⟨3,a4_ ws k,(n:Nat)⟩::x,k')
  else .ok ([⟨2,a4_ ws k,0⟩],k+1)
theorem oE_ {ws:List ByteArray} {k:Nat} (h:(a4_ ws k).toList≠[]):k<ws.length:=by
 rcases Nat.lt_or_ge k ws.length with h1|h1
 ·exact h1
 ·refine absurd ?_ h
  unfold a4_
  rw [List.getD_eq_getElem?_getD,List.getElem?_eq_none h1]
  decide +kernel
theorem cG_ {ws:List ByteArray} {k:Nat} {c:UInt8} {r:List UInt8} (h:isW ws k (c::r)=true):k<ws.length:=by
 refine oE_ (fun e=>?_)
 unfold isW at h
 rw [e] at h;cases h
theorem qV_ {ws:List ByteArray} {k:Nat} (h:eI_ (a4_ ws k)=true):k<ws.length:=by
 refine oE_ (fun e=>?_)
 rw [ByteArray.toList_eq] at e
 unfold eI_ at h
 rw [e] at h;cases h
theorem m3_ {ws:List ByteArray} {k:Nat} (h:b1_ (a4_ ws k)=true):k<ws.length:=by
 refine oE_ (fun e=>?_)
 simp [b1_,e] at h
def gK_ (ws:List ByteArray) (part:Nat->PrR):Prop:=∀ k,k<=ws.length->(∀ x k',part k=.ok (x,k')->k<k'/\k'<=ws.length/\x.length+k<=k'/\0<x.length)/\∀ e,part k=.error e->e<=ws.length
theorem w9_ {ws:List ByteArray} {op:Int} {sg:List UInt8} {part:Nat->PrR} (hs:sg≠[]) (h:gK_ ws part):∀ (f:Nat) (out:List Nd) (k k0:Nat),k<=ws.length->out.length+k0<=k ->
  (∀ x k',cJ_ ws op sg part f out k=.ok (x,k')->k<=k'/\k'<=ws.length/\x.length+k0<=k'/\out.length<=x.length)/\∀ e,cJ_ ws op sg part f out k=.error e->e<=ws.length:=by
 intro f
 induction f with
 | zero =>
  intro out k k0 hk ho
  rw [cJ_]
  exact ⟨fun x k' e=>by cases e;exact ⟨Nat.le_refl _,hk,ho,Nat.le_refl _⟩,fun e he=>by cases he⟩
 | succ f ih =>
  intro out k k0 hk ho
  rw [cJ_]
  by_cases hw:isW ws k sg=true
  ·rw [if_pos hw]
   have hlt:k<ws.length:=by
    cases sg with
    | nil=>exact absurd rfl hs
    | cons c r=>exact cG_ hw
   obtain ⟨h1,h2⟩:=h (k+1) (by omega)
   cases hp:part (k+1) with
   | error e =>
    simp only
    exact ⟨fun x k' e=>(by cases e),fun e' he=>by cases he;exact h2 _ hp⟩
   | ok r =>
    obtain ⟨x,k'⟩:=r
    obtain ⟨g1,g2,g3,g4⟩:=h1 x k' hp
    simp only
    obtain ⟨i1,i2⟩:=ih (⟨op,.empty,0⟩::(out++x)) k' k0 g2 (by simp;omega)
    refine ⟨fun y j hy=>?_,i2⟩
    obtain ⟨a1,a2,a3,a4⟩:=i1 y j hy
    simp at a4
    exact ⟨by omega,a2,a3,by omega⟩
  ·rw [if_neg hw]
   exact ⟨fun x k' e=>by cases e;exact ⟨Nat.le_refl _,hk,ho,Nat.le_refl _⟩,fun e he=>by cases he⟩
theorem oI_ {ws:List ByteArray} {op:Int} {sg:List UInt8} {part:Nat->PrR} (hs:sg≠[]) (h:gK_ ws part):gK_ ws (cR_ ws op sg part):=by
 intro k hk
 obtain ⟨h1,h2⟩:=h k hk
 unfold cR_
 cases hp:part k with
 | error e=>simp only;exact ⟨fun x k' e=>(by cases e),fun e' he=>by cases he;exact h2 _ hp⟩
 | ok r =>
  obtain ⟨x,k'⟩:=r
  obtain ⟨g1,g2,g3,g4⟩:=h1 x k' hp
  simp only
  obtain ⟨i1,i2⟩:=w9_ (op:=op) hs h ws.length x k' k g2 g3
  refine ⟨fun y j hy=>?_,i2⟩
  obtain ⟨a1,a2,a3,a4⟩:=i1 y j hy
  exact ⟨by omega,a2,a3,by omega⟩
theorem h4_ {ws:List ByteArray} {ed:List UInt8} {sum:Nat->PrR} (hs:ed≠[]) (h:gK_ ws sum):∀ (f n:Nat) (out:List Nd) (k k0:Nat),k<=ws.length->out.length+k0<=k->n<=out.length ->
  (∀ m x k',c5_ ws ed sum f n out k=.ok (m,x,k')->k<=k'/\k'<=ws.length/\x.length+k0<=k'/\m<=x.length)/\∀ e,c5_ ws ed sum f n out k=.error e->e<=ws.length:=by
 intro f
 induction f with
 | zero =>
  intro n out k k0 hk ho hn
  rw [c5_]
  exact ⟨fun m x k' e=>by cases e;exact ⟨Nat.le_refl _,hk,ho,hn⟩,fun e he=>by cases he⟩
 | succ f ih =>
  intro n out k k0 hk ho hn
  rw [c5_]
  by_cases hw:isW ws k ed=true
  ·rw [if_pos hw]
   have hlt:k<ws.length:=by
    cases ed with
    | nil=>exact absurd rfl hs
    | cons c r=>exact cG_ hw
   exact ⟨fun m x k' e=>by cases e;exact ⟨by omega,by omega,by omega,hn⟩,fun e he=>by cases he⟩
  ·rw [if_neg hw]
   by_cases hc:0<n/\isW ws k [44]=false
   ·rw [if_pos hc]
    exact ⟨fun m x k' e=>(by cases e),fun e' he=>by cases he;exact hk⟩
   ·rw [if_neg hc]
    have hk1:(if 0<n then k+1 else k)<=ws.length:=by
     split
     ·rename_i h0
      have:isW ws k [44]=true:=by
       cases hh:isW ws k [44] with
       | true=>rfl
       | false=>exact absurd ⟨h0,hh⟩ hc
      exact cG_ this
     ·exact hk
    have hk2:k<=(if 0<n then k+1 else k):=by split <;> omega
    obtain ⟨h1,h2⟩:=h _ hk1
    cases hp:sum (if 0<n then k+1 else k) with
    | error e=>simp only;exact ⟨fun m x k' e=>(by cases e),fun e' he=>by cases he;exact h2 _ hp⟩
    | ok r =>
     obtain ⟨x,k'⟩:=r
     obtain ⟨g1,g2,g3,g4⟩:=h1 x k' hp
     simp only
     obtain ⟨i1,i2⟩:=ih (n+1) (out++x) k' k0 g2 (by simp;omega) (by simp;omega)
     refine ⟨fun m y j hy=>?_,i2⟩
     obtain ⟨a1,a2,a3,a4⟩:=i1 m y j hy
     exact ⟨by omega,a2,a3,a4⟩
theorem yY_ {P:Prop} (h:P:=by
 exact ⟨fun y j e=>by cases e;exact ⟨by omega,by omega,by simp;omega,by simp⟩,fun e he=>by cases he⟩):P:=h
theorem lq48 {P:Prop} (h:P:=by
 obtain ⟨n,x,k'⟩:=r
 obtain ⟨a1,a2,a3,a4⟩:=g1 n x k' hp
 simp only
 exact ⟨fun y j e=>by cases e;exact ⟨by omega,a2,by simp;omega,by simp⟩,fun e he=>by cases he⟩):P:=h
theorem iK_ (ws:List ByteArray):∀ (f lv:Nat),gK_ ws (pE ws f lv):=by
 intro f
 induction f with
 | zero =>
  intro lv k hk
  rw [pE]
  exact ⟨fun x k' e=>(by cases e),fun e he=>by cases he;exact hk⟩
 | succ f ih =>
  intro lv
  by_cases h0:lv=0
  ·have:pE ws (f+1) lv=cR_ ws 5 [43] (pE ws f 1):=by funext k;rw [pE,if_pos h0]
   rw [this];exact oI_ (by simp) (ih 1)
  ·by_cases h1:lv=1
   ·have:pE ws (f+1) lv=cR_ ws 6 [42] (pE ws f 2):=by funext k;rw [pE,if_neg h0,if_pos h1]
    rw [this];exact oI_ (by simp) (ih 2)
   ·intro k hk
    rw [pE,if_neg h0,if_neg h1]
    by_cases w40:isW ws k [40]=true
    ·rw [if_pos w40]
     have hlt:=cG_ w40
     obtain ⟨g1,g2⟩:=ih 0 (k+1) hlt
     cases hp:pE ws f 0 (k+1) with
     | error e=>simp only;exact ⟨fun x k' e=>(by cases e),fun e' he=>by cases he;exact g2 _ hp⟩
     | ok r =>
      obtain ⟨x,k'⟩:=r
      obtain ⟨a1,a2,a3,a4⟩:=g1 x k' hp
      simp only
      by_cases w41:isW ws k' [41]=true
      ·rw [if_pos w41]
       have:=cG_ w41
       exact ⟨fun y j e=>by cases e;exact ⟨by omega,by omega,by omega,a4⟩,fun e he=>by cases he⟩
      ·rw [if_neg w41]
       exact ⟨fun y j e=>(by cases e),fun e' he=>by cases he;exact a2⟩
    ·rw [if_neg w40]
     by_cases w91:isW ws k [91]=true
     ·rw [if_pos w91]
      have hlt:=cG_ w91
      obtain ⟨g1,g2⟩:=h4_ (ed:=[93]) (by simp) (ih 0) (ws.length+1) 0 [] (k+1) (k+1) hlt (by simp) (by simp)
      cases hp:c5_ ws [93] (pE ws f 0) (ws.length+1) 0 [] (k+1) with
      | error e=>simp only;exact ⟨fun x k' e=>(by cases e),fun e' he=>by cases he;exact g2 _ hp⟩
      | ok r =>
       exact lq48
     ·rw [if_neg w91]
      by_cases hd:eI_ (a4_ ws k)=true
      ·rw [if_pos hd]
       have hlt:=qV_ hd
       exact yY_
      ·rw [if_neg hd]
       by_cases hn:b1_ (a4_ ws k)=false
       ·rw [if_pos hn]
        exact ⟨fun y j e=>(by cases e),fun e' he=>by cases he;exact hk⟩
       ·rw [if_neg hn]
        have hlt:=m3_ (ws:=ws) (k:=k) (by simpa using hn)
        by_cases w2:isW ws (k+1) [40]=true
        ·rw [if_pos w2]
         have hlt2:=cG_ w2
         obtain ⟨g1,g2⟩:=h4_ (ed:=[41]) (by simp) (ih 0) (ws.length+1) 0 [] (k+2) (k+2) hlt2 (by simp) (by simp)
         cases hp:c5_ ws [41] (pE ws f 0) (ws.length+1) 0 [] (k+2) with
         | error e=>simp only;exact ⟨fun x k' e=>(by cases e),fun e' he=>by cases he;exact g2 _ hp⟩
         | ok r =>
          exact lq48
        ·rw [if_neg w2]
         exact yY_
end Go.Proofs.YtddfdmopaeghnacGreatDoor
namespace Go.Proofs.YtddfdmopaeghnacGreatDoor
def eQ_ (ws:List ByteArray) (sum:Nat->PrR) (k:Nat):PrR :=
 if isW ws k [40]=true then
  match sum (k+1) with
  | .error e=>.error e
  | .ok (x,k')=>if isW ws k' [41]=true then .ok (x,k'+1) else .error k'
 else if isW ws k [91]=true then
  match c5_ ws [93] sum (ws.length+1) 0 [] (k+1) with
  | .error e=>.error e
  | .ok (n,x,k')=>.ok (⟨4,.empty,(n:Nat)⟩::x,k')
 else if eI_ (a4_ ws k)=true then .ok ([⟨1,.empty,nC_ (a4_ ws k)⟩],k+1)
 else if b1_ (a4_ ws k)=false then .error k
 else if isW ws (k+1) [40]=true then
  match c5_ ws [41] sum (ws.length+1) 0 [] (k+2) with
  | .error e=>.error e
  | .ok (n,x,k')=>.ok (⟨3,a4_ ws k,(n:Nat)⟩::x,k')
 else .ok ([⟨2,a4_ ws k,0⟩],k+1)
theorem abN_ (ws:List ByteArray) (f:Nat):pE ws (f+1) 2=eQ_ ws (pE ws f 0):=by
 funext k
 rw [pE,if_neg (by decide),if_neg (by decide)]
 rfl
theorem abM_ (ws:List ByteArray) (f:Nat):pE ws (f+1) 1=cR_ ws 6 [42] (pE ws f 2):=by
 funext k
 rw [pE,if_neg (by decide),if_pos rfl]
theorem xQ_ (ws:List ByteArray) (f:Nat):pE ws (f+1) 0=cR_ ws 5 [43] (pE ws f 1):=by
 funext k
 rw [pE,if_pos rfl]
theorem xI_ {ws:List ByteArray} {sum:Nat->PrR} {k x:Nat} (h:isW ws k [40]=true) (hs:sum (k+1)=.error x):eQ_ ws sum k=.error x:=by rw [eQ_,if_pos h,hs]
theorem xJ_ {ws:List ByteArray} {sum:Nat->PrR} {k k':Nat} {x:List Nd} (h:isW ws k [40]=true) (hs:sum (k+1)=.ok (x,k')) (h2:isW ws k' [41]=false):eQ_ ws sum k=.error k':=by
 rw [eQ_,if_pos h,hs]
 simp only
 rw [if_neg (by rw [h2];decide)]
theorem xK_ {ws:List ByteArray} {sum:Nat->PrR} {k k':Nat} {x:List Nd} (h:isW ws k [40]=true) (hs:sum (k+1)=.ok (x,k')) (h2:isW ws k' [41]=true):eQ_ ws sum k=.ok (x,k'+1):=by
 rw [eQ_,if_pos h,hs]
 simp only
 rw [if_pos h2]
theorem xL_ {ws:List ByteArray} {sum:Nat->PrR} {k x:Nat} (h:isW ws k [40]=false) (h1:isW ws k [91]=true) (hs:c5_ ws [93] sum (ws.length+1) 0 [] (k+1)=.error x):eQ_ ws sum k=.error x:=by rw [eQ_,if_neg (by rw [h];decide),if_pos h1,hs]
theorem xM_ {ws:List ByteArray} {sum:Nat->PrR} {k k' n:Nat} {x:List Nd} (h:isW ws k [40]=false) (h1:isW ws k [91]=true) (hs:c5_ ws [93] sum (ws.length+1) 0 [] (k+1)=.ok (n,x,k')):eQ_ ws sum k=.ok (⟨4,.empty,(n:Nat)⟩::x,k'):=by rw [eQ_,if_neg (by rw [h];decide),if_pos h1,hs]
theorem abJ_ {ws:List ByteArray} {sum:Nat->PrR} {k:Nat} (h:isW ws k [40]=false) (h1:isW ws k [91]=false) (hd:eI_ (a4_ ws k)=true):eQ_ ws sum k=.ok ([⟨1,.empty,nC_ (a4_ ws k)⟩],k+1):=by
 rw [eQ_,if_neg (by rw [h];decide),if_neg (by rw [h1];decide),if_pos hd]
theorem q5_ {ws:List ByteArray} {sum:Nat->PrR} {k:Nat} (h:isW ws k [40]=false) (h1:isW ws k [91]=false) (hd:eI_ (a4_ ws k)=false) (hn:b1_ (a4_ ws k)=false):eQ_ ws sum k=.error k:=by
 rw [eQ_,if_neg (by rw [h];decide),if_neg (by rw [h1];decide),if_neg (by rw [hd];decide),if_pos hn]
theorem abK_ {ws:List ByteArray} {sum:Nat->PrR} {k:Nat} (h:isW ws k [40]=false) (h1:isW ws k [91]=false) (hd:eI_ (a4_ ws k)=false) (hn:b1_ (a4_ ws k)=true) (h2:isW ws (k+1) [40]=false):eQ_ ws sum k=.ok ([⟨2,a4_ ws k,0⟩],k+1):=by
 rw [eQ_,if_neg (by rw [h];decide),if_neg (by rw [h1];decide),if_neg (by rw [hd];decide),if_neg (by rw [hn];decide),if_neg (by rw [h2];decide)]
theorem lq50 {P:Prop} (h:P:=by
 rw [eQ_,if_neg (by rw [h];decide),if_neg (by rw [h1];decide),if_neg (by rw [hd];decide),if_neg (by rw [hn];decide),if_pos h2,hs]):P:=h
theorem xN_ {ws:List ByteArray} {sum:Nat->PrR} {k x:Nat} (h:isW ws k [40]=false) (h1:isW ws k [91]=false) (hd:eI_ (a4_ ws k)=false) (hn:b1_ (a4_ ws k)=true) (h2:isW ws (k+1) [40]=true) (hs:c5_ ws [41] sum (ws.length+1) 0 [] (k+2)=.error x):eQ_ ws sum k=.error x:=by
 exact lq50
theorem xO_ {ws:List ByteArray} {sum:Nat->PrR} {k k' n:Nat} {x:List Nd} (h:isW ws k [40]=false) (h1:isW ws k [91]=false) (hd:eI_ (a4_ ws k)=false) (hn:b1_ (a4_ ws k)=true) (h2:isW ws (k+1) [40]=true) (hs:c5_ ws [41] sum (ws.length+1) 0 [] (k+2)=.ok (n,x,k')):eQ_ ws sum k=.ok (⟨3,a4_ ws k,(n:Nat)⟩::x,k'):=by
 exact lq50
end Go.Proofs.YtddfdmopaeghnacGreatDoor
namespace Go.Proofs.YtddfdmopaeghnacGreatDoor
def DgW (ws:List ByteArray):Prop:=∀ j,eI_ (a4_ ws j)=true->(a4_ ws j).data.toList.all fN_=true/\(a4_ ws j).size<=6
def pX (ws:List ByteArray):Nat->PrR:=pE ws (3*ws.length+3) 0
theorem jO_ (ws:List ByteArray):gK_ ws (pX ws):=iK_ ws _ 0
def cF_ (ws:List ByteArray) (k:Nat):PrR :=
 if isW ws k [108,101,116]=true then
  if b1_ (a4_ ws (k+1))=false then .error (k+1)
  else if isW ws (k+2) [61]=false then .error (k+2)
  else match pX ws (k+3) with
   | .error e=>.error e
   | .ok (x,k')=>if isW ws k' [59]=true then .ok (⟨7,a4_ ws (k+1),0⟩::x,k'+1) else .error k'
 else match pX ws k with
  | .error e=>.error e
  | .ok (x,k')=>if isW ws k' [59]=true then .ok (⟨8,.empty,0⟩::x,k'+1) else .error k'
theorem vL_ {ws:List ByteArray} {k x:Nat} (h:isW ws k [108,101,116]=false) (hp:pX ws k=.error x):cF_ ws k=.error x:=by rw [cF_,if_neg (by rw [h];decide),hp]
theorem vM_ {ws:List ByteArray} {k k2:Nat} {x:List Nd} (h:isW ws k [108,101,116]=false) (hp:pX ws k=.ok (x,k2)) (h2:isW ws k2 [59]=false):cF_ ws k=.error k2:=by
 rw [cF_,if_neg (by rw [h];decide),hp]
 simp only
 rw [if_neg (by rw [h2];decide)]
theorem vN_ {ws:List ByteArray} {k k2:Nat} {x:List Nd} (h:isW ws k [108,101,116]=false) (hp:pX ws k=.ok (x,k2)) (h2:isW ws k2 [59]=true):cF_ ws k=.ok (⟨8,.empty,0⟩::x,k2+1):=by
 rw [cF_,if_neg (by rw [h];decide),hp]
 simp only
 rw [if_pos h2]
theorem qI_ {ws:List ByteArray} {k:Nat} (h:isW ws k [108,101,116]=true) (h1:b1_ (a4_ ws (k+1))=false):cF_ ws k=.error (k+1):=by rw [cF_,if_pos h,if_pos h1]
theorem vR_ {ws:List ByteArray} {k:Nat} (h:isW ws k [108,101,116]=true) (h1:b1_ (a4_ ws (k+1))=true) (h2:isW ws (k+2) [61]=false):cF_ ws k=.error (k+2):=by rw [cF_,if_pos h,if_neg (by rw [h1];decide),if_pos h2]
theorem vO_ {ws:List ByteArray} {k x:Nat} (h:isW ws k [108,101,116]=true) (h1:b1_ (a4_ ws (k+1))=true) (h2:isW ws (k+2) [61]=true) (hp:pX ws (k+3)=.error x):cF_ ws k=.error x:=by rw [cF_,if_pos h,if_neg (by rw [h1];decide),if_neg (by rw [h2];decide),hp]
theorem vP_ {ws:List ByteArray} {k k2:Nat} {x:List Nd} (h:isW ws k [108,101,116]=true) (h1:b1_ (a4_ ws (k+1))=true) (h2:isW ws (k+2) [61]=true) (hp:pX ws (k+3)=.ok (x,k2)) (h3:isW ws k2 [59]=false):cF_ ws k=.error k2:=by
 rw [cF_,if_pos h,if_neg (by rw [h1];decide),if_neg (by rw [h2];decide),hp]
 simp only
 rw [if_neg (by rw [h3];decide)]
theorem vQ_ {ws:List ByteArray} {k k2:Nat} {x:List Nd} (h:isW ws k [108,101,116]=true) (h1:b1_ (a4_ ws (k+1))=true) (h2:isW ws (k+2) [61]=true) (hp:pX ws (k+3)=.ok (x,k2)) (h3:isW ws k2 [59]=true):cF_ ws k=.ok (⟨7,a4_ ws (k+1),0⟩::x,k2+1):=by
 rw [cF_,if_pos h,if_neg (by rw [h1];decide),if_neg (by rw [h2];decide),hp]
 simp only
 rw [if_pos h3]
end Go.Proofs.YtddfdmopaeghnacGreatDoor
namespace Go.Proofs.YtddfdmopaeghnacGreatDoor
def c4_ (s:ByteArray):Bool:=Lib.hasPrefix s.data.toList [35]
def gN_ (x:Nat):Bool:=x==32
def eY_ (s:ByteArray):List ByteArray:=Lib.goFieldsP gN_ (s.extract 1 s.size)
def e5_ (l:List ByteArray):Nat:=(l.map (fun t=>t.size+1)).sum
theorem rP_ (a b:List ByteArray):e5_ (a++b)=e5_ a+e5_ b:=by simp [e5_]
theorem mZ_ (l:List ByteArray):l.length<=e5_ l:=by
 induction l with
 | nil=>simp
 | cons x r ih=>simp only [e5_,List.map_cons,List.sum_cons,List.length_cons] at *;omega
def dW_ (l:List ByteArray):ByteArray:=⟨(Lib.join (l.map (·.data.toList)) [32]).toArray⟩
theorem ab0_ (l:List ByteArray):Lib.lens (l.map (·.data.toList))+l.length=e5_ l:=by
 induction l with
 | nil=>rfl
 | cons x r ih =>
  simp only [e5_,List.map_cons,List.sum_cons,Lib.lens,List.length_cons,Array.length_toList] at *
  have:x.data.size=x.size:=rfl
  omega
theorem rZ_ (l:List ByteArray):(Lib.join (l.map (·.data.toList)) [32]).length<=e5_ l:=by
 cases l with
 | nil=>simp [Lib.join_nil]
 | cons x r =>
  have h:=ab0_ (x::r)
  rw [List.map_cons,Lib.join_length]
  simp only [List.map_cons,List.length_cons,List.length_map,List.length_nil] at *
  omega
theorem lV_ (l:List ByteArray):(dW_ l).size<=e5_ l:=by
 have h:=rZ_ l
 unfold dW_
 simpa [ByteArray.size] using h
def iM_ (l:List (Nat × Nat)):Nat:=(l.map fun x=>x.2-x.1+1).sum
theorem nH_ (l:List (Nat × Nat)) (x:Nat × Nat):iM_ (l++[x])=iM_ l+(x.2-x.1+1):=by simp [iM_]
def SpIn (n pos:Nat) (acc:List (Nat × Nat)):Option Nat->Prop
 | none=>iM_ acc<=pos/\iM_ acc<=n
 | some a=>iM_ acc<=a/\a<=pos/\a<n
def xV_ (n:Nat) (r:List (Nat × Nat) × Option Nat):Prop:=match r.2 with
 | none=>iM_ r.1<=n
 | some a=>iM_ r.1<=a/\a<n
theorem ac3_ {n pos:Nat} {acc:List (Nat × Nat)} {st:Option Nat} (h:SpIn n pos acc st):xV_ n (acc,st):=by
 cases st with
 | none=>exact h.2
 | some a=>exact ⟨h.1,h.2.2⟩
theorem ac4_ (p:Nat->Bool) (s:ByteArray):∀ (f pos:Nat) (st:Option Nat) (acc:List (Nat × Nat)),SpIn s.size pos acc st->xV_ s.size (Lib.spansFromP p s f pos st acc):=by
 intro f
 induction f with
 | zero=>intro pos st acc h;exact ac3_ h
 | succ f ih =>
  intro pos st acc h
  by_cases hp:pos<s.size
  ·have hw:1<=(Utf8.decode s pos).2:=Lib.width_pos s pos
   cases hq:p (Utf8.decode s pos).1 with
   | true =>
    cases st with
    | none =>
     obtain ⟨h1,h2⟩:=h
     have e:Lib.spansFromP p s (f+1) pos none acc=Lib.spansFromP p s f (pos+(Utf8.decode s pos).2) none acc:=by simp [Lib.spansFromP,hp,hq]
     rw [e]
     exact ih _ _ _ ⟨by omega,h2⟩
    | some a =>
     obtain ⟨h1,h2,h3⟩:=h
     have e:Lib.spansFromP p s (f+1) pos (some a) acc=Lib.spansFromP p s f (pos+(Utf8.decode s pos).2) none (acc++[(a,pos)]):=by simp [Lib.spansFromP,hp,hq]
     rw [e]
     exact ih _ _ _ ⟨by rw [nH_];simp only;omega,by rw [nH_];simp only;omega⟩
   | false =>
    cases st with
    | none =>
     obtain ⟨h1,h2⟩:=h
     have e:Lib.spansFromP p s (f+1) pos none acc=Lib.spansFromP p s f (pos+(Utf8.decode s pos).2) (some pos) acc:=by simp [Lib.spansFromP,hp,hq]
     rw [e]
     exact ih _ _ _ ⟨h1,by omega,hp⟩
    | some a =>
     obtain ⟨h1,h2,h3⟩:=h
     have e:Lib.spansFromP p s (f+1) pos (some a) acc=Lib.spansFromP p s f (pos+(Utf8.decode s pos).2) (some a) acc:=by simp [Lib.spansFromP,hp,hq]
     rw [e]
     exact ih _ _ _ ⟨h1,by omega,h3⟩
  ·rw [Lib.spansFromP_end p s _ pos st acc hp]
   exact ac3_ h
theorem zF_ (p:Nat->Bool) (s:ByteArray):iM_ (Lib.spansOfP p s)<=s.size+1:=by
 have h:=ac4_ p s s.size 0 none [] ⟨by simp [iM_],by simp [iM_]⟩
 unfold Lib.spansOfP Lib.closeSpans
 unfold xV_ at h
 cases hr:(Lib.spansFromP p s s.size 0 none []).2 with
 | none=>rw [hr] at h;simp only at h ⊢;omega
 | some a =>
  rw [hr] at h
  obtain ⟨h1,h2⟩:=h
  simp only
  rw [nH_]
  simp only
  omega
theorem wF_ (p:Nat->Bool) (s:ByteArray):e5_ (Lib.goFieldsP p s)<=s.size+1:=by
 refine Nat.le_trans ?_ (zF_ p s)
 unfold Lib.goFieldsP
 generalize Lib.spansOfP p s=l
 induction l with
 | nil=>simp [e5_,iM_]
 | cons x r ih =>
  simp only [e5_,iM_,List.map_cons,List.sum_cons] at *
  have:(s.extract x.1 x.2).size<=x.2-x.1:=by simp;omega
  omega
theorem p2_ {s:ByteArray} (h:c4_ s=true):e5_ (eY_ s)<=s.size:=by
 have h0:0<s.size:=by
  rcases Nat.eq_zero_or_pos s.size with h1|h1
  ·have:s.data.toList=[]:=List.eq_nil_of_length_eq_zero (by simpa using h1)
   simp [c4_,Lib.hasPrefix,this] at h
  ·exact h1
 have h2:=wF_ gN_ (s.extract 1 s.size)
 have h3:(s.extract 1 s.size).size=s.size-1:=by simp
 unfold eY_
 omega
def cB_ (ws:List ByteArray):Nat->List ByteArray->Nat->List ByteArray × Nat
 | 0,out,k=>(out,k)
 | f+1,out,k=>if c4_ (a4_ ws k)=true then cB_ ws f (out++eY_ (a4_ ws k)) (k+1) else (out,k)
def fG_ (ws:List ByteArray) (k:Nat):List Nd × Nat:=([⟨9,dW_ (cB_ ws ws.length [] k).1,0⟩],(cB_ ws ws.length [] k).2)
theorem gT_ {ws:List ByteArray} {k:Nat} (h:c4_ (a4_ ws k)=true):k<ws.length:=by
 refine oE_ (fun e=>?_)
 rw [ByteArray.toList_eq] at e
 simp [c4_,Lib.hasPrefix,e] at h
end Go.Proofs.YtddfdmopaeghnacGreatDoor
namespace Go.Proofs.YtddfdmopaeghnacGreatDoor
section
variable {ws:List ByteArray} {k:Nat} {a b:List (List UInt8)} {c:List UInt8}
end
section
variable {ws:List ByteArray} {op:Int} {sg:List UInt8} {part:Nat->PrR} {g k k':Nat} {out x:List Nd}
end
end Go.Proofs.YtddfdmopaeghnacGreatDoor
namespace Go.Proofs.YtddfdmopaeghnacGreatDoor
def spl:List UInt8->List (List UInt8)
 | []=>[[]]
 | c::r=>if c=32 then []::spl r else match spl r with
  | []=>[[c]]
  | h::t=>(c::h)::t
theorem qG_ (s:List UInt8):∃ h t,spl s=h::t:=by
 induction s with
 | nil=>exact ⟨_,_,rfl⟩
 | cons c r ih =>
  obtain ⟨h,t,e⟩:=ih
  rw [spl,e]
  split
  ·exact ⟨_,_,rfl⟩
  ·exact ⟨_,_,rfl⟩
theorem oA_ {c:UInt8} {r h:List UInt8} {t:List (List UInt8)} (hc:c≠32) (e:spl r=h::t):spl (c::r)=(c::h)::t:=by rw [spl,if_neg hc,e]
theorem akH_ {a:List UInt8} (h:∀ c ∈ a,c≠32):spl a=[a]:=by
 induction a with
 | nil=>rfl
 | cons c r ih=>exact oA_ (h c (by simp)) (ih fun d hd=>h d (by simp [hd]))
theorem ahK_ {a b:List UInt8} (h:∀ c ∈ a,c≠32):spl (a++32::b)=a::spl b:=by
 induction a with
 | nil=>rw [List.nil_append,spl,if_pos rfl]
 | cons c r ih=>exact oA_ (h c (by simp)) (ih fun d hd=>h d (by simp [hd]))
theorem hB_ (x:List UInt8) (r:List (List UInt8)):Lib.joinTail [32] (x::r)=32::Lib.join (x::r) [32]:=by
 rw [Lib.join_cons];simp [Lib.joinTail]
theorem aaW_ (x y:List UInt8) (r:List (List UInt8)):Lib.join (x::y::r) [32]=x++32::Lib.join (y::r) [32]:=by rw [Lib.join_cons,hB_]
theorem adK_ (s:List UInt8):Lib.join (spl s) [32]=s:=by
 induction s with
 | nil=>exact Lib.join_one _ _
 | cons c r ih =>
  obtain ⟨h,t,e⟩:=qG_ r
  rw [e] at ih
  by_cases hc:c=32
  ·rw [spl,if_pos hc,e,aaW_,ih,hc];rfl
  ·rw [oA_ hc e,Lib.join_cons,List.cons_append,← Lib.join_cons,ih]
def full (l:List (List UInt8)):List (List UInt8):=l.filter fun w=>!w.isEmpty
def gR_:List UInt8->List UInt8->List (List UInt8)
 | cur,[]=>if cur.isEmpty then [] else [cur]
 | cur,c::r=>if c=32 then (if cur.isEmpty then gR_ [] r else cur::gR_ [] r) else gR_ (cur++[c]) r
theorem adD_:∀ (l cur h:List UInt8) (t:List (List UInt8)),spl l=h::t->gR_ cur l=full ((cur++h)::t):=by
 intro l
 induction l with
 | nil =>
  intro cur h t e
  simp only [spl,List.cons.injEq] at e
  obtain ⟨rfl,rfl⟩:=e
  rw [gR_,List.append_nil]
  cases cur <;> simp [full]
 | cons c r ih =>
  intro cur h t e
  obtain ⟨h2,t2,e2⟩:=qG_ r
  by_cases hc:c=32
  ·rw [spl,if_pos hc] at e
   obtain ⟨rfl,rfl⟩:=List.cons.inj e
   rw [gR_,if_pos hc,ih [] h2 t2 e2,List.append_nil,List.nil_append,← e2]
   cases cur <;> simp [full]
  ·rw [oA_ hc e2] at e
   obtain ⟨rfl,rfl⟩:=List.cons.inj e
   rw [gR_,if_neg hc,ih _ h2 t2 e2]
   simp
theorem adC_ (l:List UInt8):gR_ [] l=full (spl l):=by
 obtain ⟨h,t,e⟩:=qG_ l
 rw [adD_ l [] h t e,e,List.nil_append]
def asc (s:ByteArray):Prop:=∀ c ∈ s.data.toList,c.toNat<128
theorem ahY_ {s:ByteArray} (h:asc s) {i:Nat} (hi:i<s.size):s[i].toNat<128:=h _ (by simp [ByteArray.getElem_eq_getElem_data])
theorem ac5_ {s:ByteArray} (ha:asc s):∀ (f pos:Nat) (st:Option Nat) (acc:List (Nat × Nat)),s.size<=pos+f->pos<=s.size->(∀ a,st=some a->a<pos) ->
  acc.map (fun p=>Lib.pieceU s.data.toList p.1 p.2)++gR_ (Lib.openPiece s.data.toList st pos) (s.data.toList.drop pos)=(Lib.closeSpans s (Lib.spansFromP gN_ s f pos st acc)).map (fun p=>Lib.pieceU s.data.toList p.1 p.2):=by
 have hsz:s.data.toList.length=s.size:=by simp
 intro f
 induction f with
 | zero =>
  intro pos st acc h hp hst
  obtain rfl:pos=s.size:=by omega
  rw [List.drop_eq_nil_of_le (by omega)]
  cases st with
  | none=>simp [Lib.spansFromP,Lib.closeSpans,Lib.openPiece,gR_]
  | some a =>
   have:=Lib.pieceU_ne s.data.toList a s.size (hst a rfl) (by omega)
   simp [Lib.spansFromP,Lib.closeSpans,Lib.openPiece,gR_,this]
 | succ f ih =>
  intro pos st acc h hp hst
  by_cases hlt:pos<s.size
  ·have hd:Utf8.decode s pos=((s[pos]'hlt).toNat,1):=decode_ascii s pos hlt (ahY_ ha hlt)
   have hdr:s.data.toList.drop pos=s[pos]::s.data.toList.drop (pos+1):=by
    rw [List.drop_eq_getElem_cons (by omega)];rfl
   rw [hdr]
   by_cases hc:s[pos]=32
   ·have hb:gN_ (s[pos]).toNat=true:=by rw [hc];rfl
    cases st with
    | none =>
     have g:=ih (pos+1) none acc (by omega) (by omega) (fun a h=>by cases h)
     simp only [Lib.openPiece] at g ⊢
     rw [gR_,if_pos hc,if_pos (show ([]:List UInt8).isEmpty=true from rfl),g]
     simp [Lib.spansFromP,hlt,hd,hb]
    | some a =>
     have hpn:=Lib.pieceU_ne s.data.toList a pos (hst a rfl) (by omega)
     have g:=ih (pos+1) none (acc++[(a,pos)]) (by omega) (by omega) (fun a h=>by cases h)
     simp only [Lib.openPiece] at g ⊢
     rw [gR_,if_pos hc,if_neg (by simpa using hpn)]
     rw [List.map_append,List.append_assoc] at g
     simp only [List.map_cons,List.map_nil,List.cons_append,List.nil_append] at g
     rw [g]
     simp [Lib.spansFromP,hlt,hd,hb]
   ·have hb:gN_ (s[pos]).toNat=false:=by
     unfold gN_
     rw [beq_eq_false_iff_ne]
     intro e
     exact hc (UInt8.toNat_inj.1 e)
    cases st with
    | none =>
     have g:=ih (pos+1) (some pos) acc (by omega) (by omega) (fun a h=>by cases h;omega)
     have e:Lib.pieceU s.data.toList pos (pos+1)=[s[pos]]:=by
      unfold Lib.pieceU
      rw [hdr,show pos+1-pos=1 by omega];rfl
     simp only [Lib.openPiece] at g ⊢
     rw [e] at g
     rw [gR_,if_neg hc,List.nil_append,g]
     simp [Lib.spansFromP,hlt,hd,hb]
    | some a =>
     have g:=ih (pos+1) (some a) acc (by omega) (by omega) (fun b h=>by cases h;have:=hst a rfl;omega)
     have e:=Lib.pieceU_grow s.data.toList a pos 1 (Nat.le_of_lt (hst a rfl))
     rw [hdr] at e
     simp only [Lib.openPiece] at g ⊢
     rw [← e] at g
     rw [gR_,if_neg hc]
     simp only [List.take_succ_cons,List.take_zero] at g
     rw [g]
     simp [Lib.spansFromP,hlt,hd,hb]
  ·obtain rfl:pos=s.size:=by omega
   rw [List.drop_eq_nil_of_le (by omega),Lib.spansFromP_end _ s _ _ st acc hlt]
   cases st with
   | none=>simp [Lib.closeSpans,Lib.openPiece,gR_]
   | some a =>
    have:=Lib.pieceU_ne s.data.toList a s.size (hst a rfl) (by omega)
    simp [Lib.closeSpans,Lib.openPiece,gR_,this]
theorem wG_ {s:ByteArray} (ha:asc s):(Lib.goFieldsP gN_ s).map (·.data.toList)=full (spl s.data.toList):=by
 have h:=ac5_ ha s.size 0 none [] (by omega) (Nat.zero_le _) (fun a h=>by cases h)
 simp only [Lib.openPiece,List.map_nil,List.nil_append,List.drop_zero] at h
 rw [← adC_,h]
 unfold Lib.goFieldsP Lib.spansOfP
 rw [List.map_map]
 refine List.map_congr_left fun p _=>?_
 show (s.extract p.1 p.2).data.toList=_
 rw [Lib.extract_data];rfl
theorem rT_ {s:ByteArray} {c:UInt8} {r:List UInt8} (hs:s.data.toList=c::r) (ha:asc s):(eY_ s).map (·.data.toList)=full (spl r):=by
 have e:(s.extract 1 s.size).data.toList=r:=by rw [f7_,hs];rfl
 unfold eY_
 rw [wG_ (fun c hc=>by rw [e] at hc;exact ha c (by rw [hs];simp [hc])),e]
theorem zH_ (s:ByteArray):∀ (n m:Nat),s.size<=m+n->m<=s.size->(i3_ s m).map (·.data.toList)=spl (s.data.toList.drop m):=by
 have hsz:s.data.toList.length=s.size:=by simp
 have hno:∀ m i a,(∀ c ∈ a,c≠32)->s.data.toList.drop m=a++s.data.toList.drop i->i=m+a.length->hN_ s m i:=by
  intro m i a ha he hi x h1 h2
  have hx:s.data.toList[x]?=a[x-m]?:=by
   have:s.data.toList[x]?=(s.data.toList.drop m)[x-m]?:=by rw [List.getElem?_drop];congr 1;omega
   rw [this,he,List.getElem?_append_left (by omega)]
  rw [hx]
  intro e
  exact ha 32 (List.mem_of_getElem? e) rfl
 intro n
 induction n with
 | zero =>
  intro m h hm
  obtain rfl:m=s.size:=by omega
  rw [kI_ (fun x h1 h2=>by omega)]
  simp only [List.map_cons,List.map_nil,f7_]
  rw [List.drop_eq_nil_of_le (by omega)];rfl
 | succ n ih =>
  intro m h hm
  by_cases hb:(32:UInt8) ∈ s.data.toList.drop m
  ·obtain ⟨a,b,e,hna⟩:=List.eq_append_cons_of_mem hb
   have hna2:∀ c ∈ a,c≠32:=fun c hc e=>hna (e▸hc)
   have hl:s.size-m=a.length+b.length+1:=by
    have:=congrArg List.length e
    rw [List.length_drop,List.length_append,List.length_cons,hsz] at this;omega
   have hi:m+a.length<s.size:=by omega
   have e2:s.data.toList.drop (m+a.length)=32::b:=by rw [← List.drop_drop,e,List.drop_left]
   have e3:s.data.toList.drop (m+a.length+1)=b:=by rw [← List.drop_drop,e2];rfl
   have hc:s[m+a.length]=32:=by
    have:s.data.toList[m+a.length]?=some 32:=by
     have h5:(s.data.toList.drop (m+a.length))[0]?=some 32:=by rw [e2];rfl
     rwa [List.getElem?_drop,Nat.add_zero] at h5
    rw [List.getElem?_eq_getElem (by omega)] at this
    injection this
   rw [vS_ (Nat.le_add_right _ _) hi (hno m _ a hna2 (by rw [e2,e]) rfl) hc,List.map_cons,ih (m+a.length+1) (by omega) (by omega),e3,e,ahK_ hna2]
   congr 1
   rw [Lib.extract_data,show m+a.length-m=a.length by omega,e,List.take_left]
  ·have hna:∀ c ∈ s.data.toList.drop m,c≠32:=fun c hc e=>hb (e▸hc)
   rw [kI_ (hno m s.size _ hna (by rw [List.drop_eq_nil_of_le (i:=s.size) (by omega),List.append_nil]) (by rw [List.length_drop];omega))]
   simp only [List.map_cons,List.map_nil,f7_]
   rw [akH_ hna]
theorem m5_ {t:ByteArray}:(aS_ t).map (·.data.toList)=if t.data.toList=[] then [] else spl t.data.toList:=by
 by_cases h:t.data.toList=[]
 ·rw [if_pos h,aS_,if_pos (by rw [ByteArray.toList_eq];exact h)];rfl
 ·rw [if_neg h,m6_ (by rw [ByteArray.toList_eq];exact h),zH_ t t.size 0 (by omega) (Nat.zero_le _),List.drop_zero]
theorem wK_ (t:ByteArray):dW_ (aS_ t)=t:=by
 apply ByteArray.ext
 apply Array.toList_inj.1
 show Lib.join ((aS_ t).map (·.data.toList)) [32]=_
 rw [m5_]
 split
 ·rename_i h;rw [h];rfl
 ·exact adK_ _
end Go.Proofs.YtddfdmopaeghnacGreatDoor
namespace Go.Proofs.YtddfdmopaeghnacGreatDoor
end Go.Proofs.YtddfdmopaeghnacGreatDoor
namespace Go.Proofs.YtddfdmopaeghnacGreatDoor
def dF_ (ws:List ByteArray):Nat->List (List Nd)->Nat->Except Nat (List (List Nd))
 | 0,out,_=>.ok out
 | j+1,out,k=>if k<ws.length then
   if c4_ (a4_ ws k)=true then dF_ ws j (out++[(fG_ ws k).1]) (fG_ ws k).2
   else match cF_ ws k with
    | .error e=>.error e
    | .ok (x,k')=>dF_ ws j (out++[x]) k'
  else .ok out
theorem sX_ (ws:List ByteArray):gK_ ws (cF_ ws):=by
 intro k hk
 cases wl:isW ws k [108,101,116] with
 | false =>
  obtain ⟨h1,h2⟩:=jO_ ws k hk
  cases hp:pX ws k with
  | error x=>rw [vL_ wl hp];exact ⟨fun x k' e=>(by cases e),fun e he=>by cases he;exact h2 _ hp⟩
  | ok r =>
   obtain ⟨x,k2⟩:=r
   obtain ⟨g1,g2,g3,g4⟩:=h1 x k2 hp
   cases w59:isW ws k2 [59] with
   | false=>rw [vM_ wl hp w59];exact ⟨fun x k' e=>(by cases e),fun e he=>by cases he;exact g2⟩
   | true =>
    have:=cG_ w59
    rw [vN_ wl hp w59]
    exact yY_
 | true =>
  have hlt:=cG_ wl
  cases hn:b1_ (a4_ ws (k+1)) with
  | false=>rw [qI_ wl hn];exact ⟨fun x k' e=>(by cases e),fun e he=>by cases he;exact hlt⟩
  | true =>
   have hlt2:=m3_ hn
   cases w61:isW ws (k+2) [61] with
   | false=>rw [vR_ wl hn w61];exact ⟨fun x k' e=>(by cases e),fun e he=>by cases he;exact hlt2⟩
   | true =>
    have hlt3:=cG_ w61
    obtain ⟨h1,h2⟩:=jO_ ws (k+3) hlt3
    cases hp:pX ws (k+3) with
    | error x=>rw [vO_ wl hn w61 hp];exact ⟨fun x k' e=>(by cases e),fun e he=>by cases he;exact h2 _ hp⟩
    | ok r =>
     obtain ⟨x,k2⟩:=r
     obtain ⟨g1,g2,g3,g4⟩:=h1 x k2 hp
     cases w59:isW ws k2 [59] with
     | false=>rw [vP_ wl hn w61 hp w59];exact ⟨fun x k' e=>(by cases e),fun e he=>by cases he;exact g2⟩
     | true =>
      have:=cG_ w59
      rw [vQ_ wl hn w61 hp w59]
      exact yY_
theorem z3_ (ws:List ByteArray):∀ (f:Nat) (out:List ByteArray) (k:Nat),k<=ws.length->k<=(cB_ ws f out k).2/\(cB_ ws f out k).2<=ws.length:=by
 intro f
 induction f with
 | zero=>intro out k hk;exact ⟨Nat.le_refl _,hk⟩
 | succ f ih =>
  intro out k hk
  rw [cB_]
  cases hh:c4_ (a4_ ws k) with
  | false=>rw [if_neg (by decide)];exact ⟨Nat.le_refl _,hk⟩
  | true =>
   have hlt:=gT_ hh
   rw [if_pos rfl]
   obtain ⟨h1,h2⟩:=ih (out++eY_ (a4_ ws k)) (k+1) hlt
   exact ⟨by omega,h2⟩
end Go.Proofs.YtddfdmopaeghnacGreatDoor
namespace Go.Proofs.YtddfdmopaeghnacGreatDoor
def TxB (m:Nat) (x:List Nd):Prop:=∀ d ∈ x,d.text.size<=m
theorem TxB.one {m:Nat} {d:Nd} (h:d.text.size<=m):TxB m [d]:=by
 intro z hz;rw [List.mem_singleton.1 hz];exact h
theorem TxB.cons {m:Nat} {d:Nd} {x:List Nd} (h:d.text.size<=m) (hx:TxB m x):TxB m (d::x):=by
 intro z hz
 rcases List.mem_cons.1 hz with rfl|hz
 ·exact h
 ·exact hx z hz
theorem TxB.app {m:Nat} {x y:List Nd} (hx:TxB m x) (hy:TxB m y):TxB m (x++y):=by
 intro z hz
 rcases List.mem_append.1 hz with hz|hz
 ·exact hx z hz
 ·exact hy z hz
def WdB (ws:List ByteArray):Prop:=∀ j,(a4_ ws j).size<=60000
def o0_ (part:Nat->PrR):Prop:=∀ k x k',part k=.ok (x,k')->TxB 60000 x
theorem ad0_ {ws:List ByteArray} {op:Int} {sg:List UInt8} {part:Nat->PrR} (h:o0_ part):∀ (f:Nat) (out:List Nd) (k:Nat) (x:List Nd) (k':Nat),TxB 60000 out->cJ_ ws op sg part f out k=.ok (x,k')->TxB 60000 x:=by
 intro f
 induction f with
 | zero=>intro out k x k' ho e;rw [cJ_] at e;cases e;exact ho
 | succ f ih =>
  intro out k x k' ho e
  rw [cJ_] at e
  split at e
  ·cases hp:part (k+1) with
   | error e2=>rw [hp] at e;cases e
   | ok r =>
    obtain ⟨y,k2⟩:=r
    rw [hp] at e
    exact ih _ _ _ _ (TxB.cons (by simp) (ho.app (h _ _ _ hp))) e
  ·cases e;exact ho
theorem u8_ {ws:List ByteArray} {op:Int} {sg:List UInt8} {part:Nat->PrR} (h:o0_ part):o0_ (cR_ ws op sg part):=by
 intro k x k' e
 rw [cR_] at e
 cases hp:part k with
 | error e2=>rw [hp] at e;cases e
 | ok r =>
  obtain ⟨y,k2⟩:=r
  rw [hp] at e
  exact ad0_ h _ _ _ _ _ (h _ _ _ hp) e
theorem xH_ {ws:List ByteArray} {ed:List UInt8} {sum:Nat->PrR} (h:o0_ sum):∀ (f n:Nat) (out:List Nd) (k n':Nat) (x:List Nd) (k':Nat),TxB 60000 out->c5_ ws ed sum f n out k=.ok (n',x,k')->TxB 60000 x:=by
 intro f
 induction f with
 | zero=>intro n out k n' x k' ho e;rw [c5_] at e;cases e;exact ho
 | succ f ih =>
  intro n out k n' x k' ho e
  rw [c5_] at e
  split at e
  ·cases e;exact ho
  ·split at e
   ·cases e
   ·split at e
    ·cases e
    ·rename_i hp
     exact ih _ _ _ _ _ _ (ho.app (h _ _ _ hp)) e
theorem pE_b {ws:List ByteArray} (hw:WdB ws):∀ (f lv:Nat),o0_ (pE ws f lv):=by
 intro f
 induction f with
 | zero=>intro lv k x k' e;rw [pE] at e;cases e
 | succ f ih =>
  intro lv k x k' e
  rw [pE] at e
  split at e
  ·exact u8_ (ih 1) _ _ _ e
  split at e
  ·exact u8_ (ih 2) _ _ _ e
  split at e
  ·split at e
   ·cases e
   ·rename_i hp
    split at e
    ·cases e;exact ih _ _ _ _ hp
    ·cases e
  split at e
  ·split at e
   ·cases e
   ·rename_i hp
    cases e
    exact TxB.cons (by simp) (xH_ (ih 0) _ _ _ _ _ _ _ (fun _ h=>by cases h) hp)
  split at e
  ·cases e;exact TxB.one (by simp)
  split at e
  ·cases e
  split at e
  ·split at e
   ·cases e
   ·rename_i hp
    cases e
    exact TxB.cons (hw _) (xH_ (ih 0) _ _ _ _ _ _ _ (fun _ h=>by cases h) hp)
  ·cases e;exact TxB.one (hw _)
theorem r6_ {ws:List ByteArray} (hw:WdB ws):o0_ (cF_ ws):=by
 intro k x k' e
 rw [cF_] at e
 split at e
 ·split at e
  ·cases e
  split at e
  ·cases e
  split at e
  ·cases e
  ·rename_i hp
   split at e
   ·cases e;exact TxB.cons (hw _) (pE_b hw _ _ _ _ _ hp)
   ·cases e
 ·split at e
  ·cases e
  ·rename_i hp
   split at e
   ·cases e;exact TxB.cons (by simp) (pE_b hw _ _ _ _ _ hp)
   ·cases e
theorem z2_ {ws:List ByteArray} (hw:WdB ws):∀ (f:Nat) (out:List ByteArray) (k:Nat),e5_ (cB_ ws f out k).1<=e5_ out+60000*f:=by
 intro f
 induction f with
 | zero=>intro out k;exact Nat.le_refl _
 | succ f ih =>
  intro out k
  rw [cB_]
  split
  ·rename_i hh
   have h1:=ih (out++eY_ (a4_ ws k)) (k+1)
   have h2:=p2_ hh
   have h3:=hw k
   rw [rP_] at h1
   omega
  ·exact Nat.le_add_right _ _
theorem agX_ {ws:List ByteArray} (hw:WdB ws) (hf:ws.length<=60000) (k:Nat):TxB 3600000000 (fG_ ws k).1:=by
 have h1:=z2_ hw ws.length [] k
 have h0:e5_ ([]:List ByteArray)=0:=rfl
 have h2:=lV_ (cB_ ws ws.length [] k).1
 refine TxB.one ?_
 show (dW_ _).size<=_
 omega
theorem abI_ {ws:List ByteArray} {k:Nat} (h:c4_ (a4_ ws k)=true):k<(fG_ ws k).2/\(fG_ ws k).2<=ws.length:=by
 have hlt:=gT_ h
 obtain ⟨f,hf⟩:∃ f,ws.length=f+1:=⟨ws.length-1,by omega⟩
 have h1:=z3_ ws f ([]++eY_ (a4_ ws k)) (k+1) hlt
 have e:(fG_ ws k).2=(cB_ ws f ([]++eY_ (a4_ ws k)) (k+1)).2:=by
  show (cB_ ws ws.length [] k).2=_
  rw [hf,cB_,if_pos h]
 rw [e]
 exact ⟨by omega,h1.2⟩
theorem j0_ {ws:List ByteArray} {j k:Nat} {out:List (List Nd)} (h:ws.length<=k):dF_ ws j out k=.ok out:=by
 cases j with
 | zero=>rfl
 | succ j=>rw [dF_,if_neg (by omega)]
theorem qA_ {ws:List ByteArray} {j k:Nat} {out:List (List Nd)} (h:c4_ (a4_ ws k)=true):dF_ ws (j+1) out k=dF_ ws j (out++[(fG_ ws k).1]) (fG_ ws k).2:=by
 rw [dF_,if_pos (gT_ h),if_pos h]
theorem sI_ {ws:List ByteArray} {j k e:Nat} {out:List (List Nd)} (hk:k<ws.length) (h:c4_ (a4_ ws k)=false) (hs:cF_ ws k=.error e):dF_ ws (j+1) out k=.error e:=by
 rw [dF_,if_pos hk,if_neg (by rw [h];decide),hs]
theorem qB_ {ws:List ByteArray} {j k k':Nat} {out:List (List Nd)} {x:List Nd} (hk:k<ws.length) (h:c4_ (a4_ ws k)=false) (hs:cF_ ws k=.ok (x,k')):dF_ ws (j+1) out k=dF_ ws j (out++[x]) k':=by
 rw [dF_,if_pos hk,if_neg (by rw [h];decide),hs]
end Go.Proofs.YtddfdmopaeghnacGreatDoor
namespace Go.Proofs.YtddfdmopaeghnacGreatDoor
def tO_:List (List Nd)->Prop
 | t::u::r=>¬ (aW_ t 0=9/\aW_ u 0=9)/\tO_ (u::r)
 | _=>True
end Go.Proofs.YtddfdmopaeghnacGreatDoor
namespace Go.Proofs.YtddfdmopaeghnacGreatDoor
open Go.RowKit
structure aI_ (g:Nat) (W:Option Addr) (cw:Nat) (ws:List ByteArray) (P:Option Addr) (cp:Nat) (ps:List Nat) (k:Nat) (w:World):Prop where
 blk:w.heap[g]?=some (.cells #[.slice W ws.length cw,.slice P ps.length cp,.int .i64 (k:Nat)] 132 (0,0))
 txs:Txs w g W ws
 pls:Sl w g 1 P ps.length (ps.map fun p=>.int .i64 (p:Nat))
 len:ps.length=ws.length+1
 few:ws.length<=60000
theorem jQ_ {ws:List ByteArray} {k:Nat} (h:k<ws.length):a4_ ws k=ws[k]:=by simp [a4_,List.getD_eq_getElem?_getD,h]
theorem iR_ {ws:List ByteArray} {k:Nat} (h:ws.length<=k):a4_ ws k=.empty:=by simp [a4_,List.getD_eq_getElem?_getD,h]
theorem mE_ (w:World) (g j:Nat) (v:Value):Below g w (w.setCell ⟨g,j,none⟩ v):=(Below.refl g w).setCell (p:=⟨g,j,none⟩) (Nat.le_refl _) v
theorem aF_ (w:World) (g j:Nat) (v:Value):w.grownBy (w.setCell ⟨g,j,none⟩ v) (some g):=⟨rfl,rfl,rfl,by simp [World.setCell],fun k _ hn=>Below.heap_setCell _ _ _ _ (fun e=>hn (by rw [e]))⟩
theorem bH_ {w w':World} (row:Option Nat) (hb:Below w.heap.size w w'):w.grownBy w' row:=⟨hb.os,hb.tape,hb.output,hb.size,fun k hk _=>hb.block k hk⟩
section
variable {g cw cp k:Nat} {W P:Option Addr} {ws:List ByteArray} {ps:List Nat} {w w':World}
theorem aI_.lt (h:aI_ g W cw ws P cp ps k w):g<w.heap.size:=(Array.getElem?_eq_some_iff.1 h.blk).1
theorem aI_.past (h:aI_ g W cw ws P cp ps k w) (hb:Below w.heap.size w w'):aI_ g W cw ws P cp ps k w' :=
 ⟨(hb.block g h.lt).trans h.blk,⟨h.txs.1.below hb (Nat.le_of_lt h.lt),h.txs.2⟩,h.pls.below hb (Nat.le_of_lt h.lt),h.len,h.few⟩
theorem aI_.cells (h:aI_ g W cw ws P cp ps k w):w.cell? ⟨g,0,none⟩=some (.slice W ws.length cw)/\w.cell? ⟨g,1,none⟩=some (.slice P ps.length cp)/\w.cell? ⟨g,2,none⟩=some (.int .i64 (k:Nat))/\w.frozen? ⟨g,2,none⟩=false:=by
 refine ⟨?_, ?_, ?_,Lib.frozen_of_heap h.blk 2⟩ <;> rw [Lib.cell_of_heap h.blk] <;> rfl
theorem aI_.set (h:aI_ g W cw ws P cp ps k w) (j:Nat) {v:Int} (hv:v=j):aI_ g W cw ws P cp ps j (w.setCell ⟨g,2,none⟩ (.int .i64 v)):=by
 subst hv
 exact ⟨by simp [World.setCell,Array.getElem?_modify,h.blk],⟨h.txs.1.below (mE_ _ _ _ _) (Nat.le_refl _),h.txs.2⟩,h.pls.below (mE_ _ _ _ _) (Nat.le_refl _),h.len,h.few⟩
theorem aI_.word (h:aI_ g W cw ws P cp ps k w) (hk:k<ws.length):∃ b off,W=some ⟨b,off,none⟩/\b<g/\w.cell? ⟨b,off+k,none⟩=some (.string (a4_ ws k)):=by
 obtain ⟨b,off,u,e,hb,hu,hc⟩:=h.txs.1.one (k:=k) hk
 refine ⟨b,off,e,hb, ?_⟩
 rw [jQ_ hk,hc]
 rw [List.getElem?_map,List.getElem?_eq_getElem hk] at hu
 simpa using hu.symm
theorem aI_.size (h:aI_ g W cw ws P cp ps k w) (j:Nat):(a4_ ws j).size<=maxLen:=by
 rcases Nat.lt_or_ge j ws.length with hj|hj
 ·rw [jQ_ hj];exact h.txs.2.2 _ (List.getElem_mem _)
 ·rw [iR_ hj];exact Nat.zero_le _
theorem aI_.place (h:aI_ g W cw ws P cp ps k w) (hk:k<=ws.length):∃ b off,P=some ⟨b,off,none⟩/\b<g/\w.cell? ⟨b,off+k,none⟩=some (.int .i64 (ps.getD k 0:Nat)):=by
 have hk2:k<ps.length:=by have:=h.len;omega
 obtain ⟨b,off,u,e,hb,hu,hc⟩:=h.pls.one (k:=k) hk2
 refine ⟨b,off,e,hb, ?_⟩
 rw [hc,List.getD_eq_getElem?_getD,List.getElem?_eq_getElem hk2]
 rw [List.getElem?_map,List.getElem?_eq_getElem hk2] at hu
 simpa using hu.symm
end
def eP_ (g:Nat) (ps:List Nat) (x:Nat) (w:World) (e:Ending) (w':World):Prop:=e=.panicked [{ v:=.iface 193 (.agg #[.int .i64 (ps.getD x 0:Nat)]),recovered:=false }]/\w.grownBy w' (some g)
def mT_ (g:Nat) (W:Option Addr) (cw:Nat) (ws:List ByteArray) (P:Option Addr) (cp:Nat) (ps:List Nat) (k:Nat) (v:Value) (w:World) (e:Ending) (w':World):Prop :=
 e=.returned v/\aI_ g W cw ws P cp ps k w'/\w.grownBy w' (some g)
theorem lq49 {P:Prop} (h:P:=by
 go_wp2
 go_quiet (fail)
 go_wp2
 go_ret
 exact ⟨rfl,by first|exact e2_ (e2_ (Below.refl _ _))|exact e2_ (Below.refl _ _)⟩):P:=h
theorem dX_ {g cw cp k:Nat} {W P:Option Addr} {ws:List ByteArray} {ps:List Nat} (w:World) (hs:aI_ g W cw ws P cp ps k w) (hk:k<=ws.length) :
  Calls Tryz.prog 113 #[.pointer (some ⟨g,0,none⟩)] w (Ret w (.string (a4_ ws k))):=by
 obtain ⟨c0,c1,c2,f2⟩:=hs.cells
 have hg:=hs.lt
 have hf:=hs.few
 by_cases hlt:k<ws.length
 ·obtain ⟨b,off,rfl,hb,hw⟩:=hs.word hlt
  generalize a4_ ws k=s at *
  generalize ws.length=n at *
  clear hs c1 f2
  have q2:decide ((k:Int)<(n:Int))=true:=decide_eq_true (by omega)
  go_enter Tryz.func113,Tryz.ntmps113
  go_wp2
  go_quiet (fail)
  exact lq49
 ·rw [iR_ (by omega)]
  generalize ws.length=n at *
  clear hs c1 f2
  have q2:decide ((k:Int)<(n:Int))=false:=decide_eq_false (by omega)
  go_enter Tryz.func113,Tryz.ntmps113
  exact lq49
theorem pB_ {g cw cp k:Nat} {W P:Option Addr} {ws:List ByteArray} {ps:List Nat} (w:World) (hs:aI_ g W cw ws P cp ps k w) (hk:k<=ws.length) :
  Calls Tryz.prog 163 #[.pointer (some ⟨g,0,none⟩)] w (mT_ g W cw ws P cp ps (k+1) (.string (a4_ ws k)) w):=by
 have HP:=hd_ (dX_ w hs hk)
 have HS:=hd_ hs
 have hf:=hs.few
 generalize a4_ ws k=s at *
 generalize ws.length=n at *
 clear hs
 go_enter Tryz.func163,Tryz.ntmps163
 go_wp2_with (go_at_call 113;refine HP.out.mono ?_;rintro e w1 ⟨rfl,hB⟩;have hs1:=HS.out.past hB;obtain ⟨-,-,c2,f2⟩:=hs1.cells;have HM:=hd_ hs1;have HG:Hid (w.grownBy w1 (some g)):=hd_ (bH_ _ hB);clear hB hs1)
 go_ret
 exact ⟨rfl,HM.out.set (k+1) (by go_num),a0_ HG.out (aF_ _ _ _ _)⟩
theorem uF_ {g cw cp k:Nat} {W P:Option Addr} {ws:List ByteArray} {ps:List Nat} (w:World) (hs:aI_ g W cw ws P cp ps k w) (hk:k<=ws.length) :
  Calls Tryz.prog 189 #[.pointer (some ⟨g,0,none⟩)] w (eP_ g ps k w):=by
 obtain ⟨c0,c1,c2,f2⟩:=hs.cells
 have hg:=hs.lt
 have hf:=hs.few
 have hl:=hs.len
 obtain ⟨b,off,rfl,hb,hw⟩:=hs.place hk
 obtain ⟨x,hx⟩:∃ x,x=ps.getD k 0:=⟨_,rfl⟩
 rw [← hx] at hw
 have HX:=hd_ hx
 clear hx
 have q1:(0:Int)<=(k:Int):=by omega
 have q2:(k:Int)<(ps.length:Int):=by omega
 have q3:k<ps.length:=by omega
 clear hs c0 f2 hl
 generalize ps.length=n at *
 go_enter Tryz.func189,Tryz.ntmps189
 go_wp2
 go_region_dies
 all_goals (try go_wp2)
 all_goals exact ⟨rfl,by rw [HX.out],bH_ _ (Below.refl _ _).drew⟩
theorem l6_ {g cw cp k:Nat} {W P:Option Addr} {ws:List ByteArray} {ps:List Nat} (s:ByteArray) (w:World) (hs:aI_ g W cw ws P cp ps k w) (hk:k<=ws.length) (h:((a4_ ws k).toList==s.toList)=true) :
  Calls Tryz.prog 166 #[.pointer (some ⟨g,0,none⟩),.string s] w (mT_ g W cw ws P cp ps (k+1) (.tuple #[]) w):=by
 have HP:=hd_ (dX_ w hs hk)
 have HS:=hd_ hs
 have hf:=hs.few
 generalize a4_ ws k=t at *
 generalize ws.length=n at *
 clear hs
 go_enter Tryz.func166,Tryz.ntmps166
 go_wp2_with (go_at_call 113;refine HP.out.mono ?_;rintro e w1 ⟨rfl,hB⟩;have hs1:=HS.out.past hB;obtain ⟨-,-,c2,f2⟩:=hs1.cells;have HM:=hd_ hs1;have HG:Hid (w.grownBy w1 (some g)):=hd_ (bH_ _ hB);clear hB hs1)
 go_end0
 exact ⟨rfl,HM.out.set (k+1) (by go_num),a0_ HG.out (aF_ _ _ _ _)⟩
theorem jV_ {g cw cp k:Nat} {W P:Option Addr} {ws:List ByteArray} {ps:List Nat} (s:ByteArray) (w:World) (hs:aI_ g W cw ws P cp ps k w) (hk:k<=ws.length) (h:((a4_ ws k).toList==s.toList)=false) :
  Calls Tryz.prog 166 #[.pointer (some ⟨g,0,none⟩),.string s] w (eP_ g ps k w):=by
 have HP:=hd_ (dX_ w hs hk)
 have HF:=hd_ (fun w' (h':aI_ g W cw ws P cp ps k w')=>uF_ w' h' hk)
 have HS:=hd_ hs
 have hf:=hs.few
 generalize a4_ ws k=t at *
 clear hs hf hk
 go_enter Tryz.func166,Tryz.ntmps166
 go_wp2_with (first
  | (go_at_call 113;refine HP.out.mono ?_;rintro e w1 ⟨rfl,hB⟩;have HM:=hd_ (HS.out.past hB);have HG:Hid (w.grownBy w1 (some g)):=hd_ (bH_ _ hB);clear hB)
  | (go_at_call 189;refine (HF.out _ HM.out).mono ?_;rintro e w2 ⟨rfl,hG2⟩;have HG:=hd_ (a0_ HG.out hG2);clear hG2))
 exact ⟨rfl,by trivial,HG.out⟩
theorem v7_ {g cw cp k:Nat} {W P:Option Addr} {ws:List ByteArray} {ps:List Nat} (w:World) (hs:aI_ g W cw ws P cp ps k w) (hk:k<=ws.length) (h:b1_ (a4_ ws k)=true) :
  Calls Tryz.prog 165 #[.pointer (some ⟨g,0,none⟩)] w (mT_ g W cw ws P cp ps (k+1) (.string (a4_ ws k)) w):=by
 have HP:=hd_ (dX_ w hs hk)
 have HT:=hd_ (fun w' (h':aI_ g W cw ws P cp ps k w')=>pB_ w' h' hk)
 have HN:=hd_ (fun w'=>o7_ h (hs.size k) w')
 have HS:=hd_ hs
 generalize a4_ ws k=s at *
 clear hs hk h
 go_enter Tryz.func165,Tryz.ntmps165
 go_wp2_with (first
  | (go_at_call 113;refine HP.out.mono ?_;rintro e w1 ⟨rfl,hB⟩;have HM:=hd_ (HS.out.past hB);have HG:Hid (w.grownBy w1 (some g)):=hd_ (bH_ _ hB);clear hB)
  | (go_at_call 135;refine (HN.out _).mono ?_;rintro e w2 ⟨rfl,rfl⟩)
  | (go_at_call 163;refine (HT.out _ HM.out).mono ?_;rintro e w3 ⟨rfl,hs3,hG3⟩;have HM:=hd_ hs3;have HG:=hd_ (a0_ HG.out hG3);clear hs3 hG3))
 go_ret
 exact ⟨rfl,HM.out,HG.out⟩
theorem nJ_ {g cw cp k:Nat} {W P:Option Addr} {ws:List ByteArray} {ps:List Nat} (w:World) (hs:aI_ g W cw ws P cp ps k w) (hk:k<=ws.length) (h:b1_ (a4_ ws k)=false) :
  Calls Tryz.prog 165 #[.pointer (some ⟨g,0,none⟩)] w (eP_ g ps k w):=by
 have HP:=hd_ (dX_ w hs hk)
 have HF:=hd_ (fun w' (h':aI_ g W cw ws P cp ps k w')=>uF_ w' h' hk)
 have HN:=hd_ (fun w'=>o7_ h (hs.size k) w')
 have HS:=hd_ hs
 generalize a4_ ws k=s at *
 clear hs hk h
 go_enter Tryz.func165,Tryz.ntmps165
 go_wp2_with (first
  | (go_at_call 113;refine HP.out.mono ?_;rintro e w1 ⟨rfl,hB⟩;have HM:=hd_ (HS.out.past hB);have HG:Hid (w.grownBy w1 (some g)):=hd_ (bH_ _ hB);clear hB)
  | (go_at_call 135;refine (HN.out _).mono ?_;rintro e w2 ⟨rfl,rfl⟩)
  | (go_at_call 189;refine (HF.out _ HM.out).mono ?_;rintro e w3 ⟨rfl,hG3⟩;have HG:=hd_ (a0_ HG.out hG3);clear hG3))
 exact ⟨rfl,by trivial,HG.out⟩
end Go.Proofs.YtddfdmopaeghnacGreatDoor
namespace Go.Proofs.YtddfdmopaeghnacGreatDoor
theorem TxB.short {m:Nat} {x:List Nd} (h:TxB m x) (hm:m<=3600000000):d6_ x:=fun d hd=>by have:=h d hd;omega
def bE_ (s:ByteArray):List ByteArray:=b8_ (b0_ s)
def dQ_ (s:ByteArray):List Nat:=(b0_ s).map (·.1)++[s.size]
theorem i6_ (s:ByteArray):(bE_ s).length=(b0_ s).length:=by simp [bE_,b8_]
theorem wV_ (s:ByteArray):(dQ_ s).length=(bE_ s).length+1:=by simp [dQ_,bE_,b8_]
def aH_ (s:ByteArray):Int × Nat × List (List Nd) :=
 if (cP_ s).1≠0 then ((cP_ s).1,(cP_ s).2,[])
 else match dF_ (bE_ s) (bE_ s).length [] 0 with
  | .error x=>(5,(dQ_ s).getD x 0,[])
  | .ok l=>if (c1_ l).2≠0 then ((c1_ l).2,0,[]) else (0,0,l)
theorem jG_ {s:ByteArray} (h:(cP_ s).1≠0):aH_ s=((cP_ s).1,(cP_ s).2,[]):=by rw [aH_,if_pos h]
theorem jF_ {s:ByteArray} {x:Nat} (h:(cP_ s).1=0) (hp:dF_ (bE_ s) (bE_ s).length [] 0=.error x):aH_ s=(5,(dQ_ s).getD x 0,[]):=by rw [aH_,if_neg (by simp [h]),hp]
theorem kU_ {s:ByteArray} {l:List (List Nd)} (h:(cP_ s).1=0) (hp:dF_ (bE_ s) (bE_ s).length [] 0=.ok l) (hq:(c1_ l).2≠0):aH_ s=((c1_ l).2,0,[]):=by
 rw [aH_,if_neg (by simp [h]),hp]
 simp only
 rw [if_pos hq]
theorem nF_ {s:ByteArray} {l:List (List Nd)} (h:(cP_ s).1=0) (hp:dF_ (bE_ s) (bE_ s).length [] 0=.ok l) (hq:(c1_ l).2=0):aH_ s=(0,0,l):=by
 rw [aH_,if_neg (by simp [h]),hp]
 simp only
 rw [if_neg (by simp [hq])]
theorem kN_ {s:ByteArray} {j:Nat} (h:j<(b0_ s).length):a4_ (bE_ s) j=⟨((b0_ s)[j]).2.toArray⟩:=by
 rw [jQ_ (by rw [i6_];exact h)]
 simp [bE_,b8_]
theorem qN_ {s:ByteArray} (hs:s.size<=60000):WdB (bE_ s):=by
 intro j
 rcases Nat.lt_or_ge j (b0_ s).length with h|h
 ·rw [kN_ h]
  have:=(n4_ hs _ (List.getElem_mem h)).1
  simpa [ByteArray.size] using this
 ·rw [iR_ (by rw [i6_];exact h)];exact Nat.zero_le _
theorem zU_ {w:List UInt8} (h:pH_ w) {c:UInt8} {r:List UInt8} (e:w=c::r) (hc:c0_ c=true):w.all c0_=true/\w.length<=6:=by
 obtain ⟨h1,h2,h3⟩:=l1_ hc
 have hl:=h.lex 0
 subst e
 cases hb:(aR_ (c::r)).2 with
 | false=>rw [iG_ h1 hb] at hl;simp at hl
 | true =>
  rw [f2_ h1 hb] at hl
  have hh:bP_ ((c::r).take (aR_ (c::r)).1)=c::r:=by
   have:=congrArg (fun x=>x.1.head?.map (·.2)) hl
   simpa using this
  have hn:(c::r).length<=(aR_ (c::r)).1:=by
   have a1:=mN_ ((c::r).take (aR_ (c::r)).1)
   rw [hh,List.length_take] at a1
   omega
  have hf:aR_ (c::r)=(aU_ c0_ (c::r),decide (aU_ c0_ (c::r)<=6)&&(decide (aU_ c0_ (c::r)=1)||!(c==48))):=by
   rw [cM_,if_neg (by rw [h3];decide),if_pos hc]
  rw [hf] at hb hn
  simp only [Bool.and_eq_true,decide_eq_true_eq] at hb
  refine ⟨List.all_eq_true.2 (fun z hz=>nO_ (c::r) (c::r).length hn z (by rw [List.take_length];exact hz)), ?_⟩
  have:=hb.1
  simp only at hn
  omega
theorem qM_ (s:ByteArray):DgW (bE_ s):=by
 intro j hj
 have hlt:=qV_ hj
 rw [i6_] at hlt
 rw [kN_ hlt] at hj ⊢
 have hw:=k8_ _ 0 s.data.toList (Nat.le_refl _) _ (List.getElem_mem (l:=b0_ s) hlt)
 generalize ((b0_ s)[j]).2=w at *
 unfold eI_ at hj
 simp only at hj
 cases w with
 | nil=>simp at hj
 | cons c r =>
  simp only at hj
  obtain ⟨g1,g2⟩:=zU_ hw rfl hj
  exact ⟨g1,by simpa [ByteArray.size] using g2⟩
end Go.Proofs.YtddfdmopaeghnacGreatDoor
namespace Go.Proofs.YtddfdmopaeghnacGreatDoor
theorem rW_ {u:List Nd}:gU_ u=decide (aW_ u 0=9):=by
 cases u with
 | nil=>rfl
 | cons d r=>rfl
theorem wX_:∀ (l:List (List Nd)) (i:Nat) (pn:Bool),(jH_ l i pn).2=0->(∀ u ∈ l,aY_ u=0)/\tO_ l/\∀ u r,l=u::r->¬ (pn=true/\aW_ u 0=9):=by
 intro l
 induction l with
 | nil=>intro i pn _;exact ⟨by simp,trivial,fun u r e=>by cases e⟩
 | cons t l ih =>
  intro i pn h
  rw [jH_] at h
  by_cases h1:aY_ t=0
  ·rw [if_neg (by simp [h1])] at h
   by_cases h2:(pn&&gU_ t)=true
   ·rw [if_pos h2] at h;cases h
   ·rw [if_neg h2] at h
    obtain ⟨g1,g2,g3⟩:=ih _ _ h
    refine ⟨fun u hu=>?_, ?_,fun u r e=>?_⟩
    ·rcases List.mem_cons.1 hu with rfl|hu
     ·exact h1
     ·exact g1 u hu
    ·cases l with
     | nil=>trivial
     | cons u r=>exact ⟨fun ⟨a,b⟩=>g3 u r rfl ⟨by rw [rW_];exact decide_eq_true a,b⟩,g2⟩
    ·cases e
     rintro ⟨rfl,b⟩
     exact h2 (by rw [rW_,decide_eq_true b];rfl)
  ·rw [if_pos h1] at h;exact absurd h h1
theorem oP_ {p:List (List Nd)} (h:(c1_ p).2=0):p.length<=20/\(∀ u ∈ p,aY_ u=0)/\tO_ p:=by
 unfold c1_ at h
 split at h
 ·cases h
 ·obtain ⟨h1,h2,_⟩:=wX_ p 0 false h
  exact ⟨by omega,h1,h2⟩
theorem s6_ (a b:List ByteArray):cZ_ (a++b)=cZ_ a+cZ_ b:=by
 induction a with
 | nil=>simp [cZ_]
 | cons t r ih=>simp only [List.cons_append,cZ_,ih];omega
def lZ_ (u:List Nd):ByteArray:=if aW_ u 0=9 then (let x:=(u.getD 0 ⟨0,.empty,0⟩).text;if x.data.toList=[] then ⟨#[35]⟩ else ⟨#[35,32]⟩++x) else g6_ u u.length 0
end Go.Proofs.YtddfdmopaeghnacGreatDoor
