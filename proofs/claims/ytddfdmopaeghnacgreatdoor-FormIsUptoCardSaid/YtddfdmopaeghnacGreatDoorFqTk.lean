/- Plain: what a word may be; a note is one node. With what it rests on. Conditions: as each theorem states them. -/
import Derived.Test.YtddfdmopaeghnacGreatDoorFqTr
import Derived.Test.YtddfdmopaeghnacGreatDoorFqMk
import Derived.Test.YtddfdmopaeghnacGreatDoorFqLx
import Derived.Lib.ItoaNum
import Derived.Lib.FieldsP
import Derived.Lib.TrimU
import Derived.Lib.Join
import Derived.Lib.Strings
import Derived.Laws.RangeString
import Derived.Test.YtddfdmopaeghnacGreatDoorFqCa
import Derived.Deep.RegionHeld3
import Derived.RegionDies
set_option maxRecDepth 100000
set_option maxHeartbeats 16000000
namespace Go.Proofs.YtddfdmopaeghnacGreatDoor
theorem wordF_facts {w:ByteArray} (h:wordF w=true):w.data.toList≠[]/\w.size<=20/\∀ c ∈ w.data.toList,33<=c.toNat/\c.toNat<=126:=by
 simp only [wordF,Bool.and_eq_true,Bool.not_eq_true',decide_eq_true_eq,ByteArray.toList_eq,List.isEmpty_eq_false_iff] at h
 refine ⟨h.1.1,h.1.2,fun c hc=>?_⟩
 have:=List.all_eq_true.1 h.2 c hc
 simpa [visC] using this
theorem wordsF_facts {l:List ByteArray} (h:wordsF l=0):l.length<=60/\∀ w ∈ l,wordF w=true:=by
 unfold wordsF at h
 split at h
 ·cases h
 ·split at h
  ·rename_i h1 h2
   exact ⟨by omega,fun w hw=>List.all_eq_true.1 h2 w hw⟩
  ·cases h
theorem opAt_of {l:List Nd} {i:Nat} (hi:i<l.length):opAt l i=l[i].op:=by rw [opAt,getD_at hi]
theorem tone_n {op n:Int} {t:ByteArray} (h:treeOne op t n=0) (hm:mostF op<0):n=0:=by
 unfold treeOne at h
 split at h
 ·cases h
 ·split at h
  ·cases h
  ·rename_i hh
   by_cases hn:n=0
   ·exact hn
   ·exact absurd (.inl ⟨hm,hn⟩) hh
theorem tree_pos {u:List Nd} (h:treeF u=0):0<u.length:=by
 have:=(Tr.of_check h).root
 rcases Nat.eq_zero_or_pos u.length with h1|h1
 ·rw [posAt_ge (by omega)] at this;cases this
 ·exact h1
theorem tree_note {u:List Nd} (h:treeF u=0) (h9:opAt u 0=9):∃ x,u=[⟨9,x,0⟩]/\treeOne 9 x 0=0:=by
 have hT:=Tr.of_check h
 have hp:=tree_pos h
 have hk:=hT.kidsP hp
 have hm:(manyL u).getD 0 0=(manyF u[0].op u[0].n).toNat:=manyL_at hp rfl
 have hone:=hT.one _ (List.getElem_mem hp)
 rw [opAt_of hp] at h9
 rw [hm,h9,show (manyF 9 u[0].n).toNat=0 from rfl,KidsP] at hk
 have hend:tEnd u 0=u.length:=by rw [tEnd,hT.root];rfl
 have hl:u.length=1:=by omega
 rw [h9] at hone
 have hn:=tone_n hone (by decide)
 refine ⟨u[0].text,?_,by rw [hn] at hone;exact hone⟩
 match u,hl with
 | [d],_ =>
  simp only [List.getElem_cons_zero] at h9 hn ⊢
  obtain ⟨op,t,n⟩:=d
  simp only at h9 hn
  subst h9 hn
  rfl
end Go.Proofs.YtddfdmopaeghnacGreatDoor
namespace Go.Proofs.YtddfdmopaeghnacGreatDoor
def alnB (c:UInt8):Bool:=lowB c||digB c
def Lx (ed:Bool) (tk:List (List UInt8)) (s:List UInt8):Prop :=
 ∀ (i:Nat) (r:List UInt8),(ed=true->∀ c r',r=c::r'->alnB c=false)->(lexL i (s++r)).1.map (·.2)=tk++(lexL (i+s.length) r).1.map (·.2)/\(lexL i (s++r)).2=(lexL (i+s.length) r).2
theorem lx_of {ed:Bool} {c:UInt8} {w:List UInt8} (hb:(c==32||c==10)=false) (ht:trimR (c::w)=c::w)
  (hf:∀ r,(ed=true->∀ d r',r=d::r'->alnB d=false)->firstW (c::(w++r))=((c::w).length,true)):Lx ed [c::w] (c::w):=by
 intro i r hr
 have h:=hf r hr
 rw [List.cons_append,lexL_word hb (by rw [h]),h]
 have e1:(c::(w++r)).take (c::w).length=c::w:=by rw [← List.cons_append,List.take_left]
 have e2:(c::(w++r)).drop (c::w).length=r:=by rw [← List.cons_append,List.drop_left]
 simp only [e1,e2,ht]
 exact ⟨rfl,trivial⟩
theorem runB_stopX {p:UInt8->Bool} {r:List UInt8} (hr:∀ c r',r=c::r'->p c=false):∀ {w:List UInt8},(∀ c ∈ w,p c=true)->runB p (w++r)=w.length:=by
 intro w
 induction w with
 | nil =>
  intro _
  cases r with
  | nil=>rfl
  | cons c r'=>rw [List.nil_append,runB,if_neg (by rw [hr c r' rfl];decide)];rfl
 | cons c w ih =>
  intro h
  rw [List.cons_append,runB,if_pos (h c (by simp)),ih (fun d hd=>h d (by simp [hd]))];rfl
theorem aln_no {c:UInt8} (h:alnB c=false):lowB c=false/\digB c=false:=by simpa [alnB] using h
theorem Lx.num {w:List UInt8} (h0:0<w.length) (h6:w.length<=6) (h:∀ c ∈ w,digB c=true) (hz:w.length=1∨w.head?≠some 48):Lx true [w] w:=by
 cases w with
 | nil=>simp at h0
 | cons c w =>
  have hc:=h c (by simp)
  refine lx_of (dig_nb hc).1 (trimR_of fun d hd=>(dig_nb (h d hd)).2.1) (fun r hr=>?_)
  have e:=runB_stopX (p:=digB) (r:=r) (fun d r' e=>(aln_no (hr rfl d r' e)).2) (w:=c::w) h
  rw [List.cons_append] at e
  rw [firstW_cons,if_neg (by rw [(dig_nb hc).2.2];decide),if_pos hc,e,decide_eq_true h6]
  rcases hz with hz|hz
  ·rw [decide_eq_true hz];rfl
  ·have:(c==48)=false:=by simpa using hz
   rw [this];simp
theorem decDigits_facts:∀ u:Nat,(∀ c ∈ Lib.decDigits u,digB c=true)/\(0<u->(Lib.decDigits u).head?≠some 48)/\(Lib.decDigits u).foldl (fun (n:Int) c=>n*10+((c.toNat:Int)-48)) 0=(u:Int):=by
 intro u
 induction u using Nat.strongRecOn with
 | _ u ih =>
  have hone:∀ d:Fin 10,digB (UInt8.ofNat (48+d.val))=true/\(UInt8.ofNat (48+d.val)).toNat=48+d.val/\(0<d.val->UInt8.ofNat (48+d.val)≠48):=by decide +kernel
  by_cases h:u<10
  ·obtain ⟨a1,a2,a3⟩:=hone ⟨u,h⟩
   rw [Lib.decDigits_one h]
   refine ⟨by simpa using a1,fun h0=>by simpa using a3 h0,?_⟩
   simp only [List.foldl_cons,List.foldl_nil,a2]
   omega
  ·obtain ⟨b1,b2,b3⟩:=ih (u / 10) (by omega)
   obtain ⟨a1,a2,a3⟩:=hone ⟨u % 10,Nat.mod_lt _ (by omega)⟩
   have e:Lib.decDigits u=Lib.decDigits (u / 10)++[UInt8.ofNat (48+u % 10)]:=by rw [Lib.decDigits,dif_neg h]
   rw [e]
   refine ⟨fun c hc=>?_,fun _=>?_,?_⟩
   ·rcases List.mem_append.1 hc with hc|hc
    ·exact b1 c hc
    ·rw [List.mem_singleton.1 hc];exact a1
   ·have:=b2 (by omega)
    cases hd:Lib.decDigits (u / 10) with
    | nil=>have:=Lib.decDigits_length (u / 10);rw [hd] at this;have:=Lib.nDigits_pos (u / 10);simp at *;omega
    | cons c r=>rw [hd] at this;simpa using this
   ·rw [List.foldl_append,b3]
    simp only [List.foldl_cons,List.foldl_nil,a2]
    omega
theorem itoa_nat {n:Int} (h0:0<=n):Lib.itoa n=Lib.decDigits n.toNat:=by rw [Lib.itoa,if_neg (by omega)]
theorem Lx.itoa {n:Int} (h0:0<=n) (h:n<=999999):Lx true [Lib.itoa n] (Lib.itoa n):=by
 have hl:=itoa_len6 h0 h
 obtain ⟨a1,a2,a3⟩:=decDigits_facts n.toNat
 rw [itoa_nat h0] at *
 refine Lx.num hl.1 hl.2 a1 ?_
 rcases Nat.eq_zero_or_pos n.toNat with hz|hz
 ·left;rw [hz,Lib.decDigits_one (by omega)];rfl
 ·exact .inr (a2 hz)
def kidK (po ko:Int) (second:Bool) (x:List (List UInt8)):List (List UInt8):=if boundF po ko second=true then [40]::(x++[[41]]) else x
def kidsK (g:Nat->List (List UInt8)) (e:Nat->Nat):Nat->Nat->List (List UInt8)
 | _,0=>[]
 | a,m+1=>if m=0 then g a else g a++[44]::kidsK g e (e a) m
def tokT (l:List Nd):Nat->Nat->List (List UInt8)
 | 0,_=>[]
 | f+1,i =>
  let d:=l.getD i ⟨0,.empty,0⟩
  if d.op=1 then [Lib.itoa d.n]
  else if d.op=2 then [d.text.data.toList]
  else if d.op=3 then d.text.data.toList::[40]::(kidsK (tokT l f) (tEnd l) (i+1) d.n.toNat++[[41]])
  else if d.op=4 then [91]::(kidsK (tokT l f) (tEnd l) (i+1) d.n.toNat++[[93]])
  else if d.op=5 then kidK 5 (opAt l (i+1)) false (tokT l f (i+1))++[43]::kidK 5 (opAt l (tEnd l (i+1))) true (tokT l f (tEnd l (i+1)))
  else if d.op=6 then kidK 6 (opAt l (i+1)) false (tokT l f (i+1))++[42]::kidK 6 (opAt l (tEnd l (i+1))) true (tokT l f (tEnd l (i+1)))
  else if d.op=7 then [108,101,116]::d.text.data.toList::[61]::(tokT l f (i+1)++[[59]])
  else tokT l f (i+1)++[[59]]
end Go.Proofs.YtddfdmopaeghnacGreatDoor
namespace Go.Proofs.YtddfdmopaeghnacGreatDoor
def wdAt (ws:List ByteArray) (k:Nat):ByteArray:=ws.getD k .empty
def isW (ws:List ByteArray) (k:Nat) (c:List UInt8):Bool:=(wdAt ws k).toList==c
def digC (c:UInt8):Bool:=decide (48<=c.toNat)&&decide (c.toNat<=57)
def digW (s:ByteArray):Bool:=match s.data.toList with
 | []=>false
 | c::_=>digC c
def numW (s:ByteArray):Int:=s.data.toList.foldl (fun n c=>n*10+((c.toNat:Int)-48)) 0
abbrev PrR:=Except Nat (List Nd × Nat)
def chainP (ws:List ByteArray) (op:Int) (sg:List UInt8) (part:Nat->PrR):Nat->List Nd->Nat->PrR
 | 0,out,k=>.ok (out,k)
 | f+1,out,k=>if isW ws k sg=true then
   match part (k+1) with
   | .error e=>.error e
   | .ok (x,k')=>chainP ws op sg part f (⟨op,.empty,0⟩::(out++x)) k'
  else .ok (out,k)
def chainS (ws:List ByteArray) (op:Int) (sg:List UInt8) (part:Nat->PrR) (k:Nat):PrR :=
 match part k with
 | .error e=>.error e
 | .ok (x,k')=>chainP ws op sg part ws.length x k'
def manyP (ws:List ByteArray) (ed:List UInt8) (sum:Nat->PrR):Nat->Nat->List Nd->Nat->Except Nat (Nat × List Nd × Nat)
 | 0,n,out,k=>.ok (n,out,k)
 | f+1,n,out,k=>if isW ws k ed=true then .ok (n,out,k+1)
  else if 0<n/\isW ws k [44]=false then .error k
  else match sum (if 0<n then k+1 else k) with
   | .error e=>.error e
   | .ok (x,k')=>manyP ws ed sum f (n+1) (out++x) k'
def pE (ws:List ByteArray):Nat->Nat->Nat->PrR
 | 0,_,k=>.error k
 | f+1,lv,k =>
  if lv=0 then chainS ws 5 [43] (pE ws f 1) k
  else if lv=1 then chainS ws 6 [42] (pE ws f 2) k
  else if isW ws k [40]=true then
   match pE ws f 0 (k+1) with
   | .error e=>.error e
   | .ok (x,k')=>if isW ws k' [41]=true then .ok (x,k'+1) else .error k'
  else if isW ws k [91]=true then
   match manyP ws [93] (pE ws f 0) (ws.length+1) 0 [] (k+1) with
   | .error e=>.error e
   | .ok (n,x,k')=>.ok (⟨4,.empty,(n:Nat)⟩::x,k')
  else if digW (wdAt ws k)=true then .ok ([⟨1,.empty,numW (wdAt ws k)⟩],k+1)
  else if nameF (wdAt ws k)=false then .error k
  else if isW ws (k+1) [40]=true then
   match manyP ws [41] (pE ws f 0) (ws.length+1) 0 [] (k+2) with
   | .error e=>.error e
   | .ok (n,x,k')=>.ok (⟨3,wdAt ws k,(n:Nat)⟩::x,k')
  else .ok ([⟨2,wdAt ws k,0⟩],k+1)
theorem wdAt_lt {ws:List ByteArray} {k:Nat} (h:(wdAt ws k).toList≠[]):k<ws.length:=by
 rcases Nat.lt_or_ge k ws.length with h1|h1
 ·exact h1
 ·refine absurd ?_ h
  unfold wdAt
  rw [List.getD_eq_getElem?_getD,List.getElem?_eq_none h1]
  decide +kernel
theorem isW_lt {ws:List ByteArray} {k:Nat} {c:UInt8} {r:List UInt8} (h:isW ws k (c::r)=true):k<ws.length:=by
 refine wdAt_lt (fun e=>?_)
 unfold isW at h
 rw [e] at h;cases h
theorem digW_lt {ws:List ByteArray} {k:Nat} (h:digW (wdAt ws k)=true):k<ws.length:=by
 refine wdAt_lt (fun e=>?_)
 rw [ByteArray.toList_eq] at e
 unfold digW at h
 rw [e] at h;cases h
theorem nameW_lt {ws:List ByteArray} {k:Nat} (h:nameF (wdAt ws k)=true):k<ws.length:=by
 refine wdAt_lt (fun e=>?_)
 simp [nameF,e] at h
def Goes (ws:List ByteArray) (part:Nat->PrR):Prop:=∀ k,k<=ws.length->(∀ x k',part k=.ok (x,k')->k<k'/\k'<=ws.length/\x.length+k<=k'/\0<x.length)/\∀ e,part k=.error e->e<=ws.length
theorem chainP_goes {ws:List ByteArray} {op:Int} {sg:List UInt8} {part:Nat->PrR} (hs:sg≠[]) (h:Goes ws part):∀ (f:Nat) (out:List Nd) (k k0:Nat),k<=ws.length->out.length+k0<=k ->
  (∀ x k',chainP ws op sg part f out k=.ok (x,k')->k<=k'/\k'<=ws.length/\x.length+k0<=k'/\out.length<=x.length)/\∀ e,chainP ws op sg part f out k=.error e->e<=ws.length:=by
 intro f
 induction f with
 | zero =>
  intro out k k0 hk ho
  rw [chainP]
  exact ⟨fun x k' e=>by cases e;exact ⟨Nat.le_refl _,hk,ho,Nat.le_refl _⟩,fun e he=>by cases he⟩
 | succ f ih =>
  intro out k k0 hk ho
  rw [chainP]
  by_cases hw:isW ws k sg=true
  ·rw [if_pos hw]
   have hlt:k<ws.length:=by
    cases sg with
    | nil=>exact absurd rfl hs
    | cons c r=>exact isW_lt hw
   obtain ⟨h1,h2⟩:=h (k+1) (by omega)
   cases hp:part (k+1) with
   | error e =>
    simp only
    exact ⟨fun x k' e=>(by cases e),fun e' he=>by cases he;exact h2 _ hp⟩
   | ok r =>
    obtain ⟨x,k'⟩:=r
    obtain ⟨g1,g2,g3,g4⟩:=h1 x k' hp
    simp only
    obtain ⟨i1,i2⟩:=ih (⟨op,.empty,0⟩::(out++x)) k' k0 g2 (by simp;omega)
    refine ⟨fun y j hy=>?_,i2⟩
    obtain ⟨a1,a2,a3,a4⟩:=i1 y j hy
    simp at a4
    exact ⟨by omega,a2,a3,by omega⟩
  ·rw [if_neg hw]
   exact ⟨fun x k' e=>by cases e;exact ⟨Nat.le_refl _,hk,ho,Nat.le_refl _⟩,fun e he=>by cases he⟩
theorem chainS_goes {ws:List ByteArray} {op:Int} {sg:List UInt8} {part:Nat->PrR} (hs:sg≠[]) (h:Goes ws part):Goes ws (chainS ws op sg part):=by
 intro k hk
 obtain ⟨h1,h2⟩:=h k hk
 unfold chainS
 cases hp:part k with
 | error e=>simp only;exact ⟨fun x k' e=>(by cases e),fun e' he=>by cases he;exact h2 _ hp⟩
 | ok r =>
  obtain ⟨x,k'⟩:=r
  obtain ⟨g1,g2,g3,g4⟩:=h1 x k' hp
  simp only
  obtain ⟨i1,i2⟩:=chainP_goes (op:=op) hs h ws.length x k' k g2 g3
  refine ⟨fun y j hy=>?_,i2⟩
  obtain ⟨a1,a2,a3,a4⟩:=i1 y j hy
  exact ⟨by omega,a2,a3,by omega⟩
theorem manyP_goes {ws:List ByteArray} {ed:List UInt8} {sum:Nat->PrR} (hs:ed≠[]) (h:Goes ws sum):∀ (f n:Nat) (out:List Nd) (k k0:Nat),k<=ws.length->out.length+k0<=k->n<=out.length ->
  (∀ m x k',manyP ws ed sum f n out k=.ok (m,x,k')->k<=k'/\k'<=ws.length/\x.length+k0<=k'/\m<=x.length)/\∀ e,manyP ws ed sum f n out k=.error e->e<=ws.length:=by
 intro f
 induction f with
 | zero =>
  intro n out k k0 hk ho hn
  rw [manyP]
  exact ⟨fun m x k' e=>by cases e;exact ⟨Nat.le_refl _,hk,ho,hn⟩,fun e he=>by cases he⟩
 | succ f ih =>
  intro n out k k0 hk ho hn
  rw [manyP]
  by_cases hw:isW ws k ed=true
  ·rw [if_pos hw]
   have hlt:k<ws.length:=by
    cases ed with
    | nil=>exact absurd rfl hs
    | cons c r=>exact isW_lt hw
   exact ⟨fun m x k' e=>by cases e;exact ⟨by omega,by omega,by omega,hn⟩,fun e he=>by cases he⟩
  ·rw [if_neg hw]
   by_cases hc:0<n/\isW ws k [44]=false
   ·rw [if_pos hc]
    exact ⟨fun m x k' e=>(by cases e),fun e' he=>by cases he;exact hk⟩
   ·rw [if_neg hc]
    have hk1:(if 0<n then k+1 else k)<=ws.length:=by
     split
     ·rename_i h0
      have:isW ws k [44]=true:=by
       cases hh:isW ws k [44] with
       | true=>rfl
       | false=>exact absurd ⟨h0,hh⟩ hc
      exact isW_lt this
     ·exact hk
    have hk2:k<=(if 0<n then k+1 else k):=by split <;> omega
    obtain ⟨h1,h2⟩:=h _ hk1
    cases hp:sum (if 0<n then k+1 else k) with
    | error e=>simp only;exact ⟨fun m x k' e=>(by cases e),fun e' he=>by cases he;exact h2 _ hp⟩
    | ok r =>
     obtain ⟨x,k'⟩:=r
     obtain ⟨g1,g2,g3,g4⟩:=h1 x k' hp
     simp only
     obtain ⟨i1,i2⟩:=ih (n+1) (out++x) k' k0 g2 (by simp;omega) (by simp;omega)
     refine ⟨fun m y j hy=>?_,i2⟩
     obtain ⟨a1,a2,a3,a4⟩:=i1 m y j hy
     exact ⟨by omega,a2,a3,a4⟩
theorem fq47 {P:Prop} (h:P:=by
 exact ⟨fun y j e=>by cases e;exact ⟨by omega,by omega,by simp;omega,by simp⟩,fun e he=>by cases he⟩):P:=h
theorem fq48 {P:Prop} (h:P:=by
 obtain ⟨n,x,k'⟩:=r
 obtain ⟨a1,a2,a3,a4⟩:=g1 n x k' hp
 simp only
 exact ⟨fun y j e=>by cases e;exact ⟨by omega,a2,by simp;omega,by simp⟩,fun e he=>by cases he⟩):P:=h
theorem pE_goes (ws:List ByteArray):∀ (f lv:Nat),Goes ws (pE ws f lv):=by
 intro f
 induction f with
 | zero =>
  intro lv k hk
  rw [pE]
  exact ⟨fun x k' e=>(by cases e),fun e he=>by cases he;exact hk⟩
 | succ f ih =>
  intro lv
  by_cases h0:lv=0
  ·have:pE ws (f+1) lv=chainS ws 5 [43] (pE ws f 1):=by funext k;rw [pE,if_pos h0]
   rw [this];exact chainS_goes (by simp) (ih 1)
  ·by_cases h1:lv=1
   ·have:pE ws (f+1) lv=chainS ws 6 [42] (pE ws f 2):=by funext k;rw [pE,if_neg h0,if_pos h1]
    rw [this];exact chainS_goes (by simp) (ih 2)
   ·intro k hk
    rw [pE,if_neg h0,if_neg h1]
    by_cases w40:isW ws k [40]=true
    ·rw [if_pos w40]
     have hlt:=isW_lt w40
     obtain ⟨g1,g2⟩:=ih 0 (k+1) hlt
     cases hp:pE ws f 0 (k+1) with
     | error e=>simp only;exact ⟨fun x k' e=>(by cases e),fun e' he=>by cases he;exact g2 _ hp⟩
     | ok r =>
      obtain ⟨x,k'⟩:=r
      obtain ⟨a1,a2,a3,a4⟩:=g1 x k' hp
      simp only
      by_cases w41:isW ws k' [41]=true
      ·rw [if_pos w41]
       have:=isW_lt w41
       exact ⟨fun y j e=>by cases e;exact ⟨by omega,by omega,by omega,a4⟩,fun e he=>by cases he⟩
      ·rw [if_neg w41]
       exact ⟨fun y j e=>(by cases e),fun e' he=>by cases he;exact a2⟩
    ·rw [if_neg w40]
     by_cases w91:isW ws k [91]=true
     ·rw [if_pos w91]
      have hlt:=isW_lt w91
      obtain ⟨g1,g2⟩:=manyP_goes (ed:=[93]) (by simp) (ih 0) (ws.length+1) 0 [] (k+1) (k+1) hlt (by simp) (by simp)
      cases hp:manyP ws [93] (pE ws f 0) (ws.length+1) 0 [] (k+1) with
      | error e=>simp only;exact ⟨fun x k' e=>(by cases e),fun e' he=>by cases he;exact g2 _ hp⟩
      | ok r =>
       exact fq48
     ·rw [if_neg w91]
      by_cases hd:digW (wdAt ws k)=true
      ·rw [if_pos hd]
       have hlt:=digW_lt hd
       exact fq47
      ·rw [if_neg hd]
       by_cases hn:nameF (wdAt ws k)=false
       ·rw [if_pos hn]
        exact ⟨fun y j e=>(by cases e),fun e' he=>by cases he;exact hk⟩
       ·rw [if_neg hn]
        have hlt:=nameW_lt (ws:=ws) (k:=k) (by simpa using hn)
        by_cases w2:isW ws (k+1) [40]=true
        ·rw [if_pos w2]
         have hlt2:=isW_lt w2
         obtain ⟨g1,g2⟩:=manyP_goes (ed:=[41]) (by simp) (ih 0) (ws.length+1) 0 [] (k+2) (k+2) hlt2 (by simp) (by simp)
         cases hp:manyP ws [41] (pE ws f 0) (ws.length+1) 0 [] (k+2) with
         | error e=>simp only;exact ⟨fun x k' e=>(by cases e),fun e' he=>by cases he;exact g2 _ hp⟩
         | ok r =>
          exact fq48
        ·rw [if_neg w2]
         exact fq47
end Go.Proofs.YtddfdmopaeghnacGreatDoor
namespace Go.Proofs.YtddfdmopaeghnacGreatDoor
def oneP (ws:List ByteArray) (sum:Nat->PrR) (k:Nat):PrR :=
 if isW ws k [40]=true then
  match sum (k+1) with
  | .error e=>.error e
  | .ok (x,k')=>if isW ws k' [41]=true then .ok (x,k'+1) else .error k'
 else if isW ws k [91]=true then
  match manyP ws [93] sum (ws.length+1) 0 [] (k+1) with
  | .error e=>.error e
  | .ok (n,x,k')=>.ok (⟨4,.empty,(n:Nat)⟩::x,k')
 else if digW (wdAt ws k)=true then .ok ([⟨1,.empty,numW (wdAt ws k)⟩],k+1)
 else if nameF (wdAt ws k)=false then .error k
 else if isW ws (k+1) [40]=true then
  match manyP ws [41] sum (ws.length+1) 0 [] (k+2) with
  | .error e=>.error e
  | .ok (n,x,k')=>.ok (⟨3,wdAt ws k,(n:Nat)⟩::x,k')
 else .ok ([⟨2,wdAt ws k,0⟩],k+1)
theorem pE_two (ws:List ByteArray) (f:Nat):pE ws (f+1) 2=oneP ws (pE ws f 0):=by
 funext k
 rw [pE,if_neg (by decide),if_neg (by decide)]
 rfl
theorem pE_one (ws:List ByteArray) (f:Nat):pE ws (f+1) 1=chainS ws 6 [42] (pE ws f 2):=by
 funext k
 rw [pE,if_neg (by decide),if_pos rfl]
theorem pE_zero (ws:List ByteArray) (f:Nat):pE ws (f+1) 0=chainS ws 5 [43] (pE ws f 1):=by
 funext k
 rw [pE,if_pos rfl]
theorem oneP_1b {ws:List ByteArray} {sum:Nat->PrR} {k x:Nat} (h:isW ws k [40]=true) (hs:sum (k+1)=.error x):oneP ws sum k=.error x:=by rw [oneP,if_pos h,hs]
theorem oneP_1c {ws:List ByteArray} {sum:Nat->PrR} {k k':Nat} {x:List Nd} (h:isW ws k [40]=true) (hs:sum (k+1)=.ok (x,k')) (h2:isW ws k' [41]=false):oneP ws sum k=.error k':=by
 rw [oneP,if_pos h,hs]
 simp only
 rw [if_neg (by rw [h2];decide)]
theorem oneP_1g {ws:List ByteArray} {sum:Nat->PrR} {k k':Nat} {x:List Nd} (h:isW ws k [40]=true) (hs:sum (k+1)=.ok (x,k')) (h2:isW ws k' [41]=true):oneP ws sum k=.ok (x,k'+1):=by
 rw [oneP,if_pos h,hs]
 simp only
 rw [if_pos h2]
theorem oneP_2b {ws:List ByteArray} {sum:Nat->PrR} {k x:Nat} (h:isW ws k [40]=false) (h1:isW ws k [91]=true) (hs:manyP ws [93] sum (ws.length+1) 0 [] (k+1)=.error x):oneP ws sum k=.error x:=by rw [oneP,if_neg (by rw [h];decide),if_pos h1,hs]
theorem oneP_2g {ws:List ByteArray} {sum:Nat->PrR} {k k' n:Nat} {x:List Nd} (h:isW ws k [40]=false) (h1:isW ws k [91]=true) (hs:manyP ws [93] sum (ws.length+1) 0 [] (k+1)=.ok (n,x,k')):oneP ws sum k=.ok (⟨4,.empty,(n:Nat)⟩::x,k'):=by rw [oneP,if_neg (by rw [h];decide),if_pos h1,hs]
theorem oneP_3 {ws:List ByteArray} {sum:Nat->PrR} {k:Nat} (h:isW ws k [40]=false) (h1:isW ws k [91]=false) (hd:digW (wdAt ws k)=true):oneP ws sum k=.ok ([⟨1,.empty,numW (wdAt ws k)⟩],k+1):=by
 rw [oneP,if_neg (by rw [h];decide),if_neg (by rw [h1];decide),if_pos hd]
theorem oneP_4 {ws:List ByteArray} {sum:Nat->PrR} {k:Nat} (h:isW ws k [40]=false) (h1:isW ws k [91]=false) (hd:digW (wdAt ws k)=false) (hn:nameF (wdAt ws k)=false):oneP ws sum k=.error k:=by
 rw [oneP,if_neg (by rw [h];decide),if_neg (by rw [h1];decide),if_neg (by rw [hd];decide),if_pos hn]
theorem oneP_5 {ws:List ByteArray} {sum:Nat->PrR} {k:Nat} (h:isW ws k [40]=false) (h1:isW ws k [91]=false) (hd:digW (wdAt ws k)=false) (hn:nameF (wdAt ws k)=true) (h2:isW ws (k+1) [40]=false):oneP ws sum k=.ok ([⟨2,wdAt ws k,0⟩],k+1):=by
 rw [oneP,if_neg (by rw [h];decide),if_neg (by rw [h1];decide),if_neg (by rw [hd];decide),if_neg (by rw [hn];decide),if_neg (by rw [h2];decide)]
theorem fq50 {P:Prop} (h:P:=by
 rw [oneP,if_neg (by rw [h];decide),if_neg (by rw [h1];decide),if_neg (by rw [hd];decide),if_neg (by rw [hn];decide),if_pos h2,hs]):P:=h
theorem oneP_6b {ws:List ByteArray} {sum:Nat->PrR} {k x:Nat} (h:isW ws k [40]=false) (h1:isW ws k [91]=false) (hd:digW (wdAt ws k)=false) (hn:nameF (wdAt ws k)=true) (h2:isW ws (k+1) [40]=true) (hs:manyP ws [41] sum (ws.length+1) 0 [] (k+2)=.error x):oneP ws sum k=.error x:=by
 exact fq50
theorem oneP_6g {ws:List ByteArray} {sum:Nat->PrR} {k k' n:Nat} {x:List Nd} (h:isW ws k [40]=false) (h1:isW ws k [91]=false) (hd:digW (wdAt ws k)=false) (hn:nameF (wdAt ws k)=true) (h2:isW ws (k+1) [40]=true) (hs:manyP ws [41] sum (ws.length+1) 0 [] (k+2)=.ok (n,x,k')):oneP ws sum k=.ok (⟨3,wdAt ws k,(n:Nat)⟩::x,k'):=by
 exact fq50
end Go.Proofs.YtddfdmopaeghnacGreatDoor
namespace Go.Proofs.YtddfdmopaeghnacGreatDoor
def DgW (ws:List ByteArray):Prop:=∀ j,digW (wdAt ws j)=true->(wdAt ws j).data.toList.all digC=true/\(wdAt ws j).size<=6
def pX (ws:List ByteArray):Nat->PrR:=pE ws (3*ws.length+3) 0
theorem pX_goes (ws:List ByteArray):Goes ws (pX ws):=pE_goes ws _ 0
def stmtP (ws:List ByteArray) (k:Nat):PrR :=
 if isW ws k [108,101,116]=true then
  if nameF (wdAt ws (k+1))=false then .error (k+1)
  else if isW ws (k+2) [61]=false then .error (k+2)
  else match pX ws (k+3) with
   | .error e=>.error e
   | .ok (x,k')=>if isW ws k' [59]=true then .ok (⟨7,wdAt ws (k+1),0⟩::x,k'+1) else .error k'
 else match pX ws k with
  | .error e=>.error e
  | .ok (x,k')=>if isW ws k' [59]=true then .ok (⟨8,.empty,0⟩::x,k'+1) else .error k'
theorem stmt0b {ws:List ByteArray} {k x:Nat} (h:isW ws k [108,101,116]=false) (hp:pX ws k=.error x):stmtP ws k=.error x:=by rw [stmtP,if_neg (by rw [h];decide),hp]
theorem stmt0c {ws:List ByteArray} {k k2:Nat} {x:List Nd} (h:isW ws k [108,101,116]=false) (hp:pX ws k=.ok (x,k2)) (h2:isW ws k2 [59]=false):stmtP ws k=.error k2:=by
 rw [stmtP,if_neg (by rw [h];decide),hp]
 simp only
 rw [if_neg (by rw [h2];decide)]
theorem stmt0g {ws:List ByteArray} {k k2:Nat} {x:List Nd} (h:isW ws k [108,101,116]=false) (hp:pX ws k=.ok (x,k2)) (h2:isW ws k2 [59]=true):stmtP ws k=.ok (⟨8,.empty,0⟩::x,k2+1):=by
 rw [stmtP,if_neg (by rw [h];decide),hp]
 simp only
 rw [if_pos h2]
theorem stmt1n {ws:List ByteArray} {k:Nat} (h:isW ws k [108,101,116]=true) (h1:nameF (wdAt ws (k+1))=false):stmtP ws k=.error (k+1):=by rw [stmtP,if_pos h,if_pos h1]
theorem stmt1m {ws:List ByteArray} {k:Nat} (h:isW ws k [108,101,116]=true) (h1:nameF (wdAt ws (k+1))=true) (h2:isW ws (k+2) [61]=false):stmtP ws k=.error (k+2):=by rw [stmtP,if_pos h,if_neg (by rw [h1];decide),if_pos h2]
theorem stmt1b {ws:List ByteArray} {k x:Nat} (h:isW ws k [108,101,116]=true) (h1:nameF (wdAt ws (k+1))=true) (h2:isW ws (k+2) [61]=true) (hp:pX ws (k+3)=.error x):stmtP ws k=.error x:=by rw [stmtP,if_pos h,if_neg (by rw [h1];decide),if_neg (by rw [h2];decide),hp]
theorem stmt1c {ws:List ByteArray} {k k2:Nat} {x:List Nd} (h:isW ws k [108,101,116]=true) (h1:nameF (wdAt ws (k+1))=true) (h2:isW ws (k+2) [61]=true) (hp:pX ws (k+3)=.ok (x,k2)) (h3:isW ws k2 [59]=false):stmtP ws k=.error k2:=by
 rw [stmtP,if_pos h,if_neg (by rw [h1];decide),if_neg (by rw [h2];decide),hp]
 simp only
 rw [if_neg (by rw [h3];decide)]
theorem stmt1g {ws:List ByteArray} {k k2:Nat} {x:List Nd} (h:isW ws k [108,101,116]=true) (h1:nameF (wdAt ws (k+1))=true) (h2:isW ws (k+2) [61]=true) (hp:pX ws (k+3)=.ok (x,k2)) (h3:isW ws k2 [59]=true):stmtP ws k=.ok (⟨7,wdAt ws (k+1),0⟩::x,k2+1):=by
 rw [stmtP,if_pos h,if_neg (by rw [h1];decide),if_neg (by rw [h2];decide),hp]
 simp only
 rw [if_pos h3]
end Go.Proofs.YtddfdmopaeghnacGreatDoor
namespace Go.Proofs.YtddfdmopaeghnacGreatDoor
def hashW (s:ByteArray):Bool:=Lib.hasPrefix s.data.toList [35]
def blankR (x:Nat):Bool:=x==32
def fldW (s:ByteArray):List ByteArray:=Lib.goFieldsP blankR (s.extract 1 s.size)
def costL (l:List ByteArray):Nat:=(l.map (fun t=>t.size+1)).sum
theorem costL_app (a b:List ByteArray):costL (a++b)=costL a+costL b:=by simp [costL]
theorem costL_len (l:List ByteArray):l.length<=costL l:=by
 induction l with
 | nil=>simp
 | cons x r ih=>simp only [costL,List.map_cons,List.sum_cons,List.length_cons] at *;omega
def joinW (l:List ByteArray):ByteArray:=⟨(Lib.join (l.map (·.data.toList)) [32]).toArray⟩
theorem lens_cost (l:List ByteArray):Lib.lens (l.map (·.data.toList))+l.length=costL l:=by
 induction l with
 | nil=>rfl
 | cons x r ih =>
  simp only [costL,List.map_cons,List.sum_cons,Lib.lens,List.length_cons,Array.length_toList] at *
  have:x.data.size=x.size:=rfl
  omega
theorem join_cost (l:List ByteArray):(Lib.join (l.map (·.data.toList)) [32]).length<=costL l:=by
 cases l with
 | nil=>simp [Lib.join_nil]
 | cons x r =>
  have h:=lens_cost (x::r)
  rw [List.map_cons,Lib.join_length]
  simp only [List.map_cons,List.length_cons,List.length_map,List.length_nil] at *
  omega
theorem joinW_size (l:List ByteArray):(joinW l).size<=costL l:=by
 have h:=join_cost l
 unfold joinW
 simpa [ByteArray.size] using h
def pcst (l:List (Nat × Nat)):Nat:=(l.map fun x=>x.2-x.1+1).sum
theorem pcst_snoc (l:List (Nat × Nat)) (x:Nat × Nat):pcst (l++[x])=pcst l+(x.2-x.1+1):=by simp [pcst]
def SpIn (n pos:Nat) (acc:List (Nat × Nat)):Option Nat->Prop
 | none=>pcst acc<=pos/\pcst acc<=n
 | some a=>pcst acc<=a/\a<=pos/\a<n
def SpOut (n:Nat) (r:List (Nat × Nat) × Option Nat):Prop:=match r.2 with
 | none=>pcst r.1<=n
 | some a=>pcst r.1<=a/\a<n
theorem sp_out {n pos:Nat} {acc:List (Nat × Nat)} {st:Option Nat} (h:SpIn n pos acc st):SpOut n (acc,st):=by
 cases st with
 | none=>exact h.2
 | some a=>exact ⟨h.1,h.2.2⟩
theorem span_cost (p:Nat->Bool) (s:ByteArray):∀ (f pos:Nat) (st:Option Nat) (acc:List (Nat × Nat)),SpIn s.size pos acc st->SpOut s.size (Lib.spansFromP p s f pos st acc):=by
 intro f
 induction f with
 | zero=>intro pos st acc h;exact sp_out h
 | succ f ih =>
  intro pos st acc h
  by_cases hp:pos<s.size
  ·have hw:1<=(Utf8.decode s pos).2:=Lib.width_pos s pos
   cases hq:p (Utf8.decode s pos).1 with
   | true =>
    cases st with
    | none =>
     obtain ⟨h1,h2⟩:=h
     have e:Lib.spansFromP p s (f+1) pos none acc=Lib.spansFromP p s f (pos+(Utf8.decode s pos).2) none acc:=by simp [Lib.spansFromP,hp,hq]
     rw [e]
     exact ih _ _ _ ⟨by omega,h2⟩
    | some a =>
     obtain ⟨h1,h2,h3⟩:=h
     have e:Lib.spansFromP p s (f+1) pos (some a) acc=Lib.spansFromP p s f (pos+(Utf8.decode s pos).2) none (acc++[(a,pos)]):=by simp [Lib.spansFromP,hp,hq]
     rw [e]
     exact ih _ _ _ ⟨by rw [pcst_snoc];simp only;omega,by rw [pcst_snoc];simp only;omega⟩
   | false =>
    cases st with
    | none =>
     obtain ⟨h1,h2⟩:=h
     have e:Lib.spansFromP p s (f+1) pos none acc=Lib.spansFromP p s f (pos+(Utf8.decode s pos).2) (some pos) acc:=by simp [Lib.spansFromP,hp,hq]
     rw [e]
     exact ih _ _ _ ⟨h1,by omega,hp⟩
    | some a =>
     obtain ⟨h1,h2,h3⟩:=h
     have e:Lib.spansFromP p s (f+1) pos (some a) acc=Lib.spansFromP p s f (pos+(Utf8.decode s pos).2) (some a) acc:=by simp [Lib.spansFromP,hp,hq]
     rw [e]
     exact ih _ _ _ ⟨h1,by omega,h3⟩
  ·rw [Lib.spansFromP_end p s _ pos st acc hp]
   exact sp_out h
theorem spans_cost (p:Nat->Bool) (s:ByteArray):pcst (Lib.spansOfP p s)<=s.size+1:=by
 have h:=span_cost p s s.size 0 none [] ⟨by simp [pcst],by simp [pcst]⟩
 unfold Lib.spansOfP Lib.closeSpans
 unfold SpOut at h
 cases hr:(Lib.spansFromP p s s.size 0 none []).2 with
 | none=>rw [hr] at h;simp only at h ⊢;omega
 | some a =>
  rw [hr] at h
  obtain ⟨h1,h2⟩:=h
  simp only
  rw [pcst_snoc]
  simp only
  omega
theorem fields_cost (p:Nat->Bool) (s:ByteArray):costL (Lib.goFieldsP p s)<=s.size+1:=by
 refine Nat.le_trans ?_ (spans_cost p s)
 unfold Lib.goFieldsP
 generalize Lib.spansOfP p s=l
 induction l with
 | nil=>simp [costL,pcst]
 | cons x r ih =>
  simp only [costL,pcst,List.map_cons,List.sum_cons] at *
  have:(s.extract x.1 x.2).size<=x.2-x.1:=by simp;omega
  omega
theorem fld_cost {s:ByteArray} (h:hashW s=true):costL (fldW s)<=s.size:=by
 have h0:0<s.size:=by
  rcases Nat.eq_zero_or_pos s.size with h1|h1
  ·have:s.data.toList=[]:=List.eq_nil_of_length_eq_zero (by simpa using h1)
   simp [hashW,Lib.hasPrefix,this] at h
  ·exact h1
 have h2:=fields_cost blankR (s.extract 1 s.size)
 have h3:(s.extract 1 s.size).size=s.size-1:=by simp
 unfold fldW
 omega
def notesP (ws:List ByteArray):Nat->List ByteArray->Nat->List ByteArray × Nat
 | 0,out,k=>(out,k)
 | f+1,out,k=>if hashW (wdAt ws k)=true then notesP ws f (out++fldW (wdAt ws k)) (k+1) else (out,k)
def noteP (ws:List ByteArray) (k:Nat):List Nd × Nat:=([⟨9,joinW (notesP ws ws.length [] k).1,0⟩],(notesP ws ws.length [] k).2)
theorem hashW_lt {ws:List ByteArray} {k:Nat} (h:hashW (wdAt ws k)=true):k<ws.length:=by
 refine wdAt_lt (fun e=>?_)
 rw [ByteArray.toList_eq] at e
 simp [hashW,Lib.hasPrefix,e] at h
end Go.Proofs.YtddfdmopaeghnacGreatDoor
namespace Go.Proofs.YtddfdmopaeghnacGreatDoor
section
variable {ws:List ByteArray} {k:Nat} {a b:List (List UInt8)} {c:List UInt8}
end
section
variable {ws:List ByteArray} {op:Int} {sg:List UInt8} {part:Nat->PrR} {g k k':Nat} {out x:List Nd}
end
end Go.Proofs.YtddfdmopaeghnacGreatDoor
namespace Go.Proofs.YtddfdmopaeghnacGreatDoor
def spl:List UInt8->List (List UInt8)
 | []=>[[]]
 | c::r=>if c=32 then []::spl r else match spl r with
  | []=>[[c]]
  | h::t=>(c::h)::t
theorem spl_ne (s:List UInt8):∃ h t,spl s=h::t:=by
 induction s with
 | nil=>exact ⟨_,_,rfl⟩
 | cons c r ih =>
  obtain ⟨h,t,e⟩:=ih
  rw [spl,e]
  split
  ·exact ⟨_,_,rfl⟩
  ·exact ⟨_,_,rfl⟩
theorem spl_not {c:UInt8} {r h:List UInt8} {t:List (List UInt8)} (hc:c≠32) (e:spl r=h::t):spl (c::r)=(c::h)::t:=by rw [spl,if_neg hc,e]
theorem spl_no {a:List UInt8} (h:∀ c ∈ a,c≠32):spl a=[a]:=by
 induction a with
 | nil=>rfl
 | cons c r ih=>exact spl_not (h c (by simp)) (ih fun d hd=>h d (by simp [hd]))
theorem spl_hit {a b:List UInt8} (h:∀ c ∈ a,c≠32):spl (a++32::b)=a::spl b:=by
 induction a with
 | nil=>rw [List.nil_append,spl,if_pos rfl]
 | cons c r ih=>exact spl_not (h c (by simp)) (ih fun d hd=>h d (by simp [hd]))
theorem joinTail_cons (x:List UInt8) (r:List (List UInt8)):Lib.joinTail [32] (x::r)=32::Lib.join (x::r) [32]:=by
 rw [Lib.join_cons];simp [Lib.joinTail]
theorem join_more (x y:List UInt8) (r:List (List UInt8)):Lib.join (x::y::r) [32]=x++32::Lib.join (y::r) [32]:=by rw [Lib.join_cons,joinTail_cons]
theorem join_spl (s:List UInt8):Lib.join (spl s) [32]=s:=by
 induction s with
 | nil=>exact Lib.join_one _ _
 | cons c r ih =>
  obtain ⟨h,t,e⟩:=spl_ne r
  rw [e] at ih
  by_cases hc:c=32
  ·rw [spl,if_pos hc,e,join_more,ih,hc];rfl
  ·rw [spl_not hc e,Lib.join_cons,List.cons_append,← Lib.join_cons,ih]
def full (l:List (List UInt8)):List (List UInt8):=l.filter fun w=>!w.isEmpty
def fldG:List UInt8->List UInt8->List (List UInt8)
 | cur,[]=>if cur.isEmpty then [] else [cur]
 | cur,c::r=>if c=32 then (if cur.isEmpty then fldG [] r else cur::fldG [] r) else fldG (cur++[c]) r
theorem fldG_spl:∀ (l cur h:List UInt8) (t:List (List UInt8)),spl l=h::t->fldG cur l=full ((cur++h)::t):=by
 intro l
 induction l with
 | nil =>
  intro cur h t e
  simp only [spl,List.cons.injEq] at e
  obtain ⟨rfl,rfl⟩:=e
  rw [fldG,List.append_nil]
  cases cur <;> simp [full]
 | cons c r ih =>
  intro cur h t e
  obtain ⟨h2,t2,e2⟩:=spl_ne r
  by_cases hc:c=32
  ·rw [spl,if_pos hc] at e
   obtain ⟨rfl,rfl⟩:=List.cons.inj e
   rw [fldG,if_pos hc,ih [] h2 t2 e2,List.append_nil,List.nil_append,← e2]
   cases cur <;> simp [full]
  ·rw [spl_not hc e2] at e
   obtain ⟨rfl,rfl⟩:=List.cons.inj e
   rw [fldG,if_neg hc,ih _ h2 t2 e2]
   simp
theorem fldG_all (l:List UInt8):fldG [] l=full (spl l):=by
 obtain ⟨h,t,e⟩:=spl_ne l
 rw [fldG_spl l [] h t e,e,List.nil_append]
def asc (s:ByteArray):Prop:=∀ c ∈ s.data.toList,c.toNat<128
theorem asc_at {s:ByteArray} (h:asc s) {i:Nat} (hi:i<s.size):s[i].toNat<128:=h _ (by simp [ByteArray.getElem_eq_getElem_data])
theorem spans_asc {s:ByteArray} (ha:asc s):∀ (f pos:Nat) (st:Option Nat) (acc:List (Nat × Nat)),s.size<=pos+f->pos<=s.size->(∀ a,st=some a->a<pos) ->
  acc.map (fun p=>Lib.pieceU s.data.toList p.1 p.2)++fldG (Lib.openPiece s.data.toList st pos) (s.data.toList.drop pos)=(Lib.closeSpans s (Lib.spansFromP blankR s f pos st acc)).map (fun p=>Lib.pieceU s.data.toList p.1 p.2):=by
 have hsz:s.data.toList.length=s.size:=by simp
 intro f
 induction f with
 | zero =>
  intro pos st acc h hp hst
  obtain rfl:pos=s.size:=by omega
  rw [List.drop_eq_nil_of_le (by omega)]
  cases st with
  | none=>simp [Lib.spansFromP,Lib.closeSpans,Lib.openPiece,fldG]
  | some a =>
   have:=Lib.pieceU_ne s.data.toList a s.size (hst a rfl) (by omega)
   simp [Lib.spansFromP,Lib.closeSpans,Lib.openPiece,fldG,this]
 | succ f ih =>
  intro pos st acc h hp hst
  by_cases hlt:pos<s.size
  ·have hd:Utf8.decode s pos=((s[pos]'hlt).toNat,1):=decode_ascii s pos hlt (asc_at ha hlt)
   have hdr:s.data.toList.drop pos=s[pos]::s.data.toList.drop (pos+1):=by
    rw [List.drop_eq_getElem_cons (by omega)];rfl
   rw [hdr]
   by_cases hc:s[pos]=32
   ·have hb:blankR (s[pos]).toNat=true:=by rw [hc];rfl
    cases st with
    | none =>
     have g:=ih (pos+1) none acc (by omega) (by omega) (fun a h=>by cases h)
     simp only [Lib.openPiece] at g ⊢
     rw [fldG,if_pos hc,if_pos (show ([]:List UInt8).isEmpty=true from rfl),g]
     simp [Lib.spansFromP,hlt,hd,hb]
    | some a =>
     have hpn:=Lib.pieceU_ne s.data.toList a pos (hst a rfl) (by omega)
     have g:=ih (pos+1) none (acc++[(a,pos)]) (by omega) (by omega) (fun a h=>by cases h)
     simp only [Lib.openPiece] at g ⊢
     rw [fldG,if_pos hc,if_neg (by simpa using hpn)]
     rw [List.map_append,List.append_assoc] at g
     simp only [List.map_cons,List.map_nil,List.cons_append,List.nil_append] at g
     rw [g]
     simp [Lib.spansFromP,hlt,hd,hb]
   ·have hb:blankR (s[pos]).toNat=false:=by
     unfold blankR
     rw [beq_eq_false_iff_ne]
     intro e
     exact hc (UInt8.toNat_inj.1 e)
    cases st with
    | none =>
     have g:=ih (pos+1) (some pos) acc (by omega) (by omega) (fun a h=>by cases h;omega)
     have e:Lib.pieceU s.data.toList pos (pos+1)=[s[pos]]:=by
      unfold Lib.pieceU
      rw [hdr,show pos+1-pos=1 by omega];rfl
     simp only [Lib.openPiece] at g ⊢
     rw [e] at g
     rw [fldG,if_neg hc,List.nil_append,g]
     simp [Lib.spansFromP,hlt,hd,hb]
    | some a =>
     have g:=ih (pos+1) (some a) acc (by omega) (by omega) (fun b h=>by cases h;have:=hst a rfl;omega)
     have e:=Lib.pieceU_grow s.data.toList a pos 1 (Nat.le_of_lt (hst a rfl))
     rw [hdr] at e
     simp only [Lib.openPiece] at g ⊢
     rw [← e] at g
     rw [fldG,if_neg hc]
     simp only [List.take_succ_cons,List.take_zero] at g
     rw [g]
     simp [Lib.spansFromP,hlt,hd,hb]
  ·obtain rfl:pos=s.size:=by omega
   rw [List.drop_eq_nil_of_le (by omega),Lib.spansFromP_end _ s _ _ st acc hlt]
   cases st with
   | none=>simp [Lib.closeSpans,Lib.openPiece,fldG]
   | some a =>
    have:=Lib.pieceU_ne s.data.toList a s.size (hst a rfl) (by omega)
    simp [Lib.closeSpans,Lib.openPiece,fldG,this]
theorem fields_data {s:ByteArray} (ha:asc s):(Lib.goFieldsP blankR s).map (·.data.toList)=full (spl s.data.toList):=by
 have h:=spans_asc ha s.size 0 none [] (by omega) (Nat.zero_le _) (fun a h=>by cases h)
 simp only [Lib.openPiece,List.map_nil,List.nil_append,List.drop_zero] at h
 rw [← fldG_all,h]
 unfold Lib.goFieldsP Lib.spansOfP
 rw [List.map_map]
 refine List.map_congr_left fun p _=>?_
 show (s.extract p.1 p.2).data.toList=_
 rw [Lib.extract_data];rfl
theorem fldW_data {s:ByteArray} {c:UInt8} {r:List UInt8} (hs:s.data.toList=c::r) (ha:asc s):(fldW s).map (·.data.toList)=full (spl r):=by
 have e:(s.extract 1 s.size).data.toList=r:=by rw [tail_data,hs];rfl
 unfold fldW
 rw [fields_data (fun c hc=>by rw [e] at hc;exact ha c (by rw [hs];simp [hc])),e]
theorem tailN_data (s:ByteArray):∀ (n m:Nat),s.size<=m+n->m<=s.size->(tailN s m).map (·.data.toList)=spl (s.data.toList.drop m):=by
 have hsz:s.data.toList.length=s.size:=by simp
 have hno:∀ m i a,(∀ c ∈ a,c≠32)->s.data.toList.drop m=a++s.data.toList.drop i->i=m+a.length->noSp s m i:=by
  intro m i a ha he hi x h1 h2
  have hx:s.data.toList[x]?=a[x-m]?:=by
   have:s.data.toList[x]?=(s.data.toList.drop m)[x-m]?:=by rw [List.getElem?_drop];congr 1;omega
   rw [this,he,List.getElem?_append_left (by omega)]
  rw [hx]
  intro e
  exact ha 32 (List.mem_of_getElem? e) rfl
 intro n
 induction n with
 | zero =>
  intro m h hm
  obtain rfl:m=s.size:=by omega
  rw [tail_miss (fun x h1 h2=>by omega)]
  simp only [List.map_cons,List.map_nil,tail_data]
  rw [List.drop_eq_nil_of_le (by omega)];rfl
 | succ n ih =>
  intro m h hm
  by_cases hb:(32:UInt8) ∈ s.data.toList.drop m
  ·obtain ⟨a,b,e,hna⟩:=List.eq_append_cons_of_mem hb
   have hna2:∀ c ∈ a,c≠32:=fun c hc e=>hna (e▸hc)
   have hl:s.size-m=a.length+b.length+1:=by
    have:=congrArg List.length e
    rw [List.length_drop,List.length_append,List.length_cons,hsz] at this;omega
   have hi:m+a.length<s.size:=by omega
   have e2:s.data.toList.drop (m+a.length)=32::b:=by rw [← List.drop_drop,e,List.drop_left]
   have e3:s.data.toList.drop (m+a.length+1)=b:=by rw [← List.drop_drop,e2];rfl
   have hc:s[m+a.length]=32:=by
    have:s.data.toList[m+a.length]?=some 32:=by
     have h5:(s.data.toList.drop (m+a.length))[0]?=some 32:=by rw [e2];rfl
     rwa [List.getElem?_drop,Nat.add_zero] at h5
    rw [List.getElem?_eq_getElem (by omega)] at this
    injection this
   rw [tail_hit (Nat.le_add_right _ _) hi (hno m _ a hna2 (by rw [e2,e]) rfl) hc,List.map_cons,ih (m+a.length+1) (by omega) (by omega),e3,e,spl_hit hna2]
   congr 1
   rw [Lib.extract_data,show m+a.length-m=a.length by omega,e,List.take_left]
  ·have hna:∀ c ∈ s.data.toList.drop m,c≠32:=fun c hc e=>hb (e▸hc)
   rw [tail_miss (hno m s.size _ hna (by rw [List.drop_eq_nil_of_le (i:=s.size) (by omega),List.append_nil]) (by rw [List.length_drop];omega))]
   simp only [List.map_cons,List.map_nil,tail_data]
   rw [spl_no hna]
theorem noteL_data {t:ByteArray}:(noteL t).map (·.data.toList)=if t.data.toList=[] then [] else spl t.data.toList:=by
 by_cases h:t.data.toList=[]
 ·rw [if_pos h,noteL,if_pos (by rw [ByteArray.toList_eq];exact h)];rfl
 ·rw [if_neg h,noteL_tail (by rw [ByteArray.toList_eq];exact h),tailN_data t t.size 0 (by omega) (Nat.zero_le _),List.drop_zero]
theorem joinW_noteL (t:ByteArray):joinW (noteL t)=t:=by
 apply ByteArray.ext
 apply Array.toList_inj.1
 show Lib.join ((noteL t).map (·.data.toList)) [32]=_
 rw [noteL_data]
 split
 ·rename_i h;rw [h];rfl
 ·exact join_spl _
end Go.Proofs.YtddfdmopaeghnacGreatDoor
namespace Go.Proofs.YtddfdmopaeghnacGreatDoor
end Go.Proofs.YtddfdmopaeghnacGreatDoor
namespace Go.Proofs.YtddfdmopaeghnacGreatDoor
def progP (ws:List ByteArray):Nat->List (List Nd)->Nat->Except Nat (List (List Nd))
 | 0,out,_=>.ok out
 | j+1,out,k=>if k<ws.length then
   if hashW (wdAt ws k)=true then progP ws j (out++[(noteP ws k).1]) (noteP ws k).2
   else match stmtP ws k with
    | .error e=>.error e
    | .ok (x,k')=>progP ws j (out++[x]) k'
  else .ok out
theorem stmt_goes (ws:List ByteArray):Goes ws (stmtP ws):=by
 intro k hk
 cases wl:isW ws k [108,101,116] with
 | false =>
  obtain ⟨h1,h2⟩:=pX_goes ws k hk
  cases hp:pX ws k with
  | error x=>rw [stmt0b wl hp];exact ⟨fun x k' e=>(by cases e),fun e he=>by cases he;exact h2 _ hp⟩
  | ok r =>
   obtain ⟨x,k2⟩:=r
   obtain ⟨g1,g2,g3,g4⟩:=h1 x k2 hp
   cases w59:isW ws k2 [59] with
   | false=>rw [stmt0c wl hp w59];exact ⟨fun x k' e=>(by cases e),fun e he=>by cases he;exact g2⟩
   | true =>
    have:=isW_lt w59
    rw [stmt0g wl hp w59]
    exact fq47
 | true =>
  have hlt:=isW_lt wl
  cases hn:nameF (wdAt ws (k+1)) with
  | false=>rw [stmt1n wl hn];exact ⟨fun x k' e=>(by cases e),fun e he=>by cases he;exact hlt⟩
  | true =>
   have hlt2:=nameW_lt hn
   cases w61:isW ws (k+2) [61] with
   | false=>rw [stmt1m wl hn w61];exact ⟨fun x k' e=>(by cases e),fun e he=>by cases he;exact hlt2⟩
   | true =>
    have hlt3:=isW_lt w61
    obtain ⟨h1,h2⟩:=pX_goes ws (k+3) hlt3
    cases hp:pX ws (k+3) with
    | error x=>rw [stmt1b wl hn w61 hp];exact ⟨fun x k' e=>(by cases e),fun e he=>by cases he;exact h2 _ hp⟩
    | ok r =>
     obtain ⟨x,k2⟩:=r
     obtain ⟨g1,g2,g3,g4⟩:=h1 x k2 hp
     cases w59:isW ws k2 [59] with
     | false=>rw [stmt1c wl hn w61 hp w59];exact ⟨fun x k' e=>(by cases e),fun e he=>by cases he;exact g2⟩
     | true =>
      have:=isW_lt w59
      rw [stmt1g wl hn w61 hp w59]
      exact fq47
theorem notes_goes (ws:List ByteArray):∀ (f:Nat) (out:List ByteArray) (k:Nat),k<=ws.length->k<=(notesP ws f out k).2/\(notesP ws f out k).2<=ws.length:=by
 intro f
 induction f with
 | zero=>intro out k hk;exact ⟨Nat.le_refl _,hk⟩
 | succ f ih =>
  intro out k hk
  rw [notesP]
  cases hh:hashW (wdAt ws k) with
  | false=>rw [if_neg (by decide)];exact ⟨Nat.le_refl _,hk⟩
  | true =>
   have hlt:=hashW_lt hh
   rw [if_pos rfl]
   obtain ⟨h1,h2⟩:=ih (out++fldW (wdAt ws k)) (k+1) hlt
   exact ⟨by omega,h2⟩
end Go.Proofs.YtddfdmopaeghnacGreatDoor
namespace Go.Proofs.YtddfdmopaeghnacGreatDoor
def TxB (m:Nat) (x:List Nd):Prop:=∀ d ∈ x,d.text.size<=m
theorem TxB.one {m:Nat} {d:Nd} (h:d.text.size<=m):TxB m [d]:=by
 intro z hz;rw [List.mem_singleton.1 hz];exact h
theorem TxB.cons {m:Nat} {d:Nd} {x:List Nd} (h:d.text.size<=m) (hx:TxB m x):TxB m (d::x):=by
 intro z hz
 rcases List.mem_cons.1 hz with rfl|hz
 ·exact h
 ·exact hx z hz
theorem TxB.app {m:Nat} {x y:List Nd} (hx:TxB m x) (hy:TxB m y):TxB m (x++y):=by
 intro z hz
 rcases List.mem_append.1 hz with hz|hz
 ·exact hx z hz
 ·exact hy z hz
def WdB (ws:List ByteArray):Prop:=∀ j,(wdAt ws j).size<=60000
def PartB (part:Nat->PrR):Prop:=∀ k x k',part k=.ok (x,k')->TxB 60000 x
theorem chainP_b {ws:List ByteArray} {op:Int} {sg:List UInt8} {part:Nat->PrR} (h:PartB part):∀ (f:Nat) (out:List Nd) (k:Nat) (x:List Nd) (k':Nat),TxB 60000 out->chainP ws op sg part f out k=.ok (x,k')->TxB 60000 x:=by
 intro f
 induction f with
 | zero=>intro out k x k' ho e;rw [chainP] at e;cases e;exact ho
 | succ f ih =>
  intro out k x k' ho e
  rw [chainP] at e
  split at e
  ·cases hp:part (k+1) with
   | error e2=>rw [hp] at e;cases e
   | ok r =>
    obtain ⟨y,k2⟩:=r
    rw [hp] at e
    exact ih _ _ _ _ (TxB.cons (by simp) (ho.app (h _ _ _ hp))) e
  ·cases e;exact ho
theorem chainS_b {ws:List ByteArray} {op:Int} {sg:List UInt8} {part:Nat->PrR} (h:PartB part):PartB (chainS ws op sg part):=by
 intro k x k' e
 rw [chainS] at e
 cases hp:part k with
 | error e2=>rw [hp] at e;cases e
 | ok r =>
  obtain ⟨y,k2⟩:=r
  rw [hp] at e
  exact chainP_b h _ _ _ _ _ (h _ _ _ hp) e
theorem manyP_b {ws:List ByteArray} {ed:List UInt8} {sum:Nat->PrR} (h:PartB sum):∀ (f n:Nat) (out:List Nd) (k n':Nat) (x:List Nd) (k':Nat),TxB 60000 out->manyP ws ed sum f n out k=.ok (n',x,k')->TxB 60000 x:=by
 intro f
 induction f with
 | zero=>intro n out k n' x k' ho e;rw [manyP] at e;cases e;exact ho
 | succ f ih =>
  intro n out k n' x k' ho e
  rw [manyP] at e
  split at e
  ·cases e;exact ho
  ·split at e
   ·cases e
   ·split at e
    ·cases e
    ·rename_i hp
     exact ih _ _ _ _ _ _ (ho.app (h _ _ _ hp)) e
theorem pE_b {ws:List ByteArray} (hw:WdB ws):∀ (f lv:Nat),PartB (pE ws f lv):=by
 intro f
 induction f with
 | zero=>intro lv k x k' e;rw [pE] at e;cases e
 | succ f ih =>
  intro lv k x k' e
  rw [pE] at e
  split at e
  ·exact chainS_b (ih 1) _ _ _ e
  split at e
  ·exact chainS_b (ih 2) _ _ _ e
  split at e
  ·split at e
   ·cases e
   ·rename_i hp
    split at e
    ·cases e;exact ih _ _ _ _ hp
    ·cases e
  split at e
  ·split at e
   ·cases e
   ·rename_i hp
    cases e
    exact TxB.cons (by simp) (manyP_b (ih 0) _ _ _ _ _ _ _ (fun _ h=>by cases h) hp)
  split at e
  ·cases e;exact TxB.one (by simp)
  split at e
  ·cases e
  split at e
  ·split at e
   ·cases e
   ·rename_i hp
    cases e
    exact TxB.cons (hw _) (manyP_b (ih 0) _ _ _ _ _ _ _ (fun _ h=>by cases h) hp)
  ·cases e;exact TxB.one (hw _)
theorem stmtP_b {ws:List ByteArray} (hw:WdB ws):PartB (stmtP ws):=by
 intro k x k' e
 rw [stmtP] at e
 split at e
 ·split at e
  ·cases e
  split at e
  ·cases e
  split at e
  ·cases e
  ·rename_i hp
   split at e
   ·cases e;exact TxB.cons (hw _) (pE_b hw _ _ _ _ _ hp)
   ·cases e
 ·split at e
  ·cases e
  ·rename_i hp
   split at e
   ·cases e;exact TxB.cons (by simp) (pE_b hw _ _ _ _ _ hp)
   ·cases e
theorem notes_cost {ws:List ByteArray} (hw:WdB ws):∀ (f:Nat) (out:List ByteArray) (k:Nat),costL (notesP ws f out k).1<=costL out+60000*f:=by
 intro f
 induction f with
 | zero=>intro out k;exact Nat.le_refl _
 | succ f ih =>
  intro out k
  rw [notesP]
  split
  ·rename_i hh
   have h1:=ih (out++fldW (wdAt ws k)) (k+1)
   have h2:=fld_cost hh
   have h3:=hw k
   rw [costL_app] at h1
   omega
  ·exact Nat.le_add_right _ _
theorem noteP_b {ws:List ByteArray} (hw:WdB ws) (hf:ws.length<=60000) (k:Nat):TxB 3600000000 (noteP ws k).1:=by
 have h1:=notes_cost hw ws.length [] k
 have h0:costL ([]:List ByteArray)=0:=rfl
 have h2:=joinW_size (notesP ws ws.length [] k).1
 refine TxB.one ?_
 show (joinW _).size<=_
 omega
theorem note_goes {ws:List ByteArray} {k:Nat} (h:hashW (wdAt ws k)=true):k<(noteP ws k).2/\(noteP ws k).2<=ws.length:=by
 have hlt:=hashW_lt h
 obtain ⟨f,hf⟩:∃ f,ws.length=f+1:=⟨ws.length-1,by omega⟩
 have h1:=notes_goes ws f ([]++fldW (wdAt ws k)) (k+1) hlt
 have e:(noteP ws k).2=(notesP ws f ([]++fldW (wdAt ws k)) (k+1)).2:=by
  show (notesP ws ws.length [] k).2=_
  rw [hf,notesP,if_pos h]
 rw [e]
 exact ⟨by omega,h1.2⟩
theorem progP_end {ws:List ByteArray} {j k:Nat} {out:List (List Nd)} (h:ws.length<=k):progP ws j out k=.ok out:=by
 cases j with
 | zero=>rfl
 | succ j=>rw [progP,if_neg (by omega)]
theorem progP_note {ws:List ByteArray} {j k:Nat} {out:List (List Nd)} (h:hashW (wdAt ws k)=true):progP ws (j+1) out k=progP ws j (out++[(noteP ws k).1]) (noteP ws k).2:=by
 rw [progP,if_pos (hashW_lt h),if_pos h]
theorem progP_bad {ws:List ByteArray} {j k e:Nat} {out:List (List Nd)} (hk:k<ws.length) (h:hashW (wdAt ws k)=false) (hs:stmtP ws k=.error e):progP ws (j+1) out k=.error e:=by
 rw [progP,if_pos hk,if_neg (by rw [h];decide),hs]
theorem progP_stmt {ws:List ByteArray} {j k k':Nat} {out:List (List Nd)} {x:List Nd} (hk:k<ws.length) (h:hashW (wdAt ws k)=false) (hs:stmtP ws k=.ok (x,k')):progP ws (j+1) out k=progP ws j (out++[x]) k':=by
 rw [progP,if_pos hk,if_neg (by rw [h];decide),hs]
end Go.Proofs.YtddfdmopaeghnacGreatDoor
namespace Go.Proofs.YtddfdmopaeghnacGreatDoor
def ApartP:List (List Nd)->Prop
 | t::u::r=>¬ (opAt t 0=9/\opAt u 0=9)/\ApartP (u::r)
 | _=>True
def nTok (t:List Nd):Nat:=if opAt t 0=9 then 0 else (tokT t t.length 0).length
end Go.Proofs.YtddfdmopaeghnacGreatDoor
namespace Go.Proofs.YtddfdmopaeghnacGreatDoor
open Go.RowKit
structure PsSt (g:Nat) (W:Option Addr) (cw:Nat) (ws:List ByteArray) (P:Option Addr) (cp:Nat) (ps:List Nat) (k:Nat) (w:World):Prop where
 blk:w.heap[g]?=some (.cells #[.slice W ws.length cw,.slice P ps.length cp,.int .i64 (k:Nat)] 132 (0,0))
 txs:Txs w g W ws
 pls:Sl w g 1 P ps.length (ps.map fun p=>.int .i64 (p:Nat))
 len:ps.length=ws.length+1
 few:ws.length<=60000
theorem wdAt_at {ws:List ByteArray} {k:Nat} (h:k<ws.length):wdAt ws k=ws[k]:=by simp [wdAt,List.getD_eq_getElem?_getD,h]
theorem wdAt_end {ws:List ByteArray} {k:Nat} (h:ws.length<=k):wdAt ws k=.empty:=by simp [wdAt,List.getD_eq_getElem?_getD,h]
theorem ps_below (w:World) (g j:Nat) (v:Value):Below g w (w.setCell ⟨g,j,none⟩ v):=(Below.refl g w).setCell (p:=⟨g,j,none⟩) (Nat.le_refl _) v
theorem ps_grown (w:World) (g j:Nat) (v:Value):w.grownBy (w.setCell ⟨g,j,none⟩ v) (some g):=⟨rfl,rfl,rfl,by simp [World.setCell],fun k _ hn=>Below.heap_setCell _ _ _ _ (fun e=>hn (by rw [e]))⟩
theorem ps_row {w w':World} (row:Option Nat) (hb:Below w.heap.size w w'):w.grownBy w' row:=⟨hb.os,hb.tape,hb.output,hb.size,fun k hk _=>hb.block k hk⟩
section
variable {g cw cp k:Nat} {W P:Option Addr} {ws:List ByteArray} {ps:List Nat} {w w':World}
theorem PsSt.lt (h:PsSt g W cw ws P cp ps k w):g<w.heap.size:=(Array.getElem?_eq_some_iff.1 h.blk).1
theorem PsSt.past (h:PsSt g W cw ws P cp ps k w) (hb:Below w.heap.size w w'):PsSt g W cw ws P cp ps k w' :=
 ⟨(hb.block g h.lt).trans h.blk,⟨h.txs.1.below hb (Nat.le_of_lt h.lt),h.txs.2⟩,h.pls.below hb (Nat.le_of_lt h.lt),h.len,h.few⟩
theorem PsSt.cells (h:PsSt g W cw ws P cp ps k w):w.cell? ⟨g,0,none⟩=some (.slice W ws.length cw)/\w.cell? ⟨g,1,none⟩=some (.slice P ps.length cp)/\w.cell? ⟨g,2,none⟩=some (.int .i64 (k:Nat))/\w.frozen? ⟨g,2,none⟩=false:=by
 refine ⟨?_,?_,?_,Lib.frozen_of_heap h.blk 2⟩ <;> rw [Lib.cell_of_heap h.blk] <;> rfl
theorem PsSt.set (h:PsSt g W cw ws P cp ps k w) (j:Nat) {v:Int} (hv:v=j):PsSt g W cw ws P cp ps j (w.setCell ⟨g,2,none⟩ (.int .i64 v)):=by
 subst hv
 exact ⟨by simp [World.setCell,Array.getElem?_modify,h.blk],⟨h.txs.1.below (ps_below _ _ _ _) (Nat.le_refl _),h.txs.2⟩,h.pls.below (ps_below _ _ _ _) (Nat.le_refl _),h.len,h.few⟩
theorem PsSt.word (h:PsSt g W cw ws P cp ps k w) (hk:k<ws.length):∃ b off,W=some ⟨b,off,none⟩/\b<g/\w.cell? ⟨b,off+k,none⟩=some (.string (wdAt ws k)):=by
 obtain ⟨b,off,u,e,hb,hu,hc⟩:=h.txs.1.one (k:=k) hk
 refine ⟨b,off,e,hb,?_⟩
 rw [wdAt_at hk,hc]
 rw [List.getElem?_map,List.getElem?_eq_getElem hk] at hu
 simpa using hu.symm
theorem PsSt.size (h:PsSt g W cw ws P cp ps k w) (j:Nat):(wdAt ws j).size<=maxLen:=by
 rcases Nat.lt_or_ge j ws.length with hj|hj
 ·rw [wdAt_at hj];exact h.txs.2.2 _ (List.getElem_mem _)
 ·rw [wdAt_end hj];exact Nat.zero_le _
theorem PsSt.place (h:PsSt g W cw ws P cp ps k w) (hk:k<=ws.length):∃ b off,P=some ⟨b,off,none⟩/\b<g/\w.cell? ⟨b,off+k,none⟩=some (.int .i64 (ps.getD k 0:Nat)):=by
 have hk2:k<ps.length:=by have:=h.len;omega
 obtain ⟨b,off,u,e,hb,hu,hc⟩:=h.pls.one (k:=k) hk2
 refine ⟨b,off,e,hb,?_⟩
 rw [hc,List.getD_eq_getElem?_getD,List.getElem?_eq_getElem hk2]
 rw [List.getElem?_map,List.getElem?_eq_getElem hk2] at hu
 simpa using hu.symm
end
def PsBad (g:Nat) (ps:List Nat) (x:Nat) (w:World) (e:Ending) (w':World):Prop:=e=.panicked [{ v:=.iface 193 (.agg #[.int .i64 (ps.getD x 0:Nat)]),recovered:=false }]/\w.grownBy w' (some g)
def PsOk (g:Nat) (W:Option Addr) (cw:Nat) (ws:List ByteArray) (P:Option Addr) (cp:Nat) (ps:List Nat) (k:Nat) (v:Value) (w:World) (e:Ending) (w':World):Prop :=
 e=.returned v/\PsSt g W cw ws P cp ps k w'/\w.grownBy w' (some g)
theorem fq49 {P:Prop} (h:P:=by
 go_wp2
 go_quiet (fail)
 go_wp2
 go_ret
 exact ⟨rfl,by first|exact below_undrewN (below_undrewN (Below.refl _ _))|exact below_undrewN (Below.refl _ _)⟩):P:=h
theorem peek_any {g cw cp k:Nat} {W P:Option Addr} {ws:List ByteArray} {ps:List Nat} (w:World) (hs:PsSt g W cw ws P cp ps k w) (hk:k<=ws.length) :
  Calls Tryz.prog 113 #[.pointer (some ⟨g,0,none⟩)] w (Ret w (.string (wdAt ws k))):=by
 obtain ⟨c0,c1,c2,f2⟩:=hs.cells
 have hg:=hs.lt
 have hf:=hs.few
 by_cases hlt:k<ws.length
 ·obtain ⟨b,off,rfl,hb,hw⟩:=hs.word hlt
  generalize wdAt ws k=s at *
  generalize ws.length=n at *
  clear hs c1 f2
  have q2:decide ((k:Int)<(n:Int))=true:=decide_eq_true (by omega)
  go_enter Tryz.func113,Tryz.ntmps113
  go_wp2
  go_quiet (fail)
  exact fq49
 ·rw [wdAt_end (by omega)]
  generalize ws.length=n at *
  clear hs c1 f2
  have q2:decide ((k:Int)<(n:Int))=false:=decide_eq_false (by omega)
  go_enter Tryz.func113,Tryz.ntmps113
  exact fq49
theorem take_any {g cw cp k:Nat} {W P:Option Addr} {ws:List ByteArray} {ps:List Nat} (w:World) (hs:PsSt g W cw ws P cp ps k w) (hk:k<=ws.length) :
  Calls Tryz.prog 163 #[.pointer (some ⟨g,0,none⟩)] w (PsOk g W cw ws P cp ps (k+1) (.string (wdAt ws k)) w):=by
 have HP:=hd_ (peek_any w hs hk)
 have HS:=hd_ hs
 have hf:=hs.few
 generalize wdAt ws k=s at *
 generalize ws.length=n at *
 clear hs
 go_enter Tryz.func163,Tryz.ntmps163
 go_wp2_with (go_at_call 113;refine HP.out.mono ?_;rintro e w1 ⟨rfl,hB⟩;have hs1:=HS.out.past hB;obtain ⟨-,-,c2,f2⟩:=hs1.cells;have HM:=hd_ hs1;have HG:Hid (w.grownBy w1 (some g)):=hd_ (ps_row _ hB);clear hB hs1)
 go_ret
 exact ⟨rfl,HM.out.set (k+1) (by go_num),grown_trans HG.out (ps_grown _ _ _ _)⟩
theorem fail_any {g cw cp k:Nat} {W P:Option Addr} {ws:List ByteArray} {ps:List Nat} (w:World) (hs:PsSt g W cw ws P cp ps k w) (hk:k<=ws.length) :
  Calls Tryz.prog 189 #[.pointer (some ⟨g,0,none⟩)] w (PsBad g ps k w):=by
 obtain ⟨c0,c1,c2,f2⟩:=hs.cells
 have hg:=hs.lt
 have hf:=hs.few
 have hl:=hs.len
 obtain ⟨b,off,rfl,hb,hw⟩:=hs.place hk
 obtain ⟨x,hx⟩:∃ x,x=ps.getD k 0:=⟨_,rfl⟩
 rw [← hx] at hw
 have HX:=hd_ hx
 clear hx
 have q1:(0:Int)<=(k:Int):=by omega
 have q2:(k:Int)<(ps.length:Int):=by omega
 have q3:k<ps.length:=by omega
 clear hs c0 f2 hl
 generalize ps.length=n at *
 go_enter Tryz.func189,Tryz.ntmps189
 go_wp2
 go_region_dies
 all_goals (try go_wp2)
 all_goals exact ⟨rfl,by rw [HX.out],ps_row _ (Below.refl _ _).drew⟩
theorem must_ok {g cw cp k:Nat} {W P:Option Addr} {ws:List ByteArray} {ps:List Nat} (s:ByteArray) (w:World) (hs:PsSt g W cw ws P cp ps k w) (hk:k<=ws.length) (h:((wdAt ws k).toList==s.toList)=true) :
  Calls Tryz.prog 166 #[.pointer (some ⟨g,0,none⟩),.string s] w (PsOk g W cw ws P cp ps (k+1) (.tuple #[]) w):=by
 have HP:=hd_ (peek_any w hs hk)
 have HS:=hd_ hs
 have hf:=hs.few
 generalize wdAt ws k=t at *
 generalize ws.length=n at *
 clear hs
 go_enter Tryz.func166,Tryz.ntmps166
 go_wp2_with (go_at_call 113;refine HP.out.mono ?_;rintro e w1 ⟨rfl,hB⟩;have hs1:=HS.out.past hB;obtain ⟨-,-,c2,f2⟩:=hs1.cells;have HM:=hd_ hs1;have HG:Hid (w.grownBy w1 (some g)):=hd_ (ps_row _ hB);clear hB hs1)
 go_end0
 exact ⟨rfl,HM.out.set (k+1) (by go_num),grown_trans HG.out (ps_grown _ _ _ _)⟩
theorem must_bad {g cw cp k:Nat} {W P:Option Addr} {ws:List ByteArray} {ps:List Nat} (s:ByteArray) (w:World) (hs:PsSt g W cw ws P cp ps k w) (hk:k<=ws.length) (h:((wdAt ws k).toList==s.toList)=false) :
  Calls Tryz.prog 166 #[.pointer (some ⟨g,0,none⟩),.string s] w (PsBad g ps k w):=by
 have HP:=hd_ (peek_any w hs hk)
 have HF:=hd_ (fun w' (h':PsSt g W cw ws P cp ps k w')=>fail_any w' h' hk)
 have HS:=hd_ hs
 have hf:=hs.few
 generalize wdAt ws k=t at *
 clear hs hf hk
 go_enter Tryz.func166,Tryz.ntmps166
 go_wp2_with (first
  | (go_at_call 113;refine HP.out.mono ?_;rintro e w1 ⟨rfl,hB⟩;have HM:=hd_ (HS.out.past hB);have HG:Hid (w.grownBy w1 (some g)):=hd_ (ps_row _ hB);clear hB)
  | (go_at_call 189;refine (HF.out _ HM.out).mono ?_;rintro e w2 ⟨rfl,hG2⟩;have HG:=hd_ (grown_trans HG.out hG2);clear hG2))
 exact ⟨rfl,by trivial,HG.out⟩
theorem pname_ok {g cw cp k:Nat} {W P:Option Addr} {ws:List ByteArray} {ps:List Nat} (w:World) (hs:PsSt g W cw ws P cp ps k w) (hk:k<=ws.length) (h:nameF (wdAt ws k)=true) :
  Calls Tryz.prog 165 #[.pointer (some ⟨g,0,none⟩)] w (PsOk g W cw ws P cp ps (k+1) (.string (wdAt ws k)) w):=by
 have HP:=hd_ (peek_any w hs hk)
 have HT:=hd_ (fun w' (h':PsSt g W cw ws P cp ps k w')=>take_any w' h' hk)
 have HN:=hd_ (fun w'=>name_is h (hs.size k) w')
 have HS:=hd_ hs
 generalize wdAt ws k=s at *
 clear hs hk h
 go_enter Tryz.func165,Tryz.ntmps165
 go_wp2_with (first
  | (go_at_call 113;refine HP.out.mono ?_;rintro e w1 ⟨rfl,hB⟩;have HM:=hd_ (HS.out.past hB);have HG:Hid (w.grownBy w1 (some g)):=hd_ (ps_row _ hB);clear hB)
  | (go_at_call 135;refine (HN.out _).mono ?_;rintro e w2 ⟨rfl,rfl⟩)
  | (go_at_call 163;refine (HT.out _ HM.out).mono ?_;rintro e w3 ⟨rfl,hs3,hG3⟩;have HM:=hd_ hs3;have HG:=hd_ (grown_trans HG.out hG3);clear hs3 hG3))
 go_ret
 exact ⟨rfl,HM.out,HG.out⟩
theorem pname_bad {g cw cp k:Nat} {W P:Option Addr} {ws:List ByteArray} {ps:List Nat} (w:World) (hs:PsSt g W cw ws P cp ps k w) (hk:k<=ws.length) (h:nameF (wdAt ws k)=false) :
  Calls Tryz.prog 165 #[.pointer (some ⟨g,0,none⟩)] w (PsBad g ps k w):=by
 have HP:=hd_ (peek_any w hs hk)
 have HF:=hd_ (fun w' (h':PsSt g W cw ws P cp ps k w')=>fail_any w' h' hk)
 have HN:=hd_ (fun w'=>name_is h (hs.size k) w')
 have HS:=hd_ hs
 generalize wdAt ws k=s at *
 clear hs hk h
 go_enter Tryz.func165,Tryz.ntmps165
 go_wp2_with (first
  | (go_at_call 113;refine HP.out.mono ?_;rintro e w1 ⟨rfl,hB⟩;have HM:=hd_ (HS.out.past hB);have HG:Hid (w.grownBy w1 (some g)):=hd_ (ps_row _ hB);clear hB)
  | (go_at_call 135;refine (HN.out _).mono ?_;rintro e w2 ⟨rfl,rfl⟩)
  | (go_at_call 189;refine (HF.out _ HM.out).mono ?_;rintro e w3 ⟨rfl,hG3⟩;have HG:=hd_ (grown_trans HG.out hG3);clear hG3))
 exact ⟨rfl,by trivial,HG.out⟩
end Go.Proofs.YtddfdmopaeghnacGreatDoor
namespace Go.Proofs.YtddfdmopaeghnacGreatDoor
theorem TxB.short {m:Nat} {x:List Nd} (h:TxB m x) (hm:m<=3600000000):Short x:=fun d hd=>by have:=h d hd;omega
def wordsB (s:ByteArray):List ByteArray:=wordBs (lexWs s)
def placesN (s:ByteArray):List Nat:=(lexWs s).map (·.1)++[s.size]
theorem wordsB_len (s:ByteArray):(wordsB s).length=(lexWs s).length:=by simp [wordsB,wordBs]
theorem placesN_len (s:ByteArray):(placesN s).length=(wordsB s).length+1:=by simp [placesN,wordsB,wordBs]
def parseF (s:ByteArray):Int × Nat × List (List Nd) :=
 if (lexE s).1≠0 then ((lexE s).1,(lexE s).2,[])
 else match progP (wordsB s) (wordsB s).length [] 0 with
  | .error x=>(5,(placesN s).getD x 0,[])
  | .ok l=>if (progF l).2≠0 then ((progF l).2,0,[]) else (0,0,l)
theorem parseF_lex {s:ByteArray} (h:(lexE s).1≠0):parseF s=((lexE s).1,(lexE s).2,[]):=by rw [parseF,if_pos h]
theorem parseF_bad {s:ByteArray} {x:Nat} (h:(lexE s).1=0) (hp:progP (wordsB s) (wordsB s).length [] 0=.error x):parseF s=(5,(placesN s).getD x 0,[]):=by rw [parseF,if_neg (by simp [h]),hp]
theorem parseF_tree {s:ByteArray} {l:List (List Nd)} (h:(lexE s).1=0) (hp:progP (wordsB s) (wordsB s).length [] 0=.ok l) (hq:(progF l).2≠0):parseF s=((progF l).2,0,[]):=by
 rw [parseF,if_neg (by simp [h]),hp]
 simp only
 rw [if_pos hq]
theorem parseF_ok {s:ByteArray} {l:List (List Nd)} (h:(lexE s).1=0) (hp:progP (wordsB s) (wordsB s).length [] 0=.ok l) (hq:(progF l).2=0):parseF s=(0,0,l):=by
 rw [parseF,if_neg (by simp [h]),hp]
 simp only
 rw [if_neg (by simp [hq])]
theorem wordsB_at {s:ByteArray} {j:Nat} (h:j<(lexWs s).length):wdAt (wordsB s) j=⟨((lexWs s)[j]).2.toArray⟩:=by
 rw [wdAt_at (by rw [wordsB_len];exact h)]
 simp [wordsB,wordBs]
theorem wordsB_wdB {s:ByteArray} (hs:s.size<=60000):WdB (wordsB s):=by
 intro j
 rcases Nat.lt_or_ge j (lexWs s).length with h|h
 ·rw [wordsB_at h]
  have:=(lexWs_len hs _ (List.getElem_mem h)).1
  simpa [ByteArray.size] using this
 ·rw [wdAt_end (by rw [wordsB_len];exact h)];exact Nat.zero_le _
theorem wordOk_dig {w:List UInt8} (h:WordOk w) {c:UInt8} {r:List UInt8} (e:w=c::r) (hc:digB c=true):w.all digB=true/\w.length<=6:=by
 obtain ⟨h1,h2,h3⟩:=dig_nb hc
 have hl:=h.lex 0
 subst e
 cases hb:(firstW (c::r)).2 with
 | false=>rw [lexL_bad h1 hb] at hl;simp at hl
 | true =>
  rw [lexL_word h1 hb] at hl
  have hh:trimR ((c::r).take (firstW (c::r)).1)=c::r:=by
   have:=congrArg (fun x=>x.1.head?.map (·.2)) hl
   simpa using this
  have hn:(c::r).length<=(firstW (c::r)).1:=by
   have a1:=trimR_le ((c::r).take (firstW (c::r)).1)
   rw [hh,List.length_take] at a1
   omega
  have hf:firstW (c::r)=(runB digB (c::r),decide (runB digB (c::r)<=6)&&(decide (runB digB (c::r)=1)||!(c==48))):=by
   rw [firstW_cons,if_neg (by rw [h3];decide),if_pos hc]
  rw [hf] at hb hn
  simp only [Bool.and_eq_true,decide_eq_true_eq] at hb
  refine ⟨List.all_eq_true.2 (fun z hz=>runB_mono (c::r) (c::r).length hn z (by rw [List.take_length];exact hz)),?_⟩
  have:=hb.1
  simp only at hn
  omega
theorem wordsB_dgW (s:ByteArray):DgW (wordsB s):=by
 intro j hj
 have hlt:=digW_lt hj
 rw [wordsB_len] at hlt
 rw [wordsB_at hlt] at hj ⊢
 have hw:=lex_words _ 0 s.data.toList (Nat.le_refl _) _ (List.getElem_mem (l:=lexWs s) hlt)
 generalize ((lexWs s)[j]).2=w at *
 unfold digW at hj
 simp only at hj
 cases w with
 | nil=>simp at hj
 | cons c r =>
  simp only at hj
  obtain ⟨g1,g2⟩:=wordOk_dig hw rfl hj
  exact ⟨g1,by simpa [ByteArray.size] using g2⟩
end Go.Proofs.YtddfdmopaeghnacGreatDoor
namespace Go.Proofs.YtddfdmopaeghnacGreatDoor
theorem isNote_op {u:List Nd}:isNote u=decide (opAt u 0=9):=by
 cases u with
 | nil=>rfl
 | cons d r=>rfl
theorem progK_facts:∀ (l:List (List Nd)) (i:Nat) (pn:Bool),(progK l i pn).2=0->(∀ u ∈ l,treeF u=0)/\ApartP l/\∀ u r,l=u::r->¬ (pn=true/\opAt u 0=9):=by
 intro l
 induction l with
 | nil=>intro i pn _;exact ⟨by simp,trivial,fun u r e=>by cases e⟩
 | cons t l ih =>
  intro i pn h
  rw [progK] at h
  by_cases h1:treeF t=0
  ·rw [if_neg (by simp [h1])] at h
   by_cases h2:(pn&&isNote t)=true
   ·rw [if_pos h2] at h;cases h
   ·rw [if_neg h2] at h
    obtain ⟨g1,g2,g3⟩:=ih _ _ h
    refine ⟨fun u hu=>?_,?_,fun u r e=>?_⟩
    ·rcases List.mem_cons.1 hu with rfl|hu
     ·exact h1
     ·exact g1 u hu
    ·cases l with
     | nil=>trivial
     | cons u r=>exact ⟨fun ⟨a,b⟩=>g3 u r rfl ⟨by rw [isNote_op];exact decide_eq_true a,b⟩,g2⟩
    ·cases e
     rintro ⟨rfl,b⟩
     exact h2 (by rw [isNote_op,decide_eq_true b];rfl)
  ·rw [if_pos h1] at h;exact absurd h h1
theorem progF_facts {p:List (List Nd)} (h:(progF p).2=0):p.length<=20/\(∀ u ∈ p,treeF u=0)/\ApartP p:=by
 unfold progF at h
 split at h
 ·cases h
 ·obtain ⟨h1,h2,_⟩:=progK_facts p 0 false h
  exact ⟨by omega,h1,h2⟩
theorem manyW_app (a b:List ByteArray):manyW (a++b)=manyW a+manyW b:=by
 induction a with
 | nil=>simp [manyW]
 | cons t r ih=>simp only [List.cons_append,manyW,ih];omega
def lineL (u:List Nd):ByteArray:=if opAt u 0=9 then (let x:=(u.getD 0 ⟨0,.empty,0⟩).text;if x.data.toList=[] then ⟨#[35]⟩ else ⟨#[35,32]⟩++x) else textX u u.length 0
end Go.Proofs.YtddfdmopaeghnacGreatDoor
